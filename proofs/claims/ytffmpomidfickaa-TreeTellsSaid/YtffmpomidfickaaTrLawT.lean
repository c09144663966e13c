/- TreeTells: what the law's code computes. -/
import Derived.Test.YtffmpomidfickaaTrMade
namespace Go.Proofs.Ytffmpomidfickaa.Tr
open Go Go.RowKit Am
set_option maxRecDepth 100000
set_option maxHeartbeats 4000000
set_option linter.unusedSimpArgs false
set_option linter.unusedVariables false
attribute [-simp] Am.binEv Am.intBin Am.read1 Am.readN
attribute [local simp] binEv_lss binEv_leq binEv_gtr binEv_geq binEv_eql binEv_neq binEv_add binEv_sub binEv_mul read1_ro read1_mu
variable {R : Ro}
open PT DT
/-- How often a node is a split's child. -/
def cntN (x : ND) (k : Int) : Int := if x.side = 0 then 0 else (if x.f = k then 1 else 0) + (if x.s = k then 1 else 0)
def cntF : List ND → Int → Int
  | [], _ => 0
  | x :: l, k => cntN x k + cntF l k
theorem cntF_app (k : Int) : ∀ A B : List ND, cntF (A ++ B) k = cntF A k + cntF B k
  | [], B => by simp [cntF]
  | x :: A, B => by simp [cntF, cntF_app k A B]; omega
theorem cnt_tell : ∀ {P : PT} {o : Nat} {k : Int}, P.sides → cntF (tell o P) k = if (o : Int) < k ∧ k < (o : Int) + P.size then 1 else 0
  | .leaf p, o, k, _ => by
    have hz : (PT.leaf p).size = 1 := rfl
    rw [if_neg (by omega)]
    simp [tell, cntF, cntN, leafN]
  | .split s h a b, o, k, ⟨h1, _, _, ha, hb⟩ => by
    have za := size_pos a
    have zb := size_pos b
    have hs : ¬ s = 0 := by omega
    have hz : (PT.split s h a b).size = 1 + a.size + b.size := rfl
    have e : cntF (tell o (.split s h a b)) k = ((if (o : Int) + 1 = k then 1 else 0) + (if (o : Int) + 1 + a.size = k then 1 else 0)) + (cntF (tell (o + 1) a) k + cntF (tell (o + 1 + a.size) b) k) := by
      simp only [tell, cntF, cntF_app, cntN, if_neg hs]
    rw [e, cnt_tell ha, cnt_tell hb]
    by_cases c1 : (o : Int) < k ∧ k < (o : Int) + (PT.split s h a b).size
    · rw [if_pos c1]
      by_cases c2 : (o : Int) + 1 = k
      · rw [if_pos c2, if_neg (by omega), if_neg (by omega), if_neg (by omega)]; rfl
      · by_cases c3 : (o : Int) + 1 + a.size = k
        · rw [if_neg c2, if_pos c3, if_neg (by omega), if_neg (by omega)]; rfl
        · rw [if_neg c2, if_neg c3]
          by_cases c4 : k < (o : Int) + 1 + a.size
          · rw [if_pos (by omega), if_neg (by omega)]; rfl
          · rw [if_neg (by omega), if_pos (by omega)]; rfl
    · rw [if_neg c1, if_neg (by omega), if_neg (by omega), if_neg (by omega), if_neg (by omega)]; rfl
theorem tell_get : ∀ {P : PT} {o i : Nat} {x : ND}, P.sides → (tell o P)[i]? = some x → (x.side = 0 ∧ x.f = 0 ∧ x.s = 0 ∧ x.sh = 0) ∨ ((x.side = 1 ∨ x.side = 2) ∧ 1 ≤ x.sh ∧ x.sh ≤ 99 ∧ x.f = (o : Int) + i + 1 ∧ x.f < x.s ∧ x.s < (o : Int) + P.size ∧ x.a = 0 ∧ x.b = 0 ∧ x.c = 0)
  | .leaf p, o, i, x, _, h => by
    cases i with
    | zero => simp [tell] at h; subst h; exact .inl ⟨rfl, rfl, rfl, rfl⟩
    | succ i => simp [tell] at h
  | .split s hh a b, o, i, x, ⟨h1, h2, h3, ha, hb⟩, h => by
    have za := size_pos a
    have zb := size_pos b
    simp only [tell] at h
    cases i with
    | zero => simp at h; subst h; right; simp only [PT.size]; refine ⟨h1, h2, h3, ?_, ?_, ?_, ?_⟩ <;> first | omega | simp
    | succ i =>
      rw [List.getElem?_cons_succ] at h
      by_cases hi : i < (tell (o + 1) a).length
      · rw [List.getElem?_append_left hi] at h
        rcases tell_get ha h with q | ⟨q1, q2, q3, q4, q5, q6, q7⟩
        · exact .inl q
        · exact .inr ⟨q1, q2, q3, by omega, q5, by simp only [PT.size]; omega, q7⟩
      · rw [List.getElem?_append_right (by omega)] at h
        rw [tell_len] at h hi
        rcases tell_get hb h with q | ⟨q1, q2, q3, q4, q5, q6, q7⟩
        · exact .inl q
        · exact .inr ⟨q1, q2, q3, by omega, q5, by simp only [PT.size]; omega, q7⟩
def metC (n : Nat) (g : Int → Int) : List AV := (List.range n).map fun k : Nat => AV.int .i64 (g (k : Int))
theorem metC_len (n : Nat) (g : Int → Int) : (metC n g).length = n := by simp [metC]
theorem metC_get {n : Nat} {g : Int → Int} {k : Nat} (h : k < n) : (metC n g)[k]? = some (.int .i64 (g k)) := by
  unfold metC
  rw [List.getElem?_map, List.getElem?_range h]; rfl
def inc (g : Int → Int) (f : Int) : Int → Int := fun k => if f = k then g k + 1 else g k
theorem metC_set {n : Nat} {g : Int → Int} {f : Nat} (h : f < n) : (metC n g).set f (.int .i64 (g f + 1)) = metC n (inc g f) := by
  apply List.ext_getElem?
  intro k
  by_cases hk : k < n
  · rw [List.getElem?_set, metC_len, metC_get hk, metC_get hk]
    unfold inc
    by_cases e : f = k
    · subst e; simp [h]
    · rw [if_neg e, if_neg (by omega)]
  · rw [List.getElem?_eq_none (by simp [metC_len]; omega), List.getElem?_eq_none (by rw [metC_len]; omega)]
theorem zeros_metC (n : Nat) : zerosEv [AV.int .i64 0] n = metC n (cntF []) := by
  rw [zerosEv_one]
  apply List.ext_getElem?
  intro k
  by_cases hk : k < n
  · rw [metC_get hk, List.getElem?_replicate, if_pos hk]; rfl
  · rw [List.getElem?_eq_none (by simp; omega), List.getElem?_eq_none (by rw [metC_len]; omega)]
theorem cnt_step {N : List ND} {i : Nat} {x : ND} (h : N[i]? = some x) (hs : ¬ x.side = 0) : inc (inc (cntF (N.take i)) x.f) x.s = cntF (N.take (i + 1)) := by
  funext k
  rw [List.take_add_one, h, Option.toList_some, cntF_app]
  simp only [inc, cntF, cntN, if_neg hs]
  split <;> split <;> omega
theorem cnt_skip {N : List ND} {i : Nat} {x : ND} (h : N[i]? = some x) (hs : x.side = 0) : cntF (N.take i) = cntF (N.take (i + 1)) := by
  funext k
  rw [List.take_add_one, h, Option.toList_some, cntF_app]
  simp [cntF, cntN, hs]
theorem cnt_small (k : Int) : ∀ N : List ND, 0 ≤ cntF N k ∧ cntF N k ≤ 2 * N.length
  | [] => by simp [cntF]
  | x :: N => by
    have := cnt_small k N
    have h1 : 0 ≤ cntN x k ∧ cntN x k ≤ 2 := by
      unfold cntN; split
      · omega
      · split <;> split <;> omega
    simp only [cntF, List.length_cons]; omega
theorem tells {p : PA} {c : AV} {A : List TA} (hA : Acts R c A) : ACalls Try.prog R 8 [p.av, c] [] fun v _ => v = .bool true := by
  have hall := fun H => ACalls.no (Fns.awake H) R
  refine ACalls.of_wpE Fns.ok8 (by simp [Fns.a8]) ?_
  simp [Fns.a8, PA.av, PA.cells]
  refine (hall _).mono ?_
  rintro v H ⟨rfl, rfl⟩
  have lens' : ∀ H : AH, (AOp.lenL (.t 0)).eval Try.prog R (fun _ => c) H = some (.int .i64 A.length, H) := fun H => by
    rcases hA.len with ⟨rfl, h0⟩ | ⟨b, off, cap, rfl⟩
    · simp [h0]
    · simp
  simp only [AOp.eval, X.ev] at lens'
  simp [lens']
  by_cases hlong : 100 < A.length
  · have : (100 : Int) < (A.length : Int) := by omega
    simp [hlong, this]
  have hlong' : ¬ (100 : Int) < (A.length : Int) := by omega
  have km := fun H => made_ok (R := R) (H := H) (p := p) hA (by omega)
  simp only [PA.av, PA.cells] at km
  simp [hlong, hlong', AO.content, readN_mu]
  refine (km _).mono ?_
  rintro v G ⟨t, j, cp, rfl, hT, hk, _, _⟩
  have g := good_acts A (good_leaf p)
  generalize acts A (.leaf p) = P at hT g
  have hz := g.size
  have hzp := size_pos P
  simp
  refine (nodes2_ok hT (by rw [tell_len]; omega)).mono ?_
  rintro v G1 ⟨rfl, rfl⟩
  have htl := tell_len 0 P
  obtain ⟨N, hN⟩ : ∃ N, N = tell 0 P := ⟨_, rfl⟩
  have hget : ∀ {i : Nat} {x : ND}, N[i]? = some x → _ := fun {i x} h => tell_get (o := 0) g.sides (by rw [← hN]; exact h)
  have hcnt : ∀ k, cntF N k = if (0 : Int) < k ∧ k < (0 : Int) + P.size then 1 else 0 := fun k => by rw [hN]; exact cnt_tell g.sides
  rw [← hN] at htl ⊢
  have w1 : IntKind.i64.wrap ((N.length : Int) + 1) = ((N.length + 1 : Nat) : Int) := by rw [wrap_nat] <;> omega
  have m1 : (0 : Int) ≤ ((N.length + 1 : Nat) : Int) := by omega
  have m2 : 8 * ((N.length + 1 : Nat) : Int) ≤ 281474976710656 := by omega
  have m3 : ((N.length + 1 : Nat) : Int) ≤ 9223372036854775807 := by omega
  simp [w1]
  have hzc : zerosEv [AV.int .i64 0] (N.length + 1) = metC (N.length + 1) (cntF (N.take 0)) := by rw [zeros_metC]; simp
  have m3' : (N.length : Int) + 1 ≤ 9223372036854775807 := by omega
  have m2' : 8 * ((N.length : Int) + 1) ≤ 281474976710656 := by omega
  have m1' : (0 : Int) ≤ (N.length : Int) + 1 := by omega
  simp [m1', m2', m3', hzc]
  have he := eqP 0 0 0 0 0 0
  simp only [fieldsP] at he
  refine AWp.loop (fun e F => e 5 = .slice (.mu G.length) 0 N.length (.opn 0) ∧ e 6 = .slice (.mu (G.length + 1)) 0 (N.length + 1) (.known (N.length + 1)) ∧ F[G.length]? = some (.row (ndV N) 54 7) ∧ ∃ i : Nat, e 7 = .int .i64 i ∧ i ≤ N.length ∧ F[G.length + 1]? = some (.cells (metC (N.length + 1) (cntF (N.take i))) 3)) (fun e _ => match e 7 with | .int _ i => ((N.length : Int) - i).toNat | _ => 0)
    ⟨by simp, by simp, by simp, 0, by simp, by omega, by simp⟩ ?_
  rintro e F ⟨h5, h6, hrow, i, h7, hi, hmet⟩
  refine wpE_sound _ ?_
  by_cases hlt : i < N.length
  · have hlt' : (i : Int) < (N.length : Int) := by omega
    have hw1 : IntKind.i64.wrap ((i : Int) + 1) = (i : Int) + 1 := by rw [wrap_nat] <;> omega
    obtain ⟨x, hx⟩ : ∃ x, N[i]? = some x := ⟨_, List.getElem?_eq_getElem hlt⟩
    have hrd := ndV_at N i x hx
    have hfit : i * 7 + 7 ≤ (ndV N).length := by rw [ndV_len]; omega
    simp only [ND.cells] at hrd
    have fX : ∀ X : AH, (F ++ X)[G.length + 1]? = _ := fun X => get_app hmet
    have fR : ∀ X : AH, (F ++ X)[G.length]? = _ := fun X => get_app hrow
    simp [h5, h6, h7, hlt, hlt', hrow, hfit, hrd, AO.content, AO.withContent, writeN, splice, readN_mu]
    rcases hget hx with ⟨q1, q2, q3, q4⟩ | ⟨q1, q2, q3, q4, q5, q6, q7, q8, q9⟩
    · simp [q1, q2, q3, q4, h5, h6, h7, hw1]
      exact ⟨⟨get_app hrow, i + 1, by simp, by omega, by rw [← cnt_skip hx q1]; exact get_app hmet⟩, by omega⟩
    · obtain ⟨f, hf⟩ : ∃ f : Nat, x.f = (f : Int) := ⟨x.f.toNat, by omega⟩
      obtain ⟨s, hs⟩ : ∃ s : Nat, x.s = (s : Int) := ⟨x.s.toNat, by omega⟩
      have s0 : ¬ x.side = 0 := by omega
      have a1 : ¬ x.side < 1 := by omega
      have a2 : ¬ 2 < x.side := by omega
      have a3 : ¬ x.sh < 1 := by omega
      have a4 : ¬ 99 < x.sh := by omega
      have a5 : f = i + 1 := by omega
      have a6 : ¬ s ≤ f := by omega
      have a7 : s < N.length := by omega
      have a6' : ¬ (s : Int) ≤ (f : Int) := by omega
      have a7' : ¬ (N.length : Int) ≤ (s : Int) := by omega
      have a8 : (f : Int) = (i : Int) + 1 := by omega
      have b1 : f < N.length + 1 := by omega
      have b2 : s < N.length + 1 := by omega
      have b1' : (f : Int) < (N.length : Int) + 1 := by omega
      have b2' : (s : Int) < (N.length : Int) + 1 := by omega
      have g1 := metC_get (g := cntF (N.take i)) b1
      have g2 := metC_get (g := inc (cntF (N.take i)) f) b2
      have sm := cnt_small f (N.take i)
      have sm2 := cnt_small s (N.take i)
      have smi : (N.take i).length ≤ 31 := by rw [List.length_take]; omega
      have ww1 : IntKind.i64.wrap (cntF (N.take i) f + 1) = cntF (N.take i) f + 1 := by rw [wrap_nat] <;> omega
      have ww2 : IntKind.i64.wrap (inc (cntF (N.take i)) f s + 1) = inc (cntF (N.take i)) f s + 1 := by
        have : 0 ≤ inc (cntF (N.take i)) f s ∧ inc (cntF (N.take i)) f s ≤ 100 := by unfold inc; split <;> omega
        rw [wrap_nat] <;> omega
      have e1 : splice (metC (N.length + 1) (cntF (N.take i))) f [.int .i64 (cntF (N.take i) f + 1)] = metC (N.length + 1) (inc (cntF (N.take i)) f) := by
        rw [splice_one (by rw [metC_len]; exact b1), metC_set b1]
      have e2 : splice (metC (N.length + 1) (inc (cntF (N.take i)) f)) s [.int .i64 (inc (cntF (N.take i)) f s + 1)] = metC (N.length + 1) (inc (inc (cntF (N.take i)) f) s) := by
        rw [splice_one (by rw [metC_len]; exact b2), metC_set b2]
      have e3 := cnt_step hx s0
      rw [hf, hs] at e3
      rw [e3] at e2
      have l1 : f + 1 ≤ (metC (N.length + 1) (cntF (N.take i))).length := by rw [metC_len]; omega
      have l2 : s + 1 ≤ (metC (N.length + 1) (inc (cntF (N.take i)) f)).length := by rw [metC_len]; omega
      obtain ⟨F1, hF1⟩ : ∃ F1, F1 = F ++ [AO.cells [AV.int .i64 x.side, .int .i64 x.f, .int .i64 x.s, .int .i64 x.sh, .int .i64 x.a, .int .i64 x.b, .int .i64 x.c] 54] := ⟨_, rfl⟩
      have r1 : F1[F.length]? = some (.cells [AV.int .i64 x.side, .int .i64 f, .int .i64 s, .int .i64 x.sh, .int .i64 0, .int .i64 0, .int .i64 0] 54) := by rw [hF1, hf, hs, q7, q8, q9]; simp
      have r2 : F1[G.length + 1]? = some (.cells (metC (N.length + 1) (cntF (N.take i))) 3) := by rw [hF1]; exact get_app hmet
      have r3 : F1[G.length]? = some (.row (ndV N) 54 7) := by rw [hF1]; exact get_app hrow
      rw [← hF1]
      obtain ⟨F2, hF2⟩ : ∃ F2, F2 = F1.set (G.length + 1) (.cells (metC (N.length + 1) (inc (cntF (N.take i)) f)) 3) := ⟨_, rfl⟩
      have mlt := (List.getElem?_eq_some_iff.1 hmet).1
      have t1 : F2[F.length]? = some (.cells [AV.int .i64 x.side, .int .i64 f, .int .i64 s, .int .i64 x.sh, .int .i64 0, .int .i64 0, .int .i64 0] 54) := by rw [hF2, List.getElem?_set_ne (by omega)]; exact r1
      have t2 : F2[G.length + 1]? = some (.cells (metC (N.length + 1) (inc (cntF (N.take i)) f)) 3) := by rw [hF2, List.getElem?_set_self (List.getElem?_eq_some_iff.1 r2).1]
      have t3 : F2[G.length]? = some (.row (ndV N) 54 7) := by rw [hF2, List.getElem?_set_ne (by omega)]; exact r3
      have hw1' : IntKind.i64.wrap ((i : Int) + 1) = (f : Int) := by rw [hw1]; omega
      have hF2s := hF2.symm
      obtain ⟨F3, hF3⟩ : ∃ F3, F3 = F2.set (G.length + 1) (.cells (metC (N.length + 1) (cntF (N.take (i + 1)))) 3) := ⟨_, rfl⟩
      have hF3s := hF3.symm
      have u1 : F3[G.length]? = some (.row (ndV N) 54 7) := by rw [hF3, List.getElem?_set_ne (by omega)]; exact t3
      have u2 : F3[G.length + 1]? = some (.cells (metC (N.length + 1) (cntF (N.take f))) 3) := by rw [hF3, a5, List.getElem?_set_self (List.getElem?_eq_some_iff.1 t2).1]
      clear hF1 hF2 hF3 a5 a8
      simp [-eqEv, h5, h6, h7, r1, r2, t1, t2, AO.content, AO.withContent, writeN, readN_mu, s0, a1, a2, a3, a4, a6, a6', a7, a7', b1, b2, b1', b2', g1, g2, hw1', ww1, ww2, e1, e2, l1, l2, hF2s, hF3s, fillA, he]
      exact ⟨⟨u1, f, rfl, by omega, u2⟩, by omega⟩
  · obtain rfl : i = N.length := by omega
    rw [List.take_length] at hmet
    simp [h5, h6, h7]
    refine AWp.loop (fun e G' => G' = F ∧ e 5 = .slice (.mu G.length) 0 N.length (.opn 0) ∧ e 6 = .slice (.mu (G.length + 1)) 0 (N.length + 1) (.known (N.length + 1)) ∧ ∃ i : Nat, e 9 = .int .i64 i ∧ i ≤ N.length) (fun e _ => match e 9 with | .int _ i => ((N.length : Int) - i).toNat | _ => 0)
      ⟨rfl, by simp [h5], by simp [h6], 0, by simp, by omega⟩ ?_
    clear h5 h6
    rintro e G' ⟨rfl, h5, h6, i, h9, hi⟩
    refine wpE_sound _ ?_
    by_cases hlt : i < N.length
    · have hlt' : (i : Int) < (N.length : Int) := by omega
      have hw1 : IntKind.i64.wrap ((i : Int) + 1) = (i : Int) + 1 := by rw [wrap_nat] <;> omega
      have b1 : i < N.length + 1 := by omega
      have b1' : (i : Int) < (N.length : Int) + 1 := by omega
      have g1 := metC_get (g := cntF N) b1
      rw [hcnt] at g1
      by_cases h0 : i = 0
      · subst h0
        rw [if_neg (by omega)] at g1
        simp [h5, h6, h9, hlt, hlt', hmet, b1, b1', g1, AO.content, eqEv]
        have hw11 : IntKind.i64.wrap 1 = 1 := by decide
        have hlt0 : (0 : Int) < N.length := by omega
        simp [h5, h6, h9, hw11, hlt0]
        exact ⟨⟨1, by simp, by omega⟩, by omega⟩
      · rw [if_pos (by omega)] at g1
        simp [h5, h6, h9, hlt, hlt', hmet, b1, b1', g1, AO.content, eqEv, h0, hw1]
        exact ⟨⟨i + 1, by simp, by omega⟩, by omega⟩
    · obtain rfl : i = N.length := by omega
      have : 0 < N.length := by omega
      have h00 : (0 : Int) < N.length := by omega
      simp [h5, h6, h9, this, h00]
theorem tells_all (vs : List AV) (h : Shape [.int .i64, .int .i64, .int .i64] vs) (a : AV) (L : List (List AV)) (s : Sl R 9 a L) (w : ∀ x ∈ L, Shape [.int .i64, .int .i64, .int .i64, .int .i64, .int .i64, .int .i64, .int .i64, .int .i64, .int .i64] x) :
    ACalls Try.prog R 8 [.agg vs, a] [] fun v _ => v = .bool true := by
  obtain ⟨p, rfl⟩ := pa_of h
  obtain ⟨A, rfl⟩ := acts_of w
  exact tells s
end Go.Proofs.Ytffmpomidfickaa.Tr
