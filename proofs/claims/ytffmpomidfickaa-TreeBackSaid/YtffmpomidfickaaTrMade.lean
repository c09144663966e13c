/- A tree to which acts were done; its nodes, gathered. -/
import Derived.Test.YtffmpomidfickaaTrWrapP
namespace Go.Proofs.Ytffmpomidfickaa.Tr
open Go Go.RowKit Am
set_option maxRecDepth 100000
set_option maxHeartbeats 4000000
set_option linter.unusedSimpArgs false
set_option linter.unusedVariables false
attribute [-simp] Am.binEv Am.intBin Am.read1 Am.readN
attribute [local simp] binEv_lss binEv_leq binEv_gtr binEv_geq binEv_eql binEv_neq binEv_add binEv_sub binEv_mul read1_ro read1_mu
variable {R : Ro}
open PT DT
def MadeI (H G : AH) (t : Nat) (P : PT) : Prop := Kp H G ∧ ∃ j cp, TreM G t j cp (tell 0 P) ∧ H.length ≤ j
theorem made_ok {H : AH} {p : PA} {c : AV} {A : List TA} (hA : Acts R c A) (hl : A.length ≤ 1000) : ACalls Try.prog R 26 [p.av, c] H fun v G => ∃ t j cp, v = .ptr (.mu t) 0 ∧ TreM G t j cp (tell 0 (acts A (.leaf p))) ∧ Kp H G ∧ H.length ≤ t ∧ H.length ≤ j := by
  refine ACalls.of_wpE Fns.ok26 (by simp [Fns.a26]) ?_
  have lens' : ∀ H : AH, (AOp.lenL (.t 0)).eval Try.prog R (fun _ => c) H = some (.int .i64 A.length, H) := fun H => by
    rcases hA.len with ⟨rfl, h0⟩ | ⟨b, off, cap, rfl⟩
    · simp [h0]
    · simp
  simp only [AOp.eval, X.ev] at lens'
  have kn := fun H => new_ok (R := R) p H
  have hnt := new_tre p (H ++ [AO.cells p.cells 25])
  simp only [PA.av, PA.cells] at kn hnt
  simp [Fns.a26, PA.av, PA.cells, AO.content, readN_mu]
  refine (kn _).mono ?_
  rintro v G ⟨rfl, rfl⟩
  obtain ⟨t, ht⟩ : ∃ t, t = (H ++ [AO.cells [AV.int .i64 p.a, .int .i64 p.b, .int .i64 p.c] 25]).length + 2 := ⟨_, rfl⟩
  have htl : H.length ≤ t := by rw [ht]; simp; omega
  have k0 : Kp H ((H ++ [AO.cells [AV.int .i64 p.a, .int .i64 p.b, .int .i64 p.c] 25]) ++ [AO.cells [AV.int .i64 p.a, .int .i64 p.b, .int .i64 p.c] 25, .cells (ndV [leafN p]) 54, .cells [.slice (.mu ((H ++ [AO.cells [AV.int .i64 p.a, .int .i64 p.b, .int .i64 p.c] 25]).length + 1)) 0 1 (.known 1)] 60]) := (Kp.app _ _).trans (Kp.app _ _)
  have hj0 : H.length ≤ (H ++ [AO.cells [AV.int .i64 p.a, .int .i64 p.b, .int .i64 p.c] 25]).length + 1 := by simp; omega
  rw [← ht] at hnt ⊢
  generalize (H ++ [AO.cells [AV.int .i64 p.a, .int .i64 p.b, .int .i64 p.c] 25]) ++ [AO.cells [AV.int .i64 p.a, .int .i64 p.b, .int .i64 p.c] 25, .cells (ndV [leafN p]) 54, .cells [.slice (.mu ((H ++ [AO.cells [AV.int .i64 p.a, .int .i64 p.b, .int .i64 p.c] 25]).length + 1)) 0 1 (.known 1)] 60] = H0 at *
  simp
  refine AWp.loop (fun e G => e 1 = c ∧ e 5 = .ptr (.mu t) 0 ∧ ∃ i : Nat, e 6 = .int .i64 i ∧ i ≤ A.length ∧ MadeI H G t (acts (A.take i) (.leaf p))) (fun e _ => match e 6 with | .int _ i => ((A.length : Int) - i).toNat | _ => 0)
    ⟨by simp, by simp, 0, by simp, by omega, k0, _, _, by simpa [acts, tell] using hnt, hj0⟩ ?_
  rintro e G ⟨h1, h5, i, h6, hi, hk, j, cp, hT, hj⟩
  refine wpE_sound _ ?_
  by_cases hlt : i < A.length
  · have hlt' : (i : Int) < (A.length : Int) := by omega
    have hw1 : IntKind.i64.wrap ((i : Int) + 1) = (i : Int) + 1 := by rw [wrap_nat] <;> omega
    obtain ⟨a, ha⟩ : ∃ a, A[i]? = some a := ⟨_, List.getElem?_eq_getElem hlt⟩
    obtain ⟨b, off, cap, hc', r9, _⟩ := hA.at ha
    have hnext : (actR a (acts (A.take i) (.leaf p))).2 = acts (A.take (i + 1)) (.leaf p) := by
      rw [List.take_add_one, ha, Option.toList_some, acts_snoc]
    have g := good_acts (A.take i) (good_leaf p)
    generalize acts (A.take i) (.leaf p) = P at hT g hnext
    rw [hc'] at h1
    obtain ⟨d, q, s, m, n⟩ := a
    simp only [TA.cells, PA.cells, List.cons_append, List.nil_append] at r9
    have hT1 := hT.app [AO.cells [.int .i64 d, .int .i64 q.a, .int .i64 q.b, .int .i64 q.c, .int .i64 s.a, .int .i64 s.b, .int .i64 s.c, .int .i64 m, .int .i64 n] 38]
    have fin : ∀ (r : Int × PT) (v : AV) (G' : AH), r = actR ⟨d, q, s, m, n⟩ P → ActOut (G ++ [AO.cells [.int .i64 d, .int .i64 q.a, .int .i64 q.b, .int .i64 q.c, .int .i64 s.a, .int .i64 s.b, .int .i64 s.c, .int .i64 m, .int .i64 n] 38]) t j (r.1, tell 0 r.2) v G' → MadeI H G' t (acts (A.take (i + 1)) (.leaf p)) := by
      rintro r v G' hr ⟨_, l1, f1, j', cp', T1, hj'⟩
      have hkl := hk.1
      simp only [List.length_append, List.length_cons, List.length_nil] at l1 hj'
      refine ⟨⟨by omega, fun x hx => ?_⟩, j', cp', by rw [← hnext, ← hr]; exact T1, by omega⟩
      rw [f1 x (by simp; omega) (by omega) (by omega), List.getElem?_append_left (by omega), hk.2 x hx]
    simp [h1, h5, h6, hlt, hlt', r9, AO.content, AO.withContent, writeN, splice]
    by_cases d0 : d = 0
    · have k1 := psplit (R := R) hT1 g q s m n
      simp only [PA.av, PA.cells] at k1
      simp [d0, h5, AO.content, readN_mu]
      rw [d0] at k1 fin
      refine k1.mono ?_
      intro v G' o1
      have hf := fin _ v G' (by unfold actR; rw [if_pos rfl]) o1
      simp [h1, h5, h6, hw1]
      exact ⟨⟨hc'.symm, i + 1, by simp, by omega, hf⟩, by omega⟩
    by_cases d1 : d = 1
    · have k1 := pclose (R := R) hT1 g q
      simp only [PA.av, PA.cells] at k1
      simp [d1, h5, AO.content, readN_mu]
      rw [d1] at k1 fin
      refine k1.mono ?_
      intro v G' o1
      have hf := fin _ v G' (by unfold actR; rw [if_neg (by simp), if_pos rfl]) o1
      simp [h1, h5, h6, hw1]
      exact ⟨⟨hc'.symm, i + 1, by simp, by omega, hf⟩, by omega⟩
    by_cases d2 : d = 2
    · have k1 := pswap (R := R) hT1 g q s
      simp only [PA.av, PA.cells] at k1
      simp [d2, h5, AO.content, readN_mu]
      rw [d2] at k1 fin
      refine k1.mono ?_
      intro v G' o1
      have hf := fin _ v G' (by unfold actR; rw [if_neg (by simp), if_neg (by simp), if_pos rfl]) o1
      simp [h1, h5, h6, hw1]
      exact ⟨⟨hc'.symm, i + 1, by simp, by omega, hf⟩, by omega⟩
    by_cases d3 : d = 3
    · have k1 := pshare (R := R) hT1 g q m n
      simp only [PA.av, PA.cells] at k1
      simp [d3, h5, AO.content, readN_mu]
      rw [d3] at k1 fin
      refine k1.mono ?_
      intro v G' o1
      have hf := fin _ v G' (by unfold actR; rw [if_neg (by simp), if_neg (by simp), if_neg (by simp), if_pos rfl]) o1
      simp [h1, h5, h6, hw1]
      exact ⟨⟨hc'.symm, i + 1, by simp, by omega, hf⟩, by omega⟩
    · have hf := fin (0, P) (.int .i64 0) _ (by unfold actR; rw [if_neg d0, if_neg d1, if_neg d2, if_neg d3]) ⟨rfl, Nat.le_refl _, fun _ _ _ _ => rfl, j, cp, hT1, .inl rfl⟩
      simp [d0, d1, d2, d3, h1, h5, h6, hw1]
      exact ⟨⟨hc'.symm, i + 1, by simp, by omega, hf⟩, by omega⟩
  · obtain rfl : i = A.length := by omega
    rw [List.take_length] at hT
    simp [h1, h5, h6, lens']
    exact ⟨j, ⟨cp, hT⟩, hk, htl, hj⟩
theorem ndV_ren : ∀ l : List ND, (renL [] (ndV l)).isSome = true
  | [] => rfl
  | x :: l => renL_app_some (by simp [ND.cells, renL, ren]) (ndV_ren l)
def NodesI (H G : AH) (N : List ND) (i : Nat) (v : AV) : Prop := Kp H G ∧ ((i = 0 ∧ v = .nilslice) ∨ (0 < i ∧ ∃ r, v = .slice (.mu r) 0 i (.opn 0) ∧ H.length ≤ r ∧ G[r]? = some (.row (ndV (N.take i)) 54 7)))
theorem nodes2_ok {H : AH} {t j : Nat} {cp : Cap} {N : List ND} (hT : TreM H t j cp N) (hl : N.length ≤ 99) : ACalls Try.prog R 27 [.ptr (.mu t) 0] H fun v G => v = .slice (.mu H.length) 0 N.length (.opn 0) ∧ G = H ++ [.row (ndV N) 54 7] := by
  have hpos := hT.pos
  refine ACalls.pickNew (ndV_ren _) ?_
  refine ACalls.of_wpE Fns.ok27 (by simp [Fns.a27]) ?_
  simp [Fns.a27]
  refine AWp.loop (fun e G => e 0 = .ptr (.mu t) 0 ∧ ∃ i : Nat, e 4 = .int .i64 i ∧ i ≤ N.length ∧ NodesI H G N i (e 3)) (fun e _ => match e 4 with | .int _ i => ((N.length : Int) + 1 - i).toNat | _ => 0)
    ⟨by simp, 0, by simp, by omega, Kp.refl _, .inl ⟨rfl, by simp⟩⟩ ?_
  rintro e G ⟨h0, i, h4, hi, hk, h3⟩
  refine wpE_sound _ ?_
  have hTG := hT.kp hk
  have hnd := node_ok (R := R) hTG.tre i
  have h100 : (i : Int) < 100 := by omega
  have hw1 : IntKind.i64.wrap ((i : Int) + 1) = (i : Int) + 1 := by rw [wrap_nat] <;> omega
  have h100' : i < 100 := by omega
  by_cases hlt : i < N.length
  · obtain ⟨x, hx⟩ : ∃ x, N[i]? = some x := ⟨_, List.getElem?_eq_getElem hlt⟩
    rw [nodeV_some hx] at hnd
    have htk : N.take (i + 1) = N.take i ++ [x] := by rw [List.take_add_one, hx, Option.toList_some]
    simp only [ND.cells] at hnd
    simp [h0, h4, h100, h100']
    refine hnd.mono ?_
    rintro v G' ⟨rfl, rfl⟩
    have hgl := hk.1
    have kk : ∀ (X : AH), Kp H (G' ++ X) := fun X => hk.trans (Kp.app _ _)
    rcases h3 with ⟨rfl, h3⟩ | ⟨hi0, r, h3, hr, hrow⟩
    · have hap := append_nil (R := R) (H := G' ++ [AO.cells [.int .i64 x.side, .int .i64 x.f, .int .i64 x.s, .int .i64 x.sh, .int .i64 x.a, .int .i64 x.b, .int .i64 x.c] 54, AO.cells [.int .i64 x.side, .int .i64 x.f, .int .i64 x.s, .int .i64 x.sh, .int .i64 x.a, .int .i64 x.b, .int .i64 x.c] 54]) (jv := G'.length + 1) (m := 1) (sz := 7) (by' := 56) (tE := 54) (tV := 54) (cv := .known 1) (V := [.int .i64 x.side, .int .i64 x.f, .int .i64 x.s, .int .i64 x.sh, .int .i64 x.a, .int .i64 x.b, .int .i64 x.c]) (by simp) rfl (by omega) (by decide) (by decide) (by decide) rfl
      have hw11 : IntKind.i64.wrap 1 = 1 := by decide
      simp [h0, h3, h4, AO.content, AO.withContent, writeN, splice, readN_mu, fillA, zerosEv, hap, hw11]
      refine ⟨1, by decide, by omega, kk _, .inr ⟨by omega, G'.length + 2, rfl, by omega, ?_⟩⟩
      rw [htk]
      simp [ndV, ND.cells]
    · have hrl := (List.getElem?_eq_some_iff.1 hrow).1
      have hap := append_opn (R := R) (H := G' ++ [AO.cells [.int .i64 x.side, .int .i64 x.f, .int .i64 x.s, .int .i64 x.sh, .int .i64 x.a, .int .i64 x.b, .int .i64 x.c] 54, AO.cells [.int .i64 x.side, .int .i64 x.f, .int .i64 x.s, .int .i64 x.sh, .int .i64 x.a, .int .i64 x.b, .int .i64 x.c] 54]) (j := r) (jv := G'.length + 1) (n := i) (m := 1) (sz := 7) (by' := 56) (c := ndV (N.take i)) (tE := 54) (tV := 54) (cv := .known 1) (V := [.int .i64 x.side, .int .i64 x.f, .int .i64 x.s, .int .i64 x.sh, .int .i64 x.a, .int .i64 x.b, .int .i64 x.c]) (get_app hrow) (by rw [ndV_len, List.length_take]; omega) (by simp) rfl (by omega) (by decide) (by decide) (by omega) rfl
      simp [h0, h3, h4, AO.content, AO.withContent, writeN, splice, readN_mu, fillA, zerosEv, hap, hw1]
      refine ⟨⟨i + 1, by simp, by omega, ⟨by simp; omega, fun m hm => ?_⟩, .inr ⟨by omega, G'.length + 2, rfl, by omega, ?_⟩⟩, by omega⟩
      · rw [List.getElem?_append_left (by simp; omega), List.getElem?_set_ne (by omega), List.getElem?_append_left (by omega)]; exact hk.2 m hm
      · rw [htk, List.getElem?_append_right (by simp)]
        simp [ndV_app, ndV, ND.cells]
  · obtain rfl : i = N.length := by omega
    rw [nodeV_none (Nat.le_refl _)] at hnd
    simp only [ND.cells, zeroN] at hnd
    rcases h3 with ⟨h, _⟩ | ⟨_, r, h3, hr, hrow⟩
    · omega
    simp [h0, h4, h100, h100']
    refine hnd.mono ?_
    rintro v G' ⟨rfl, rfl⟩
    rw [List.take_length] at hrow
    have hgl := hk.1
    simp [h3, AO.content, AO.withContent, writeN, splice]
    exact ⟨fun m hm => by rw [List.getElem?_append_left (by omega)]; exact hk.2 m hm, r, hr, rfl, get_app hrow⟩
end Go.Proofs.Ytffmpomidfickaa.Tr
