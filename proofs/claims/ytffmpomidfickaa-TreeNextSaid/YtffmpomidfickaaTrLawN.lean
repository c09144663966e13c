/- TreeNext: what the law's code computes. -/
import Derived.Test.YtffmpomidfickaaTrWrapP
import Derived.Test.YtffmpomidfickaaCtrs
namespace Go.Proofs.Ytffmpomidfickaa.Tr
open Go Go.RowKit Am
set_option maxRecDepth 100000
set_option maxHeartbeats 4000000
set_option linter.unusedSimpArgs false
set_option linter.unusedVariables false
attribute [-simp] Am.binEv Am.intBin Am.read1 Am.readN
attribute [local simp] binEv_lss binEv_leq binEv_gtr binEv_geq binEv_eql binEv_neq binEv_add binEv_sub binEv_mul read1_ro read1_mu
variable {R : Ro}
open PT DT
theorem find_pa {q : PA} {L : List PA} {M : List ND} (hL : M.map ND.pa = L) {i : Nat} (hi : L[i]? = some q) (hpre : ∀ k, k < i → L[k]? ≠ some q) : pidx q M = (i : Int) := by
  subst hL
  rw [List.getElem?_map] at hi
  obtain ⟨x, hx, hxq⟩ := Option.map_eq_some_iff.1 hi
  obtain ⟨hil, hxi⟩ := List.getElem?_eq_some_iff.1 hx
  have hf : M.findIdx (fun x => decide (q = x.pa)) = i := by
    rw [List.findIdx_eq hil]
    refine ⟨by rw [hxi]; simp [hxq], fun k hk => ?_⟩
    have := hpre k hk
    rw [List.getElem?_map, List.getElem?_eq_getElem (by omega)] at this
    simp only [Option.map_some, ne_eq, Option.some.injEq] at this
    exact decide_eq_false fun e => this e.symm
  unfold pidx
  rw [hf, if_pos hil]
theorem find_pa_no {q : PA} {L : List PA} {M : List ND} (hL : M.map ND.pa = L) (hpre : ∀ k, k < L.length → L[k]? ≠ some q) : pidx q M = -1 := by
  rcases pidx_cases q M with h | ⟨i, hil, h⟩
  · exact h
  · obtain ⟨x, hx, hxq⟩ := pidx_some h
    exfalso
    subst hL
    refine hpre i (by simpa using hil) ?_
    rw [List.getElem?_map, hx, Option.map_some, hxq]
theorem nextV_form (q : PA) (d : Int) (M : List ND) : ∃ (z : PA) (b : Bool), nextV q d M = .tuple [.agg z.cells, .bool b] := by
  unfold nextV
  split
  · split
    · rename_i x _; exact ⟨x.pa, true, rfl⟩
    · exact ⟨⟨0, 0, 0⟩, false, rfl⟩
  · exact ⟨⟨0, 0, 0⟩, false, rfl⟩
theorem nextV_at {q : PA} {d : Int} {L : List PA} {M : List ND} (hL : M.map ND.pa = L) {i : Nat} (hi : L[i]? = some q) (hpre : ∀ k, k < i → L[k]? ≠ some q) : ∃ z, L[nextI i L.length d]? = some z ∧ nextV q d M = .tuple [.agg z.cells, .bool true] := by
  have hp := find_pa hL hi hpre
  have hil := (List.getElem?_eq_some_iff.1 hi).1
  have hlen : M.length = L.length := by rw [← hL, List.length_map]
  have hlt := (nextI_lt hil d).1
  obtain ⟨x, hx⟩ : ∃ x, M[nextI i L.length d]? = some x := ⟨_, List.getElem?_eq_getElem (by omega)⟩
  refine ⟨x.pa, by rw [← hL, List.getElem?_map, List.length_map, hlen, hx]; rfl, ?_⟩
  unfold nextV
  rw [hp]
  simp only [Int.ofNat_eq_natCast]
  show (match M[nextI i M.length d]? with | some x => _ | none => _) = _
  rw [hlen, hx]
  rfl
theorem nextV_no {q : PA} {d : Int} {L : List PA} {M : List ND} (hL : M.map ND.pa = L) (hpre : ∀ k, k < L.length → L[k]? ≠ some q) : nextV q d M = .tuple [.agg (PA.mk 0 0 0).cells, .bool false] := by
  unfold nextV
  rw [find_pa_no hL hpre]
  rfl
theorem next {p q : PA} {c : AV} {A : List TA} (hA : Acts R c A) (by' : Int) : ACalls Try.prog R 5 [p.av, c, q.av, .int .i64 by'] [] fun v _ => v = .bool true := by
  have hall := fun H => ACalls.no (Fns.awake H) R
  refine ACalls.of_wpE Fns.ok5 (by simp [Fns.a5]) ?_
  simp [Fns.a5, PA.av, PA.cells]
  refine (hall _).mono ?_
  rintro v H ⟨rfl, rfl⟩
  have lens' : ∀ H : AH, (AOp.lenL (.t 0)).eval Try.prog R (fun _ => c) H = some (.int .i64 A.length, H) := fun H => by
    rcases hA.len with ⟨rfl, h0⟩ | ⟨b, off, cap, rfl⟩
    · simp [h0]
    · simp
  simp only [AOp.eval, X.ev] at lens'
  simp [lens']
  by_cases hlong : 100 < A.length
  · have : (100 : Int) < (A.length : Int) := by omega
    simp [hlong, this]
  have hlong' : ¬ (100 : Int) < (A.length : Int) := by omega
  have kn := fun H => new_ok (R := R) p H
  have kr := fun H => rnew_ok (R := R) p H
  simp only [PA.av, PA.cells] at kn kr
  simp [hlong, hlong', AO.content, readN_mu]
  refine (kn _).mono ?_
  rintro v H ⟨rfl, rfl⟩
  simp [AO.content, readN_mu]
  refine (kr _).mono ?_
  rintro v H ⟨rfl, rfl⟩
  have hdd := dd_new p (H := [AO.cells p.cells 25, AO.cells q.cells 25]) _ rfl
  simp only [PA.cells, List.length_cons, List.length_nil, List.cons_append, List.nil_append] at hdd
  simp
  refine AWp.loop (fun e G => e 1 = c ∧ e 3 = .int .i64 by' ∧ e 6 = .ptr (.mu 1) 0 ∧ G[1]? = some (.cells q.cells 25) ∧ e 9 = .ptr (.mu 4) 0 ∧ e 10 = .ptr (.mu 7) 0 ∧ ∃ i : Nat, e 11 = .int .i64 i ∧ i ≤ A.length ∧ DD G 4 7 (acts (A.take i) (.leaf p))) (fun e _ => match e 11 with | .int _ i => ((A.length : Int) - i).toNat | _ => 0)
    ⟨by simp, by simp, by simp, by simp [PA.cells], by simp, by simp, 0, by simp, by omega, by simpa [acts] using hdd⟩ ?_
  rintro e G ⟨h1, h3, h6, hq1, h9, h10, i, h11, hi, hd⟩
  refine wpE_sound _ ?_
  by_cases hlt : i < A.length
  · have hlt' : (i : Int) < (A.length : Int) := by omega
    have hw1 : IntKind.i64.wrap ((i : Int) + 1) = (i : Int) + 1 := by rw [wrap_nat] <;> omega
    obtain ⟨a, ha⟩ : ∃ a, A[i]? = some a := ⟨_, List.getElem?_eq_getElem hlt⟩
    obtain ⟨b, off, cap, hc', r9, rp, rq, _, _, _⟩ := hA.at ha
    have hnext : (actR a (acts (A.take i) (.leaf p))).2 = acts (A.take (i + 1)) (.leaf p) := by
      rw [List.take_add_one, ha, Option.toList_some, acts_snoc]
    simp only [PA.cells] at rp rq
    rw [hc'] at h1
    simp [h1, h9, h10, h11, hlt, hlt', r9]
    refine (does_okK hd a).mono ?_
    rintro v G1 ⟨rfl, hd1, hk1⟩
    rw [hnext] at hd1
    simp [h1, h3, h6, h9, h10, h11, hw1]
    exact ⟨⟨hc'.symm, hk1 1 _ _ hq1 (by decide), i + 1, by simp, by omega, hd1⟩, by omega⟩
  · obtain rfl : i = A.length := by omega
    rw [List.take_length] at hd
    simp [h1, h9, h10, h11, lens']
    generalize acts A (.leaf p) = P at hd
    obtain ⟨⟨j, cp, hT⟩, ⟨D, hR, rfl⟩, g⟩ := hd
    have hw := hR.hw
    have hle := g.le
    have hps := panes_size D.shape
    have hsp := size_pos D.shape
    have hpos : 0 < (lv (tell 0 D.shape)).length := by rw [lv_len g.sides]; omega
    simp [hw, AO.content]
    refine (rpanes_ok g.sides hR.has (by omega)).mono ?_
    intro v2 G2 q2
    obtain ⟨r2, hr2, z2⟩ := q2.rowA
    obtain ⟨b2, c2, rfl⟩ := z2.bind
    have hT2 := hT.kp q2.kp
    have hq2 := q2.kp.get hq1
    have hnx := next_ok (R := R) hT2.tre hpos q by'
    simp only [PA.av, PA.cells] at hnx hq2
    simp [h3, h6, h9, h10, hq2, AO.content, readN_mu]
    refine hnx.mono ?_
    rintro v G3 ⟨rfl, rfl⟩
    have hL := lv_tell g.sides 0
    generalize hLL : D.shape.panes = L at *
    obtain ⟨z, okb, hnv⟩ : ∃ (z : PA) (okb : Bool), nextV q by' (lv (tell 0 D.shape)) = .tuple [.agg z.cells, .bool okb] := nextV_form _ _ _
    have hnv' := hnv
    simp only [PA.cells] at hnv
    rw [hnv]
    have b3 : ∀ X : AH, ((G3 ++ X)[r2]?).bind AO.content = some (paL L) := fun X => by rw [List.getElem?_append_left z2.lt]; exact b2
    simp [AO.content, AO.withContent, writeN, splice]
    obtain ⟨F, hF⟩ : ∃ F, F = G3 ++ [AO.cells [AV.int .i64 z.a, .int .i64 z.b, .int .i64 z.c] 25] := ⟨_, rfl⟩
    have hFz : F[G3.length]? = some (.cells [AV.int .i64 z.a, .int .i64 z.b, .int .i64 z.c] 25) := by rw [hF]; simp
    have hFq : F[1]? = some (.cells [AV.int .i64 q.a, .int .i64 q.b, .int .i64 q.c] 25) := by rw [hF]; exact get_app hq2
    have hFb : (F[r2]?).bind AO.content = some (paL L) := by rw [hF]; exact b3 _
    rw [← hF]
    refine AWp.loop (fun e G => G = F ∧ e 3 = .int .i64 by' ∧ e 6 = .ptr (.mu 1) 0 ∧ e 12 = .slice (.mu r2) 0 L.length c2 ∧ e 13 = .ptr (.mu G3.length) 0 ∧ e 14 = .bool okb ∧ ∃ i : Nat, e 15 = .int .i64 i ∧ i ≤ L.length ∧ ∀ k, k < i → L[k]? ≠ some q) (fun e _ => match e 15 with | .int _ i => ((L.length : Int) - i).toNat | _ => 0)
      ⟨rfl, by simp [h3], by simp [h6], by simp, by simp, by simp, 0, by simp, by omega, fun k hk => by omega⟩ ?_
    clear h3 h6
    rintro e G ⟨rfl, h3, h6, h12, h13, h14, i, h15, hi, hpre⟩
    refine wpE_sound _ ?_
    have he := fun (a b : PA) => eqP a.a a.b a.c b.a b.b b.c
    simp only [fieldsP] at he
    have hdd : ∀ a b : PA, (decide (a.a = b.a) && (decide (a.b = b.b) && decide (a.c = b.c))) = decide (a = b) := fun a b => by
      rw [Bool.eq_iff_iff]; simp [PA.eq]
    by_cases hlt : i < L.length
    · have hlt' : (i : Int) < (L.length : Int) := by omega
      have hw1 : IntKind.i64.wrap ((i : Int) + 1) = (i : Int) + 1 := by rw [wrap_nat] <;> omega
      obtain ⟨s, hs⟩ : ∃ s, L[i]? = some s := ⟨_, List.getElem?_eq_getElem hlt⟩
      have hrd := paL_at L i s hs
      have hfit : i * 3 + 3 ≤ (paL L).length := by rw [paL_len]; omega
      simp only [PA.cells] at hrd
      simp [h3, h6, h12, h13, h14, h15, hlt, hlt']
      refine AWp.sched [0, 1, 2, 3, 4, 5] Fns.mixed (by decide +kernel) ?_
      simp [-eqEv, h3, h6, h12, h13, h14, h15, hlt, hlt', readN_mu, hFb, hfit, hrd, hFq, he, AO.content]
      rw [hdd]
      by_cases hsq : s = q
      · subst hsq
        obtain ⟨z', hz', hv'⟩ := nextV_at (d := by') hL hs hpre
        rw [hnv'] at hv'
        have hzz : z = z' ∧ okb = true := by
          simp only [AV.tuple.injEq, List.cons.injEq, AV.agg.injEq, PA.cells, AV.int.injEq, AV.bool.injEq, true_and, and_true] at hv'
          exact ⟨PA.eq.2 ⟨hv'.1.1, hv'.1.2.1, hv'.1.2.2⟩, hv'.2⟩
        obtain ⟨rfl, rfl⟩ := hzz
        obtain ⟨q1, q2, q3, q4, q5, q6⟩ := nextI_lt hlt by'
        have hrd2 := paL_at L _ z hz'
        have hfit2 : nextI i L.length by' * 3 + 3 ≤ (paL L).length := by rw [paL_len]; omega
        have ww1 : IntKind.i64.wrap ((i : Int) + by'.tmod L.length) = (i : Int) + by'.tmod L.length := by
          simp only [IntKind.wrap, IntKind.bits, IntKind.signed]; simp; omega
        have ww2 : IntKind.i64.wrap ((i : Int) + by'.tmod L.length + L.length) = (i : Int) + by'.tmod L.length + L.length := by
          simp only [IntKind.wrap, IntKind.bits, IntKind.signed]; simp; omega
        have hnz : ¬ (L.length : Int) = 0 := by omega
        simp only [PA.cells] at hrd2
        generalize nextI i L.length by' = y at *
        have q1' : (y : Int) < (L.length : Int) := by omega
        simp [h3, h6, h12, h13, h14, h15, binEv_rem0 hnz, ww1, ww2, q2]
        refine AWp.sched [0, 1, 2, 3, 4, 5, 6, 7, 8, 9] Fns.mixed (by decide +kernel) ?_
        simp [-eqEv, h3, h6, h12, h13, h14, h15, q1, q1', readN_mu, hFb, hfit2, hrd2, hFz, he, AO.content]
      · simp [hsq, h3, h6, h12, h13, h14, h15, hw1]
        refine ⟨⟨i + 1, by simp, by omega, fun k hk => ?_⟩, by omega⟩
        by_cases hki : k = i
        · subst hki; rw [hs]; simpa using hsq
        · exact hpre k (by omega)
    · obtain rfl : i = L.length := by omega
      have hv' := nextV_no (d := by') hL hpre
      rw [hnv'] at hv'
      have hzz : z = PA.mk 0 0 0 ∧ okb = false := by
        simp only [AV.tuple.injEq, List.cons.injEq, AV.agg.injEq, PA.cells, AV.int.injEq, AV.bool.injEq, true_and, and_true] at hv'
        exact ⟨PA.eq.2 ⟨hv'.1.1, hv'.1.2.1, hv'.1.2.2⟩, hv'.2⟩
      obtain ⟨rfl, rfl⟩ := hzz
      have hz0 := he (PA.mk 0 0 0) (PA.mk 0 0 0)
      simp only at hz0
      simp [-eqEv, h12, h13, h14, h15, hFz, AO.content, readN_mu, fillA, hz0]
theorem next_all (vs : List AV) (h : Shape [.int .i64, .int .i64, .int .i64] vs) (a : AV) (L : List (List AV)) (s : Sl R 9 a L) (w : ∀ x ∈ L, Shape [.int .i64, .int .i64, .int .i64, .int .i64, .int .i64, .int .i64, .int .i64, .int .i64, .int .i64] x) (ws : List AV) (h' : Shape [.int .i64, .int .i64, .int .i64] ws) (d : Int) (_ : (Lit.int .i64 d).wf = true) :
    ACalls Try.prog R 5 [.agg vs, a, .agg ws, .int .i64 d] [] fun v _ => v = .bool true := by
  obtain ⟨p, rfl⟩ := pa_of h
  obtain ⟨q, rfl⟩ := pa_of h'
  obtain ⟨A, rfl⟩ := acts_of w
  exact next s d
end Go.Proofs.Ytffmpomidfickaa.Tr
