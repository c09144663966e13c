/- How many panes a tree has. -/
import Derived.Test.YtbcfhiohdamcjaaTrIter
namespace Go.Proofs.Ytbcfhiohdamcjaa.Tr
open Go Go.RowKit Am
set_option maxRecDepth 100000
set_option linter.unusedSimpArgs false
set_option linter.unusedVariables false
attribute [-simp] Am.binEv Am.intBin Am.read1
attribute [local simp] binEv_lss binEv_leq binEv_gtr binEv_geq binEv_eql binEv_neq binEv_add binEv_sub binEv_mul read1_ro read1_mu
variable {R : Ro}
theorem get_app {H X : AH} {i : Nat} {o : AO} (h : H[i]? = some o) : (H ++ X)[i]? = some o := by
  rw [List.getElem?_append_left (List.getElem?_eq_some_iff.1 h).1]; exact h
theorem len_ok {H : AH} {t j n : Nat} {cp : Cap} {C : List AV} {N : List ND} (ht : H[t]? = some (.cells [.slice (.mu j) 0 n cp] 58)) (hj : (H[j]?).bind AO.content = some C) (hC : C.take (n * 7) = ndV N) (hN : N.length = n) (hn : 0 < n) (hb : n ≤ 1000) :
    ACalls Try.prog R 35 [.ptr (.mu t) 0] H fun v H' => H' = H ∧ v = .int .i64 (lv N).length := by
  have hlv : ∀ i, (lv (N.take i)).length ≤ 1000 := fun i => by
    unfold lv
    refine Nat.le_trans (List.length_filter_le ..) ?_
    rw [List.length_take]; omega
  refine ACalls.gc ?_
  refine ACalls.of_wpR Fns.ok35 (by simp [Fns.a35]) ?_
  simp [Fns.a35, AO.withContent, writeN, splice, AO.content]
  refine (panes_ok _ _ rfl rfl).mono ?_
  rintro v H1 ⟨rfl, rfl⟩
  simp
  refine AWpR.rangeF (gf := 38) (cap := [.ptr (.mu (H.length + 1)) 0]) (by simp) rfl ?_
  intro rb OL hY
  have hjl : j < H.length := by
    cases h : H[j]? with
    | none => rw [h] at hj; cases hj
    | some o => exact (List.getElem?_eq_some_iff.1 h).1
  refine (iter_ok (t := t) (j := j) (n := n) (cp := cp) (C := C) (N := N) (fun k G => k ≤ 1000 ∧ G[H.length]? = some (.cells [.int .i64 k] 3) ∧ G[H.length + 2]? = some (.obj rb (.deferred (some [])) [] []) ∧ G[H.length + 3]? = some (OL .ready none) ∧ (∀ i, i < H.length → G[i]? = H[i]?)) ?_ ?_ ?_ hC hN hn hb ?_ ?_ ?_).mono ?_
  · simp
  · simp; exact get_app ht
  · rw [List.getElem?_append_left (by simp; omega), List.getElem?_append_left hjl]; exact hj
  · intro k G X ⟨h0, h1, h2, h3, h4⟩
    refine ⟨h0, get_app h1, get_app h2, get_app h3, fun i hi => ?_⟩
    rw [List.getElem?_append_left]
    · exact h4 i hi
    · have := (List.getElem?_eq_some_iff.1 h3).1; omega
  · refine ⟨by omega, by simp, by simp, by simp, fun i hi => by simp [List.getElem?_append_left hi]⟩
  · intro k x G hx ⟨h0, h1, h2, h3, h4⟩
    have hk : k + 1 ≤ 1000 := by
      have := (List.getElem?_eq_some_iff.1 hx).1
      have := hlv n
      rw [← hN, List.take_length] at this
      omega
    have hw1 : IntKind.i64.wrap ((k : Int) + 1) = (k : Int) + 1 := by rw [wrap_nat] <;> omega
    have hl := (List.getElem?_eq_some_iff.1 h3).1
    refine hY _ _ _ rfl (by simpa using h3) ?_
    unfold RoundW
    refine wpR_sound _ ?_
    have n1 : ¬ H.length + 2 + 1 = H.length := by omega
    have n2 : ¬ H.length + 2 + 1 = H.length + 2 := by omega
    have n3 : ¬ H.length = H.length + 2 + 1 := by omega
    simp [h3]
    refine wpR_sound _ ?_
    simp [putArgs, h1, h2, hw1, endQ, AO.withContent, writeN, splice, AO.content, hl, List.getElem?_set, n1, n2, n3]
    refine ⟨fun r D hr hG => ?_, by omega, by omega, fun i hi => ?_⟩
    · rw [if_neg (by omega), if_neg (by omega), if_neg (by omega)]; exact hG
    · rw [if_neg (by omega), if_neg (by omega), if_neg (by omega)]; exact h4 i hi
  · rintro v G ⟨h0, h1, h2, h3, h4⟩
    have hl := (List.getElem?_eq_some_iff.1 h3).1
    have n1 : ¬ H.length + 2 + 1 = H.length := by omega
    have n2 : ¬ H.length + 2 + 1 = H.length + 2 := by omega
    refine .inl ⟨by simpa using h3, ?_⟩
    simp [h1, h2, hl, List.getElem?_set, n1, n2, AO.content]
    refine ⟨app_of (by simp; omega) fun i hi => ?_, by simp [ren]⟩
    rw [List.getElem?_set_ne (by omega), List.getElem?_set_ne (by omega)]
    exact h4 i hi
end Go.Proofs.Ytbcfhiohdamcjaa.Tr
