/- No tree, and one that nobody made. -/
import Derived.Test.YtffmpomidfickaaTrColl
import Derived.Test.YtffmpomidfickaaTrOps2
namespace Go.Proofs.Ytffmpomidfickaa.Tr
open Go Go.RowKit Am
set_option maxRecDepth 100000
set_option linter.unusedSimpArgs false
set_option linter.unusedVariables false
attribute [-simp] Am.binEv Am.intBin Am.read1
attribute [local simp] binEv_lss binEv_leq binEv_gtr binEv_geq binEv_eql binEv_neq binEv_add binEv_sub binEv_mul read1_ro read1_mu
variable {R : Ro}
theorem split_nil (p q : PA) (a b : Int) (H : AH) : ACalls Try.prog R 11 [.nilptr, p.av, q.av, .int .i64 a, .int .i64 b] H fun v G => G = H ∧ v = .int .i64 2 := by
  refine ACalls.gc ?_
  refine ACalls.of_wpE Fns.ok11 (by simp [Fns.a11]) ?_
  have h2 := leaf_nil (R := R) p (H ++ [.cells p.cells 25, .cells q.cells 25])
  simp [Fns.a11, PA.av, PA.cells]
  simp only [PA.av, PA.cells] at h2
  refine h2.mono ?_
  rintro v G ⟨rfl, rfl⟩
  simp [eqEv, ren]
theorem close_nil (p : PA) (H : AH) : ACalls Try.prog R 12 [.nilptr, p.av] H fun v G => G = H ∧ v = .int .i64 2 := by
  refine ACalls.gc ?_
  refine ACalls.of_wpE Fns.ok12 (by simp [Fns.a12]) ?_
  have h2 := leaf_nil (R := R) p (H ++ [.cells p.cells 25])
  simp [Fns.a12, PA.av, PA.cells]
  simp only [PA.av, PA.cells] at h2
  refine h2.mono ?_
  rintro v G ⟨rfl, rfl⟩
  simp [eqEv, ren]
theorem share_nil (p : PA) (a b : Int) (H : AH) : ACalls Try.prog R 13 [.nilptr, p.av, .int .i64 a, .int .i64 b] H fun v G => G = H ∧ v = .int .i64 2 := by
  refine ACalls.gc ?_
  refine ACalls.of_wpE Fns.ok13 (by simp [Fns.a13]) ?_
  have h2 := leaf_nil (R := R) p (H ++ [.cells p.cells 25])
  simp [Fns.a13, PA.av, PA.cells]
  simp only [PA.av, PA.cells] at h2
  refine h2.mono ?_
  rintro v G ⟨rfl, rfl⟩
  simp [eqEv, ren]
theorem swap_nil (p q : PA) (H : AH) : ACalls Try.prog R 25 [.nilptr, p.av, q.av] H fun v G => G = H ∧ v = .int .i64 2 := by
  refine ACalls.gc ?_
  refine ACalls.of_wpE Fns.ok25 (by simp [Fns.a25]) ?_
  have h2 := leaf_nil (R := R) p (H ++ [.cells p.cells 25, .cells q.cells 25])
  have h3 := leaf_nil (R := R) q (H ++ [.cells p.cells 25, .cells q.cells 25])
  simp [Fns.a25, PA.av, PA.cells]
  simp only [PA.av, PA.cells] at h2 h3
  refine AWp.sched [0, 1, 3, 4, 2, 5, 6, 7] Fns.mixed (by decide +kernel) ?_
  simp [AO.content, readN]
  refine h2.mono ?_
  rintro v G ⟨rfl, rfl⟩
  simp [recheck, AO.content, readN]
  refine h3.mono ?_
  rintro v G ⟨rfl, rfl⟩
  simp [recheck, AO.content, readN, eqEv, ren]
theorem node_nil (i : Int) (H : AH) : ACalls Try.prog R 24 [.nilptr, .int .i64 i] H fun v G => G = H ∧ v = .tuple [.agg zeroN.cells, .bool false] := by
  refine ACalls.gc ?_
  refine ACalls.of_wpE Fns.ok24 (by simp [Fns.a24]) ?_
  simp [Fns.a24]
  refine (nodes_nil _).mono ?_
  rintro v G ⟨rfl, rfl⟩
  by_cases hi : i < 0
  · simp [hi, zeroN, ND.cells, AO.content, AO.withContent, writeN, splice, readN, fillA, ren, renL]
  · have h0 : 0 ≤ i := by omega
    simp [hi, h0, zeroN, ND.cells, AO.content, AO.withContent, writeN, splice, readN, fillA, ren, renL]
def bareH (H : AH) (t : Nat) : AH := (H ++ [AO.cells (ndV [zeroN]) 54]).set t (.cells [.slice (.mu H.length) 0 1 (.known 1)] 60)
theorem bare_tre {H : AH} {t : Nat} (ht : t < H.length) : TreM (bareH H t) t H.length (.known 1) [zeroN] := by
  unfold bareH
  refine ⟨List.getElem?_set_self (by simp; omega), ⟨_, by rw [List.getElem?_set_ne (by omega)]; simp, .inr ⟨rfl, rfl, rfl⟩⟩, by simp, by simp⟩
theorem bare_old {H : AH} {t : Nat} (m : Nat) (hm : m < H.length) (hn : m ≠ t) : (bareH H t)[m]? = H[m]? := by
  unfold bareH
  rw [List.getElem?_set_ne (Ne.symm hn), List.getElem?_append_left hm]
theorem nodes_bare {H : AH} {t : Nat} (ht : H[t]? = some (.cells [.nilslice] 60)) : ACalls Try.prog R 45 [.ptr (.mu t) 0] H fun v G => v = .slice (.mu H.length) 0 1 (.known 1) ∧ G = bareH H t := by
  have htl := (List.getElem?_eq_some_iff.1 ht).1
  have f1 : ∀ X : AH, (H ++ X)[t]? = _ := fun X => get_app ht
  have f2 : ∀ (X : AH) o, ((H ++ X).set t o)[t]? = some o := fun X o => List.getElem?_set_self (by simp; omega)
  refine ACalls.of_wpE Fns.ok45 (by simp [Fns.a45]) ?_
  simp [Fns.a45, eqEv, ht, f1, f2, fillA, splice, zerosEv, AO.content, AO.withContent, writeN]
  simp [bareH, ndV, zeroN, ND.cells]
theorem iter_bare {H : AH} {l q t : Nat} (J : Nat → AH → Prop) (hq : H[q]? = some (.cells [.ptr (.mu t) 0] 22)) (ht : H[t]? = some (.cells [.nilslice] 60))
    (hJs : ∀ k G X, J k G → J k (G ++ X)) (hJ0 : J 0 (bareH H t)) (hY : ∀ G, J 0 G → YCall Try.prog R l [.agg zeroN.pane] G fun v G' => v = .bool true ∧ J 1 G') :
    ACalls Try.prog R 43 [.raw (.func (.yield l) #[] #[]), .ptr (.mu q) 0] H fun v G => J 1 G := by
  have htl := (List.getElem?_eq_some_iff.1 ht).1
  refine ACalls.of_wpR Fns.ok43 (by simp [Fns.a43]) ?_
  simp [Fns.a43, hq]
  refine (nodes_bare ht).mono ?_
  rintro v H0 ⟨rfl, rfl⟩
  have hT := bare_tre htl
  simp
  refine (clone_ok hT.tre.hj hT.tre.hc rfl (by simp) (by simp)).mono ?_
  rintro v H1 ⟨rfl, rfl⟩
  generalize bareH H t = H0 at hJ0 hT
  simp
  have hrd := ndV_at [zeroN] 0 zeroN rfl
  simp only [ND.cells, zeroN] at hrd
  refine AWpR.loop (fun ms e G => ms = [] ∧ e 0 = .raw (.func (.yield l) #[] #[]) ∧ e 7 = .slice (.mu (H0.length + 1)) 0 1 (.opn 0) ∧ e 8 = .int .i64 1 ∧ ((e 9 = .int .i64 0 ∧ G[H0.length + 1]? = some (.row (ndV [zeroN]) 54 7) ∧ J 0 G) ∨ (e 9 = .int .i64 1 ∧ J 1 G))) (fun e _ => match e 9 with | .int _ i => ((1 : Int) - i).toNat | _ => 0)
    ⟨rfl, by simp, by simp, by simp, .inl ⟨by simp, by simp, hJs 0 _ _ hJ0⟩⟩ ?_
  rintro ms e G ⟨rfl, h0, h7, h8, ⟨h9, hr, hJ⟩ | ⟨h9, hJ⟩⟩
  · refine wpR_sound _ ?_
    have hyc := hY (G ++ [.cells zeroN.cells 54]) (hJs _ _ _ hJ)
    simp only [zeroN, ND.pane, ND.cells] at hyc
    have hw1 : IntKind.i64.wrap 1 = 1 := by decide
    simp [h0, h7, h8, h9, hr, hrd, ndV, zeroN, ND.cells, writeN, AO.content, AO.withContent, splice]
    refine YCall.mono _ _ hyc ?_
    rintro v G' ⟨rfl, hJ'⟩
    simp [h0, h7, h8, h9, hw1]
    exact hJ'
  · refine wpR_sound _ ?_
    simp [h8, h9]
    exact hJ
theorem len_bare {H : AH} {t : Nat} (ht : H[t]? = some (.cells [.nilslice] 60)) : ACalls Try.prog R 15 [.ptr (.mu t) 0] H fun v G => v = .int .i64 1 ∧ H.length ≤ G.length ∧ (∀ m, m < H.length → m ≠ t → G[m]? = H[m]?) ∧ ∃ j, TreM G t j (.known 1) [zeroN] ∧ H.length ≤ j := by
  have htl := (List.getElem?_eq_some_iff.1 ht).1
  refine ACalls.of_wpR Fns.ok15 (by simp [Fns.a15]) ?_
  simp [Fns.a15, AO.withContent, writeN, splice, AO.content]
  refine (panes_ok _ _ rfl rfl).mono ?_
  rintro v H0 ⟨rfl, rfl⟩
  simp
  obtain ⟨H1, hH1⟩ : ∃ H1, H1 = H ++ [AO.cells [AV.int .i64 0] 3, AO.cells [AV.ptr (.mu t) 0] 22] := ⟨_, rfl⟩
  have hv0 : H1[H.length]? = some (.cells [.int .i64 0] 3) := by rw [hH1]; simp
  have hq1 : H1[H.length + 1]? = some (.cells [.ptr (.mu t) 0] 22) := by rw [hH1]; simp
  have ht1 : H1[t]? = some (.cells [.nilslice] 60) := by rw [hH1]; exact get_app ht
  have hold : ∀ m, m < H.length → H1[m]? = H[m]? := fun m hm => by rw [hH1]; exact List.getElem?_append_left hm
  have hl1 : H1.length = H.length + 2 := by rw [hH1]; simp
  rw [← hH1]
  refine AWpR.rangeF (gf := 43) (cap := [.ptr (.mu (H.length + 1)) 0]) (by simp) rfl ?_
  intro rb OL hY
  obtain ⟨H2, hH2⟩ : ∃ H2, H2 = H1 ++ [AO.obj rb (.deferred (some [])) [] [], OL .ready none] := ⟨_, rfl⟩
  have hl2 : H2.length = H1.length + 2 := by rw [hH2]; simp
  have ht2 : H2[t]? = some (.cells [.nilslice] 60) := by rw [hH2]; exact get_app ht1
  have hv2 : H2[H.length]? = some (.cells [.int .i64 0] 3) := by rw [hH2]; exact get_app hv0
  have ho2 : H2[H1.length]? = some (.obj rb (.deferred (some [])) [] []) := by rw [hH2]; simp
  have hr2 : H2[H1.length + 1]? = some (OL .ready none) := by rw [hH2]; simp
  have hk2 : ∀ m, m < H1.length → H2[m]? = H1[m]? := fun m hm => by rw [hH2]; exact List.getElem?_append_left hm
  rw [← hH2]
  have hq2 : H2[H.length + 1]? = some (.cells [.ptr (.mu t) 0] 22) := by rw [hH2]; exact get_app hq1
  have hb := bare_tre (show t < H2.length by omega)
  have hbo := fun m hm hn => bare_old (H := H2) (t := t) m hm hn
  have hbl : (bareH H2 t).length = H2.length + 1 := by unfold bareH; simp
  refine (iter_bare (fun k G => G[H.length]? = some (.cells [.int .i64 k] 3) ∧ G[H1.length]? = some (.obj rb (.deferred (some [])) [] []) ∧ G[H1.length + 1]? = some (OL .ready none) ∧ TreM G t H2.length (.known 1) [zeroN] ∧ (∀ m, m < H.length → m ≠ t → G[m]? = H[m]?)) hq2 ht2 ?_ ?_ ?_).mono ?_
  · rintro k G X ⟨a1, a2, a3, a4, a5⟩
    have := a4.jlt
    exact ⟨get_app a1, get_app a2, get_app a3, a4.app X, fun m hm hn => by rw [List.getElem?_append_left (by omega)]; exact a5 m hm hn⟩
  · refine ⟨(hbo _ (by omega) (by omega)).trans hv2, (hbo _ (by omega) (by omega)).trans ho2, (hbo _ (by omega) (by omega)).trans hr2, hb, fun m hm hn => ?_⟩
    rw [hbo m (by omega) hn, hk2 m (by omega), hold m hm]
  · rintro G ⟨a1, a2, a3, a4, a5⟩
    refine hY _ _ _ rfl (by simpa using a3) ?_
    unfold RoundW
    refine wpR_sound _ ?_
    have n1 : ¬ H1.length + 1 = H.length := by omega
    have n2 : ¬ H1.length + 1 = H1.length := by omega
    have n3 : ¬ H.length = H1.length + 1 := by omega
    have hl := a4.jlt
    have hw1 : IntKind.i64.wrap 1 = 1 := by decide
    simp [a3]
    refine wpR_sound _ ?_
    have b1 : (G.set (H1.length + 1) (OL .busy none))[H.length]? = _ := (List.getElem?_set_ne (by omega)).trans a1
    have b2 : ∀ o, ((G.set (H1.length + 1) (OL .busy none)).set H.length o)[H1.length + 1]? = some (OL .busy none) := fun o => by rw [List.getElem?_set_ne (by omega), List.getElem?_set_self (by omega)]
    simp [putArgs, b1, b2, hw1, endQ, AO.withContent, writeN, splice, AO.content]
    refine ⟨?_, ?_, ?_, ?_, fun m hm hn => ?_⟩
    · rw [List.getElem?_set_ne (by omega), List.getElem?_set_self (by simp; omega)]
    · repeat rw [List.getElem?_set_ne (by omega)]
      exact a2
    · rw [List.getElem?_set_self (by simp; omega)]
    · refine a4.frame ?_ ?_
      · repeat rw [List.getElem?_set_ne (by omega)]
      · repeat rw [List.getElem?_set_ne (by omega)]
    · repeat rw [List.getElem?_set_ne (by omega)]
      exact a5 m hm hn
  · rintro v G ⟨a1, a2, a3, a4, a5⟩
    have hl := a4.jlt
    refine .inl ⟨a3, ?_⟩
    have b1 : (G.set (H1.length + 1) .dead)[H.length]? = _ := (List.getElem?_set_ne (by omega)).trans a1
    have b2 : (G.set (H1.length + 1) .dead)[H1.length]? = _ := (List.getElem?_set_ne (by omega)).trans a2
    simp [b1, b2, AO.content]
    refine ⟨by omega, fun m hm hn => ?_, H2.length, ?_, by omega⟩
    · rw [List.getElem?_set_ne (by omega), List.getElem?_set_ne (by omega)]; exact a5 m hm hn
    · refine a4.frame ?_ ?_
      · rw [List.getElem?_set_ne (by omega), List.getElem?_set_ne (by omega)]
      · rw [List.getElem?_set_ne (by omega), List.getElem?_set_ne (by omega)]
end Go.Proofs.Ytffmpomidfickaa.Tr
