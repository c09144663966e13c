/- A tree's panes, as the law gathers them. -/
import Derived.Test.YtffmpomidfickaaTrColl
namespace Go.Proofs.Ytffmpomidfickaa.Tr
open Go Go.RowKit Am
set_option maxRecDepth 100000
set_option maxHeartbeats 1000000
set_option linter.unusedSimpArgs false
set_option linter.unusedVariables false
attribute [-simp] Am.binEv Am.intBin Am.read1
attribute [local simp] binEv_lss binEv_leq binEv_gtr binEv_geq binEv_eql binEv_neq binEv_add binEv_sub binEv_mul read1_ro read1_mu
variable {R : Ro}
theorem lpanes_ok {H : AH} {t j n : Nat} {cp : Cap} {C : List AV} {N : List ND} (h : Tre H t j n cp C N) (hpos : 0 < (lv N).length) (h100 : (lv N).length ≤ 100) :
    ACalls Try.prog R 28 [.ptr (.mu t) 0] H fun v G => v = .slice (.mu H.length) 0 (lv N).length (.opn 0) ∧ G = H ++ [.row (paV (lv N)) 25 3] := by
  refine ACalls.pickNew (paV_ren _) ?_
  refine ACalls.of_wpR Fns.ok28 (by simp [Fns.a28]) ?_
  have hlen := h.lvle
  simp [Fns.a28]
  obtain ⟨H0, hH0⟩ : ∃ H0, H0 = H ++ [AO.cells [AV.nilslice] 42, AO.cells [AV.nilslice] 42] := ⟨_, rfl⟩
  have g0 : H0[H.length]? = some (.cells [.nilslice] 42) := by rw [hH0]; simp
  have g1 : H0[H.length + 1]? = some (.cells [.nilslice] 42) := by rw [hH0]; simp
  have hT0 : Tre H0 t j n cp C N := by rw [hH0]; exact h.app _
  have hl0 : H0.length = H.length + 2 := by rw [hH0]; simp
  have hold0 : ∀ i, i < H.length → H0[i]? = H[i]? := fun i hi => by rw [hH0]; exact List.getElem?_append_left hi
  rw [← hH0]
  refine (panes_ok _ _ rfl rfl).mono ?_
  rintro v G ⟨rfl, rfl⟩
  simp [eqEv]
  refine (panes_ok _ _ rfl rfl).mono ?_
  rintro v G ⟨rfl, rfl⟩
  simp
  obtain ⟨H1, hH1⟩ : ∃ H1, H1 = H0 ++ [AO.cells [AV.ptr (.mu t) 0] 22, AO.cells [AV.ptr (.mu t) 0] 22] := ⟨_, rfl⟩
  obtain ⟨vc, hvc⟩ : ∃ vc, vc = H.length + 1 := ⟨_, rfl⟩
  obtain ⟨q, hqd⟩ : ∃ q, q = H0.length + 1 := ⟨_, rfl⟩
  have hv0 : H1[vc]? = some (.cells [.nilslice] 42) := by rw [hH1, hvc]; exact get_app g1
  have hr0 : H1[H.length]? = some (.cells [.nilslice] 42) := by rw [hH1]; exact get_app g0
  have hq1 : H1[q]? = some (.cells [.ptr (.mu t) 0] 22) := by rw [hH1, hqd]; simp
  have hT : Tre H1 t j n cp C N := by rw [hH1]; exact hT0.app _
  have hl1 : H1.length = H.length + 4 := by rw [hH1]; simp [hl0]
  have hold : ∀ i, i < H.length → H1[i]? = H[i]? := fun i hi => by rw [hH1, List.getElem?_append_left (by omega)]; exact hold0 i hi
  rw [← hH1, ← hvc, ← hqd]
  have hlt : vc < H1.length := by omega
  refine AWpR.rangeF (gf := 43) (cap := [.ptr (.mu q) 0]) (by simp) rfl ?_
  intro rb OL hY
  have m1 : ¬ H1.length + 1 = vc := by omega
  have m2 : ¬ H1.length = vc := by omega
  have m3 : ¬ vc = H1.length + 1 := by omega
  have m4 : ¬ vc = H1.length := by omega
  refine (iter_ok (t := t) (j := j) (n := n) (cp := cp) (C := C) (N := N) (PJ H1 vc rb OL (lv N)) (get_app hq1) (get_app hT.ht) (hT.app _).hj h.hc h.hn h.pos h.le (fun k G X hz => hz.app X) ?_ ?_).mono ?_
  · exact ⟨fun i hi hn => by simp [List.getElem?_append_left hi], by simp, by simp, .inl ⟨rfl, get_app hv0⟩⟩
  · intro k x G hx hJ
    have hkl := (List.getElem?_eq_some_iff.1 hx).1
    have hl := (List.getElem?_eq_some_iff.1 hJ.hl).1
    refine hY _ _ _ rfl (by simpa using hJ.hl) ?_
    unfold RoundW
    refine wpR_sound _ ?_
    have fl : ∀ X : AH, (G ++ X)[H1.length + 1]? = some (OL .ready none) := fun X => get_app hJ.hl
    simp [putArgs, fl, AO.withContent, writeN, splice, AO.content, ND.pane]
    refine wpR_sound _ ?_
    obtain ⟨G1, hG1⟩ : ∃ G1, G1 = (G ++ [AO.cells [.int .i64 x.a, .int .i64 x.b, .int .i64 x.c] 25]).set (H1.length + 1) (OL .busy none) := ⟨_, rfl⟩
    have gl : G1.length = G.length + 1 := by rw [hG1]; simp
    have gk : ∀ i, i < G.length → i ≠ H1.length + 1 → G1[i]? = G[i]? := fun i hi hn => by rw [hG1, List.getElem?_set_ne (by omega), List.getElem?_append_left hi]
    have gx : G1[G.length]? = some (.cells [.int .i64 x.a, .int .i64 x.b, .int .i64 x.c] 25) := by rw [hG1, List.getElem?_set_ne (by omega)]; simp
    have gb : G1[H1.length + 1]? = some (OL .busy none) := by rw [hG1, List.getElem?_set_self (by simp; omega)]
    rw [← hG1]
    have fx : ∀ X : AH, (G1 ++ X)[G.length]? = _ := fun X => get_app gx
    have fb : ∀ X : AH, (G1 ++ X)[H1.length + 1]? = _ := fun X => get_app gb
    have k100 : ¬ (100 : Int) < (k : Int) + 1 := by omega
    rcases hJ.hv with ⟨rfl, hv⟩ | ⟨hk0, r, hr, hv, hrow⟩
    · have gv : G1[vc]? = _ := (gk _ (by omega) (by omega)).trans hv
      have fv : ∀ X : AH, (G1 ++ X)[vc]? = _ := fun X => get_app gv
      have fs : ∀ (X : AH) o, ((G1 ++ X).set vc o)[H1.length + 1]? = _ := fun X o => (List.getElem?_set_ne (by omega)).trans (fb X)
      have fw : ∀ (X : AH) o, ((G1 ++ X).set vc o)[vc]? = some o := fun X o => List.getElem?_set_self (by simp; omega)
      simp [gx, fx, fb, fs, fw, gv, fv, AO.withContent, writeN, splice, AO.content, readN, endQ, fillA, zerosEv, appendEv, srcEv, AV.oneCell]
      refine pj_next hJ (by omega) hx (D := x.pane) (r' := G1.length + 1) rfl (by omega) (fun i hi hn => ?_) ?_ ?_ ?_ (fun i D hi hG => ?_)
      · rw [List.getElem?_set_ne (by omega), List.getElem?_set_ne (by omega), List.getElem?_append_left (by omega)]; exact gk i (by omega) (by omega)
      · rw [List.getElem?_set_self (by simp; omega)]
      · rw [List.getElem?_set_ne (by omega), List.getElem?_set_self (by simp; omega)]
      · rw [List.getElem?_set_ne (by omega), List.getElem?_set_ne (by omega)]; simp [paV, ND.pane]
      · have hil := (List.getElem?_eq_some_iff.1 hG).1
        rw [List.getElem?_set_ne (by omega), List.getElem?_set_ne (by omega), List.getElem?_append_left (by omega), gk i hil (by omega)]; exact hG
    · have gv : G1[vc]? = _ := (gk _ (by omega) (by omega)).trans hv
      have hrl := (List.getElem?_eq_some_iff.1 hrow).1
      have fv : ∀ X : AH, (G1 ++ X)[vc]? = _ := fun X => get_app gv
      have fvr : ∀ X Y : AH, ((G1 ++ X).set r .dead ++ Y)[vc]? = _ := fun X Y => get_app ((List.getElem?_set_ne (by omega)).trans (fv X))
      have fbr : ∀ X Y : AH, ((G1 ++ X).set r .dead ++ Y)[H1.length + 1]? = _ := fun X Y => get_app ((List.getElem?_set_ne (by omega)).trans (fb X))
      have fs : ∀ (X Y : AH) o, (((G1 ++ X).set r .dead ++ Y).set vc o)[H1.length + 1]? = _ := fun X Y o => (List.getElem?_set_ne (by omega)).trans (fbr X Y)
      have fw : ∀ (X Y : AH) o, (((G1 ++ X).set r .dead ++ Y).set vc o)[vc]? = some o := fun X Y o => List.getElem?_set_self (by simp; omega)
      have gr : G1[r]? = _ := (gk _ (by omega) (by omega)).trans hrow
      have fr : ∀ X : AH, (G1 ++ X)[r]? = _ := fun X => get_app gr
      have hzl := paV_len ((lv N).take k)
      have htl : ((lv N).take k).length = k := by rw [List.length_take]; omega
      rw [htl] at hzl
      have hcap : (k + 1) * 24 ≤ 140737488355328 := by omega
      have hno : ¬ (k + 1) * 3 ≤ k * 3 := by omega
      have htk : List.take (k * 3) (paV ((lv N).take k)) = paV ((lv N).take k) := List.take_of_length_le (by omega)
      simp [gx, fx, fb, fs, fw, gv, fv, AO.withContent, writeN, splice, AO.content, readN, endQ, fillA, zerosEv, appendEv, srcEv, AV.oneCell, fr, fvr, fbr, hzl, hcap, hno, htk, k100]
      refine pj_next hJ (by omega) hx (D := x.pane) (r' := G1.length + 1) rfl (by omega) (fun i hi hn => ?_) ?_ ?_ ?_ (fun i D hi hG => ?_)
      · rw [List.getElem?_set_ne (by omega), List.getElem?_set_ne (by omega), List.getElem?_append_left (by simp; omega), List.getElem?_set_ne (by omega), List.getElem?_append_left (by omega)]; exact gk i (by omega) (by omega)
      · rw [List.getElem?_set_self (by simp; omega)]
      · rw [List.getElem?_set_ne (by omega), List.getElem?_set_self (by simp; omega)]
      · rw [List.getElem?_set_ne (by omega), List.getElem?_set_ne (by omega)]; simp [ND.pane]
      · have hil := (List.getElem?_eq_some_iff.1 hG).1
        have hir : i ≠ r := fun e => by rw [e, hrow] at hG; cases hG
        rw [List.getElem?_set_ne (by omega), List.getElem?_set_ne (by omega), List.getElem?_append_left (by simp; omega), List.getElem?_set_ne (by omega), List.getElem?_append_left (by omega), gk i hil (by omega)]; exact hG
  · rintro v G hJ
    have hl := (List.getElem?_eq_some_iff.1 hJ.hl).1
    refine .inl ⟨by simpa using hJ.hl, ?_⟩
    rcases hJ.hv with ⟨h0, hv⟩ | ⟨hk0, r, hr, hv, hrow⟩
    · omega
    · have hd := hJ.hd
      have hr1 : G[H.length]? = _ := (hJ.old _ (by omega) (by omega)).trans hr0
      have p1 : (G.set (H1.length + 1) .dead)[vc]? = _ := (List.getElem?_set_ne (by omega)).trans hv
      have p2 : (G.set (H1.length + 1) .dead)[H.length]? = _ := (List.getElem?_set_ne (by omega)).trans hr1
      have p3 : ∀ o, ((G.set (H1.length + 1) .dead).set H.length o)[H.length]? = some o := fun o => List.getElem?_set_self (by simp; omega)
      have p4 : ∀ o, ((G.set (H1.length + 1) .dead).set H.length o)[H1.length]? = _ := fun o => (List.getElem?_set_ne (by omega)).trans ((List.getElem?_set_ne (by omega)).trans hd)
      have p5 : ∀ o, (((G.set (H1.length + 1) .dead).set H.length o).set H1.length .dead)[H.length]? = some o := fun o => (List.getElem?_set_ne (by omega)).trans (p3 o)
      simp [p1, p2, p3, p4, p5, AO.content, AO.withContent, writeN, splice]
      refine ⟨fun i hi => ?_, r, by omega, rfl, ?_⟩
      · rw [List.getElem?_set_ne (by omega), List.getElem?_set_ne (by omega), List.getElem?_set_ne (by omega), hJ.old i (by omega) (by omega)]; exact hold i (by omega)
      · rw [List.getElem?_set_ne (by omega), List.getElem?_set_ne (by omega), List.getElem?_set_ne (by omega)]
        rw [List.take_length] at hrow
        exact hrow
end Go.Proofs.Ytffmpomidfickaa.Tr
