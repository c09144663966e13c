/- A tree's panes, gathered. -/
import Derived.Test.YtffmpomidfickaaTrLeaf
namespace Go.Proofs.Ytffmpomidfickaa.Tr
open Go Go.RowKit Am
set_option maxRecDepth 100000
set_option maxHeartbeats 1000000
set_option linter.unusedSimpArgs false
set_option linter.unusedVariables false
attribute [-simp] Am.binEv Am.intBin Am.read1
attribute [local simp] binEv_lss binEv_leq binEv_gtr binEv_geq binEv_eql binEv_neq binEv_add binEv_sub binEv_mul read1_ro read1_mu
variable {R : Ro}
def paV : List ND → List AV
  | [] => []
  | x :: l => x.pane ++ paV l
theorem paV_len : ∀ l, (paV l).length = l.length * 3
  | [] => rfl
  | x :: l => by simp [paV, ND.pane, paV_len l]; omega
theorem paV_app (x : ND) : ∀ l, paV (l ++ [x]) = paV l ++ x.pane
  | [] => by simp [paV]
  | y :: l => by simp [paV, paV_app x l]
theorem renL_app_some {A B : List AV} (ha : (renL [] A).isSome = true) (hb : (renL [] B).isSome = true) : (renL [] (A ++ B)).isSome = true := by
  obtain ⟨a, ha⟩ := Option.isSome_iff_exists.1 ha
  obtain ⟨b, hb⟩ := Option.isSome_iff_exists.1 hb
  rw [renL_append ha hb]; rfl
theorem paV_ren : ∀ l, (renL [] (paV l)).isSome = true
  | [] => rfl
  | x :: l => renL_app_some (by simp [ND.pane, renL, ren]) (paV_ren l)
theorem take_succ {α : Type} {l : List α} {k : Nat} {x : α} (h : l[k]? = some x) : l.take (k + 1) = l.take k ++ [x] := by rw [List.take_add_one, h, Option.toList_some]
/-- What the rounds hold: the slice's cell 'vc', the record behind all that was there. -/
structure PJ (H : AH) (vc rb : Nat) (OL : LoopState → Option Code → AO) (L : List ND) (k : Nat) (G : AH) : Prop where
  old : ∀ i, i < H.length → i ≠ vc → G[i]? = H[i]?
  hd : G[H.length]? = some (.obj rb (.deferred (some [])) [] [])
  hl : G[H.length + 1]? = some (OL .ready none)
  hv : (k = 0 ∧ G[vc]? = some (.cells [.nilslice] 42)) ∨ (0 < k ∧ ∃ r, H.length + 2 ≤ r ∧ G[vc]? = some (.cells [.slice (.mu r) 0 k (.opn 0)] 42) ∧ G[r]? = some (.row (paV (L.take k)) 25 3))
theorem PJ.app {H : AH} {vc rb : Nat} {OL : LoopState → Option Code → AO} {L : List ND} {k : Nat} {G : AH} (h : PJ H vc rb OL L k G) (X : AH) : PJ H vc rb OL L k (G ++ X) := by
  refine ⟨fun i hi hn => ?_, get_app h.hd, get_app h.hl, ?_⟩
  · rw [List.getElem?_append_left]
    · exact h.old i hi hn
    · have := (List.getElem?_eq_some_iff.1 h.hd).1; omega
  · rcases h.hv with ⟨h0, h1⟩ | ⟨h0, r, h1, h2, h3⟩
    · exact .inl ⟨h0, get_app h1⟩
    · exact .inr ⟨h0, r, h1, get_app h2, get_app h3⟩
theorem pj_next {H : AH} {vc rb : Nat} {OL : LoopState → Option Code → AO} {L : List ND} {k : Nat} {G F D : List _} {x : ND} {r' : Nat} (h : PJ H vc rb OL L k G) (h1 : vc < H.length) (hx : L[k]? = some x) (hD : D = x.pane) (hr' : H.length + 2 ≤ r')
    (hk : ∀ i, i < H.length + 1 → i ≠ vc → F[i]? = G[i]?) (hl : F[H.length + 1]? = some (OL .ready none)) (hc : F[vc]? = some (.cells [.slice (.mu r') 0 (k + 1) (.opn 0)] 42)) (hrow : F[r']? = some (.row (paV (L.take k) ++ D) 25 3))
    (hrest : ∀ (i : Nat) (D : List AV), H.length + 2 ≤ i → G[i]? = some (AO.row D 54 7) → F[i]? = some (AO.row D 54 7)) :
    (∀ (r : Nat) (D : List AV), H.length + 2 ≤ r → G[r]? = some (AO.row D 54 7) → F[r]? = some (AO.row D 54 7)) ∧ PJ H vc rb OL L (k + 1) F := by
  refine ⟨fun r D => hrest r D, fun i hi hn => ?_, ?_, hl, .inr ⟨by omega, r', hr', hc, ?_⟩⟩
  · rw [hk i (by omega) hn]; exact h.old i hi hn
  · rw [hk _ (by omega) (by omega)]; exact h.hd
  · rw [take_succ hx, paV_app, ← hD]; exact hrow
theorem Tre.jlt {H : AH} {t j n : Nat} {cp : Cap} {C : List AV} {N : List ND} (h : Tre H t j n cp C N) : j < H.length := by
  have hj := h.hj
  cases hg : H[j]? with
  | none => rw [hg] at hj; cases hj
  | some o => exact (List.getElem?_eq_some_iff.1 hg).1
theorem Tre.lvle {H : AH} {t j n : Nat} {cp : Cap} {C : List AV} {N : List ND} (h : Tre H t j n cp C N) : (lv N).length ≤ 1000 := by
  unfold lv
  refine Nat.le_trans (List.length_filter_le ..) ?_
  have := h.hn
  have := h.le
  omega
theorem aseq_ok {H : AH} {t j n q : Nat} {cp : Cap} {C : List AV} {N : List ND} (h : Tre H t j n cp C N) (hq : H[q]? = some (.cells [.ptr (.mu t) 0] 22)) (hpos : 0 < (lv N).length) :
    ACalls Try.prog R 53 [.nilslice, .fn (.func 43) [] [.ptr (.mu q) 0]] H fun v G => v = .slice (.mu H.length) 0 (lv N).length (.opn 0) ∧ G = H ++ [.row (paV (lv N)) 25 3] := by
  refine ACalls.pickNew (paV_ren _) ?_
  refine ACalls.of_wpR Fns.ok53 (by simp [Fns.a53]) ?_
  have hlen := h.lvle
  simp [Fns.a53]
  have hv0 : (H ++ [AO.cells [AV.nilslice] 42])[H.length]? = some (.cells [.nilslice] 42) := by simp
  have hold : ∀ i, i < H.length → (H ++ [AO.cells [AV.nilslice] 42])[i]? = H[i]? := fun i hi => List.getElem?_append_left hi
  have hT := h.app [AO.cells [AV.nilslice] 42]
  have hq1 := get_app (X := [AO.cells [AV.nilslice] 42]) hq
  have hlt : H.length < (H ++ [AO.cells [AV.nilslice] 42]).length := by simp
  generalize H ++ [AO.cells [AV.nilslice] 42] = H1 at hv0 hold hT hq1 hlt
  obtain ⟨vc, hvc⟩ : ∃ vc, vc = H.length := ⟨_, rfl⟩
  rw [← hvc] at hv0 hlt ⊢
  refine AWpR.rangeF (gf := 43) (cap := [.ptr (.mu q) 0]) (by simp) rfl ?_
  intro rb OL hY
  have m1 : ¬ H1.length + 1 = vc := by omega
  have m2 : ¬ H1.length = vc := by omega
  have m3 : ¬ vc = H1.length + 1 := by omega
  have m4 : ¬ vc = H1.length := by omega
  refine (iter_ok (t := t) (j := j) (n := n) (cp := cp) (C := C) (N := N) (PJ H1 vc rb OL (lv N)) (get_app hq1) (get_app hT.ht) (hT.app _).hj h.hc h.hn h.pos h.le (fun k G X hz => hz.app X) ?_ ?_).mono ?_
  · exact ⟨fun i hi hn => by simp [List.getElem?_append_left hi], by simp, by simp, .inl ⟨rfl, get_app hv0⟩⟩
  · intro k x G hx hJ
    have hkl := (List.getElem?_eq_some_iff.1 hx).1
    have hl := (List.getElem?_eq_some_iff.1 hJ.hl).1
    refine hY _ _ _ rfl (by simpa using hJ.hl) ?_
    unfold RoundW
    refine wpR_sound _ ?_
    have fl : ∀ X : AH, (G ++ X)[H1.length + 1]? = some (OL .ready none) := fun X => get_app hJ.hl
    simp [putArgs, fl, AO.withContent, writeN, splice, AO.content, ND.pane]
    refine wpR_sound _ ?_
    obtain ⟨G1, hG1⟩ : ∃ G1, G1 = (G ++ [AO.cells [.int .i64 x.a, .int .i64 x.b, .int .i64 x.c] 25]).set (H1.length + 1) (OL .busy none) := ⟨_, rfl⟩
    have gl : G1.length = G.length + 1 := by rw [hG1]; simp
    have gk : ∀ i, i < G.length → i ≠ H1.length + 1 → G1[i]? = G[i]? := fun i hi hn => by rw [hG1, List.getElem?_set_ne (by omega), List.getElem?_append_left hi]
    have gx : G1[G.length]? = some (.cells [.int .i64 x.a, .int .i64 x.b, .int .i64 x.c] 25) := by rw [hG1, List.getElem?_set_ne (by omega)]; simp
    have gb : G1[H1.length + 1]? = some (OL .busy none) := by rw [hG1, List.getElem?_set_self (by simp; omega)]
    rw [← hG1]
    have fx : ∀ X : AH, (G1 ++ X)[G.length]? = _ := fun X => get_app gx
    have fb : ∀ X : AH, (G1 ++ X)[H1.length + 1]? = _ := fun X => get_app gb
    rcases hJ.hv with ⟨rfl, hv⟩ | ⟨hk0, r, hr, hv, hrow⟩
    · have gv : G1[vc]? = _ := (gk _ (by omega) (by omega)).trans hv
      have fv : ∀ X : AH, (G1 ++ X)[vc]? = _ := fun X => get_app gv
      have fs : ∀ (X : AH) o, ((G1 ++ X).set vc o)[H1.length + 1]? = _ := fun X o => (List.getElem?_set_ne (by omega)).trans (fb X)
      simp [gx, fx, fb, fs, gv, fv, AO.withContent, writeN, splice, AO.content, readN, endQ, fillA, zerosEv, appendEv, srcEv, AV.oneCell]
      refine pj_next hJ (by omega) hx (D := x.pane) (r' := G1.length + 1) rfl (by omega) (fun i hi hn => ?_) ?_ ?_ ?_ (fun i D hi hG => ?_)
      · rw [List.getElem?_set_ne (by omega), List.getElem?_set_ne (by omega), List.getElem?_append_left (by omega)]; exact gk i (by omega) (by omega)
      · rw [List.getElem?_set_self (by simp; omega)]
      · rw [List.getElem?_set_ne (by omega), List.getElem?_set_self (by simp; omega)]
      · rw [List.getElem?_set_ne (by omega), List.getElem?_set_ne (by omega)]; simp [paV, ND.pane]
      · have hil := (List.getElem?_eq_some_iff.1 hG).1
        rw [List.getElem?_set_ne (by omega), List.getElem?_set_ne (by omega), List.getElem?_append_left (by omega), gk i hil (by omega)]; exact hG
    · have gv : G1[vc]? = _ := (gk _ (by omega) (by omega)).trans hv
      have hrl := (List.getElem?_eq_some_iff.1 hrow).1
      have fv : ∀ X : AH, (G1 ++ X)[vc]? = _ := fun X => get_app gv
      have fvr : ∀ X Y : AH, ((G1 ++ X).set r .dead ++ Y)[vc]? = _ := fun X Y => get_app ((List.getElem?_set_ne (by omega)).trans (fv X))
      have fbr : ∀ X Y : AH, ((G1 ++ X).set r .dead ++ Y)[H1.length + 1]? = _ := fun X Y => get_app ((List.getElem?_set_ne (by omega)).trans (fb X))
      have fs : ∀ (X Y : AH) o, (((G1 ++ X).set r .dead ++ Y).set vc o)[H1.length + 1]? = _ := fun X Y o => (List.getElem?_set_ne (by omega)).trans (fbr X Y)
      have gr : G1[r]? = _ := (gk _ (by omega) (by omega)).trans hrow
      have fr : ∀ X : AH, (G1 ++ X)[r]? = _ := fun X => get_app gr
      have hzl := paV_len ((lv N).take k)
      have htl : ((lv N).take k).length = k := by rw [List.length_take]; omega
      rw [htl] at hzl
      have hcap : (k + 1) * 24 ≤ 140737488355328 := by omega
      have hno : ¬ (k + 1) * 3 ≤ k * 3 := by omega
      have htk : List.take (k * 3) (paV ((lv N).take k)) = paV ((lv N).take k) := List.take_of_length_le (by omega)
      simp [gx, fx, fb, fs, gv, fv, AO.withContent, writeN, splice, AO.content, readN, endQ, fillA, zerosEv, appendEv, srcEv, AV.oneCell, fr, fvr, fbr, hzl, hcap, hno, htk]
      refine pj_next hJ (by omega) hx (D := x.pane) (r' := G1.length + 1) rfl (by omega) (fun i hi hn => ?_) ?_ ?_ ?_ (fun i D hi hG => ?_)
      · rw [List.getElem?_set_ne (by omega), List.getElem?_set_ne (by omega), List.getElem?_append_left (by simp; omega), List.getElem?_set_ne (by omega), List.getElem?_append_left (by omega)]; exact gk i (by omega) (by omega)
      · rw [List.getElem?_set_self (by simp; omega)]
      · rw [List.getElem?_set_ne (by omega), List.getElem?_set_self (by simp; omega)]
      · rw [List.getElem?_set_ne (by omega), List.getElem?_set_ne (by omega)]; simp [ND.pane]
      · have hil := (List.getElem?_eq_some_iff.1 hG).1
        have hir : i ≠ r := fun e => by rw [e, hrow] at hG; cases hG
        rw [List.getElem?_set_ne (by omega), List.getElem?_set_ne (by omega), List.getElem?_append_left (by simp; omega), List.getElem?_set_ne (by omega), List.getElem?_append_left (by omega), gk i hil (by omega)]; exact hG
  · rintro v G hJ
    have hl := (List.getElem?_eq_some_iff.1 hJ.hl).1
    refine .inl ⟨by simpa using hJ.hl, ?_⟩
    rcases hJ.hv with ⟨h0, hv⟩ | ⟨hk0, r, hr, hv, hrow⟩
    · omega
    · have hd := hJ.hd
      simp [hv, hd, hl, List.getElem?_set, AO.content, m1, m2, m3, m4]
      refine ⟨fun i hi => ?_, r, by omega, rfl, ?_⟩
      · rw [if_neg (by omega), if_neg (by omega), hJ.old i (by omega) (by omega)]; exact hold i (by omega)
      · rw [if_neg (by omega), if_neg (by omega)]
        rw [List.take_length] at hrow
        exact hrow
end Go.Proofs.Ytffmpomidfickaa.Tr
