/- One pane alone: the walk. -/
import Derived.Test.YtbcfhiohdamcjaaGeZoom
namespace Go.Proofs.Ytbcfhiohdamcjaa.Ge
open Go Go.RowKit Am Tr
set_option maxRecDepth 100000
set_option maxHeartbeats 1000000
set_option linter.unusedSimpArgs false
set_option linter.unusedVariables false
attribute [-simp] Am.binEv Am.intBin Am.read1
attribute [local simp] binEv_lss binEv_leq binEv_gtr binEv_geq binEv_eql binEv_neq binEv_add binEv_sub binEv_mul read1_ro read1_mu
variable {R : Ro}
def RE.cut (z : RE) : RE := if z.empty then ⟨z.x, z.y, 0, 0⟩ else z
theorem RE.cut_x (z : RE) : z.cut.x = z.x := by unfold RE.cut; split <;> rfl
theorem RE.cut_y (z : RE) : z.cut.y = z.y := by unfold RE.cut; split <;> rfl
def rectOf (z : RE) (p : PA) (x : ND) : RE := if x.pa = p then z else ⟨z.x, z.y, 0, 0⟩
def spotZ (z : RE) (p : PA) (x : ND) : List AV := x.pane ++ (rectOf z p x).cells
def zoomV (z : RE) (p : PA) : List ND → List AV
  | [] => []
  | x :: l => spotZ z p x ++ zoomV z p l
theorem zoomV_len (z : RE) (p : PA) : ∀ l, (zoomV z p l).length = l.length * 7
  | [] => rfl
  | x :: l => by simp [zoomV, spotZ, ND.pane, RE.cells, zoomV_len z p l]; omega
theorem zoomV_app (z : RE) (p : PA) (x : ND) : ∀ l, zoomV z p (l ++ [x]) = zoomV z p l ++ spotZ z p x
  | [] => by simp [zoomV]
  | y :: l => by simp [zoomV, zoomV_app z p x l]
theorem renL_app_some {A B : List AV} (ha : (renL [] A).isSome = true) (hb : (renL [] B).isSome = true) : (renL [] (A ++ B)).isSome = true := by
  obtain ⟨a, ha⟩ := Option.isSome_iff_exists.1 ha
  obtain ⟨b, hb⟩ := Option.isSome_iff_exists.1 hb
  rw [renL_append ha hb]; rfl
theorem zoomV_ren (z : RE) (p : PA) : ∀ l, (renL [] (zoomV z p l)).isSome = true
  | [] => rfl
  | x :: l => renL_app_some (by simp [spotZ, ND.pane, RE.cells, renL, ren]) (zoomV_ren z p l)
theorem take_succ {α : Type} {l : List α} {k : Nat} {x : α} (h : l[k]? = some x) : l.take (k + 1) = l.take k ++ [x] := by rw [List.take_add_one, h, Option.toList_some]
/-- What the rounds hold. -/
structure ZJ (H : AH) (rb : Nat) (OL : LoopState → Option Code → AO) (p : PA) (z : RE) (L : List ND) (k : Nat) (G : AH) : Prop where
  old : ∀ i, i < H.length → G[i]? = H[i]?
  hp : G[H.length]? = some (.cells p.cells 32)
  hz : G[H.length + 1]? = some (.cells z.cells 29)
  hd : G[H.length + 4]? = some (.obj rb (.deferred (some [])) [] [])
  hl : G[H.length + 5]? = some (OL .ready none)
  hv : (k = 0 ∧ G[H.length + 2]? = some (.cells [.nilslice] 22)) ∨ (0 < k ∧ ∃ r, H.length + 6 ≤ r ∧ G[H.length + 2]? = some (.cells [.slice (.mu r) 0 k (.opn 0)] 22) ∧ G[r]? = some (.row (zoomV z p (L.take k)) 36 7))
theorem ZJ.app {H : AH} {rb : Nat} {OL : LoopState → Option Code → AO} {p : PA} {z : RE} {L : List ND} {k : Nat} {G : AH} (h : ZJ H rb OL p z L k G) (X : AH) : ZJ H rb OL p z L k (G ++ X) := by
  refine ⟨fun i hi => ?_, get_app h.hp, get_app h.hz, get_app h.hd, get_app h.hl, ?_⟩
  · rw [List.getElem?_append_left]
    · exact h.old i hi
    · have := (List.getElem?_eq_some_iff.1 h.hp).1; omega
  · rcases h.hv with ⟨h0, h1⟩ | ⟨h0, r, h1, h2, h3⟩
    · exact .inl ⟨h0, get_app h1⟩
    · exact .inr ⟨h0, r, h1, get_app h2, get_app h3⟩
theorem zj_next {H : AH} {rb : Nat} {OL : LoopState → Option Code → AO} {p : PA} {z : RE} {L : List ND} {k : Nat} {G F D : List _} {x : ND} {r' : Nat} (h : ZJ H rb OL p z L k G) (hx : L[k]? = some x) (hD : D = spotZ z p x) (hr' : H.length + 6 ≤ r')
    (hk : ∀ i, i < H.length + 5 → i ≠ H.length + 2 → F[i]? = G[i]?) (hl : F[H.length + 4 + 1]? = some (OL .ready none)) (hc : F[H.length + 2]? = some (.cells [.slice (.mu r') 0 (k + 1) (.opn 0)] 22)) (hrow : F[r']? = some (.row (zoomV z p (L.take k) ++ D) 36 7))
    (hrest : ∀ (i : Nat) (D : List AV), H.length + 6 ≤ i → G[i]? = some (AO.row D 55 7) → F[i]? = some (AO.row D 55 7)) :
    (∀ (r : Nat) (D : List AV), H.length + 6 ≤ r → G[r]? = some (AO.row D 55 7) → F[r]? = some (AO.row D 55 7)) ∧ ZJ H rb OL p z L (k + 1) F := by
  refine ⟨fun r D => hrest r D, fun i hi => ?_, ?_, ?_, ?_, hl, .inr ⟨by omega, r', hr', hc, ?_⟩⟩
  · rw [hk i (by omega) (by omega)]; exact h.old i hi
  · rw [hk _ (by omega) (by omega)]; exact h.hp
  · rw [hk _ (by omega) (by omega)]; exact h.hz
  · rw [hk _ (by omega) (by omega)]; exact h.hd
  · rw [take_succ hx, zoomV_app, ← hD]; exact hrow
theorem zoom_no {H : AH} {t j n : Nat} {cp : Cap} {C : List AV} {N : List ND} (h : Tre H t j n cp C N) (p : PA) (z : RE) (hno : (hasP p N && z.may) = false) :
    ACalls Try.prog R 12 [.ptr (.mu t) 0, p.av, z.av] H fun v G => G = H ∧ v = .nilslice := by
  refine ACalls.gc ?_
  refine ACalls.of_wpR Fns.ok12 (by simp [Fns.a12]) ?_
  have h1 := h.app [.cells p.cells 32, .cells z.cells 29]
  have h2 := has_ok (R := R) h1 p
  have h3 := may_ok (R := R) z (H ++ [.cells p.cells 32, .cells z.cells 29])
  simp [Fns.a12, PA.av, RE.av, PA.cells, RE.cells]
  simp only [PA.av, PA.cells, RE.av, RE.cells] at h2 h3
  refine h2.mono ?_
  rintro v G ⟨rfl, rfl⟩
  cases hh : hasP p N with
  | false => simp [ren]
  | true =>
    simp [AO.content, readN]
    refine h3.mono ?_
    rintro v G ⟨rfl, rfl⟩
    rw [hh] at hno
    simp at hno
    simp [hno, ren]
theorem zoom_ok {H : AH} {t j n : Nat} {cp : Cap} {C : List AV} {N : List ND} (h : Tre H t j n cp C N) (p : PA) (z : RE) (hh : hasP p N = true) (hm : z.may = true) :
    ACalls Try.prog R 12 [.ptr (.mu t) 0, p.av, z.av] H fun v G => v = .slice (.mu H.length) 0 (lv N).length (.opn 0) ∧ G = H ++ [.row (zoomV z.cut p (lv N)) 36 7] := by
  refine ACalls.pickNew (zoomV_ren _ _ _) ?_
  refine ACalls.of_wpR Fns.ok12 (by simp [Fns.a12]) ?_
  have h1 := h.app [.cells p.cells 32, .cells z.cells 29]
  have h2 := has_ok (R := R) h1 p
  have h3 := may_ok (R := R) z (H ++ [.cells p.cells 32, .cells z.cells 29])
  have h4 := empty_ok (R := R) z (H ++ [.cells p.cells 32, .cells z.cells 29])
  simp [Fns.a12, PA.av, RE.av, PA.cells, RE.cells]
  simp only [PA.av, PA.cells, RE.av, RE.cells] at h2 h3 h4
  refine h2.mono ?_
  rintro v G ⟨rfl, rfl⟩
  simp [hh, AO.content, readN]
  refine h3.mono ?_
  rintro v G ⟨rfl, rfl⟩
  simp [hm]
  refine h4.mono ?_
  rintro v G ⟨rfl, rfl⟩
  have hz : z.cut.cells = if z.empty then [.int .i64 z.x, .int .i64 z.y, .int .i64 0, .int .i64 0] else z.cells := by unfold RE.cut; split <;> rfl
  have hjl : j < H.length := by
    have hj := h.hj
    cases hg : H[j]? with
    | none => rw [hg] at hj; cases hj
    | some o => exact (List.getElem?_eq_some_iff.1 hg).1
  have hjH : ∀ X : AH, ((H ++ X)[j]?).bind AO.content = some C := fun X => by rw [List.getElem?_append_left hjl]; exact h.hj
  have hlen : ∀ i, (lv (N.take i)).length ≤ 1000 := fun i => by
    unfold lv
    refine Nat.le_trans (List.length_filter_le ..) ?_
    have := h.hn
    have := h.le
    rw [List.length_take]; omega
  have hpos : 0 < (lv N).length := by
    simp only [hasP, decide_eq_true_eq, idx] at hh
    split at hh
    · rename_i hlt
      rw [List.findIdx_lt_length] at hlt
      obtain ⟨x, hx, hxl⟩ := hlt
      refine List.length_pos_of_mem (a := x) ?_
      unfold lv
      rw [List.mem_filter]
      simp only [isLeaf, Bool.and_eq_true] at hxl
      exact ⟨hx, hxl.1⟩
    · exact absurd hh (by decide)
  cases he : z.empty
  all_goals rw [he] at hz
  all_goals simp at hz
  all_goals simp [AO.withContent, AO.content, splice, writeN]
  all_goals refine (panes_ok _ _ rfl rfl).mono ?_
  all_goals rintro v H1 ⟨rfl, rfl⟩
  all_goals simp
  all_goals refine AWpR.rangeF (gf := 38) (cap := [.ptr (.mu (H.length + 3)) 0]) (by simp) rfl ?_
  all_goals intro rb OL hY
  all_goals refine (iter_ok (t := t) (j := j) (n := n) (cp := cp) (C := C) (N := N) (ZJ H rb OL p z.cut (lv N)) (by simp) (by rw [List.append_assoc]; exact get_app h.ht) (by rw [List.append_assoc]; exact hjH _) h.hc h.hn h.pos h.le (fun k G X hz => hz.app X) ?_ ?_).mono ?_
  case false.refine_1 | true.refine_1 =>
    exact ⟨fun i hi => by simp [List.getElem?_append_left hi], by simp [PA.cells], by rw [hz]; simp [RE.cells], by simp, by simp, .inl ⟨rfl, by simp⟩⟩
  case false.refine_2 | true.refine_2 =>
    intro k x G hx hJ
    have hk : k + 1 ≤ 1000 := by
      have := (List.getElem?_eq_some_iff.1 hx).1
      have := hlen n
      rw [← h.hn, List.take_length] at this
      omega
    have hl := (List.getElem?_eq_some_iff.1 hJ.hl).1
    refine hY _ _ _ rfl (by simpa using hJ.hl) ?_
    unfold RoundW
    refine wpR_sound _ ?_
    have n1 : ¬ H.length + 4 + 1 = H.length := by omega
    have n2 : ¬ H.length + 4 + 1 = H.length + 1 := by omega
    have n3 : ¬ H.length + 4 + 1 = H.length + 2 := by omega
    have n4 : ¬ H.length + 4 + 1 = H.length + 4 := by omega
    have fl : ∀ X : AH, (G ++ X)[H.length + 4 + 1]? = some (OL .ready none) := fun X => get_app hJ.hl
    simp [putArgs, fl, AO.withContent, writeN, splice, AO.content, ND.pane]
    refine wpR_sound _ ?_
    obtain ⟨G1, hG1⟩ : ∃ G1, G1 = (G ++ [AO.cells [.int .i64 x.a, .int .i64 x.b, .int .i64 x.c] 32]).set (H.length + 4 + 1) (OL .busy none) := ⟨_, rfl⟩
    have gl : G1.length = G.length + 1 := by rw [hG1]; simp
    have gk : ∀ i, i < G.length → i ≠ H.length + 5 → G1[i]? = G[i]? := fun i hi hn => by rw [hG1, List.getElem?_set_ne (by omega), List.getElem?_append_left hi]
    have gx : G1[G.length]? = some (.cells [.int .i64 x.a, .int .i64 x.b, .int .i64 x.c] 32) := by rw [hG1, List.getElem?_set_ne (by omega)]; simp
    have gb : G1[H.length + 4 + 1]? = some (OL .busy none) := by rw [hG1, List.getElem?_set_self (by simp; omega)]
    have gp : G1[H.length]? = some (.cells [.int .i64 p.a, .int .i64 p.b, .int .i64 p.c] 32) := by rw [gk _ (by omega) (by omega)]; exact hJ.hp
    have gz : G1[H.length + 1]? = some (.cells [.int .i64 z.cut.x, .int .i64 z.cut.y, .int .i64 z.cut.w, .int .i64 z.cut.h] 29) := by rw [gk _ (by omega) (by omega)]; exact hJ.hz
    rw [← hG1]
    have he := eqP
    simp only [fieldsP] at he
    have fp : ∀ X : AH, (G1 ++ X)[H.length]? = _ := fun X => get_app gp
    have fz : ∀ X : AH, (G1 ++ X)[H.length + 1]? = _ := fun X => get_app gz
    have fx : ∀ X : AH, (G1 ++ X)[G.length]? = _ := fun X => get_app gx
    have fb : ∀ X : AH, (G1 ++ X)[H.length + 4 + 1]? = _ := fun X => get_app gb
    rcases hJ.hv with ⟨rfl, hv⟩ | ⟨hk0, r, hr, hv, hrow⟩
    · have gv : G1[H.length + 2]? = _ := (gk _ (by omega) (by omega)).trans hv
      have fv : ∀ X : AH, (G1 ++ X)[H.length + 2]? = _ := fun X => get_app gv
      by_cases hxp : x.a = p.a ∧ x.b = p.b ∧ x.c = p.c
      · have hxq : x.pa = p := by rw [PA.eq]; exact hxp
        simp [-eqEv, gx, gz, gp, fp, fz, fx, fb, fv, he, hxp, AO.withContent, writeN, splice, AO.content, readN, endQ, fillA, zerosEv, appendEv, srcEv, AV.oneCell]
        refine zj_next hJ hx (D := spotZ z.cut p x) (r' := G1.length + 2) rfl (by omega) (fun i hi hn => ?_) ?_ ?_ ?_ (fun i D hi hG => ?_)
        · rw [List.getElem?_set_ne (by omega), List.getElem?_set_ne (by omega), List.getElem?_append_left (by omega)]; exact gk i (by omega) (by omega)
        · rw [List.getElem?_set_self (by simp; omega)]
        · rw [List.getElem?_set_ne (by omega), List.getElem?_set_self (by simp; omega)]
        · rw [List.getElem?_set_ne (by omega), List.getElem?_set_ne (by omega)]; simp [zoomV, spotZ, rectOf, hxq, ND.pane, RE.cells, hxp]
        · have hil := (List.getElem?_eq_some_iff.1 hG).1
          rw [List.getElem?_set_ne (by omega), List.getElem?_set_ne (by omega), List.getElem?_append_left (by omega), gk i hil (by omega)]; exact hG
      · have hxq : ¬ x.pa = p := by rw [PA.eq]; exact hxp
        simp [-eqEv, gx, gz, gp, fp, fz, fx, fb, fv, he, hxp, AO.withContent, writeN, splice, AO.content, readN, endQ, fillA, zerosEv, appendEv, srcEv, AV.oneCell]
        refine zj_next hJ hx (D := spotZ z.cut p x) (r' := G1.length + 2) rfl (by omega) (fun i hi hn => ?_) ?_ ?_ ?_ (fun i D hi hG => ?_)
        · rw [List.getElem?_set_ne (by omega), List.getElem?_set_ne (by omega), List.getElem?_append_left (by omega)]; exact gk i (by omega) (by omega)
        · rw [List.getElem?_set_self (by simp; omega)]
        · rw [List.getElem?_set_ne (by omega), List.getElem?_set_self (by simp; omega)]
        · rw [List.getElem?_set_ne (by omega), List.getElem?_set_ne (by omega)]; simp [zoomV, spotZ, rectOf, hxq, ND.pane, RE.cells, hxp]
        · have hil := (List.getElem?_eq_some_iff.1 hG).1
          rw [List.getElem?_set_ne (by omega), List.getElem?_set_ne (by omega), List.getElem?_append_left (by omega), gk i hil (by omega)]; exact hG
    · have gv : G1[H.length + 2]? = _ := (gk _ (by omega) (by omega)).trans hv
      have hrl := (List.getElem?_eq_some_iff.1 hrow).1
      have fv : ∀ X : AH, (G1 ++ X)[H.length + 2]? = _ := fun X => get_app gv
      have fvr : ∀ X Y : AH, ((G1 ++ X).set r .dead ++ Y)[H.length + 2]? = _ := fun X Y => get_app ((List.getElem?_set_ne (by omega)).trans (fv X))
      have fbr : ∀ X Y : AH, ((G1 ++ X).set r .dead ++ Y)[H.length + 4 + 1]? = _ := fun X Y => get_app ((List.getElem?_set_ne (by omega)).trans (fb X))
      have gr : G1[r]? = _ := (gk _ (by omega) (by omega)).trans hrow
      have fr : ∀ X : AH, (G1 ++ X)[r]? = _ := fun X => get_app gr
      have hzl := zoomV_len z.cut p ((lv N).take k)
      have hkl := (List.getElem?_eq_some_iff.1 hx).1
      have htl : ((lv N).take k).length = k := by rw [List.length_take]; omega
      rw [htl] at hzl
      have hcap : (k + 1) * 56 ≤ 140737488355328 := by omega
      have hno : ¬ (k + 1) * 7 ≤ k * 7 := by omega
      have htk : List.take (k * 7) (zoomV z.cut p ((lv N).take k)) = zoomV z.cut p ((lv N).take k) := List.take_of_length_le (by omega)
      by_cases hxp : x.a = p.a ∧ x.b = p.b ∧ x.c = p.c
      · have hxq : x.pa = p := by rw [PA.eq]; exact hxp
        simp [-eqEv, gx, gz, gp, fp, fz, fx, fb, fv, he, hxp, AO.withContent, writeN, splice, AO.content, readN, endQ, fillA, zerosEv, appendEv, srcEv, AV.oneCell, fr, fvr, fbr, hzl, hcap, hno, htk]
        refine zj_next hJ hx (D := spotZ z.cut p x) (r' := G1.length + 2) rfl (by omega) (fun i hi hn => ?_) ?_ ?_ ?_ (fun i D hi hG => ?_)
        · rw [List.getElem?_set_ne (by omega), List.getElem?_set_ne (by omega), List.getElem?_append_left (by simp; omega), List.getElem?_set_ne (by omega), List.getElem?_append_left (by omega)]; exact gk i (by omega) (by omega)
        · rw [List.getElem?_set_self (by simp; omega)]
        · rw [List.getElem?_set_ne (by omega), List.getElem?_set_self (by simp; omega)]
        · rw [List.getElem?_set_ne (by omega), List.getElem?_set_ne (by omega)]; simp [spotZ, rectOf, hxq, ND.pane, RE.cells, hxp]
        · have hil := (List.getElem?_eq_some_iff.1 hG).1
          have hir : i ≠ r := fun e => by rw [e, hrow] at hG; cases hG
          rw [List.getElem?_set_ne (by omega), List.getElem?_set_ne (by omega), List.getElem?_append_left (by simp; omega), List.getElem?_set_ne (by omega), List.getElem?_append_left (by omega), gk i hil (by omega)]; exact hG
      · have hxq : ¬ x.pa = p := by rw [PA.eq]; exact hxp
        simp [-eqEv, gx, gz, gp, fp, fz, fx, fb, fv, he, hxp, AO.withContent, writeN, splice, AO.content, readN, endQ, fillA, zerosEv, appendEv, srcEv, AV.oneCell, fr, fvr, fbr, hzl, hcap, hno, htk]
        refine zj_next hJ hx (D := spotZ z.cut p x) (r' := G1.length + 2) rfl (by omega) (fun i hi hn => ?_) ?_ ?_ ?_ (fun i D hi hG => ?_)
        · rw [List.getElem?_set_ne (by omega), List.getElem?_set_ne (by omega), List.getElem?_append_left (by simp; omega), List.getElem?_set_ne (by omega), List.getElem?_append_left (by omega)]; exact gk i (by omega) (by omega)
        · rw [List.getElem?_set_self (by simp; omega)]
        · rw [List.getElem?_set_ne (by omega), List.getElem?_set_self (by simp; omega)]
        · rw [List.getElem?_set_ne (by omega), List.getElem?_set_ne (by omega)]; simp [spotZ, rectOf, hxq, ND.pane, RE.cells, hxp]
        · have hil := (List.getElem?_eq_some_iff.1 hG).1
          have hir : i ≠ r := fun e => by rw [e, hrow] at hG; cases hG
          rw [List.getElem?_set_ne (by omega), List.getElem?_set_ne (by omega), List.getElem?_append_left (by simp; omega), List.getElem?_set_ne (by omega), List.getElem?_append_left (by omega), gk i hil (by omega)]; exact hG
  case false.refine_3 | true.refine_3 =>
    rintro v G hJ
    have hl := (List.getElem?_eq_some_iff.1 hJ.hl).1
    have n3 : ¬ H.length + 4 + 1 = H.length + 2 := by omega
    have n4 : ¬ H.length + 4 + 1 = H.length + 4 := by omega
    refine .inl ⟨by simpa using hJ.hl, ?_⟩
    rcases hJ.hv with ⟨h0, hv⟩ | ⟨hk0, r, hr, hv, hrow⟩
    · omega
    · have hd := hJ.hd
      simp [hv, hd, hl, List.getElem?_set, n3, n4, AO.content]
      refine ⟨fun i hi => ?_, r, by omega, rfl, ?_⟩
      · rw [if_neg (by omega), if_neg (by omega)]; exact hJ.old i hi
      · rw [if_neg (by omega), if_neg (by omega)]
        rw [List.take_length] at hrow
        exact hrow
end Go.Proofs.Ytbcfhiohdamcjaa.Ge
