/- Which columns and rows a rectangle has; what two have both: the walks. -/
import Derived.Test.YtbcfhiohdamcjaaGeZoom
namespace Go.Proofs.Ytbcfhiohdamcjaa.Ge
open Go Go.RowKit Am Tr
set_option maxRecDepth 100000
set_option linter.unusedSimpArgs false
set_option linter.unusedVariables false
attribute [-simp] Am.binEv Am.intBin Am.read1
attribute [local simp] binEv_lss binEv_leq binEv_gtr binEv_geq binEv_eql binEv_neq binEv_add binEv_sub binEv_mul read1_ro read1_mu
variable {R : Ro}
def inI (v : Int) : Prop := -9223372036854775808 ≤ v ∧ v ≤ 9223372036854775807
theorem wrap_in {v : Int} (h : inI v) : IntKind.i64.wrap v = v := by
  obtain ⟨h1, h2⟩ := h
  simp only [IntKind.wrap, IntKind.bits, IntKind.signed]; simp; omega
structure RE.wf (z : RE) : Prop where
  x : inI z.x
  y : inI z.y
  w : inI z.w
  h : inI z.h
def endI (a n : Int) : Int := if 9223372036854775807 - n < a then 9223372036854775807 else a + n
theorem end_ok {a n : Int} (ha : inI a) (hn : inI n) (hp : 0 < n) (H : AH) : ACalls Try.prog R 23 [.int .i64 a, .int .i64 n] H fun v G => G = H ∧ v = .int .i64 (endI a n) := by
  unfold inI at ha hn
  have hw : IntKind.i64.wrap (9223372036854775807 - n) = 9223372036854775807 - n := wrap_in ⟨by omega, by omega⟩
  refine ACalls.of_wpE Fns.ok23 (by simp [Fns.a23]) ?_
  by_cases h1 : 9223372036854775807 - n < a
  · simp [Fns.a23, hp, hw, h1, endI]
  · have hw2 : IntKind.i64.wrap (a + n) = a + n := wrap_in ⟨by omega, by omega⟩
    simp [Fns.a23, hp, hw, hw2, h1, endI]
def inR (z : RE) (x y : Int) : Bool := decide (0 < z.w) && (decide (0 < z.h) && (decide (z.x ≤ x) && (decide (z.y ≤ y) && (decide (x < endI z.x z.w) && decide (y < endI z.y z.h)))))
theorem in_ok {z : RE} (hz : z.wf) (x y : Int) (H : AH) : ACalls Try.prog R 13 [z.av, .int .i64 x, .int .i64 y] H fun v G => G = H ∧ v = .bool (inR z x y) := by
  refine ACalls.gc ?_
  obtain ⟨zx, zy, zw, zh⟩ := z
  obtain ⟨h1, h2, h3, h4⟩ := hz
  simp only at h1 h2 h3 h4
  refine ACalls.of_wpE Fns.ok13 (by simp [Fns.a13]) ?_
  by_cases c1 : 0 < zw
  · by_cases c2 : 0 < zh
    · by_cases c3 : zx ≤ x
      · by_cases c4 : zy ≤ y
        · simp [Fns.a13, RE.av, RE.cells, AO.content, readN, c1, c2, c3, c4]
          refine (end_ok h1 h3 c1 _).mono ?_
          rintro v G ⟨rfl, rfl⟩
          by_cases c5 : x < endI zx zw
          · simp [c5]
            refine (end_ok h2 h4 c2 _).mono ?_
            rintro v G ⟨rfl, rfl⟩
            simp [inR, c1, c2, c3, c4, c5, ren]
          · simp [inR, c1, c2, c3, c4, c5, ren]
        · simp [Fns.a13, RE.av, RE.cells, AO.content, readN, inR, c1, c2, c3, c4, ren]
      · simp [Fns.a13, RE.av, RE.cells, AO.content, readN, inR, c1, c2, c3, ren]
    · simp [Fns.a13, RE.av, RE.cells, AO.content, readN, inR, c1, c2, ren]
  · simp [Fns.a13, RE.av, RE.cells, AO.content, readN, inR, c1, ren]
def RE.nil : RE := ⟨0, 0, 0, 0⟩
def mx (a b : Int) : Int := if a < b then b else a
def mn (a b : Int) : Int := if b < a then b else a
theorem mx_le (a b : Int) : a ≤ mx a b ∧ b ≤ mx a b ∧ (mx a b = a ∨ mx a b = b) := by unfold mx; split <;> omega
theorem mn_le (a b : Int) : mn a b ≤ a ∧ mn a b ≤ b ∧ (mn a b = a ∨ mn a b = b) := by unfold mn; split <;> omega
theorem fold_mx (a b : Int) : foldI (fun x y => if x < y then y else x) IntKind.i64 a [AV.int IntKind.i64 b] = some (.int .i64 (mx a b)) := by simp [foldI, mx]
theorem fold_mn (a b : Int) : foldI (fun x y => if y < x then y else x) IntKind.i64 a [AV.int IntKind.i64 b] = some (.int .i64 (mn a b)) := by simp [foldI, mn]
def cropR (z w : RE) : RE :=
  if z.w ≤ 0 ∨ z.h ≤ 0 ∨ w.w ≤ 0 ∨ w.h ≤ 0 then .nil
  else if mn (endI z.x z.w) (endI w.x w.w) ≤ mx z.x w.x ∨ mn (endI z.y z.h) (endI w.y w.h) ≤ mx z.y w.y then .nil
  else ⟨mx z.x w.x, mx z.y w.y, mn (endI z.x z.w) (endI w.x w.w) - mx z.x w.x, mn (endI z.y z.h) (endI w.y w.h) - mx z.y w.y⟩
theorem endI_le {a n : Int} : endI a n ≤ a + n ∨ endI a n = 9223372036854775807 ∧ endI a n < a + n := by
  unfold endI
  split <;> omega
theorem endI_lo {a n : Int} (ha : inI a) (hp : 0 < n) : a ≤ endI a n ∧ endI a n ≤ a + n ∧ endI a n ≤ 9223372036854775807 := by
  unfold inI at ha
  unfold endI
  split <;> omega
theorem crop_ok {z w : RE} (hz : z.wf) (hw : w.wf) (H : AH) : ACalls Try.prog R 15 [z.av, w.av] H fun v G => G = H ∧ v = (cropR z w).av := by
  refine ACalls.gc ?_
  obtain ⟨zx, zy, zw, zh⟩ := z
  obtain ⟨wx, wy, ww, wh⟩ := w
  obtain ⟨h1, h2, h3, h4⟩ := hz
  obtain ⟨g1, g2, g3, g4⟩ := hw
  simp only at h1 h2 h3 h4 g1 g2 g3 g4
  refine ACalls.of_wpE Fns.ok15 (by simp [Fns.a15]) ?_
  by_cases c1 : zw ≤ 0
  · simp [Fns.a15, RE.av, RE.cells, AO.content, AO.withContent, writeN, splice, readN, fillA, c1, cropR, RE.nil, renL, ren]
  by_cases c2 : zh ≤ 0
  · simp [Fns.a15, RE.av, RE.cells, AO.content, AO.withContent, writeN, splice, readN, fillA, c1, c2, cropR, RE.nil, renL, ren]
  by_cases c3 : ww ≤ 0
  · simp [Fns.a15, RE.av, RE.cells, AO.content, AO.withContent, writeN, splice, readN, fillA, c1, c2, c3, cropR, RE.nil, renL, ren]
  by_cases c4 : wh ≤ 0
  · simp [Fns.a15, RE.av, RE.cells, AO.content, AO.withContent, writeN, splice, readN, fillA, c1, c2, c3, c4, cropR, RE.nil, renL, ren]
  simp [Fns.a15, RE.av, RE.cells, AO.content, AO.withContent, writeN, splice, readN, fillA, c1, c2, c3, c4]
  have p1 : 0 < zw := by omega
  have p2 : 0 < zh := by omega
  have p3 : 0 < ww := by omega
  have p4 : 0 < wh := by omega
  refine AWp.sched [0, 1, 2, 3, 4, 5, 6, 7, 8, 9, 10, 11] Fns.mixed (by decide +kernel) ?_
  simp [AO.content, readN, fold_mx]
  refine AWp.sched [0, 1, 2, 3, 5, 6, 7, 8, 11, 12, 13, 14, 16, 17, 18, 19, 4, 9, 10, 15, 20, 21, 22, 23] Fns.mixed (by decide +kernel) ?_
  simp [AO.content, readN]
  refine (end_ok h1 h3 p1 _).mono ?_
  rintro v G ⟨rfl, rfl⟩
  simp [recheck, AO.content, readN]
  refine (end_ok g1 g3 p3 _).mono ?_
  rintro v G ⟨rfl, rfl⟩
  simp [recheck, AO.content, readN, fold_mn]
  refine (end_ok h2 h4 p2 _).mono ?_
  rintro v G ⟨rfl, rfl⟩
  simp [recheck, AO.content, readN, fold_mn]
  refine (end_ok g2 g4 p4 _).mono ?_
  rintro v G ⟨rfl, rfl⟩
  simp [recheck, AO.content, readN, fold_mn]
  have e1 := endI_lo h1 p1
  have e2 := endI_lo h2 p2
  have e3 := endI_lo g1 p3
  have e4 := endI_lo g2 p4
  have m1 := mx_le zx wx
  have m2 := mx_le zy wy
  have m3 := mn_le (endI zx zw) (endI wx ww)
  have m4 := mn_le (endI zy zh) (endI wy wh)
  have hcr : cropR ⟨zx, zy, zw, zh⟩ ⟨wx, wy, ww, wh⟩ = if mn (endI zx zw) (endI wx ww) ≤ mx zx wx ∨ mn (endI zy zh) (endI wy wh) ≤ mx zy wy then .nil
      else ⟨mx zx wx, mx zy wy, mn (endI zx zw) (endI wx ww) - mx zx wx, mn (endI zy zh) (endI wy wh) - mx zy wy⟩ := by
    unfold cropR; rw [if_neg (by simp only; omega)]
  rw [hcr]
  generalize mn (endI zx zw) (endI wx ww) = r at *
  generalize mn (endI zy zh) (endI wy wh) = b at *
  generalize mx zx wx = x at *
  generalize mx zy wy = y at *
  unfold inI at h1 h2 h3 h4 g1 g2 g3 g4
  by_cases c5 : r ≤ x
  · simp [c5, AO.content, AO.withContent, writeN, splice, readN, fillA, RE.nil, renL, ren]
  by_cases c6 : b ≤ y
  · simp [c5, c6, AO.content, AO.withContent, writeN, splice, readN, fillA, RE.nil, renL, ren]
  have w1 : IntKind.i64.wrap (r - x) = r - x := wrap_in ⟨by omega, by omega⟩
  have w2 : IntKind.i64.wrap (b - y) = b - y := wrap_in ⟨by omega, by omega⟩
  simp [c5, c6, w1, w2, AO.content, AO.withContent, writeN, splice, readN, fillA, RE.nil, renL, ren]
/-- What two have both, in plain words. -/
theorem nil_wf : RE.nil.wf := ⟨by simp [inI, RE.nil], by simp [inI, RE.nil], by simp [inI, RE.nil], by simp [inI, RE.nil]⟩
theorem crop_wf {z w : RE} (hz : z.wf) (hw : w.wf) : (cropR z w).wf := by
  obtain ⟨zx, zy, zw, zh⟩ := z
  obtain ⟨wx, wy, ww, wh⟩ := w
  obtain ⟨h1, h2, h3, h4⟩ := hz
  obtain ⟨g1, g2, g3, g4⟩ := hw
  unfold cropR
  split
  · exact nil_wf
  · rename_i c
    split
    · exact nil_wf
    · rename_i c'
      simp only at h1 h2 h3 h4 g1 g2 g3 g4 c c'
      have e1 := endI_lo h1 (n := zw) (by omega)
      have e2 := endI_lo h2 (n := zh) (by omega)
      have e3 := endI_lo g1 (n := ww) (by omega)
      have e4 := endI_lo g2 (n := wh) (by omega)
      have m1 := mx_le zx wx
      have m2 := mx_le zy wy
      have m3 := mn_le (endI zx zw) (endI wx ww)
      have m4 := mn_le (endI zy zh) (endI wy wh)
      unfold inI at h1 h2 h3 h4 g1 g2 g3 g4
      refine ⟨?_, ?_, ?_, ?_⟩ <;> simp only [inI] <;> omega
theorem crop_comm (z w : RE) : cropR z w = cropR w z := by
  have m1 : mx z.x w.x = mx w.x z.x := by unfold mx; split <;> split <;> omega
  have m2 : mx z.y w.y = mx w.y z.y := by unfold mx; split <;> split <;> omega
  have m3 : mn (endI z.x z.w) (endI w.x w.w) = mn (endI w.x w.w) (endI z.x z.w) := by unfold mn; split <;> split <;> omega
  have m4 : mn (endI z.y z.h) (endI w.y w.h) = mn (endI w.y w.h) (endI z.y z.h) := by unfold mn; split <;> split <;> omega
  unfold cropR
  rw [m1, m2, m3, m4]
  have hc : (z.w ≤ 0 ∨ z.h ≤ 0 ∨ w.w ≤ 0 ∨ w.h ≤ 0) ↔ (w.w ≤ 0 ∨ w.h ≤ 0 ∨ z.w ≤ 0 ∨ z.h ≤ 0) := by omega
  simp only [hc]
theorem crop_facts {z w : RE} (hz : z.wf) (hw : w.wf) : (cropR z w = .nil ∧ ((z.w ≤ 0 ∨ z.h ≤ 0 ∨ w.w ≤ 0 ∨ w.h ≤ 0) ∨ mn (endI z.x z.w) (endI w.x w.w) ≤ mx z.x w.x ∨ mn (endI z.y z.h) (endI w.y w.h) ≤ mx z.y w.y)) ∨
    (0 < z.w ∧ 0 < z.h ∧ 0 < w.w ∧ 0 < w.h ∧ 0 < (cropR z w).w ∧ 0 < (cropR z w).h ∧ (cropR z w).x = mx z.x w.x ∧ (cropR z w).y = mx z.y w.y ∧ endI (cropR z w).x (cropR z w).w = mn (endI z.x z.w) (endI w.x w.w) ∧ endI (cropR z w).y (cropR z w).h = mn (endI z.y z.h) (endI w.y w.h)
      ∧ (cropR z w).w = mn (endI z.x z.w) (endI w.x w.w) - mx z.x w.x ∧ (cropR z w).h = mn (endI z.y z.h) (endI w.y w.h) - mx z.y w.y) := by
  unfold cropR
  by_cases c : z.w ≤ 0 ∨ z.h ≤ 0 ∨ w.w ≤ 0 ∨ w.h ≤ 0
  · rw [if_pos c]; exact .inl ⟨rfl, .inl c⟩
  · rw [if_neg c]
    by_cases c' : mn (endI z.x z.w) (endI w.x w.w) ≤ mx z.x w.x ∨ mn (endI z.y z.h) (endI w.y w.h) ≤ mx z.y w.y
    · rw [if_pos c']; exact .inl ⟨rfl, .inr c'⟩
    · rw [if_neg c']
      have e1 := endI_lo hz.x (n := z.w) (by omega)
      have e2 := endI_lo hz.y (n := z.h) (by omega)
      have m3 := mn_le (endI z.x z.w) (endI w.x w.w)
      have m4 := mn_le (endI z.y z.h) (endI w.y w.h)
      refine .inr ⟨by omega, by omega, by omega, by omega, ?_, ?_, rfl, rfl, ?_, ?_, rfl, rfl⟩ <;> simp only
      · omega
      · omega
      · generalize mn (endI z.x z.w) (endI w.x w.w) = r at *
        generalize mx z.x w.x = q at *
        unfold endI
        rw [if_neg (by omega)]; omega
      · generalize mn (endI z.y z.h) (endI w.y w.h) = r at *
        generalize mx z.y w.y = q at *
        unfold endI
        rw [if_neg (by omega)]; omega
theorem crop_again {z w : RE} (hz : z.wf) (hw : w.wf) : cropR (cropR z w) z = cropR z w ∧ cropR (cropR z w) w = cropR z w := by
  rcases crop_facts hz hw with ⟨e, _⟩ | ⟨p1, p2, p3, p4, q1, q2, q3, q4, q5, q6, q7, q8⟩
  · rw [e]
    constructor <;> (unfold cropR; rw [if_pos (.inl (by simp [RE.nil]))])
  · have m1 := mx_le z.x w.x
    have m2 := mx_le z.y w.y
    have m3 := mn_le (endI z.x z.w) (endI w.x w.w)
    have m4 := mn_le (endI z.y z.h) (endI w.y w.h)
    rw [q7] at q1
    rw [q8] at q2
    have key : ∀ u : RE, 0 < u.w → 0 < u.h → u.x ≤ mx z.x w.x → u.y ≤ mx z.y w.y → mn (endI z.x z.w) (endI w.x w.w) ≤ endI u.x u.w → mn (endI z.y z.h) (endI w.y w.h) ≤ endI u.y u.h → cropR (cropR z w) u = cropR z w := by
      intro u u1 u2 u3 u4 u5 u6
      generalize hc : cropR z w = c at *
      have a1 : mx c.x u.x = c.x := by unfold mx; split <;> omega
      have a2 : mx c.y u.y = c.y := by unfold mx; split <;> omega
      have a3 : mn (endI c.x c.w) (endI u.x u.w) = endI c.x c.w := by unfold mn; split <;> omega
      have a4 : mn (endI c.y c.h) (endI u.y u.h) = endI c.y c.h := by unfold mn; split <;> omega
      unfold cropR
      rw [a1, a2, a3, a4, if_neg (by omega), if_neg (by omega)]
      obtain ⟨cx, cy, cw, ch⟩ := c
      simp only at *
      congr 1 <;> omega
    exact ⟨key z p1 p2 m1.1 m2.1 m3.1 m4.1, key w p3 p4 m1.2.1 m2.2.1 m3.2.1 m4.2.1⟩
theorem crop_in {z w : RE} (hz : z.wf) (hw : w.wf) (x y : Int) : inR (cropR z w) x y = (inR z x y && inR w x y) := by
  have m1 := mx_le z.x w.x
  have m2 := mx_le z.y w.y
  have m3 := mn_le (endI z.x z.w) (endI w.x w.w)
  have m4 := mn_le (endI z.y z.h) (endI w.y w.h)
  rw [Bool.eq_iff_iff, Bool.and_eq_true]
  unfold inR
  simp only [Bool.and_eq_true, decide_eq_true_eq]
  rcases crop_facts hz hw with ⟨e, c⟩ | ⟨p1, p2, p3, p4, q1, q2, q3, q4, q5, q6, q7, q8⟩
  · rw [e]
    constructor
    · intro h; have := h.1; simp [RE.nil] at this
    · intro h; exfalso; omega
  · rw [q3, q4] at *
    constructor
    · intro h; omega
    · intro h; omega
theorem crop_side {z w : RE} (hz : z.wf) (hw : w.wf) : 0 ≤ (cropR z w).w ∧ 0 ≤ (cropR z w).h ∧ ((cropR z w).w = 0 ↔ (cropR z w).h = 0) ∧ ((cropR z w).w = 0 ∨ inR (cropR z w) (cropR z w).x (cropR z w).y = true) := by
  rcases crop_facts hz hw with ⟨e, _⟩ | ⟨p1, p2, p3, p4, q1, q2, q3, q4, q5, q6, q7, q8⟩
  · rw [e]; simp [RE.nil]
  · refine ⟨by omega, by omega, by omega, .inr ?_⟩
    unfold inR
    simp only [Bool.and_eq_true, decide_eq_true_eq]
    rw [q3, q4] at *
    omega
theorem in_hold {z : RE} {x y : Int} (h : z.x ≤ 1099511627776 ∧ z.w ≤ 1099511627776 ∧ z.y ≤ 1099511627776 ∧ z.h ≤ 1099511627776) : inR z x y = (decide (z.x ≤ x) && (decide (z.y ≤ y) && (decide (x - z.x < z.w) && decide (y - z.y < z.h)))) := by
  have e1 : endI z.x z.w = z.x + z.w := by unfold endI; rw [if_neg (by omega)]
  have e2 : endI z.y z.h = z.y + z.h := by unfold endI; rw [if_neg (by omega)]
  rw [Bool.eq_iff_iff]
  unfold inR
  rw [e1, e2]
  simp only [Bool.and_eq_true, decide_eq_true_eq]
  omega
end Go.Proofs.Ytbcfhiohdamcjaa.Ge
