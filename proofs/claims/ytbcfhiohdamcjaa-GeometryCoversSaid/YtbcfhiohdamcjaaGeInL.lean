/- GeometryIn, GeometryCrops: what the laws' code computes. -/
import Derived.Test.YtbcfhiohdamcjaaGeIn
import Derived.Test.YtbcfhiohdamcjaaCtrs
import Derived.Test.YtbcfhiohdamcjaaAmFlat
namespace Go.Proofs.Ytbcfhiohdamcjaa.Ge
open Go Go.RowKit Am Tr
set_option maxRecDepth 100000
set_option linter.unusedSimpArgs false
set_option linter.unusedVariables false
attribute [-simp] Am.binEv Am.intBin Am.read1
attribute [local simp] binEv_lss binEv_leq binEv_gtr binEv_geq binEv_eql binEv_neq binEv_add binEv_sub binEv_mul read1_ro read1_mu
variable {R : Ro}
def fieldsR : Array Field := #[⟨"X", 3, 0, false, "", "", 0⟩, ⟨"Y", 3, 1, false, "", "", 8⟩, ⟨"W", 3, 2, false, "", "", 16⟩, ⟨"H", 3, 3, false, "", "", 24⟩]
theorem underR : Try.prog.underlying 29 = some (.struct fieldsR) := by kernel_rfl
theorem guardR : Try.prog.eqGuardType Try.prog.depth 29 = false := by kernel_rfl
theorem stoodR : Try.prog.stoodInHeld 29 = false := by kernel_rfl
theorem equalR (a b c d a' b' c' d' : Int) : pureRun Try.prog (Op.equal 29 (.agg #[.int .i64 a, .int .i64 b, .int .i64 c, .int .i64 d]) (.agg #[.int .i64 a', .int .i64 b', .int .i64 c', .int .i64 d'])) = some (decide (a = a' ∧ b = b' ∧ c = c' ∧ d = d')) := by
  have q2 : ∀ z w, pureRun Try.prog (Op.equalIn 9999 3 (.int .i64 z) (.int .i64 w)) = some (z == w) := fun z w => by
    rw [show (9999 : Nat) = 9998 + 1 from rfl, Op.equalIn]
    simp only [prb, pureRun_under underI, Option.bind_some, if_true, prp]
  have p0 := fun (a b c d : Int) => partI #[.int .i64 a, .int .i64 b, .int .i64 c, .int .i64 d] 0 _ rfl
  have p1 := fun (a b c d : Int) => partI #[.int .i64 a, .int .i64 b, .int .i64 c, .int .i64 d] 1 _ rfl
  have p2 := fun (a b c d : Int) => partI #[.int .i64 a, .int .i64 b, .int .i64 c, .int .i64 d] 2 _ rfl
  have p3 := fun (a b c d : Int) => partI #[.int .i64 a, .int .i64 b, .int .i64 c, .int .i64 d] 3 _ rfl
  unfold Op.equal Op.maxDepth
  rw [show (10000 : Nat) = 9999 + 1 from rfl, Op.equalIn]
  simp only [prb, pureRun_under underR, Option.bind_some, program, pureRun, stoodR, fieldsR]
  by_cases h1 : a = a' <;> by_cases h2 : b = b' <;> by_cases h3 : c = c' <;> by_cases h4 : d = d' <;> simp [prb, prp, p0, p1, p2, p3, q2, pureRun, h1, h2, h3, h4]
theorem eqR (z w : RE) : eqEv Try.prog 29 (.struct fieldsR) z.av w.av = some (decide (z = w)) := by
  obtain ⟨a, b, c, d⟩ := z
  obtain ⟨a', b', c', d'⟩ := w
  have hc : ∀ a b c d : Int, conc (.agg [.int .i64 a, .int .i64 b, .int .i64 c, .int .i64 d]) = some (.agg #[.int .i64 a, .int .i64 b, .int .i64 c, .int .i64 d]) := fun _ _ _ _ => rfl
  have hg : pureRun Try.prog (eqGuard .eql 29 (.tmp 0) (.tmp 0) (.agg #[.int .i64 a, .int .i64 b, .int .i64 c, .int .i64 d]) (.agg #[.int .i64 a', .int .i64 b', .int .i64 c', .int .i64 d'])) = some () := by
    unfold eqGuard
    simp only [prb, program, pureRun, Option.bind_some]
    simp [prb, prp, pureRun, guardR, program]
  unfold eqEv RE.av RE.cells
  simp only [hc]
  simp only [prb, hg, Option.bind_some, equalR, RE.mk.injEq]
def far (n : Int) : Bool := decide (1099511627776 < n) || decide (n < -1099511627776)
theorem holds_ok {z : RE} (hz : z.wf) {x y : Int} (hb : ∀ n, n = z.x ∨ n = z.y ∨ n = z.w ∨ n = z.h ∨ n = x ∨ n = y → far n = false) (H : AH) : ACalls Try.prog R 14 [z.av, .int .i64 x, .int .i64 y] H fun v G => G = H ∧ v = .bool (inR z x y) := by
  refine ACalls.gc ?_
  have b1 := hb z.x (by simp)
  have b2 := hb z.y (by simp)
  have b3 := hb z.w (by simp)
  have b4 := hb z.h (by simp)
  have b5 := hb x (by simp)
  have b6 := hb y (by simp)
  simp only [far, Bool.or_eq_false_iff, decide_eq_false_iff_not] at b1 b2 b3 b4 b5 b6
  rw [in_hold (by omega)]
  obtain ⟨zx, zy, zw, zh⟩ := z
  simp only at b1 b2 b3 b4
  have w1 : IntKind.i64.wrap (x - zx) = x - zx := wrap_in ⟨by omega, by omega⟩
  have w2 : IntKind.i64.wrap (y - zy) = y - zy := wrap_in ⟨by omega, by omega⟩
  refine ACalls.of_wpE Fns.ok14 (by simp [Fns.a14]) ?_
  by_cases c1 : zx ≤ x
  · by_cases c2 : zy ≤ y
    · by_cases c3 : x - zx < zw
      · simp [Fns.a14, RE.av, RE.cells, AO.content, readN, c1, c2, c3, w1, w2, ren]
      · simp [Fns.a14, RE.av, RE.cells, AO.content, readN, c1, c2, c3, w1, w2, ren]
    · simp [Fns.a14, RE.av, RE.cells, AO.content, readN, c1, c2, w1, w2, ren]
  · simp [Fns.a14, RE.av, RE.cells, AO.content, readN, c1, w1, w2, ren]
theorem law_in {z : RE} (hz : z.wf) (x y : Int) : ACalls Try.prog noRo 4 [z.av, .int .i64 x, .int .i64 y] [] fun v _ => v = .bool true := by
  have hall := Fns.awake
  refine ACalls.of_wpE Fns.ok4 (by simp [Fns.a4]) ?_
  obtain ⟨zx, zy, zw, zh⟩ := z
  simp [Fns.a4, RE.av, RE.cells]
  refine (hall _).mono ?_
  rintro v H ⟨rfl, rfl⟩
  simp [AO.content, readN, splice]
  refine AWp.loop (fun e G => (∃ C, C = [AV.int .i64 zx, .int .i64 zy, .int .i64 zw, .int .i64 zh, .int .i64 x, .int .i64 y] ∧ G = [AO.cells [.int .i64 zx, .int .i64 zy, .int .i64 zw, .int .i64 zh] 29, AO.cells C 3]) ∧ e 3 = .ptr (.mu 0) 0 ∧ e 1 = .int .i64 x ∧ e 2 = .int .i64 y ∧ e 21 = .slice (.mu 1) 0 6 (.known 6) ∧ e 22 = .int .i64 6 ∧ ∃ i : Nat, e 23 = .int .i64 i ∧ i ≤ 6 ∧ ∀ n ∈ [zx, zy, zw, zh, x, y].take i, far n = false) (fun e _ => match e 23 with | .int _ i => ((6 : Int) - i).toNat | _ => 0)
    ⟨⟨_, rfl, rfl⟩, by simp, by simp, by simp, by simp, by simp, 0, by simp, by omega, by simp⟩ ?_
  rintro e G ⟨⟨C, hC, rfl⟩, h3, h1, h2, h21, h22, i, h23, hi, hp⟩
  refine wpE_sound _ ?_
  by_cases hlt : i < 6
  · obtain ⟨n, hn⟩ : ∃ n, [zx, zy, zw, zh, x, y][i]? = some n := ⟨_, List.getElem?_eq_getElem (by simpa using hlt)⟩
    have hc : C[i]? = some (.int .i64 n) := by
      rw [hC]
      have : ([AV.int .i64 zx, .int .i64 zy, .int .i64 zw, .int .i64 zh, .int .i64 x, .int .i64 y] : List AV) = [zx, zy, zw, zh, x, y].map (AV.int .i64) := rfl
      rw [this, List.getElem?_map, hn]; rfl
    have hlt' : (i : Int) < 6 := by omega
    have hw1 : IntKind.i64.wrap ((i : Int) + 1) = (i : Int) + 1 := wrap_in ⟨by omega, by omega⟩
    cases hf : far n with
    | true =>
      simp [h21, h22, h23, hlt, hlt', hc]
      unfold far at hf
      by_cases c1 : 1099511627776 < n
      · simp [c1]
      · have c2 : n < -1099511627776 := by simpa [c1] using hf
        simp [c1, c2]
    | false =>
      have hf' := hf
      simp only [far, Bool.or_eq_false_iff, decide_eq_false_iff_not] at hf'
      simp [h21, h22, h23, hlt, hlt', hc, hf'.1, hf'.2, hw1, h1, h2, h3]
      refine ⟨⟨hC, i + 1, by simp, by omega, ?_⟩, by omega⟩
      rw [List.take_add_one, hn, Option.toList_some]
      intro m hm
      rw [List.mem_append] at hm
      rcases hm with hm | hm
      · exact hp m hm
      · simp at hm; rw [hm]; exact hf
  · obtain rfl : i = 6 := by omega
    have hb : ∀ n, n = zx ∨ n = zy ∨ n = zw ∨ n = zh ∨ n = x ∨ n = y → far n = false := fun n hn => hp n (by simpa using hn)
    simp [h21, h22, h23]
    refine AWp.sched [0, 1, 2, 4, 5, 6, 3, 7, 8, 9] Fns.mixed (by decide +kernel) ?_
    simp [h1, h2, h3, AO.content, readN]
    refine (in_ok (z := ⟨zx, zy, zw, zh⟩) hz x y _).mono ?_
    rintro v G ⟨rfl, rfl⟩
    simp [recheck, h1, h2, h3, AO.content, readN]
    refine (holds_ok (z := ⟨zx, zy, zw, zh⟩) hz hb _).mono ?_
    rintro v G ⟨rfl, rfl⟩
    simp [recheck, h1, h2, h3, AO.content, readN]
set_option maxHeartbeats 2000000 in
theorem law_crops {z w : RE} (hz : z.wf) (hw : w.wf) (x y : Int) : ACalls Try.prog noRo 5 [z.av, w.av, .int .i64 x, .int .i64 y] [] fun v _ => v = .bool true := by
  have hall := Fns.awake
  have hc := crop_wf hz hw
  have e1 := crop_comm w z
  have e2 := (crop_again hz hw).1
  have e3 := (crop_again hz hw).2
  have e4 := crop_in hz hw x y
  obtain ⟨s1, s2, s3, s4⟩ := crop_side hz hw
  have k1 := fun H => crop_ok (R := noRo) hz hw H
  have k2 := fun H => crop_ok (R := noRo) hw hz H
  have k3 := fun H => crop_ok (R := noRo) hc hz H
  have k4 := fun H => crop_ok (R := noRo) hc hw H
  have k5 := fun x y H => in_ok (R := noRo) hc x y H
  have k6 := fun H => in_ok (R := noRo) hz x y H
  have k7 := fun H => in_ok (R := noRo) hw x y H
  rw [e1] at k2
  rw [e2] at k3
  rw [e3] at k4
  generalize cropR z w = c at *
  have he := eqR
  simp only [fieldsR, RE.av, RE.cells] at he k1 k2 k3 k4 k5 k6 k7
  have hq : ∀ a b : Bool, eqEv Try.prog 4 .bool (.bool a) (.bool b) = some (a == b) := fun a b => by simp [eqEv]
  have n1 : ¬ c.w < 0 := by omega
  have n2 : ¬ c.h < 0 := by omega
  have hb : (decide (c.w = 0) == decide (c.h = 0)) = true := by simp [s3]
  refine ACalls.of_wpE Fns.ok5 (by simp [Fns.a5]) ?_
  simp [Fns.a5, RE.av, RE.cells]
  refine (hall _).mono ?_
  rintro v H ⟨rfl, rfl⟩
  simp [AO.content, readN]
  refine (k1 _).mono ?_
  rintro v H ⟨rfl, rfl⟩
  simp [AO.content, AO.withContent, writeN, readN, splice]
  refine AWp.sched [0, 1, 2, 3, 4, 5, 6, 7, 9, 8, 10, 11, 12, 13, 14, 16, 15, 17, 18, 19, 20, 21, 22, 23, 24, 25, 26, 27, 28, 29, 30, 31, 33, 34, 32, 35, 36, 37] Fns.mixed (by decide +kernel) ?_
  simp [AO.content, readN]
  refine (k2 _).mono ?_
  rintro v H ⟨rfl, rfl⟩
  simp [-eqEv, he, recheck, AO.content, readN]
  refine (k3 _).mono ?_
  rintro v H ⟨rfl, rfl⟩
  simp [-eqEv, he, recheck, AO.content, readN]
  refine (k4 _).mono ?_
  rintro v H ⟨rfl, rfl⟩
  simp [-eqEv, he, hq, recheck, AO.content, readN, n1, n2, hb]
  refine AWp.sched [0, 1, 2, 4, 5, 6, 3, 7, 8, 9, 10, 11, 12, 13, 14, 15, 16, 17, 18, 19, 20, 21, 22, 23, 24, 25, 26, 27, 28] Fns.mixed (by decide +kernel) ?_
  simp [AO.content, readN]
  refine (k5 x y _).mono ?_
  rintro v H ⟨rfl, rfl⟩
  simp [-eqEv, hq, recheck, AO.content, readN]
  refine (k6 _).mono ?_
  rintro v H ⟨rfl, rfl⟩
  rw [e4]
  cases hz : inR z x y with
  | false =>
    simp [-eqEv, hq, recheck, AO.content, readN]
    by_cases h0 : c.w = 0
    · simp [-eqEv, hq, recheck, AO.content, readN, h0]
    · simp [-eqEv, hq, recheck, AO.content, readN, h0]
      refine (k5 _ _ _).mono ?_
      rintro v H ⟨rfl, rfl⟩
      simp [-eqEv, hq, recheck, AO.content, readN, s4.resolve_left h0]
  | true =>
    simp [-eqEv, hq, recheck, AO.content, readN]
    refine (k7 _).mono ?_
    rintro v H ⟨rfl, rfl⟩
    simp [-eqEv, hq, recheck, AO.content, readN]
    by_cases h0 : c.w = 0
    · simp [-eqEv, hq, recheck, AO.content, readN, h0]
    · simp [-eqEv, hq, recheck, AO.content, readN, h0]
      refine (k5 _ _ _).mono ?_
      rintro v H ⟨rfl, rfl⟩
      simp [-eqEv, hq, recheck, AO.content, readN, s4.resolve_left h0]
theorem ACalls.no {P : Program} {f : FuncId} {args : List AV} {H : AH} {Q : AV → AH → Prop} (h : ACalls P noRo f args H Q) (R : Ro) : ACalls P R f args H Q :=
  fun base _ => h base (noRo_ok base)
theorem inI_of {a : Int} (h : (Lit.int .i64 a).wf = true) : inI a := by
  unfold inI
  simp [Lit.wf, IntKind.min, IntKind.max, IntKind.signed, IntKind.bits] at h
  omega
theorem rect_of {vs : List AV} (h : Shape [.int .i64, .int .i64, .int .i64, .int .i64] vs) : ∃ z : RE, vs = z.cells ∧ z.wf := by
  obtain ⟨v0, r0, rfl, ⟨a, rfl, ha⟩, v1, r1, rfl, ⟨b, rfl, hb⟩, v2, r2, rfl, ⟨c, rfl, hc⟩, v3, r3, rfl, ⟨d, rfl, hd⟩, rfl⟩ := h
  exact ⟨⟨a, b, c, d⟩, rfl, ⟨inI_of ha, inI_of hb, inI_of hc, inI_of hd⟩⟩
theorem in_all (vs : List AV) (h : Shape [.int .i64, .int .i64, .int .i64, .int .i64] vs) (x : Int) (_ : (Lit.int .i64 x).wf = true) (y : Int) (_ : (Lit.int .i64 y).wf = true) : ACalls Try.prog R 4 [.agg vs, .int .i64 x, .int .i64 y] [] fun v _ => v = .bool true := by
  obtain ⟨z, rfl, hz⟩ := rect_of h
  exact ACalls.no (law_in hz x y) R
theorem crops_all (vs : List AV) (h : Shape [.int .i64, .int .i64, .int .i64, .int .i64] vs) (ws : List AV) (h' : Shape [.int .i64, .int .i64, .int .i64, .int .i64] ws) (x : Int) (_ : (Lit.int .i64 x).wf = true) (y : Int) (_ : (Lit.int .i64 y).wf = true) : ACalls Try.prog R 5 [.agg vs, .agg ws, .int .i64 x, .int .i64 y] [] fun v _ => v = .bool true := by
  obtain ⟨z, rfl, hz⟩ := rect_of h
  obtain ⟨w, rfl, hw⟩ := rect_of h'
  exact ACalls.no (law_crops hz hw x y) R
end Go.Proofs.Ytbcfhiohdamcjaa.Ge
