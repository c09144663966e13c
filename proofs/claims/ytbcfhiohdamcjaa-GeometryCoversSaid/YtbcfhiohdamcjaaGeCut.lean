/- A side cut in two; a rectangle cut in two. -/
import Derived.Test.YtbcfhiohdamcjaaGeIn
namespace Go.Proofs.Ytbcfhiohdamcjaa.Ge
open Go Go.RowKit Am Tr
set_option maxRecDepth 100000
set_option maxHeartbeats 2000000
set_option linter.unusedSimpArgs false
set_option linter.unusedVariables false
attribute [-simp] Am.binEv Am.intBin Am.read1
attribute [local simp] binEv_lss binEv_leq binEv_gtr binEv_geq binEv_eql binEv_neq binEv_add binEv_sub binEv_mul read1_ro read1_mu
variable {R : Ro}
def cutA (n sh : Int) : Int := if n < 3 then n else mn (mx ((n - 1) * sh / 100) 1) (n - 2)
def cutL (n : Int) : Int := if n < 3 then 0 else 1
def cutB (n sh : Int) : Int := if n < 3 then 0 else n - 1 - cutA n sh
/-- The two parts and the line between are the whole; a line has a column on either side. -/
theorem cut_sum (n sh : Int) : cutA n sh + cutL n + cutB n sh = n := by
  unfold cutB cutL
  split
  · rename_i h; unfold cutA; rw [if_pos h]; omega
  · omega
theorem cut_le {n sh : Int} (hn : 0 ≤ n) (hs : 1 ≤ sh) : 0 ≤ cutA n sh ∧ 0 ≤ cutB n sh ∧ 0 ≤ cutL n ∧ cutL n ≤ 1 := by
  unfold cutB cutL cutA
  split
  · omega
  · have h1 := mn_le (mx ((n - 1) * sh / 100) 1) (n - 2)
    have h2 := mx_le ((n - 1) * sh / 100) 1
    omega
theorem quo100 {a : Int} (h0 : 0 ≤ a) (h1 : a ≤ 1000000) : binEv .quo (.int .i64 a) (.int .i64 100) = some (.int .i64 (a / 100)) := by
  obtain ⟨n, rfl⟩ := Int.eq_ofNat_of_zero_le h0
  exact binEv_quoI n 100 (by omega) (by omega)
theorem cut_ok {n sh : Int} (hn : side n) (h1 : 1 ≤ sh) (h2 : sh ≤ 99) (H : AH) : ACalls Try.prog R 48 [.int .i64 n, .int .i64 sh] H fun v G => G = H ∧ v = .tuple [.int .i64 (cutA n sh), .int .i64 (cutL n), .int .i64 (cutB n sh)] := by
  obtain ⟨n0, n4⟩ := hn
  refine ACalls.of_wpE Fns.ok48 (by simp [Fns.a48]) ?_
  by_cases h3 : n < 3
  · simp [Fns.a48, h3, cutA, cutL, cutB]
  · have hm0 : 0 ≤ (n - 1) * sh := Int.mul_nonneg (by omega) (by omega)
    have hm1 : (n - 1) * sh ≤ 400 * 99 := Int.mul_le_mul (by omega) h2 (by omega) (by omega)
    have w1 : IntKind.i64.wrap (n - 1) = n - 1 := wrap_in ⟨by omega, by omega⟩
    have w2 : IntKind.i64.wrap ((n - 1) * sh) = (n - 1) * sh := wrap_in ⟨by omega, by omega⟩
    have w3 : IntKind.i64.wrap (n - 2) = n - 2 := wrap_in ⟨by omega, by omega⟩
    have q := quo100 hm0 (by omega)
    have hA : cutA n sh = mn (mx ((n - 1) * sh / 100) 1) (n - 2) := by unfold cutA; rw [if_neg h3]
    have hl := cut_le (sh := sh) n0 h1
    have hsum := cut_sum n sh
    have hL : cutL n = 1 := by unfold cutL; rw [if_neg h3]
    have hB : cutB n sh = n - 1 - cutA n sh := by unfold cutB; rw [if_neg h3]
    have w4 : IntKind.i64.wrap (n - 1 - cutA n sh) = n - 1 - cutA n sh := wrap_in ⟨by omega, by omega⟩
    rw [hA] at w4
    simp [Fns.a48, h3, w1, w2, w3, q, fold_mx, fold_mn, w4, hA, hL, hB]
def partsA (s : Int) (sh : Int) (z : RE) : RE := if s = 1 then ⟨z.x, z.y, cutA z.w sh, z.h⟩ else ⟨z.x, z.y, z.w, cutA z.h sh⟩
def partsL (s : Int) (sh : Int) (z : RE) : RE := if s = 1 then ⟨z.x + cutA z.w sh, z.y, cutL z.w, z.h⟩ else ⟨z.x, z.y + cutA z.h sh, z.w, cutL z.h⟩
def partsB (s : Int) (sh : Int) (z : RE) : RE := if s = 1 then ⟨z.x + cutA z.w sh + cutL z.w, z.y, cutB z.w sh, z.h⟩ else ⟨z.x, z.y + cutA z.h sh + cutL z.h, z.w, cutB z.h sh⟩
def parts1 (s : Int) (z : RE) : Bool := if s = 1 then decide (cutL z.w = 0) else decide (cutL z.h = 0)
theorem parts_ok {x : ND} {z : RE} (hx : inI z.x ∧ 0 ≤ z.x ∧ z.x ≤ 100000) (hy : inI z.y ∧ 0 ≤ z.y ∧ z.y ≤ 100000) (hw : side z.w) (hh : side z.h) (h1 : 1 ≤ x.sh) (h2 : x.sh ≤ 99) (H : AH) :
    ACalls Try.prog R 33 [.agg x.cells, z.av] H fun v G => G = H ∧ v = .tuple [(partsA x.side x.sh z).av, (partsL x.side x.sh z).av, (partsB x.side x.sh z).av, .bool (parts1 x.side z)] := by
  refine ACalls.gc ?_
  obtain ⟨zx, zy, zw, zh⟩ := z
  obtain ⟨sd, f, s, sh, a, b, c⟩ := x
  simp only at hx hy hw hh h1 h2
  have hw' := hw
  have hh' := hh
  unfold side at hw' hh'
  refine ACalls.of_wpE Fns.ok33 (by simp [Fns.a33]) ?_
  by_cases c1 : sd = 1
  · have l1 := cut_le (sh := sh) hw'.1 h1
    have l2 := cut_sum zw sh
    have w1 : IntKind.i64.wrap (zx + cutA zw sh) = zx + cutA zw sh := wrap_in ⟨by omega, by omega⟩
    have w2 : IntKind.i64.wrap (zx + cutA zw sh + cutL zw) = zx + cutA zw sh + cutL zw := wrap_in ⟨by omega, by omega⟩
    simp [Fns.a33, RE.av, RE.cells, ND.cells, AO.content, AO.withContent, writeN, splice, readN, fillA, c1]
    refine (cut_ok hw h1 h2 _).mono ?_
    rintro v G ⟨rfl, rfl⟩
    simp
    refine AWp.sched [0, 1, 2, 3, 4, 5, 6, 7, 8, 9, 10, 11, 12, 13, 14, 15, 16, 17, 18, 19, 20, 21, 22, 23, 24, 25, 26, 27, 28, 29, 30, 31, 32] Fns.mixed (by decide +kernel) ?_
    simp [AO.content, AO.withContent, writeN, splice, readN, fillA, w1, w2, recheck]
    refine AWp.sched [0, 1, 2, 3, 4, 5, 6, 7, 8] Fns.mixed (by decide +kernel) ?_
    simp [AO.content, AO.withContent, writeN, splice, readN, fillA, w1, w2, recheck, renL, ren, partsA, partsL, partsB, parts1, c1]
  · have l1 := cut_le (sh := sh) hh'.1 h1
    have l2 := cut_sum zh sh
    have w1 : IntKind.i64.wrap (zy + cutA zh sh) = zy + cutA zh sh := wrap_in ⟨by omega, by omega⟩
    have w2 : IntKind.i64.wrap (zy + cutA zh sh + cutL zh) = zy + cutA zh sh + cutL zh := wrap_in ⟨by omega, by omega⟩
    simp [Fns.a33, RE.av, RE.cells, ND.cells, AO.content, AO.withContent, writeN, splice, readN, fillA, c1]
    refine (cut_ok hh h1 h2 _).mono ?_
    rintro v G ⟨rfl, rfl⟩
    simp
    refine AWp.sched [0, 1, 2, 3, 4, 5, 6, 7, 8, 9, 10, 11, 12, 13, 14, 15, 16, 17, 18, 19, 20, 21, 22, 23, 24, 25, 26, 27, 28, 29, 30, 31, 32] Fns.mixed (by decide +kernel) ?_
    simp [AO.content, AO.withContent, writeN, splice, readN, fillA, w1, w2, recheck]
    refine AWp.sched [0, 1, 2, 3, 4, 5, 6, 7, 8] Fns.mixed (by decide +kernel) ?_
    simp [AO.content, AO.withContent, writeN, splice, readN, fillA, w1, w2, recheck, renL, ren, partsA, partsL, partsB, parts1, c1]
end Go.Proofs.Ytbcfhiohdamcjaa.Ge
