/- Of a nil quota, and of one that nobody made, nothing can be taken: what the law's code computes. -/
import Derived.Test.YtklnhappoldlnaaTab
import Derived.Test.YtklnhappoldlnaaAmSym
import Derived.Test.YtklnhappoldlnaaAmCtr
namespace Go.Proofs.Ytklnhappoldlnaa.Nobody
open Go Go.RowKit Am
set_option maxRecDepth 100000
set_option linter.unusedSimpArgs false
set_option linter.unusedVariables false
variable {R : Ro}
theorem left_nil (H : AH) (k : List UInt8) : ACalls Try.prog R 18 [.nilptr, .str k] H fun v H' => v = .int .i64 0 ∧ H' = H := by
  refine ACalls.of_wpE Fns.ok18 (by simp [Fns.a18]) ?_
  simp [Fns.a18]
theorem find_nil (k : List UInt8) : findEv Try.prog 9 (.str k) [] = some none := by
  with_unfolding_all rfl
theorem left_bare (H : AH) (i : Nat) (hi : H[i]? = some (.cells [.int .i64 0, .nilmap] 51)) (k : List UInt8) : ACalls Try.prog R 18 [.ptr (.mu i) 0, .str k] H fun v H' => v = .int .i64 0 ∧ H' = H := by
  refine ACalls.of_wpE Fns.ok18 (by simp [Fns.a18]) ?_
  simp [Fns.a18, hi, find_nil]
theorem tick_nil (H : AH) : ACalls Try.prog R 17 [.nilptr] H fun v H' => H' = H := by
  refine ACalls.of_wpE Fns.ok17 (by simp [Fns.a17]) ?_
  simp [Fns.a17]
theorem tick_bare (H : AH) (i : Nat) (hi : H[i]? = some (.cells [.int .i64 0, .nilmap] 51)) : ACalls Try.prog R 17 [.ptr (.mu i) 0] H fun v H' => H' = H := by
  refine ACalls.of_wpE Fns.ok17 (by simp [Fns.a17]) ?_
  simp [Fns.a17, hi]
theorem keys_nil (H : AH) : ACalls Try.prog R 20 [.nilptr] H fun v H' => v = .int .i64 0 ∧ H' = H := by
  refine ACalls.of_wpE Fns.ok20 (by simp [Fns.a20]) ?_
  simp [Fns.a20]
theorem keys_bare (H : AH) (i : Nat) (hi : H[i]? = some (.cells [.int .i64 0, .nilmap] 51)) : ACalls Try.prog R 20 [.ptr (.mu i) 0] H fun v H' => v = .int .i64 0 ∧ H' = H := by
  refine ACalls.of_wpE Fns.ok20 (by simp [Fns.a20]) ?_
  simp [Fns.a20, hi]
theorem take_zero (H : AH) (p : AV) (k : List UInt8) (n : Int) (hl : ACalls Try.prog R 18 [p, .str k] H fun v H' => v = .int .i64 0 ∧ H' = H) :
    ACalls Try.prog R 15 [p, .str k, .int .i64 n] H fun v H' => v = .bool (decide (n = 0)) ∧ H' = H := by
  refine ACalls.of_wpE Fns.ok15 (by simp [Fns.a15]) ?_
  by_cases h1 : n < 0
  · simp [Fns.a15, h1]
    omega
  · simp [Fns.a15, h1]
    refine hl.mono ?_
    rintro v H' ⟨rfl, rfl⟩
    by_cases h2 : 0 < n
    · simp [h2]; omega
    · simp [h2]; omega
theorem awake_ev : evGo Try.prog noRo Fns.tab noCtr 3000 10 = true := by kernel_rfl
theorem awake (H : AH) : ACalls Try.prog noRo 10 [] H fun v H' => H' = H ∧ v = .bool true := ACalls.go Fns.mixed Fns.tab_ok noCtr_ok awake_ev H
theorem nobody (k : List UInt8) (n : Int) : ACalls Try.prog noRo 5 [.str k, .int .i64 n] [] fun v _ => v = .bool true := by
  refine ACalls.of_wpE Fns.ok5 (by simp [Fns.a5]) ?_
  simp [Fns.a5]
  refine (awake []).mono ?_
  rintro v H' ⟨rfl, rfl⟩
  simp [fillA, AV.oneCell]
  refine (tick_nil _).mono ?_
  rintro v H' rfl
  simp
  refine (tick_bare [.cells [.int .i64 0, .nilmap] 51] 0 rfl).mono ?_
  rintro v H' rfl
  simp
  refine (take_zero _ _ _ _ (left_nil _ _)).mono ?_
  rintro v H' ⟨rfl, rfl⟩
  simp
  refine (take_zero _ _ _ _ (left_bare [.cells [.int .i64 0, .nilmap] 51] 0 rfl _)).mono ?_
  rintro v H' ⟨rfl, rfl⟩
  simp
  refine (left_nil _ _).mono ?_
  rintro v H' ⟨rfl, rfl⟩
  simp
  refine (left_bare [.cells [.int .i64 0, .nilmap] 51] 0 rfl _).mono ?_
  rintro v H' ⟨rfl, rfl⟩
  simp
  refine (keys_nil _).mono ?_
  rintro v H' ⟨rfl, rfl⟩
  simp
  refine (keys_bare [.cells [.int .i64 0, .nilmap] 51] 0 rfl).mono ?_
  rintro v H' ⟨rfl, rfl⟩
  simp
theorem whole (a0 : ByteArray) (w0 : a0.data.toList.length ≤ 140737488351232) (a1 : Int) (w1 : (Lit.int .i64 a1).wf = true) : ACalls Try.prog noRo 5 [.str a0.data.toList, .int .i64 a1] [] fun v _ => v = .bool true := nobody _ _
end Go.Proofs.Ytklnhappoldlnaa.Nobody
