/- Nil sinks take nothing: what the law's code computes. -/
import Derived.Test.YtaanoplfdjlnmaaDoorLaid
import Derived.Test.YtaanoplfdjlnmaaDoorAmSym
import Derived.Test.YtaanoplfdjlnmaaDoorAmArg
namespace Go.Proofs.YtaanoplfdjlnmaaDoor.Nobody
open Go Go.RowKit Am
set_option maxRecDepth 100000
set_option linter.unusedSimpArgs false
set_option linter.unusedVariables false
variable {R : Ro}
theorem none_nil (H : AH) : ACalls Tryd.prog R 21 [.nilptr] H fun v H' => v = .bool true ∧ H' = H := by
  refine ACalls.of_wpE Fns.ok21 (by simp [Fns.a21]) ?_
  simp [Fns.a21]
theorem is_nil (H : AH) (s : Int) : ACalls Tryd.prog R 23 [.nilptr, .int .i64 s] H fun v H' => v = .bool false ∧ H' = H := by
  refine ACalls.of_wpE Fns.ok23 (by simp [Fns.a23]) ?_
  simp [Fns.a23]
  refine (none_nil _).mono ?_
  rintro v H' ⟨rfl, rfl⟩
  simp
theorem may_nil (H : AH) (s l : Int) : ACalls Tryd.prog R 15 [.nilptr, .int .i64 s, .int .i64 l] H fun v H' => v = .int .i64 2 ∧ H' = H := by
  refine ACalls.of_wpE Fns.ok15 (by simp [Fns.a15]) ?_
  simp [Fns.a15]
  refine (none_nil _).mono ?_
  rintro v H' ⟨rfl, rfl⟩
  simp
theorem len_nil (H : AH) : ACalls Tryd.prog R 13 [.nilptr] H fun v H' => v = .int .i64 0 ∧ H' = H := by
  refine ACalls.of_wpE Fns.ok13 (by simp [Fns.a13]) ?_
  simp [Fns.a13]
  refine (none_nil _).mono ?_
  rintro v H' ⟨rfl, rfl⟩
  simp
theorem write_nil (H : AH) (s l : Int) (b : List UInt8) : ACalls Tryd.prog R 16 [.nilptr, .int .i64 s, .int .i64 l, .str b] H fun v H' => v = .tuple [.int .i64 0, .int .i64 2] ∧ H' = H := by
  refine ACalls.of_wpE Fns.ok16 (by simp [Fns.a16]) ?_
  simp [Fns.a16]
  refine (may_nil _ _ _).mono ?_
  rintro v H' ⟨rfl, rfl⟩
  simp
theorem left_nil (H : AH) (s l : Int) : ACalls Tryd.prog R 17 [.nilptr, .int .i64 s, .int .i64 l] H fun v H' => v = .int .i64 0 ∧ H' = H := by
  refine ACalls.of_wpE Fns.ok17 (by simp [Fns.a17]) ?_
  simp [Fns.a17]
  refine (may_nil _ _ _).mono ?_
  rintro v H' ⟨rfl, rfl⟩
  simp
theorem content_nil (H : AH) (s : Int) : ACalls Tryd.prog R 18 [.nilptr, .int .i64 s] H fun v H' => v = .str [] ∧ H' = H := by
  refine ACalls.of_wpE Fns.ok18 (by simp [Fns.a18]) ?_
  simp [Fns.a18]
  refine (is_nil _ _).mono ?_
  rintro v H' ⟨rfl, rfl⟩
  simp
theorem wakes_ev : evCall Tryd.prog Laid.ro Fns.tab 20000 9 [] [] isTrue = true := by kernel_rfl
theorem wakes (H : AH) : ACalls Tryd.prog Laid.ro 9 [] H fun v H' => H' = H ∧ v = .bool true := ACalls.awake Fns.mixed Fns.tab_ok wakes_ev H
theorem nobody (s l : Int) (b : List UInt8) : ACalls Tryd.prog Laid.ro 4 [.int .i64 s, .int .i64 l, .str b] [] fun v _ => v = .bool true := by
  refine ACalls.of_wpE Fns.ok4 (by simp [Fns.a4]) ?_
  simp [Fns.a4]
  refine condK_prop (fun h => ?_) (fun h => ?_)
  · simp
    refine (wakes _).mono ?_
    rintro v H' ⟨rfl, rfl⟩
    simp
  · simp
    refine (write_nil _ _ _ _).mono ?_
    rintro v H' ⟨rfl, rfl⟩
    simp
    refine (may_nil _ _ _).mono ?_
    rintro v H' ⟨rfl, rfl⟩
    simp
    refine (content_nil _ _).mono ?_
    rintro v H' ⟨rfl, rfl⟩
    simp [strBin]
    refine (left_nil _ _ _).mono ?_
    rintro v H' ⟨rfl, rfl⟩
    simp
    refine (len_nil _).mono ?_
    rintro v H' ⟨rfl, rfl⟩
    simp
    refine (wakes _).mono ?_
    rintro v H' ⟨rfl, rfl⟩
    simp
theorem whole (a0 : Int) (w0 : (Lit.int .i64 a0).wf = true) (a1 : Int) (w1 : (Lit.int .i64 a1).wf = true) (a2 : ByteArray) (w2 : a2.data.toList.length ≤ 140737488351232) :
    ACalls Tryd.prog Laid.ro 4 [.int .i64 a0, .int .i64 a1, .str a2.data.toList] [] fun v _ => v = .bool true := nobody _ _ _
end Go.Proofs.YtaanoplfdjlnmaaDoor.Nobody
