/- What is none, and what New did not make, has no entries: what the law's code computes. -/
import Derived.Test.YtkcddlpmekejkaaDoorLaid
import Derived.Test.YtkcddlpmekejkaaDoorAmSym
import Derived.Test.YtkcddlpmekejkaaDoorAmCtr
namespace Go.Proofs.YtkcddlpmekejkaaDoor.Nobody
open Go Go.RowKit Am
set_option maxRecDepth 100000
set_option linter.unusedSimpArgs false
set_option linter.unusedVariables false
variable {R : Ro}
/-- A log that nobody made: nil, or of noughts. -/
def Bare (H : AH) (p : AV) : Prop := p = .nilptr ∨ ∃ i, p = .ptr (.mu i) 0 ∧ H[i]? = some (.cells [.nilptr, .nilslice, .nilslice] 53)
theorem len_bare (H : AH) (p : AV) (hp : Bare H p) : ACalls Tryd.prog R 16 [p] H fun v H' => v = .int .i64 0 ∧ H' = H := by
  refine ACalls.of_wpE Fns.ok16 (by simp [Fns.a16]) ?_
  rcases hp with rfl | ⟨i, rfl, hi⟩
  · simp [Fns.a16]
  · simp [Fns.a16, hi]
theorem at_bare (H : AH) (p : AV) (hp : Bare H p) (n : Int) : ACalls Tryd.prog R 17 [p, .int .i64 n] H fun v H' => H' = H ∧ v = .tuple [.agg [.int .i64 0, .int .i64 0, .int .i64 0, .str []], .bool false] := by
  refine ACalls.gc (ACalls.of_wpE Fns.ok17 (by simp [Fns.a17]) ?_)
  by_cases h : n < 0
  · simp [Fns.a17, h, fillA, writeN, splice, AO.withContent, ren, renL]
  · simp [Fns.a17, h, fillA, writeN, splice, AO.withContent, ren, renL]
    have hp' : Bare (H ++ [.cells [.int .i64 0, .int .i64 0, .int .i64 0, .str []] 40]) p := by
      rcases hp with rfl | ⟨i, rfl, hi⟩
      · exact .inl rfl
      · exact .inr ⟨i, rfl, by rw [List.getElem?_append_left (List.getElem?_eq_some_iff.1 hi).1]; exact hi⟩
    refine (len_bare _ _ hp').mono ?_
    rintro v H' ⟨rfl, rfl⟩
    simp [show (0 : Int) ≤ n by omega, fillA, writeN, splice, AO.withContent, ren, renL]
theorem room_bare (H : AH) (p : AV) (hp : Bare H p) (n : Int) : ACalls Tryd.prog R 14 [p, .int .i64 n] H fun v H' => v = .int .i64 0 ∧ H' = H := by
  refine ACalls.of_wpE Fns.ok14 (by simp [Fns.a14]) ?_
  rcases hp with rfl | ⟨i, rfl, hi⟩
  · simp [Fns.a14]
  · by_cases h : n < 0
    · simp [Fns.a14, hi, h]
    · simp [Fns.a14, hi, h, show (0 : Int) ≤ n by omega]
theorem seen_bare (H : AH) (p : AV) (hp : Bare H p) (n : Int) : ACalls Tryd.prog R 19 [p, .int .i64 n] H fun v H' => v = .nilslice ∧ H' = H := by
  refine ACalls.of_wpE Fns.ok19 (by simp [Fns.a19]) ?_
  simp [Fns.a19]
  refine (len_bare _ _ hp).mono ?_
  rintro v H' ⟨rfl, rfl⟩
  simp
  refine AWp.loop_once (wpE_sound _ ?_)
  simp
theorem put_bare (H : AH) (p : AV) (hp : Bare H p) (a b c : Int) (s : List UInt8) : ACalls Tryd.prog R 12 [p, .agg [.int .i64 a, .int .i64 b, .int .i64 c, .str s]] H fun v H' => H' = H ∧ v = .int .i64 2 := by
  refine ACalls.gc (ACalls.of_wpE Fns.ok12 (by simp [Fns.a12]) ?_)
  rcases hp with rfl | ⟨i, rfl, hi⟩
  · simp [Fns.a12, ren]
  · have hl : i < H.length := (List.getElem?_eq_some_iff.1 hi).1
    simp [Fns.a12, ren, List.getElem?_append_left hl, hi]
theorem latlen_nil (H : AH) : ACalls Tryd.prog R 29 [.nilptr] H fun v H' => v = .int .i64 0 ∧ H' = H := by
  refine ACalls.of_wpE Fns.ok29 (by simp [Fns.a29]) ?_
  simp [Fns.a29]
theorem new_nil (H : AH) : ACalls Tryd.prog R 11 [.nilptr] H fun v H' => v = .tuple [.nilptr, .int .i64 2] ∧ H' = H := by
  refine ACalls.of_wpE Fns.ok11 (by simp [Fns.a11]) ?_
  simp [Fns.a11]
  refine (latlen_nil _).mono ?_
  rintro v H' ⟨rfl, rfl⟩
  simp
theorem awake_ev : evGo Tryd.prog Laid.ro Fns.tab noCtr 20000 7 = true := by kernel_rfl
theorem awake (H : AH) : ACalls Tryd.prog Laid.ro 7 [] H fun v H' => H' = H ∧ v = .bool true := ACalls.go Fns.mixed Fns.tab_ok noCtr_ok awake_ev H
theorem nobody (a b c n : Int) (s : List UInt8) : ACalls Tryd.prog Laid.ro 4 [.agg [.int .i64 a, .int .i64 b, .int .i64 c, .str s], .int .i64 n] [] fun v _ => v = .bool true := by
  refine ACalls.of_wpE Fns.ok4 (by simp [Fns.a4]) ?_
  simp [Fns.a4]
  refine (awake _).mono ?_
  rintro v H' ⟨rfl, rfl⟩
  simp
  refine condK_prop (fun h => ?_) (fun h => ?_)
  · simp
  · simp [fillA]
    refine (at_bare _ _ (.inl rfl) _).mono ?_
    rintro v H' ⟨rfl, rfl⟩
    simp [fillA, writeN, splice, AO.withContent]
    refine (at_bare _ _ (.inr ⟨1, rfl, rfl⟩) _).mono ?_
    rintro v H' ⟨rfl, rfl⟩
    simp [fillA, writeN, splice, AO.withContent]
    refine (new_nil _).mono ?_
    rintro v H' ⟨rfl, rfl⟩
    simp
    refine (put_bare _ _ (.inl rfl) _ _ _ _).mono ?_
    rintro v H' ⟨rfl, rfl⟩
    simp
    refine (room_bare _ _ (.inl rfl) _).mono ?_
    rintro v H' ⟨rfl, rfl⟩
    simp
    refine (len_bare _ _ (.inl rfl)).mono ?_
    rintro v H' ⟨rfl, rfl⟩
    simp
    refine (seen_bare _ _ (.inl rfl) _).mono ?_
    rintro v H' ⟨rfl, rfl⟩
    simp
    refine (put_bare _ _ (.inr ⟨1, rfl, rfl⟩) _ _ _ _).mono ?_
    rintro v H' ⟨rfl, rfl⟩
    simp
    refine (room_bare _ _ (.inr ⟨1, rfl, rfl⟩) _).mono ?_
    rintro v H' ⟨rfl, rfl⟩
    simp
    refine (len_bare _ _ (.inr ⟨1, rfl, rfl⟩)).mono ?_
    rintro v H' ⟨rfl, rfl⟩
    simp
    refine (seen_bare _ _ (.inr ⟨1, rfl, rfl⟩) _).mono ?_
    rintro v H' ⟨rfl, rfl⟩
    simp
theorem whole (a0 : Int) (w0 : (Lit.int .i64 a0).wf = true) (a1 : Int) (w1 : (Lit.int .i64 a1).wf = true) (a2 : Int) (w2 : (Lit.int .i64 a2).wf = true) (s : ByteArray) (w3 : s.data.toList.length ≤ maxLen) (n : Int) (w4 : (Lit.int .i64 n).wf = true) :
    ACalls Tryd.prog Laid.ro 4 [.agg [.int .i64 a0, .int .i64 a1, .int .i64 a2, .str s.data.toList], .int .i64 n] [] fun v _ => v = .bool true := nobody _ _ _ _ _
end Go.Proofs.YtkcddlpmekejkaaDoor.Nobody
