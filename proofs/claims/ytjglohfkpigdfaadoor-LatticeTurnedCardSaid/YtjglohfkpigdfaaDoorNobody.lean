/- What is none, and what neither made, has no labels: what the law's code computes. -/
import Derived.Test.YtjglohfkpigdfaaDoorLaid
import Derived.Test.YtjglohfkpigdfaaDoorAmSym
import Derived.Test.YtjglohfkpigdfaaDoorAmCtr
import Derived.Test.YtjglohfkpigdfaaDoorCtrs
namespace Go.Proofs.YtjglohfkpigdfaaDoor.Nobody
open Go Go.RowKit Am
set_option maxRecDepth 100000
set_option linter.unusedSimpArgs false
set_option linter.unusedVariables false
variable {R : Ro}
/-- A lattice that nobody made: nil, or of noughts. -/
def Bare (H : AH) (p : AV) : Prop := p = .nilptr ∨ ∃ i cs, p = .ptr (.mu i) 0 ∧ H[i]? = some (.cells (.nilslice :: cs) 53)
theorem len_bare (H : AH) (p : AV) (hp : Bare H p) : ACalls Tryd.prog R 12 [p] H fun v H' => v = .int .i64 0 ∧ H' = H := by
  refine ACalls.of_wpE Fns.ok12 (by simp [Fns.a12]) ?_
  rcases hp with rfl | ⟨i, cs, rfl, hi⟩
  · simp [Fns.a12, eqEv]
  · simp [Fns.a12, eqEv, hi]
theorem has_bare (H : AH) (p : AV) (hp : Bare H p) (a : Int) : ACalls Tryd.prog R 26 [p, .int .i64 a] H fun v H' => v = .bool false ∧ H' = H := by
  refine ACalls.of_wpE Fns.ok26 (by simp [Fns.a26]) ?_
  by_cases ha : 0 ≤ a
  · have ha' : ¬ a < 0 := by omega
    simp [Fns.a26, ha]
    refine (len_bare _ _ hp).mono ?_
    rintro v H' ⟨rfl, rfl⟩
    simp [ha, ha']
  · simp [Fns.a26, ha]
theorem below_bare (H : AH) (p : AV) (hp : Bare H p) (a b : Int) : ACalls Tryd.prog R 21 [p, .int .i64 a, .int .i64 b] H fun v H' => v = .bool false ∧ H' = H := by
  refine ACalls.of_wpE Fns.ok21 (by simp [Fns.a21]) ?_
  simp [Fns.a21]
  refine (has_bare _ _ hp _).mono ?_
  rintro v H' ⟨rfl, rfl⟩
  simp
theorem join_bare (H : AH) (p : AV) (hp : Bare H p) (a b : Int) : ACalls Tryd.prog R 15 [p, .int .i64 a, .int .i64 b] H fun v H' => v = .int .i64 (-1) ∧ H' = H := by
  refine ACalls.of_wpE Fns.ok15 (by simp [Fns.a15]) ?_
  simp [Fns.a15]
  refine (has_bare _ _ hp _).mono ?_
  rintro v H' ⟨rfl, rfl⟩
  simp
theorem meet_bare (H : AH) (p : AV) (hp : Bare H p) (a b : Int) : ACalls Tryd.prog R 16 [p, .int .i64 a, .int .i64 b] H fun v H' => v = .int .i64 (-1) ∧ H' = H := by
  refine ACalls.of_wpE Fns.ok16 (by simp [Fns.a16]) ?_
  simp [Fns.a16]
  refine (has_bare _ _ hp _).mono ?_
  rintro v H' ⟨rfl, rfl⟩
  simp
theorem over_bare (H : AH) (p : AV) (hp : Bare H p) (f : AV) : ACalls Tryd.prog R 25 [p, f] H fun v H' => v = .int .i64 (-1) ∧ H' = H := by
  refine ACalls.of_wpE Fns.ok25 (by simp [Fns.a25]) ?_
  simp [Fns.a25]
  refine (len_bare _ _ hp).mono ?_
  rintro v H' ⟨rfl, rfl⟩
  simp [IntKind.wrap, IntKind.bits, IntKind.signed]
  refine (len_bare _ _ hp).mono ?_
  rintro v H' ⟨rfl, rfl⟩
  simp
  refine AWp.loop_once (wpE_sound _ ?_)
  simp
theorem top_bare (H : AH) (p : AV) (hp : Bare H p) : ACalls Tryd.prog R 13 [p] H fun v H' => v = .int .i64 (-1) ∧ H' = H := by
  refine ACalls.of_wpE Fns.ok13 (by simp [Fns.a13]) ?_
  simp [Fns.a13]
  refine (over_bare _ _ hp _).mono ?_
  rintro v H' ⟨rfl, rfl⟩
  simp
theorem bottom_bare (H : AH) (p : AV) (hp : Bare H p) : ACalls Tryd.prog R 14 [p] H fun v H' => v = .int .i64 (-1) ∧ H' = H := by
  refine ACalls.of_wpE Fns.ok14 (by simp [Fns.a14]) ?_
  simp [Fns.a14]
  refine (over_bare _ _ hp _).mono ?_
  rintro v H' ⟨rfl, rfl⟩
  simp
theorem downset_bare (H : AH) (p : AV) (hp : Bare H p) (a : Int) : ACalls Tryd.prog R 22 [p, .int .i64 a] H fun v H' => v = .nilslice ∧ H' = H := by
  refine ACalls.of_wpE Fns.ok22 (by simp [Fns.a22]) ?_
  simp [Fns.a22]
  refine (len_bare _ _ hp).mono ?_
  rintro v H' ⟨rfl, rfl⟩
  simp
  refine AWp.loop_once (wpE_sound _ ?_)
  simp
theorem awake_ev : evGo Tryd.prog Laid.ro Fns.tab Fns.ctr 3000 11 = true := by kernel_rfl
theorem awake (H : AH) : ACalls Tryd.prog Laid.ro 11 [] H fun v H' => H' = H ∧ v = .bool true := ACalls.go Fns.mixed Fns.tab_ok Fns.ctr_ok awake_ev H
theorem nobody (a b : Int) : ACalls Tryd.prog Laid.ro 6 [.int .i64 a, .int .i64 b] [] fun v _ => v = .bool true := by
  refine ACalls.of_wpE Fns.ok6 (by simp [Fns.a6]) ?_
  simp [Fns.a6]
  refine (awake _).mono ?_
  rintro v H' ⟨rfl, rfl⟩
  simp [fillA]
  refine (len_bare _ _ (.inl rfl)).mono ?_
  rintro v H' ⟨rfl, rfl⟩
  simp
  refine (below_bare _ _ (.inl rfl) _ _).mono ?_
  rintro v H' ⟨rfl, rfl⟩
  simp
  refine (join_bare _ _ (.inl rfl) _ _).mono ?_
  rintro v H' ⟨rfl, rfl⟩
  simp
  refine (meet_bare _ _ (.inl rfl) _ _).mono ?_
  rintro v H' ⟨rfl, rfl⟩
  simp
  refine (top_bare _ _ (.inl rfl)).mono ?_
  rintro v H' ⟨rfl, rfl⟩
  simp
  refine (bottom_bare _ _ (.inl rfl)).mono ?_
  rintro v H' ⟨rfl, rfl⟩
  simp
  refine (downset_bare _ _ (.inl rfl) _).mono ?_
  rintro v H' ⟨rfl, rfl⟩
  simp
  refine (len_bare _ _ (.inr ⟨0, _, rfl, rfl⟩)).mono ?_
  rintro v H' ⟨rfl, rfl⟩
  simp
  refine (below_bare _ _ (.inr ⟨0, _, rfl, rfl⟩) _ _).mono ?_
  rintro v H' ⟨rfl, rfl⟩
  simp
  refine (join_bare _ _ (.inr ⟨0, _, rfl, rfl⟩) _ _).mono ?_
  rintro v H' ⟨rfl, rfl⟩
  simp
  refine (top_bare _ _ (.inr ⟨0, _, rfl, rfl⟩)).mono ?_
  rintro v H' ⟨rfl, rfl⟩
  simp
  refine (bottom_bare _ _ (.inr ⟨0, _, rfl, rfl⟩)).mono ?_
  rintro v H' ⟨rfl, rfl⟩
  simp
  refine (downset_bare _ _ (.inr ⟨0, _, rfl, rfl⟩) _).mono ?_
  rintro v H' ⟨rfl, rfl⟩
  simp
end Go.Proofs.YtjglohfkpigdfaaDoor.Nobody
