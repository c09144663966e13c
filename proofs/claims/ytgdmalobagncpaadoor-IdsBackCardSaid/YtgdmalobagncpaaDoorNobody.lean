/- Nil numbers give none, and those that nobody made: what the law's code computes. -/
import Derived.Test.YtgdmalobagncpaaDoorCtrs
import Derived.Test.YtgdmalobagncpaaDoorAmSym
import Derived.Test.YtgdmalobagncpaaDoorAmCtr
namespace Go.Proofs.YtgdmalobagncpaaDoor.Nobody
open Go Go.RowKit Am
set_option maxRecDepth 100000
set_option linter.unusedSimpArgs false
set_option linter.unusedVariables false
variable {R : Ro}
/-- Numbers that nobody made: nil, of noughts, or of no lattice. -/
def Bare (H : AH) (p : AV) : Prop := p = .nilptr ∨ ∃ i s, p = .ptr (.mu i) 0 ∧ H[i]? = some (.cells [s] 46) ∧ (s = .nilslice ∨ ∃ l o c, s = .slice l o 0 c)
theorem has_bare (H : AH) (p : AV) (hp : Bare H p) (a : Int) : ACalls Tryd.prog R 28 [p, .int .i64 a] H fun v H' => v = .bool false ∧ H' = H := by
  refine ACalls.of_wpE Fns.ok28 (by simp [Fns.a28]) ?_
  rcases hp with rfl | ⟨i, s, rfl, hi, hs⟩
  · simp [Fns.a28, eqEv]
  · by_cases ha : 0 ≤ a
    · have ha' : ¬ a < 0 := by omega
      rcases hs with rfl | ⟨l, o, c, rfl⟩
      · simp [Fns.a28, eqEv, hi, ha, ha']
      · simp [Fns.a28, eqEv, hi, ha, ha']
    · simp [Fns.a28, eqEv, hi, ha]
theorem next_bare (H : AH) (p : AV) (hp : Bare H p) (a : Int) : ACalls Tryd.prog R 16 [p, .int .i64 a] H fun v H' => v = .tuple [.int .i64 0, .bool false] ∧ H' = H := by
  refine ACalls.of_wpE Fns.ok16 (by simp [Fns.a16]) ?_
  simp [Fns.a16]
  refine (has_bare _ _ hp _).mono ?_
  rintro v H' ⟨rfl, rfl⟩
  simp
theorem given_bare (H : AH) (p : AV) (hp : Bare H p) (a : Int) : ACalls Tryd.prog R 17 [p, .int .i64 a] H fun v H' => v = .int .i64 0 ∧ H' = H := by
  refine ACalls.of_wpE Fns.ok17 (by simp [Fns.a17]) ?_
  simp [Fns.a17]
  refine (has_bare _ _ hp _).mono ?_
  rintro v H' ⟨rfl, rfl⟩
  simp
theorem len_nil (H : AH) : ACalls Tryd.prog R 27 [.nilptr] H fun v H' => v = .int .i64 0 ∧ H' = H := by
  refine ACalls.of_wpE Fns.ok27 (by simp [Fns.a27]) ?_
  simp [Fns.a27, eqEv]
theorem new_nil (H : AH) : ACalls Tryd.prog R 15 [.nilptr] H fun v H' => v = .ptr (.mu (H.length + 1)) 0 ∧ H' = H ++ [.cells [] 70] ++ [.cells [.slice (.mu H.length) 0 0 (.known 0)] 46] := by
  refine ACalls.of_wpE Fns.ok15 (by simp [Fns.a15]) ?_
  simp [Fns.a15]
  refine (len_nil _).mono ?_
  rintro v H' ⟨rfl, rfl⟩
  simp [fillA, splice, zerosEv, AV.oneCell]
theorem awake_ev (m : Int) (l0 o0 l1 o1 : Nat) : evGo Tryd.prog (Laid.ro m l0 o0 l1 o1) Fns.tab Fns.ctr 3000 11 = true := by kernel_rfl
theorem awake (m : Int) (l0 o0 l1 o1 : Nat) (H : AH) : ACalls Tryd.prog (Laid.ro m l0 o0 l1 o1) 11 [] H fun v H' => H' = H ∧ v = .bool true := ACalls.go Fns.mixed Fns.tab_ok (Fns.ctr_ok m l0 o0 l1 o1) (awake_ev m l0 o0 l1 o1) H
theorem nobody (m : Int) (l0 o0 l1 o1 : Nat) (a : Int) : ACalls Tryd.prog (Laid.ro m l0 o0 l1 o1) 6 [.int .i64 a] [] fun v _ => v = .bool true := by
  refine ACalls.of_wpE Fns.ok6 (by simp [Fns.a6]) ?_
  simp [Fns.a6]
  refine (awake _ _ _ _ _ _).mono ?_
  rintro v H' ⟨rfl, rfl⟩
  simp [fillA]
  refine (next_bare _ _ (.inl rfl) _).mono ?_
  rintro v H' ⟨rfl, rfl⟩
  simp
  refine (next_bare _ _ (.inr ⟨0, _, rfl, rfl, .inl rfl⟩) _).mono ?_
  rintro v H' ⟨rfl, rfl⟩
  simp
  refine (new_nil _).mono ?_
  rintro v H' ⟨rfl, rfl⟩
  simp
  refine (next_bare _ _ (.inr ⟨2, _, rfl, rfl, .inr ⟨_, _, _, rfl⟩⟩) _).mono ?_
  rintro v H' ⟨rfl, rfl⟩
  simp
  refine (given_bare _ _ (.inl rfl) _).mono ?_
  rintro v H' ⟨rfl, rfl⟩
  simp
  refine (given_bare _ _ (.inr ⟨0, _, rfl, rfl, .inl rfl⟩) _).mono ?_
  rintro v H' ⟨rfl, rfl⟩
  simp
end Go.Proofs.YtgdmalobagncpaaDoor.Nobody
