/- Two nodes are alike exactly if their numbers are. -/
import Derived.Test.YtffmpomidfickaaTrPanes
namespace Go.Proofs.Ytffmpomidfickaa.Tr
open Go Go.RowKit Am
set_option maxRecDepth 100000
set_option maxHeartbeats 2000000
set_option linter.unusedSimpArgs false
set_option linter.unusedVariables false
def fieldsN : Array Field := #[⟨"Side", 3, 0, false, "", "", 0⟩, ⟨"First", 3, 1, false, "", "", 8⟩, ⟨"Second", 3, 2, false, "", "", 16⟩, ⟨"Share", 3, 3, false, "", "", 24⟩, ⟨"Pane", 25, 4, false, "", "", 32⟩]
theorem underN : Try.prog.underlying 54 = some (.struct fieldsN) := by kernel_rfl
theorem guardN : Try.prog.eqGuardType Try.prog.depth 54 = false := by kernel_rfl
theorem stoodN : Try.prog.stoodInHeld 54 = false := by kernel_rfl
theorem cellsP : Try.prog.cellsOf 25 = 3 := by kernel_rfl
theorem equalPn (m : Nat) (a b c a' b' c' : Int) : pureRun Try.prog (Op.equalIn (m + 2) 25 (.agg #[.int .i64 a, .int .i64 b, .int .i64 c]) (.agg #[.int .i64 a', .int .i64 b', .int .i64 c'])) = some (decide (a = a' ∧ b = b' ∧ c = c')) := by
  have q2 : ∀ z w, pureRun Try.prog (Op.equalIn (m + 1) 3 (.int .i64 z) (.int .i64 w)) = some (z == w) := fun z w => by
    rw [Op.equalIn]
    simp only [prb, pureRun_under underI, Option.bind_some, if_true, prp]
  have p0 := fun (a b c : Int) => partI #[.int .i64 a, .int .i64 b, .int .i64 c] 0 _ rfl
  have p1 := fun (a b c : Int) => partI #[.int .i64 a, .int .i64 b, .int .i64 c] 1 _ rfl
  have p2 := fun (a b c : Int) => partI #[.int .i64 a, .int .i64 b, .int .i64 c] 2 _ rfl
  rw [show m + 2 = (m + 1) + 1 from rfl, Op.equalIn]
  simp only [prb, pureRun_under underP, Option.bind_some, program, pureRun, stoodP, fieldsP]
  by_cases h1 : a = a' <;> by_cases h2 : b = b' <;> by_cases h3 : c = c' <;> simp [prb, prp, p0, p1, p2, q2, pureRun, h1, h2, h3]
theorem partP (s f t h a b c : Int) : pureRun Try.prog (part 25 #[.int .i64 s, .int .i64 f, .int .i64 t, .int .i64 h, .int .i64 a, .int .i64 b, .int .i64 c] 4) = some (.agg #[.int .i64 a, .int .i64 b, .int .i64 c]) := by
  unfold part Go.isAgg sizeOf
  simp only [prb, pureRun_under underP, Option.bind_some, prp, if_true, program, pureRun, cellsP]
  rfl
theorem equalN (s f t h a b c s' f' t' h' a' b' c' : Int) : pureRun Try.prog (Op.equal 54 (.agg #[.int .i64 s, .int .i64 f, .int .i64 t, .int .i64 h, .int .i64 a, .int .i64 b, .int .i64 c]) (.agg #[.int .i64 s', .int .i64 f', .int .i64 t', .int .i64 h', .int .i64 a', .int .i64 b', .int .i64 c'])) = some (decide (s = s' ∧ f = f' ∧ t = t' ∧ h = h' ∧ a = a' ∧ b = b' ∧ c = c')) := by
  have q2 : ∀ z w, pureRun Try.prog (Op.equalIn 9999 3 (.int .i64 z) (.int .i64 w)) = some (z == w) := fun z w => by
    rw [show (9999 : Nat) = 9998 + 1 from rfl, Op.equalIn]
    simp only [prb, pureRun_under underI, Option.bind_some, if_true, prp]
  have q3 := equalPn 9997
  have p0 := fun (s f t h a b c : Int) => partI #[.int .i64 s, .int .i64 f, .int .i64 t, .int .i64 h, .int .i64 a, .int .i64 b, .int .i64 c] 0 _ rfl
  have p1 := fun (s f t h a b c : Int) => partI #[.int .i64 s, .int .i64 f, .int .i64 t, .int .i64 h, .int .i64 a, .int .i64 b, .int .i64 c] 1 _ rfl
  have p2 := fun (s f t h a b c : Int) => partI #[.int .i64 s, .int .i64 f, .int .i64 t, .int .i64 h, .int .i64 a, .int .i64 b, .int .i64 c] 2 _ rfl
  have p3 := fun (s f t h a b c : Int) => partI #[.int .i64 s, .int .i64 f, .int .i64 t, .int .i64 h, .int .i64 a, .int .i64 b, .int .i64 c] 3 _ rfl
  unfold Op.equal Op.maxDepth
  rw [show (10000 : Nat) = 9999 + 1 from rfl, Op.equalIn]
  simp only [prb, pureRun_under underN, Option.bind_some, program, pureRun, stoodN, fieldsN]
  by_cases h1 : s = s'
  · by_cases h2 : f = f'
    · by_cases h3 : t = t'
      · by_cases h4 : h = h'
        · by_cases h5 : a = a' ∧ b = b' ∧ c = c'
          · simp [prb, prp, p0, p1, p2, p3, q2, q3, partP, pureRun, h1, h2, h3, h4, h5]
          · have h6 : decide (a = a' ∧ b = b' ∧ c = c') = false := by simpa using h5
            simp [prb, prp, p0, p1, p2, p3, q2, partP, pureRun, h1, h2, h3, h4]
            rw [show (9999 : Nat) = 9997 + 2 from rfl, q3, h6]
            simp [prb, prp, pureRun]
            simpa using h5
        · simp [prb, prp, p0, p1, p2, p3, q2, pureRun, h1, h2, h3, h4]
      · simp [prb, prp, p0, p1, p2, q2, pureRun, h1, h2, h3]
    · simp [prb, prp, p0, p1, q2, pureRun, h1, h2]
  · simp [prb, prp, p0, q2, pureRun, h1]
instance (x y : ND) : Decidable (x = y) := decidable_of_iff (x.side = y.side ∧ x.f = y.f ∧ x.s = y.s ∧ x.sh = y.sh ∧ x.a = y.a ∧ x.b = y.b ∧ x.c = y.c) (by cases x; cases y; simp)
theorem eqN (x y : ND) : eqEv Try.prog 54 (.struct fieldsN) (.agg x.cells) (.agg y.cells) = some (decide (x = y)) := by
  obtain ⟨s, f, t, h, a, b, c⟩ := x
  obtain ⟨s', f', t', h', a', b', c'⟩ := y
  have hc : ∀ s f t h a b c : Int, conc (.agg [.int .i64 s, .int .i64 f, .int .i64 t, .int .i64 h, .int .i64 a, .int .i64 b, .int .i64 c]) = some (.agg #[.int .i64 s, .int .i64 f, .int .i64 t, .int .i64 h, .int .i64 a, .int .i64 b, .int .i64 c]) := fun _ _ _ _ _ _ _ => rfl
  have hg : pureRun Try.prog (eqGuard .eql 54 (.tmp 0) (.tmp 0) (.agg #[.int .i64 s, .int .i64 f, .int .i64 t, .int .i64 h, .int .i64 a, .int .i64 b, .int .i64 c]) (.agg #[.int .i64 s', .int .i64 f', .int .i64 t', .int .i64 h', .int .i64 a', .int .i64 b', .int .i64 c'])) = some () := by
    unfold eqGuard
    simp only [prb, program, pureRun, Option.bind_some]
    simp [prb, prp, pureRun, guardN, program]
  unfold eqEv ND.cells
  simp only [hc]
  simp only [prb, hg, Option.bind_some, equalN]
  congr 1
  rw [Bool.eq_iff_iff]
  simp
end Go.Proofs.Ytffmpomidfickaa.Tr
