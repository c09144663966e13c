/- Two panes are alike exactly if their numbers are. -/
import Derived.Test.YtbcfhiohdamcjaaAmInts
import Derived.Test.YtbcfhiohdamcjaaTab
import Derived.Test.YtbcfhiohdamcjaaAmSym
namespace Go.Proofs.Ytbcfhiohdamcjaa.Tr
open Go Go.RowKit Am
set_option maxRecDepth 100000
set_option linter.unusedSimpArgs false
set_option linter.unusedVariables false
theorem prb {P : Program} {α β : Type} (s : Sem α) (f : α → Sem β) : pureRun P (s >>= f) = (pureRun P s).bind fun q => pureRun P (f q) := by
  cases h : pureRun P s with
  | some q =>
    cases h2 : pureRun P (f q) with
    | some r => rw [pureRun_bind_mk h h2]; simp [h2]
    | none =>
      cases h3 : pureRun P (s >>= f) with
      | none => simp [h2]
      | some r => obtain ⟨q', h4, h5⟩ := pureRun_bind h3; rw [h] at h4; cases h4; rw [h2] at h5; cases h5
  | none =>
    cases h3 : pureRun P (s >>= f) with
    | none => rfl
    | some r => obtain ⟨q', h4, _⟩ := pureRun_bind h3; rw [h] at h4; cases h4
theorem prp {P : Program} {α : Type} (a : α) : pureRun P (pure a) = some a := rfl
def fieldsP : Array Field := #[⟨"Label", 3, 0, false, "", "", 0⟩, ⟨"Home", 3, 1, false, "", "", 8⟩, ⟨"N", 3, 2, false, "", "", 16⟩]
theorem underP : Try.prog.underlying 32 = some (.struct fieldsP) := by kernel_rfl
theorem underI : Try.prog.underlying 3 = some (.int .i64) := by kernel_rfl
theorem guardP : Try.prog.eqGuardType Try.prog.depth 32 = false := by kernel_rfl
theorem stoodP : Try.prog.stoodInHeld 32 = false := by kernel_rfl
theorem partI (cs : Array Value) (k : Nat) (v : Value) (hv : cs[k]? = some v) : pureRun Try.prog (part 3 cs k) = some v := by
  unfold part Go.isAgg
  simp only [prb, pureRun_under underI, Option.bind_some, prp, Bool.false_eq_true, if_false, hv]
theorem equalP (a b c a' b' c' : Int) : pureRun Try.prog (Op.equal 32 (.agg #[.int .i64 a, .int .i64 b, .int .i64 c]) (.agg #[.int .i64 a', .int .i64 b', .int .i64 c'])) = some (decide (a = a' ∧ b = b' ∧ c = c')) := by
  have q2 : ∀ z w, pureRun Try.prog (Op.equalIn 9999 3 (.int .i64 z) (.int .i64 w)) = some (z == w) := fun z w => by
    rw [show (9999 : Nat) = 9998 + 1 from rfl, Op.equalIn]
    simp only [prb, pureRun_under underI, Option.bind_some, if_true, prp]
  have p0 := fun (a b c : Int) => partI #[.int .i64 a, .int .i64 b, .int .i64 c] 0 _ rfl
  have p1 := fun (a b c : Int) => partI #[.int .i64 a, .int .i64 b, .int .i64 c] 1 _ rfl
  have p2 := fun (a b c : Int) => partI #[.int .i64 a, .int .i64 b, .int .i64 c] 2 _ rfl
  unfold Op.equal Op.maxDepth
  rw [show (10000 : Nat) = 9999 + 1 from rfl, Op.equalIn]
  simp only [prb, pureRun_under underP, Option.bind_some, program, pureRun, stoodP, fieldsP]
  by_cases h1 : a = a' <;> by_cases h2 : b = b' <;> by_cases h3 : c = c' <;> simp [prb, prp, p0, p1, p2, q2, pureRun, h1, h2, h3]
theorem eqP (a b c a' b' c' : Int) : eqEv Try.prog 32 (.struct fieldsP) (.agg [.int .i64 a, .int .i64 b, .int .i64 c]) (.agg [.int .i64 a', .int .i64 b', .int .i64 c']) = some (decide (a = a' ∧ b = b' ∧ c = c')) := by
  have hc : ∀ a b c : Int, conc (.agg [.int .i64 a, .int .i64 b, .int .i64 c]) = some (.agg #[.int .i64 a, .int .i64 b, .int .i64 c]) := fun _ _ _ => rfl
  have hg : pureRun Try.prog (eqGuard .eql 32 (.tmp 0) (.tmp 0) (.agg #[.int .i64 a, .int .i64 b, .int .i64 c]) (.agg #[.int .i64 a', .int .i64 b', .int .i64 c'])) = some () := by
    unfold eqGuard
    simp only [prb, program, pureRun, Option.bind_some]
    simp [prb, prp, pureRun, guardP, program]
  unfold eqEv
  simp only [hc]
  simp only [prb, hg, Option.bind_some, equalP]
end Go.Proofs.Ytbcfhiohdamcjaa.Tr
