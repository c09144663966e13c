/- An entry is itself. -/
import Derived.Test.YtkcddlpmekejkaaDoorAuHeap
import Derived.Test.YtkcddlpmekejkaaDoorAmPairs
namespace Go.Proofs.YtkcddlpmekejkaaDoor.Au
open Go Go.RowKit Am Latt
set_option maxRecDepth 100000
set_option linter.unusedSimpArgs false
set_option linter.unusedVariables false
def fields40 : Array Field := #[⟨"By", 3, 0, false, "", "", 0⟩, ⟨"From", 3, 1, false, "", "", 8⟩, ⟨"To", 3, 2, false, "", "", 16⟩, ⟨"Bytes", 9, 3, false, "", "", 24⟩]
def valE (x : Ent) : Value := .agg #[.int .i64 x.1, .int .i64 x.2.1, .int .i64 x.2.2.1, .string ⟨⟨x.2.2.2⟩⟩]
theorem under40 : Tryd.prog.underlying 40 = some (.struct fields40) := by kernel_rfl
theorem under3 : Tryd.prog.underlying 3 = some (.int .i64) := by kernel_rfl
theorem under9 : Tryd.prog.underlying 9 = some .string := by kernel_rfl
theorem guard40 : Tryd.prog.eqGuardType Tryd.prog.depth 40 = false := by kernel_rfl
theorem stood40 : Tryd.prog.stoodInHeld 40 = false := by kernel_rfl
theorem part_int (cs : Array Value) (k : Nat) (v : Value) (hv : cs[k]? = some v) : pureRun Tryd.prog (part 3 cs k) = some v := by
  unfold part Go.isAgg
  simp only [prb, pureRun_under under3, Option.bind_some, prp, Bool.false_eq_true, if_false, hv]
theorem part_str (cs : Array Value) (k : Nat) (v : Value) (hv : cs[k]? = some v) : pureRun Tryd.prog (part 9 cs k) = some v := by
  unfold part Go.isAgg
  simp only [prb, pureRun_under under9, Option.bind_some, prp, Bool.false_eq_true, if_false, hv]
theorem bytes_self (z : ByteArray) : (z == z) = true := by
  show ByteArray.beq z z = true
  unfold ByteArray.beq
  simp
theorem equal_self (x : Ent) : pureRun Tryd.prog (Op.equal 40 (valE x) (valE x)) = some true := by
  have q2 : ∀ z, pureRun Tryd.prog (Op.equalIn 9999 3 (.int .i64 z) (.int .i64 z)) = some true := fun z => by
    rw [show (9999 : Nat) = 9998 + 1 from rfl, Op.equalIn]
    simp only [prb, pureRun_under under3, Option.bind_some, if_true, prp, beq_self_eq_true]
  have q3 : ∀ z, pureRun Tryd.prog (Op.equalIn 9999 9 (.string z) (.string z)) = some true := fun z => by
    rw [show (9999 : Nat) = 9998 + 1 from rfl, Op.equalIn]
    simp only [prb, pureRun_under under9, Option.bind_some, if_true, prp, bytes_self]
  have p0 := part_int #[.int .i64 x.1, .int .i64 x.2.1, .int .i64 x.2.2.1, .string ⟨⟨x.2.2.2⟩⟩] 0 _ rfl
  have p1 := part_int #[.int .i64 x.1, .int .i64 x.2.1, .int .i64 x.2.2.1, .string ⟨⟨x.2.2.2⟩⟩] 1 _ rfl
  have p2 := part_int #[.int .i64 x.1, .int .i64 x.2.1, .int .i64 x.2.2.1, .string ⟨⟨x.2.2.2⟩⟩] 2 _ rfl
  have p3 := part_str #[.int .i64 x.1, .int .i64 x.2.1, .int .i64 x.2.2.1, .string ⟨⟨x.2.2.2⟩⟩] 3 _ rfl
  unfold Op.equal Op.maxDepth valE
  rw [show (10000 : Nat) = 9999 + 1 from rfl, Op.equalIn]
  simp only [prb, pureRun_under under40, Option.bind_some, program, pureRun, stood40, fields40]
  simp [prb, prp, p0, p1, p2, p3, q2, q3, pureRun]
theorem eq_self (x : Ent) : eqEv Tryd.prog 40 (.struct fields40) (.agg (cellsE x)) (.agg (cellsE x)) = some true := by
  have hc : conc (.agg (cellsE x)) = some (valE x) := rfl
  have hg : pureRun Tryd.prog (eqGuard .eql 40 (.tmp 0) (.tmp 0) (valE x) (valE x)) = some () := by
    unfold eqGuard valE
    simp only [prb, program, pureRun, Option.bind_some]
    simp [prb, prp, pureRun, guard40, program]
  unfold eqEv
  simp only [hc]
  simp only [prb, hg, Option.bind_some, equal_self]
end Go.Proofs.YtkcddlpmekejkaaDoor.Au
