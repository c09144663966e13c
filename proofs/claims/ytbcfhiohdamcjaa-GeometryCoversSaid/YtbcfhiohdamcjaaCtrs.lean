/- What the evaluator takes as walked. -/
import Derived.Test.YtbcfhiohdamcjaaGeCtr
namespace Go.Proofs.Ytbcfhiohdamcjaa.Fns
open Go Go.RowKit Am
set_option maxRecDepth 100000
theorem ins_ok : FnOk Try.prog 37 (insF 55 7 56 [.int .i64 0, .int .i64 0, .int .i64 0, .int .i64 0, .int .i64 0, .int .i64 0, .int .i64 0] #[56, 56] #[4] 52) := ok37
theorem del_ok : FnOk Try.prog 45 (delF 55 7 56 [.int .i64 0, .int .i64 0, .int .i64 0, .int .i64 0, .int .i64 0, .int .i64 0, .int .i64 0]) := ok45
noncomputable section
def ctr : FuncId → Option Ctr
  | 35 => some Tr.ctrLen
  | 12 => some Ge.ctrZoom
  | 37 => some (ctrIns 55 7 56)
  | 45 => some (ctrDel 55 7 56)
  | _ => none
theorem ctr_ok : ∀ f g, ctr f = some g → CtrOk Try.prog noRo f g := by
  intro f g h
  unfold ctr at h
  split at h
  · cases h; exact Tr.ctrLen_ok
  · cases h; exact Ge.ctrZoom_ok
  · cases h; exact ctrIns_ok mixed ins_ok rfl (by decide) (by decide) rfl
  · cases h; exact ctrDel_ok mixed del_ok rfl (by decide) (by decide) rfl
  · cases h
end
theorem awake_ev : evGo Try.prog noRo tab ctr 20000 11 = true := by kernel_rfl
theorem awake (H : AH) : ACalls Try.prog noRo 11 [] H fun v H' => H' = H ∧ v = .bool true := ACalls.go mixed tab_ok ctr_ok awake_ev H
theorem known_ev : evGo Try.prog noRo tab ctr 20000 3 = true := by kernel_rfl
theorem known : ACalls Try.prog noRo 3 [] [] fun v _ => v = .bool true := evGo_ok mixed tab_ok ctr_ok known_ev
end Go.Proofs.Ytbcfhiohdamcjaa.Fns
