/- slices.Insert, slices.Delete, as the evaluator takes them. -/
import Derived.Test.YtjncbipaikmogaaDoorAmInsC
import Derived.Test.YtjncbipaikmogaaDoorTab
import Derived.Test.YtjncbipaikmogaaDoorLaid
namespace Go.Proofs.YtjncbipaikmogaaDoor.Fns
open Go Go.RowKit Am
theorem ins_ok : FnOk Tryd.prog 29 (insF 90 2 24 [.int .i64 0, .str []] #[85, 85] #[4] 49) := ok29
theorem del_ok : FnOk Tryd.prog 33 (delF 90 2 24 [.int .i64 0, .str []]) := ok33
noncomputable section
def ctr : FuncId → Option Ctr
  | 29 => some (ctrIns 90 2 24)
  | 33 => some (ctrDel 90 2 24)
  | _ => none
theorem ctr_ok : ∀ f g, ctr f = some g → CtrOk Tryd.prog Laid.ro f g := by
  intro f g h
  unfold ctr at h
  split at h
  · cases h
    exact ctrIns_ok mixed ins_ok rfl (by decide) (by decide) rfl
  · cases h
    exact ctrDel_ok mixed del_ok rfl (by decide) (by decide) rfl
  · cases h
end
theorem awake_ev : evGo Tryd.prog Laid.ro tab ctr 20000 6 = true := by kernel_rfl
theorem awake (H : AH) : ACalls Tryd.prog Laid.ro 6 [] H fun v H' => H' = H ∧ v = .bool true := ACalls.go mixed tab_ok ctr_ok awake_ev H
end Go.Proofs.YtjncbipaikmogaaDoor.Fns
