/- The library's contracts for the evaluator: strings.Repeat. -/
import Derived.Test.YtkcddlpmekejkaaDoorShelf
import Derived.Test.YtkcddlpmekejkaaDoorAmCtr
import Derived.Test.YtkcddlpmekejkaaDoorTab
namespace Go.Proofs.YtkcddlpmekejkaaDoor.Fns
open Go Go.RowKit Am
noncomputable section
def ctr : FuncId → Option Ctr
  | 24 => some (ctrSI (fun m c => Nat.ble (m * c) 100000 && Nat.ble c 100000) Lib.repeatL)
  | _ => none
theorem ctr_ok {R : Ro} : ∀ f g, ctr f = some g → CtrOk Tryd.prog R f g := by
  intro f g h
  unfold ctr at h
  split at h
  · cases h
    exact ctrSI_ok fun s c w hl => by
      simp only [Bool.and_eq_true] at hl
      have h1 := Nat.le_of_ble_eq_true hl.1
      have h2 := Nat.le_of_ble_eq_true hl.2
      exact Tryd.strings_Repeat s c w (by omega) (by omega)
  · cases h
end
end Go.Proofs.YtkcddlpmekejkaaDoor.Fns
