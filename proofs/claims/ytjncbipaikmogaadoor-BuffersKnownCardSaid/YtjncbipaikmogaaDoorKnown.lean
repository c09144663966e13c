/- The chapter's examples: what the law's code computes. -/
import Derived.Test.YtjncbipaikmogaaDoorCtrs
import Derived.Test.YtjncbipaikmogaaDoorShelf
namespace Go.Proofs.YtjncbipaikmogaaDoor.Fns
open Go Go.RowKit Am
noncomputable section
def ctrK : FuncId → Option Ctr
  | 21 => some (ctrSI (fun m c => Nat.ble (m * c) 100000 && Nat.ble c 100000) Lib.repeatL)
  | 29 => some (ctrIns 90 2 24)
  | 33 => some (ctrDel 90 2 24)
  | _ => none
theorem ctrK_ok : ∀ f g, ctrK f = some g → CtrOk Tryd.prog Laid.ro f g := by
  intro f g h
  unfold ctrK at h
  split at h
  · cases h
    exact ctrSI_ok fun s c w hl => by
      simp only [Bool.and_eq_true] at hl
      have h1 := Nat.le_of_ble_eq_true hl.1
      have h2 := Nat.le_of_ble_eq_true hl.2
      exact Tryd.strings_Repeat s c w (by omega) (by omega)
  · cases h
    exact ctrIns_ok mixed ins_ok rfl (by decide) (by decide) rfl
  · cases h
    exact ctrDel_ok mixed del_ok rfl (by decide) (by decide) rfl
  · cases h
end
def tabK : FuncId → Option AFn := fun f => match Nat.beq f 21 with
  | true => none
  | false => tab f
theorem tabK_ok : ∀ f af, tabK f = some af → FnOk Tryd.prog f af := by
  intro f af h
  unfold tabK at h
  split at h
  · cases h
  · exact tab_ok f af h
theorem known_ev : evGo Tryd.prog Laid.ro tabK ctrK 20000 5 = true := by kernel_rfl
theorem known : ACalls Tryd.prog Laid.ro 5 [] [] fun v _ => v = .bool true := evGo_ok mixed tabK_ok ctrK_ok known_ev
end Go.Proofs.YtjncbipaikmogaaDoor.Fns
