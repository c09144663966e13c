/- The listed table, the chapter's own check. -/
import Derived.Test.YtjncbipaikmogaaDoorCtrs
import Derived.Test.YtjncbipaikmogaaDoorLatGood
import Derived.Test.YtjncbipaikmogaaDoorAmFlat
namespace Go.Proofs.YtjncbipaikmogaaDoor.Bf
open Go Go.RowKit Am Latt
set_option maxRecDepth 100000
set_option linter.unusedSimpArgs false
set_option linter.unusedVariables false
variable {R : Ro}
theorem hasTab : HasTab Laid.ro := by
  have h : ∀ j : Fin 64, Laid.zs[j.val]? = some ((Lib.deBruijn64tab.getD j.val 0 : Nat) : Int) := by decide
  intro j hj
  have := h ⟨j, hj⟩
  unfold Laid.ro Laid.roF
  dsimp only
  rw [if_pos rfl, this]
  rfl
theorem tab_of (hle : ∀ b o v, Laid.ro b o = some v → R b o = some v) : HasTab R := fun j hj => hle _ _ _ (hasTab j hj)
theorem wakes_of (hle : ∀ b o v, Laid.ro b o = some v → R b o = some v) (H : AH) : ACalls Tryd.prog R 6 [] H fun v H' => H' = H ∧ v = .bool true := ACalls.ro hle (Fns.awake H)
theorem u8_of {a : Int} (h : (Lit.int .u8 a).wf = true) : 0 ≤ a ∧ a ≤ 255 := by
  simp [Lit.wf, IntKind.min, IntKind.max, IntKind.bits, IntKind.signed] at h
  omega
end Go.Proofs.YtjncbipaikmogaaDoor.Bf
