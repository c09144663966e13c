/- The awake, and the table. -/
import Derived.Test.YtkcddlpmekejkaaDoorAuGreat
import Derived.Test.YtkcddlpmekejkaaDoorNobody
namespace Go.Proofs.YtkcddlpmekejkaaDoor.Au
open Go Go.RowKit Am Latt
set_option maxRecDepth 100000
set_option linter.unusedSimpArgs false
set_option linter.unusedVariables false
variable {R : Ro}
theorem hasTab : HasTab Laid.ro := by
  have h : ∀ j : Fin 64, Laid.zs[j.val]? = some ((Lib.deBruijn64tab.getD j.val 0 : Nat) : Int) := by decide
  intro j hj
  have := h ⟨j, hj⟩
  unfold Laid.ro
  rw [if_pos rfl, this]
  rfl
theorem tab_of (hle : ∀ b o v, Laid.ro b o = some v → R b o = some v) : HasTab R := fun j hj => hle _ _ _ (hasTab j hj)
theorem awake_of (hle : ∀ b o v, Laid.ro b o = some v → R b o = some v) (H : AH) : ACalls Tryd.prog R 7 [] H fun v H' => H' = H ∧ v = .bool true := ACalls.ro hle (Nobody.awake H)
end Go.Proofs.YtkcddlpmekejkaaDoor.Au
