/- What the quick evaluator's word is worth. -/
import Derived.Test.YtjglohfkpigdfaaDoorAmRun3
import Derived.Test.YtjglohfkpigdfaaDoorAmFrame
set_option linter.unusedSimpArgs false
set_option linter.unusedVariables false
set_option linter.unusedSectionVars false
set_option linter.unnecessarySimpa false
namespace Am
open Go Go.RowKit
theorem ACalls.go {P : Program} {R : Ro} {tab : FuncId → Option AFn} {ctr : FuncId → Option Ctr} (hm : P.follows .mixedOrders = true) (htab : ∀ f af, tab f = some af → FnOk P f af) (hctr : ∀ f g, ctr f = some g → CtrOk P R f g) {j f : Nat} (h : evGo P R tab ctr j f = true) (H : AH) :
    ACalls P R f [] H fun v H' => H' = H ∧ v = .bool true :=
  ACalls.anywhere rfl ((evGo_ok hm htab hctr h).mono fun v _ hh => by rw [hh]; exact ⟨rfl, rfl⟩) H
theorem go_walk {P : Program} {R : Ro} {tab : FuncId → Option AFn} {ctr : FuncId → Option Ctr} {w : World} (hR : ROk R w) (hm : P.follows .mixedOrders = true) (htab : ∀ f af, tab f = some af → FnOk P f af) (hctr : ∀ f g, ctr f = some g → CtrOk P R f g) {j f : Nat}
    (h : evGo P R tab ctr j f = true) : Calls P f #[] w fun e w' => e = .returned (.bool true) ∧ Below w.heap.size w w' :=
  calls_of_acalls (Vs := []) hR rfl (evGo_ok hm htab hctr h)
end Am
