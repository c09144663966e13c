/- What a call of the abstract machine says of the given model: a closed function that is evaluated to true returns true, and the world's own cells stand. -/
import Derived.Test.YtbcfhiohdamcjaaAmEval
set_option linter.unusedSimpArgs false
set_option linter.unusedVariables false
set_option linter.unusedSectionVars false
set_option linter.unnecessarySimpa false
namespace Am
open Go Go.RowKit
def isTrue (v : AV) (_ : AH) : Bool := match v with | .bool b => b | _ => false
theorem isTrue_eq {v : AV} {H : AH} (h : isTrue v H = true) : v = .bool true := by
  unfold isTrue at h
  split at h
  · exact congrArg _ h
  · cases h
theorem rel_start (w : World) : Rel w [] [] w :=
  ⟨Below.refl _ _, rfl, fun i o p h => by simp at h, fun i o p h => by simp at h, fun i j o u p q _ h => by simp at h⟩
theorem calls_of_acalls {P : Program} {R : Ro} {f : FuncId} {args : List AV} {Vs : List Value} {w : World} (hR : ROk R w) (hV : renL [] args = some Vs)
    (h : ACalls P R f args [] fun v _ => v = .bool true) : Calls P f Vs.toArray w fun e w' => e = .returned (.bool true) ∧ Below w.heap.size w w' := by
  refine (h w hR [] w Vs (rel_start w) hV).mono ?_
  rintro e w' ⟨v, V, ρ', H', rfl, hx, hr, hv, rfl⟩
  simp only [ren, Option.some.injEq] at hv
  subst hv
  exact ⟨rfl, hr.below⟩
def noRo : Ro := { f := fun _ _ => none }
theorem noRo_ok (w : World) : ROk noRo w := ⟨fun b o v h => (by cases h), trivial⟩
theorem closed_walk {P : Program} {tab : FuncId → Option AFn} (hm : P.follows .mixedOrders = true) (htab : ∀ f af, tab f = some af → FnOk P f af) (n : Nat) {f : FuncId}
    (h : evCall P noRo tab n f [] [] isTrue = true) (w : World) : Calls P f #[] w fun e w' => e = .returned (.bool true) ∧ Below w.heap.size w w' :=
  calls_of_acalls (Vs := []) (noRo_ok w) rfl (((ev_sound hm htab n).1 f [] [] isTrue h).mono fun _ _ h => isTrue_eq h)
theorem closed_walk_ro {P : Program} {R : Ro} {tab : FuncId → Option AFn} {w : World} (hR : ROk R w) (hm : P.follows .mixedOrders = true) (htab : ∀ f af, tab f = some af → FnOk P f af) (n : Nat) {f : FuncId}
    (h : evCall P R tab n f [] [] isTrue = true) : Calls P f #[] w fun e w' => e = .returned (.bool true) ∧ Below w.heap.size w w' :=
  calls_of_acalls (Vs := []) hR rfl (((ev_sound hm htab n).1 f [] [] isTrue h).mono fun _ _ h => isTrue_eq h)
end Am
