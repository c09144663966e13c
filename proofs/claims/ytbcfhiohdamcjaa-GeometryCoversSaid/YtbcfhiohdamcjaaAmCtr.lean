/- What the quick evaluator's word is worth. -/
import Derived.Test.YtbcfhiohdamcjaaAmRun3
import Derived.Test.YtbcfhiohdamcjaaAmArg
set_option linter.unusedSimpArgs false
set_option linter.unusedVariables false
set_option linter.unusedSectionVars false
set_option linter.unnecessarySimpa false
namespace Am
open Go Go.RowKit
theorem ACalls.go {P : Program} {R : Ro} {tab : FuncId → Option AFn} {ctr : FuncId → Option Ctr} (hm : P.follows .mixedOrders = true) (htab : ∀ f af, tab f = some af → FnOk P f af) (hctr : ∀ f g, ctr f = some g → CtrOk P R f g) {j f : Nat} (h : evGo P R tab ctr j f = true) (H : AH) :
    ACalls P R f [] H fun v H' => H' = H ∧ v = .bool true :=
  ACalls.anywhere rfl ((evGo_ok hm htab hctr h).mono fun v _ hh => by rw [hh]; exact ⟨rfl, rfl⟩) H
theorem go_walk {P : Program} {R : Ro} {tab : FuncId → Option AFn} {ctr : FuncId → Option Ctr} {w : World} (hR : ROk R w) (hm : P.follows .mixedOrders = true) (htab : ∀ f af, tab f = some af → FnOk P f af) (hctr : ∀ f g, ctr f = some g → CtrOk P R f g) {j f : Nat}
    (h : evGo P R tab ctr j f = true) : Calls P f #[] w fun e w' => e = .returned (.bool true) ∧ Below w.heap.size w w' :=
  calls_of_acalls (Vs := []) hR rfl (evGo_ok hm htab hctr h)
end Am
namespace Am
open Go Go.RowKit
noncomputable section
section
variable {P : Program} {R : Ro}
/-- A call that hands back what names no block, and leaves what was there. -/
theorem ACalls.pure {f : FuncId} {args : List AV} {Vs : List Value} (hV : renL [] args = some Vs) {v : AV} {V : Value} (hv : ren [] v = some V) (h : ∀ w, Calls P f Vs.toArray w fun e w' => e = .returned V ∧ Below w.heap.size w w') (H : AH) :
    ACalls P R f args H fun v' H' => v' = v ∧ H' = H := by
  intro base hR ρ w Vs' hrel hV'
  have hx : Ext [] ρ := ⟨ρ, by simp⟩
  have e1 := renL_ext hx hV
  rw [hV'] at e1; cases e1
  refine (h w).mono ?_
  rintro e w' ⟨rfl, hb⟩
  exact ⟨v, V, ρ, H, rfl, Ext.refl _, hrel.later hb, ren_ext hx hv, rfl, rfl⟩
theorem CtrOk.done {f : FuncId} {args : List AV} {v : AV} {h : HT} {n : Nat} {k : AV → HT → Nat → Bool} {H : AH} (s : Sim h n H) (hk : k v h n = true) (hc : ACalls P R f args H fun v' H' => v' = v ∧ H' = H) : ACalls P R f args H (PostC k) :=
  hc.mono fun v' H' ⟨h1, h2⟩ => by subst h1; subst h2; exact ⟨h, n, s, hk⟩
def natOf (z : Int) (k : Nat → Bool) : Bool := Int.casesOn (motive := fun _ => Bool) z k fun _ => false
theorem natOf_ok {z : Int} {k : Nat → Bool} (h : natOf z k = true) : ∃ c : Nat, z = c ∧ k c = true := by
  cases z with
  | ofNat c => exact ⟨c, rfl, h⟩
  | negSucc c => cases h
/-- A text and a number in, a text out. -/
def ctrSI (lim : Nat → Nat → Bool) (g : List UInt8 → Nat → List UInt8) : Ctr := fun _ args h n k => match args with
  | [.str s, .int .i64 z] => natOf z fun c => chk (lim (lenT' s) c) (fStr (g s c) fun r => k (.str r) h n)
  | _ => false
where lenT' (s : List UInt8) : Nat := s.length
theorem ctrSI_ok {f : FuncId} {lim : Nat → Nat → Bool} {g : List UInt8 → Nat → List UInt8} (hg : ∀ (s : ByteArray) (c : Nat) w, lim s.size c = true → Calls P f #[.string s, .int .i64 c] w fun e w' => e = .returned (.string ⟨(g s.data.toList c).toArray⟩) ∧ Below w.heap.size w w') : CtrOk P R f (ctrSI lim g) := by
  intro m _ _ args h n k H s hk
  unfold ctrSI at hk
  split at hk
  · rename_i t z
    obtain ⟨c, rfl, hk⟩ := natOf_ok hk
    obtain ⟨hl, hk⟩ := chk_ok hk
    rw [fStr_eq] at hk
    refine CtrOk.done s hk (ACalls.pure (Vs := [.string ⟨⟨t⟩⟩, .int .i64 c]) (V := .string ⟨⟨g t c⟩⟩) (by simp [ren, renL]) (by simp [ren]) (fun w => ?_) H)
    exact hg ⟨⟨t⟩⟩ c w hl
  · cases hk
end
end
end Am
