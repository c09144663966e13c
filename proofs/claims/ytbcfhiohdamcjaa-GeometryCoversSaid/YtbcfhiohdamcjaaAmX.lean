/- Regions that draw their order: an operation that only reads may be taken first, if what it reads is held by whatever may come before it. (After the kit's Derived/OrdersHeld, with one condition an operation.) -/
import Derived.OrdersHeld
set_option linter.unusedSimpArgs false
set_option linter.unusedVariables false
set_option linter.unusedSectionVars false
set_option linter.unnecessarySimpa false
namespace Am
open Go

section
variable {P : Program} {ops : Array Oper} {Q : Exit → Act → World → Prop} {md : Region.Mode}

/-- 'i' does not wait for 'k', by whatever road (the bits of 'B'). -/
def indep (B : List Nat) (k i : Nat) : Bool := !(B.getD i 0).testBit k

def keepT {α : Type} (eff : Nat → Bool) (B : List Nat) (T : List (Nat × α)) (i : Nat) : List (Nat × α) := if eff i then T.filter (fun x => indep B x.1 i) else T

def wpAnyX (P : Program) (md : Region.Mode) (ops : Array Oper) (Q : Exit → Act → World → Prop) (eff : Nat → Bool) (B : List Nat) : Nat → List (Nat × (World → Prop)) → Array Bool → Act → World → Prop
  | 0, _, listed, a, w => Region.ready md ops listed = [] ∧ Q .normal a w
  | fuel + 1, T, listed, a, w =>
    (Region.ready md ops listed = [] → Q .normal a w) ∧
    ∀ i ∈ Region.ready md ops listed, wpOp P ops Q i (fun a' w' => (∀ x ∈ keepT eff B T i, x.2 w') ∧ wpAnyX P md ops Q eff B fuel (keepT eff B T i) (listed.setIfInBounds i true) a' w') a w

variable {eff : Nat → Bool} {B : List Nat}

theorem wpAny_of_X : ∀ (fuel : Nat) (T : List (Nat × (World → Prop))) (listed : Array Bool) (a : Act) (w : World), wpAnyX P md ops Q eff B fuel T listed a w → wpAny P md ops Q fuel listed a w
  | 0, _, _, _, _, h => h
  | fuel + 1, _, _, _, _, h => ⟨h.1, fun i hi => wpOp_mono (fun a' w' h' => wpAny_of_X fuel _ _ a' w' h'.2) (h.2 i hi)⟩

theorem keepT_sub {T T' : List (Nat × (World → Prop))} (h : ∀ x ∈ T', x ∈ T) (i : Nat) : ∀ x ∈ keepT eff B T' i, x ∈ keepT eff B T i := by
  intro x hx
  unfold keepT at *
  split at hx
  · rename_i he
    rw [if_pos he]
    rw [List.mem_filter] at hx ⊢
    exact ⟨h x hx.1, hx.2⟩
  · rename_i he; rw [if_neg he]; exact h x hx

theorem wpAnyX_sub : ∀ (fuel : Nat) (T T' : List (Nat × (World → Prop))) (listed : Array Bool) (a : Act) (w : World), (∀ x ∈ T', x ∈ T) → wpAnyX P md ops Q eff B fuel T listed a w → wpAnyX P md ops Q eff B fuel T' listed a w
  | 0, _, _, _, _, _, _, h => h
  | fuel + 1, _, _, _, _, _, hs, h => ⟨h.1, fun i hi => wpOp_mono (fun a' w' h' => ⟨fun x hx => h'.1 x (keepT_sub hs i x hx), wpAnyX_sub fuel _ _ _ a' w' (keepT_sub hs i) h'.2⟩) (h.2 i hi)⟩

theorem wpAnyX_true (i : Nat) : ∀ (fuel : Nat) (T : List (Nat × (World → Prop))) (listed : Array Bool) (a : Act) (w : World), wpAnyX P md ops Q eff B fuel T listed a w → wpAnyX P md ops Q eff B fuel ((i, fun _ => True) :: T) listed a w
  | 0, _, _, _, _, h => h
  | fuel + 1, T, listed, a, w, h => by
    refine ⟨h.1, fun j hj => wpOp_mono (fun a' w' h' => ?_) (h.2 j hj)⟩
    have hk : keepT eff B ((i, fun _ => True) :: T) j = (i, fun _ => True) :: keepT eff B T j ∨ keepT eff B ((i, fun _ => True) :: T) j = keepT eff B T j := by
      unfold keepT
      split
      · rw [List.filter_cons]; split
        · exact .inl rfl
        · exact .inr rfl
      · exact .inl rfl
    rcases hk with hk | hk
    · rw [hk]
      refine ⟨fun x hx => ?_, wpAnyX_true i fuel _ _ a' w' h'.2⟩
      rcases List.mem_cons.1 hx with rfl | hx
      · trivial
      · exact h'.1 x hx
    · rw [hk]; exact h'

/-- What is listed is closed downward. -/
def Closed (md : Region.Mode) (ops : Array Oper) (listed : Array Bool) : Prop :=
  ∀ j o, ops[j]? = some o → listed.getD j false = true → ∀ e ∈ o.after, Region.binds md e = true → listed.getD e.on false = true

theorem closed_set {listed : Array Bool} {i : Nat} (hc : Closed md ops listed) (hr : i ∈ Region.ready md ops listed) : Closed md ops (listed.setIfInBounds i true) := by
  intro j o hj hl e he hb
  obtain ⟨hun, oi, hoi, hall⟩ := mem_ready.1 hr
  by_cases hij : i = j
  · subst hij
    rw [hoi] at hj; cases hj
    exact getD_set_true (hall e he hb)
  · rw [getD_set_ne false hij] at hl
    exact getD_set_true (hc j o hj hl e he hb)

/-- The bits are right: whatever road leads from 'i' down to 'k' is told. -/
def BOk (md : Region.Mode) (ops : Array Oper) (B : List Nat) : Prop :=
  ∀ i k, (B.getD i 0).testBit k = true → ∃ o, ops[i]? = some o ∧ ∃ e ∈ o.after, Region.binds md e = true ∧ (e.on = k ∨ (B.getD e.on 0).testBit k = true) ∧ e.on < i

theorem listed_of_bit (hB : BOk md ops B) {listed : Array Bool} (hc : Closed md ops listed) : ∀ (n i : Nat), i ≤ n → ∀ k, (B.getD i 0).testBit k = true → (∀ o, ops[i]? = some o → ∀ e ∈ o.after, Region.binds md e = true → listed.getD e.on false = true) → listed.getD k false = true := by
  intro n
  induction n with
  | zero =>
    intro i hi k hk hall
    obtain ⟨o, ho, e, he, hb, h, hlt⟩ := hB i k hk
    omega
  | succ n ih =>
    intro i hi k hk hall
    obtain ⟨o, ho, e, he, hb, h, hlt⟩ := hB i k hk
    have hl := hall o ho e he hb
    rcases h with rfl | h
    · exact hl
    · exact ih e.on (by omega) k h (fun o' ho' e' he' hb' => hc e.on o' ho' hl e' he' hb')

theorem indep_of_ready (hB : BOk md ops B) {listed : Array Bool} (hc : Closed md ops listed) {i k : Nat} (hr : i ∈ Region.ready md ops listed) (hk : listed.getD k false = false) : indep B k i = true := by
  obtain ⟨hun, oi, hoi, hall⟩ := mem_ready.1 hr
  unfold indep
  cases hb : (B.getD i 0).testBit k with
  | false => rfl
  | true =>
    have := listed_of_bit hB hc i i (Nat.le_refl _) k hb (fun o ho e he hb' => by rw [hoi] at ho; cases ho; exact hall e he hb')
    rw [hk] at this; cases this

theorem getD_true_false {listed : Array Bool} {i : Nat} (h : listed.getD i true = false) : listed.getD i false = false := by
  rcases Nat.lt_or_ge i listed.size with h' | h'
  · simpa [h'] using h
  · simp [Array.getElem?_eq_none h'] at h

theorem wpAnyX_first {i : Nat} {oi : Oper} {v : Value} {S : World → Prop} (hB : BOk md ops B) (hi : ops[i]? = some oi) (hsel : ∀ (j : Nat) (o : Oper) cs b, ops[j]? = some o → o.op ≠ .select cs b)
    (hQ : ∀ c a w, Q (.panic c) (a.put oi.dst v) w → Q (.panic c) a w) :
    ∀ (fuel : Nat) (T : List (Nat × (World → Prop))) (listed : Array Bool) (a : Act) (w : World), Closed md ops listed →
      (∀ j oj, ops[j]? = some oj → j ≠ i → listed.getD j true = false → (∀ e ∈ oj.after, Region.binds md e = true → e.on ≠ i) → oi.apart ops oj = true) →
      i ∈ Region.ready md ops listed → YieldsIf P ops S oi v a → S w → (∀ x ∈ T, x.2 w) →
      wpAnyX P md ops Q eff B fuel ((i, S) :: T) (listed.setIfInBounds i true) (a.put oi.dst v) w → wpAnyX P md ops Q eff B (fuel + 1) T listed a w := by
  have hkeep : ∀ (T : List (Nat × (World → Prop))) (j : Nat), indep B i j = true → keepT eff B ((i, S) :: T) j = (i, S) :: keepT eff B T j := by
    intro T j hj
    unfold keepT
    split
    · rw [List.filter_cons, if_pos hj]
    · rfl
  have hsubT : ∀ (T : List (Nat × (World → Prop))) (j : Nat), ∀ x ∈ keepT eff B T j, x ∈ T := by
    intro T j x hx
    unfold keepT at hx
    split at hx
    · exact (List.mem_filter.1 hx).1
    · exact hx
  intro fuel
  induction fuel with
  | zero =>
    intro T listed a w _ _ hr hy hS hT H
    refine ⟨fun h => (by rw [h] at hr; cases hr), fun j hj => ?_⟩
    by_cases hji : j = i
    · subst hji; exact hy.wpOp hi hS ⟨fun x hx => hT x (hsubT T j x hx), H⟩
    · have := ready_mono hj hji
      rw [H.1] at this
      cases this
  | succ fuel ih =>
    intro T listed a w hc hfree hr hy hS hT H
    refine ⟨fun h => (by rw [h] at hr; cases hr), fun j hj => ?_⟩
    by_cases hji : j = i
    · subst hji
      exact hy.wpOp hi hS ⟨fun x hx => hT x (hsubT T j x hx), wpAnyX_sub (fuel + 1) _ _ _ _ _ (fun x hx => List.mem_cons_of_mem _ (hsubT T j x hx)) H⟩
    · have h1 := H.2 j (ready_mono hj hji)
      obtain ⟨hjun, oj, hoj, hall⟩ := mem_ready.1 hj
      have hunl := getD_true_false (mem_ready.1 hr).1
      have hind := indep_of_ready hB hc hj hunl
      have hnot : ∀ e ∈ oj.after, Region.binds md e = true → e.on ≠ i := fun e he hb heq => by
        have h1 := hall e he hb
        rw [heq, hunl] at h1; cases h1
      rw [hkeep T j hind] at h1
      have h2 := wpOp_putIf hoj (hfree j oj hoj hji hjun hnot) (fun cs b => hsel i oi cs b hi) (fun cs b => hsel j oj cs b hoj) hQ hy h1
      have hfree' : ∀ k ok, ops[k]? = some ok → k ≠ i → (listed.setIfInBounds j true).getD k true = false →
          (∀ e ∈ ok.after, Region.binds md e = true → e.on ≠ i) → oi.apart ops ok = true := fun k ok hk hki hun hno => by
        refine hfree k ok hk hki ?_ hno
        by_cases hjk : j = k
        · subst hjk; exact hjun
        · rw [getD_set_ne true hjk] at hun; exact hun
      refine wpOp_mono (fun a' w' h3 => ?_) h2
      obtain ⟨hy', hcond, hrest⟩ := h3
      refine ⟨fun x hx => hcond x (List.mem_cons_of_mem _ hx), ih (keepT eff B T j) (listed.setIfInBounds j true) a' w' (closed_set hc hj) hfree' (ready_mono hr (Ne.symm hji)) hy' (hcond (i, S) (List.mem_cons_self ..)) (fun x hx => hcond x (List.mem_cons_of_mem _ hx)) ?_⟩
      rw [Array.setIfInBounds_comm _ _ hji]
      exact hrest

theorem wp_region_X {id : Nat} {a : Act} {w : World} (hm : P.follows .mixedOrders = true)
    (h : wpAnyX P .any ops Q eff B ops.size [] (Array.replicate ops.size false) a { w with drawn := w.drawn + 1 }) : (Code.region id ops true).wp P Q a w :=
  wp_region_any hm (wpAny_of_X _ _ _ _ _ h)

end
end Am
