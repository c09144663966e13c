/- A call whose arguments name no block of the caller's own, wherever it is called. -/
import Derived.Test.YtjglohfkpigdfaaDoorAmRow
set_option linter.unusedSimpArgs false
set_option linter.unusedVariables false
set_option linter.unusedSectionVars false
set_option linter.unnecessarySimpa false
namespace Am
open Go Go.RowKit
theorem okO_below {ρ : Ren} {w w' : World} {p : Slot} {o : AO} (h : okO ρ w p o) (hw : ∀ k, k < w.heap.size → w'.heap[k]? = w.heap[k]?) : okO ρ w' p o := by
  have key : ∀ {x}, w.heap[p.blk]? = some x → w'.heap[p.blk]? = some x := fun {x} hx => by rw [hw _ (Array.getElem?_eq_some_iff.1 hx).1]; exact hx
  cases o with
  | cells c t => obtain ⟨C, cs, h1, h2⟩ := h; exact ⟨C, cs, key h1, h2⟩
  | row c t sz => obtain ⟨C, cs, h1, h2⟩ := h; exact ⟨C, cs, key h1, h2⟩
  | map es k => obtain ⟨E, h1, h2⟩ := h; exact ⟨E, key h1, h2⟩
  | siter s pos => exact ⟨key h.1, h.2⟩
  | dead => trivial
theorem Rel.later {base : World} {ρ : Ren} {H : AH} {w w' : World} (h : Rel base ρ H w) (hb : Below w.heap.size w w') : Rel base ρ H w' :=
  ⟨h.below.trans (hb.mono h.below.size), h.len, fun i o p h1 h2 => okO_below (h.obj i o p h1 h2) hb.block, h.blk, h.inj⟩
theorem ROk.later {R : Ro} {base w : World} (h : ROk R base) (hb : Below base.heap.size base w) : ROk R w := fun b o v hv => by
  obtain ⟨h1, x, h2, h3⟩ := h b o v hv
  exact ⟨Nat.lt_of_lt_of_le h1 hb.size, x, h2, by rw [hb.cell (p := ⟨b, o, none⟩) h1]; exact h3⟩
/-- What such a call makes is forgotten where its answer names no block. -/
theorem ACalls.anywhere {P : Program} {R : Ro} {f : FuncId} {args : List AV} {K : AV → Prop} (ha : (renL [] args).isSome = true) (h : ACalls P R f args [] fun v _ => (ren [] v).isSome = true ∧ K v) (H : AH) :
    ACalls P R f args H fun v H' => H' = H ∧ K v := by
  intro base hR ρ w Vs hrel hV
  obtain ⟨Vs', hVs⟩ := Option.isSome_iff_exists.1 ha
  have hx : Ext [] ρ := ⟨ρ, by simp⟩
  have e1 := renL_ext hx hVs
  rw [hV] at e1; cases e1
  refine (h w (hR.later hrel.below) [] w Vs (rel_start w) hVs).mono ?_
  rintro e w' ⟨v, V, ρ', H', rfl, _, hr, hv, hs, hk⟩
  obtain ⟨V0, h0⟩ := Option.isSome_iff_exists.1 hs
  have h1 := ren_ext (ρ' := ρ') ⟨ρ', by simp⟩ h0
  rw [hv] at h1; cases h1
  exact ⟨v, V, ρ, H, rfl, Ext.refl _, hrel.later hr.below, ren_ext hx h0, rfl, hk⟩
theorem ACalls.awake {P : Program} {R : Ro} {tab : FuncId → Option AFn} (hm : P.follows .mixedOrders = true) (htab : ∀ f af, tab f = some af → FnOk P f af) {n : Nat} {f : FuncId} (h : evCall P R tab n f [] [] isTrue = true) (H : AH) :
    ACalls P R f [] H fun v H' => H' = H ∧ v = .bool true :=
  ACalls.anywhere rfl (((ev_sound hm htab n).1 f [] [] isTrue h).mono fun v _ hh => by rw [isTrue_eq hh]; exact ⟨rfl, rfl⟩) H
end Am
