/- A call whose arguments name no block of the caller's own, wherever it is called. -/
import Derived.Test.YtbcfhiohdamcjaaAmRow
set_option linter.unusedSimpArgs false
set_option linter.unusedVariables false
set_option linter.unusedSectionVars false
set_option linter.unnecessarySimpa false
namespace Am
open Go Go.RowKit
theorem okO_below {ρ : Ren} {w w' : World} {p : Slot} {o : AO} (h : okO ρ w p o) (hw : ∀ k, k < w.heap.size → w'.heap[k]? = w.heap[k]?) : okO ρ w' p o := by
  have key : ∀ {x}, w.heap[p.blk]? = some x → w'.heap[p.blk]? = some x := fun {x} hx => by rw [hw _ (Array.getElem?_eq_some_iff.1 hx).1]; exact hx
  cases o with
  | cells c t => obtain ⟨C, cs, h1, h2⟩ := h; exact ⟨C, cs, key h1, h2⟩
  | row c t sz => obtain ⟨C, cs, h1, h2⟩ := h; exact ⟨C, cs, key h1, h2⟩
  | map es k => obtain ⟨E, h1, h2⟩ := h; exact ⟨E, key h1, h2⟩
  | siter s pos => exact ⟨key h.1, h.2⟩
  | obj b x es vs => exact ⟨h.1, key h.2.1, h.2.2⟩
  | dead => trivial
theorem Rel.later {base : World} {ρ : Ren} {H : AH} {w w' : World} (h : Rel base ρ H w) (hb : Below w.heap.size w w') : Rel base ρ H w' :=
  ⟨h.below.trans (hb.mono h.below.size), h.len, fun i o p h1 h2 => okO_below (h.obj i o p h1 h2) hb.block, h.blk, h.inj⟩
theorem ROk.later {R : Ro} {base w : World} (h : ROk R base) (hb : Below base.heap.size base w) : ROk R w := by
  refine ⟨fun b o v hv => ?_, R.up _ _ hb h.good⟩
  obtain ⟨h1, x, h2, h3⟩ := h b o v hv
  exact ⟨Nat.lt_of_lt_of_le h1 hb.size, x, h2, by rw [hb.cell (p := ⟨b, o, none⟩) h1]; exact h3⟩
/-- What such a call makes is forgotten where its answer names no block. -/
theorem ACalls.anywhere {P : Program} {R : Ro} {f : FuncId} {args : List AV} {K : AV → Prop} (ha : (renL [] args).isSome = true) (h : ACalls P R f args [] fun v _ => (ren [] v).isSome = true ∧ K v) (H : AH) :
    ACalls P R f args H fun v H' => H' = H ∧ K v := by
  intro base hR ρ w Vs hrel hV
  obtain ⟨Vs', hVs⟩ := Option.isSome_iff_exists.1 ha
  have hx : Ext [] ρ := ⟨ρ, by simp⟩
  have e1 := renL_ext hx hVs
  rw [hV] at e1; cases e1
  refine (h w (hR.later hrel.below) [] w Vs (rel_start w) hVs).mono ?_
  rintro e w' ⟨v, V, ρ', H', rfl, _, hr, hv, hs, hk⟩
  obtain ⟨V0, h0⟩ := Option.isSome_iff_exists.1 hs
  have h1 := ren_ext (ρ' := ρ') ⟨ρ', by simp⟩ h0
  rw [hv] at h1; cases h1
  exact ⟨v, V, ρ, H, rfl, Ext.refl _, hrel.later hr.below, ren_ext hx h0, rfl, hk⟩
theorem ACalls.awake {P : Program} {R : Ro} {tab : FuncId → Option AFn} (hm : P.follows .mixedOrders = true) (htab : ∀ f af, tab f = some af → FnOk P f af) {n : Nat} {f : FuncId} (h : evCall P R tab n f [] [] isTrue = true) (H : AH) :
    ACalls P R f [] H fun v H' => H' = H ∧ v = .bool true :=
  ACalls.anywhere rfl (((ev_sound hm htab n).1 f [] [] isTrue h).mono fun v _ hh => by rw [isTrue_eq hh]; exact ⟨rfl, rfl⟩) H
end Am
namespace Am
open Go Go.RowKit
mutual
def absV : Value → Option AV
  | .bool b => some (.bool b)
  | .int k n => some (.int k n)
  | .string s => some (.str s.data.toList)
  | .pointer none => some .nilptr
  | .pointer (some ⟨b, o, none⟩) => some (.ptr (.ro b) o)
  | .slice none 0 0 => some .nilslice
  | .slice (some ⟨b, o, none⟩) n c => some (.slice (.ro b) o n (.known c))
  | .map none => some .nilmap
  | .nilFunc => some .nilfn
  | .nilIface => some .niface
  | .agg ⟨cs⟩ => (absVL cs).map .agg
  | v => if v.oneCell' = true then some (.raw v) else none
def absVL : List Value → Option (List AV)
  | [] => some []
  | v :: vs => match absV v, absVL vs with
    | some a, some as => some (a :: as)
    | _, _ => none
end
mutual
theorem absV_ren : ∀ {v : Value} {a : AV}, absV v = some a → ren [] a = some v
  | .bool b, a, h => by simp [absV] at h; subst h; rfl
  | .int k n, a, h => by simp [absV] at h; subst h; rfl
  | .string s, a, h => by simp [absV] at h; subst h; rfl
  | .pointer none, a, h => by simp [absV] at h; subst h; rfl
  | .pointer (some ⟨b, o, none⟩), a, h => by simp [absV] at h; subst h; rfl
  | .pointer (some ⟨b, o, some s⟩), a, h => by
    simp [absV] at h
    obtain ⟨h1, rfl⟩ := h
    simp [ren, h1]
  | .slice none 0 0, a, h => by simp [absV] at h; subst h; rfl
  | .slice none 0 (c + 1), a, h => by
    simp [absV] at h
    obtain ⟨h1, rfl⟩ := h
    simp [ren, h1]
  | .slice none (n + 1) c, a, h => by
    simp [absV] at h
    obtain ⟨h1, rfl⟩ := h
    simp [ren, h1]
  | .slice (some ⟨b, o, none⟩) n c, a, h => by simp [absV] at h; subst h; rfl
  | .slice (some ⟨b, o, some s⟩) n c, a, h => by
    simp [absV] at h
    obtain ⟨h1, rfl⟩ := h
    simp [ren, h1]
  | .map none, a, h => by simp [absV] at h; subst h; rfl
  | .map (some b), a, h => by
    simp [absV] at h
    obtain ⟨h1, rfl⟩ := h
    simp [ren, h1]
  | .nilFunc, a, h => by simp [absV] at h; subst h; rfl
  | .nilIface, a, h => by simp [absV] at h; subst h; rfl
  | .agg ⟨cs⟩, a, h => by
    simp only [absV, Option.map_eq_some_iff] at h
    obtain ⟨as, h1, rfl⟩ := h
    simp only [ren, absVL_ren h1, Option.map_some]
  | .complex .., a, h => by
    simp [absV] at h
    obtain ⟨h1, rfl⟩ := h
    simp [ren, h1]
  | .float .., a, h => by
    simp [absV] at h
    obtain ⟨h1, rfl⟩ := h
    simp [ren, h1]
  | .iface .., a, h => by
    simp [absV] at h
    obtain ⟨h1, rfl⟩ := h
    simp [ren, h1]
  | .func .., a, h => by
    simp [absV] at h
    obtain ⟨h1, rfl⟩ := h
    simp [ren, h1]
  | .tuple .., a, h => by
    simp [absV] at h
    obtain ⟨h1, rfl⟩ := h
    simp [ren, h1]
  | .chan .., a, h => by
    simp [absV] at h
    obtain ⟨h1, rfl⟩ := h
    simp [ren, h1]
theorem absVL_ren : ∀ {vs : List Value} {as : List AV}, absVL vs = some as → renL [] as = some vs
  | [], as, h => by simp [absVL] at h; subst h; rfl
  | v :: vs, as, h => by
    simp only [absVL] at h
    split at h
    · rename_i a as' h1 h2
      cases h
      exact renL_cons_mk (absV_ren h1) (absVL_ren h2)
    · cases h
end
/-- All that can be read of a world's cells. -/
def roW (W : World) : Ro :=
  { f := fun b o => (W.cell? ⟨b, o, none⟩).bind absV
    good := fun b => Below W.heap.size W b
    up := fun a b h ha => ha.trans (h.mono ha.size) }
theorem roW_ok (W : World) : ROk (roW W) W := by
  refine ⟨fun b o v h => ?_, Below.refl _ _⟩
  obtain ⟨x, h1, h2⟩ := Option.bind_eq_some_iff.1 h
  refine ⟨?_, x, absV_ren h2, h1⟩
  by_cases hs : b < W.heap.size
  · exact hs
  · have h0 : W.heap[b]? = none := Array.getElem?_eq_none (by omega)
    simp [World.cell?, h0] at h1
theorem ACalls.ro {P : Program} {R R' : Ro} {f : FuncId} {args : List AV} {H : AH} {K : AV → AH → Prop} (hR : ∀ b o v, R b o = some v → R' b o = some v) (h : ACalls P R f args H K) (hg : ∀ w, R'.good w → R.good w := by intros; trivial) : ACalls P R' f args H K :=
  fun base hb => h base ⟨fun b o v hv => hb b o v (hR b o v hv), hg _ hb.good⟩
end Am
