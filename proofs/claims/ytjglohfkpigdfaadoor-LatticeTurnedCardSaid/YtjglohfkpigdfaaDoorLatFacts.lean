/- What joins and meets are, of a table: no program. -/
import Derived.Test.YtjglohfkpigdfaaDoorLatAsk
import Derived.Test.YtjglohfkpigdfaaDoorLatGood
namespace Go.Proofs.YtjglohfkpigdfaaDoor.Latt
open Go Go.RowKit Am
set_option linter.unusedSimpArgs false
set_option linter.unusedVariables false
variable {T : List (List Bool)}
/-! ### What stays a lattice -/
theorem LatSt.keeps {H H' : AH} {l p q : Nat} (h : LatSt H l p q T) (hk : Keeps H H') : LatSt H' l p q T := by
  have f : ∀ {i : Nat} {o : AO}, H[i]? = some o → H'[i]? = some o := fun {i o} hi => by rw [hk.2 i (List.getElem?_eq_some_iff.1 hi).1]; exact hi
  refine ⟨?_, f h.pu, f h.qd, h.dis⟩
  rcases h.box with hb | ⟨j, m, hb, hj, hm⟩
  · exact .inl (f hb)
  · exact .inr ⟨j, m, f hb, f hj, f hm⟩
theorem LatIn.keeps {H H' : AH} {l p q : Nat} {up dn : List Nat} (h : LatIn H l p q up dn) (hk : Keeps H H') : LatIn H' l p q up dn := by
  have f : ∀ {i : Nat} {o : AO}, H[i]? = some o → H'[i]? = some o := fun {i o} hi => by rw [hk.2 i (List.getElem?_eq_some_iff.1 hi).1]; exact hi
  exact ⟨f h.box, f h.pu, f h.qd, h.len, h.dis⟩
/-- A fresh one beside another lattice's work. -/
theorem LatIn.stays {H H' : AH} {l p q k : Nat} {up dn : List Nat} (h : LatIn H l p q up dn) (hk : Stays k H H') (hl : l ≠ k) (hp : p ≠ k) (hq : q ≠ k) : LatIn H' l p q up dn := by
  have f : ∀ {i : Nat} {o : AO}, i ≠ k → H[i]? = some o → H'[i]? = some o := fun {i o} hne hi => by rw [hk.2 i (List.getElem?_eq_some_iff.1 hi).1 hne]; exact hi
  exact ⟨f hl h.box, f hp h.pu, f hq h.qd, h.len, h.dis⟩
end Go.Proofs.YtjglohfkpigdfaaDoor.Latt
