/- A slice of slices of bools that came in. -/
import Derived.Test.YtbcfhiohdamcjaaAmIn
import Derived.Deep.Grids
set_option linter.unusedSimpArgs false
set_option linter.unusedVariables false
set_option linter.unusedSectionVars false
set_option linter.unnecessarySimpa false
namespace Am
open Go Go.RowKit Go.Deep Go.ChangeShapes Go.WideShapes
/-- A table that came in: rows that are nil, rows that are not, empty rows at whatever address. -/
def Grid (R : Ro) (a : AV) (T : List (List Bool)) : Prop := (a = .nilslice ∧ T = []) ∨ ∃ b off cap, a = .slice (.ro b) off T.length (.known cap) ∧ T.length ≤ cap ∧ cap ≤ maxLen ∧
  ∀ (i : Nat) r, T[i]? = some r → ∃ u, R b (off + i) = some u ∧ ((u = .nilslice ∧ r = []) ∨ (∃ b' o' c', u = .slice (.ro b') o' r.length (.known c') ∧ r.length ≤ maxLen ∧ ∀ (y : Nat) x, r[y]? = some x → R b' (o' + y) = some (.bool x)) ∨ (r = [] ∧ ∃ A c, u = .raw (.slice A 0 c)))
section
variable {H : Type} {enc : TypeId × Value → H} {P : Program} {W : World} {base : Nat} {held : Bool}
theorem roW_bool {b o : Nat} {x : Bool} (h : W.cell? ⟨b, o, none⟩ = some (.bool x)) : roW W b o = some (.bool x) := by simp [roW, h, absV]
theorem cell_spot {b o : Nat} {s : Nat} : W.cell? ⟨b, o, some s⟩ = none := by unfold World.cell?; split <;> simp
theorem grid_open {r : Reach} {b0 : Nat} {t e q : TypeId} {v : Value} {d : DataW H} {p : List MemPlace} (ht : P.underlying t = some (.slice e)) (he : P.underlying e = some (.slice q)) (hq : P.underlying q = some .bool)
    (ce : P.cellsOf e = 1) (cq : P.cellsOf q = 1) (hval : Value.okWide P W r b0 t v) (hd : DataW.Trod enc P W base (fun _ => true) held t v d p) :
    ∃ (a : AV) (T : List (List Bool)), ren [] a = some v ∧ Grid (roW W) a T := by
  obtain ⟨fuel, hf⟩ := hd
  obtain ⟨sa, slen, scap, rfl⟩ := okWide_slice ht hval
  rcases open_bool_rows ht he hq ce cq hf with ⟨hc, _⟩ | ⟨a, len, cap, A, L, C, B, hc, hb, hl, hm, _, hx⟩
  · simp [Value.cells] at hc
    obtain ⟨rfl, rfl, rfl⟩ := hc
    exact ⟨.nilslice, [], rfl, .inl ⟨rfl, rfl⟩⟩
  · simp [Value.cells] at hc
    obtain ⟨rfl, rfl, rfl⟩ := hc
    have hspot := sl_spot ht hval
    obtain ⟨b, o, s⟩ := a
    simp only [Addr.mk.injEq, true_and] at hspot
    subst hspot
    refine ⟨.slice (.ro b) o slen (.known scap), (List.range slen).map fun i => (List.range (L i)).map (B i), by simp [ren, Loc.addr, Cap.num], .inr ⟨b, o, scap, by simp, by simpa using hl, hm, fun i r hr => ?_⟩⟩
    simp only [List.getElem?_map, Option.map_eq_some_iff] at hr
    obtain ⟨i', hi', rfl⟩ := hr
    obtain ⟨hi, rfl⟩ : i < slen ∧ i' = i := by
      obtain ⟨h1, h2⟩ := List.getElem?_eq_some_iff.1 hi'
      simp at h1 h2
      exact ⟨h1, h2.symm⟩
    obtain ⟨h1, h2, h3, h4, h5⟩ := hx i' (by omega)
    rw [add_none] at h1
    cases hA : A i' with
    | none =>
      have hC := h4 hA
      have hL : L i' = 0 := by omega
      rw [hA, hC, hL] at h1
      exact ⟨.nilslice, by simp [roW, h1, absV], .inl ⟨rfl, by simp [hL]⟩⟩
    | some a' =>
      obtain ⟨_, h6⟩ := h5 a' hA
      obtain ⟨b', o', s'⟩ := a'
      rw [hA] at h1
      cases s' with
      | none =>
        refine ⟨.slice (.ro b') o' (L i') (.known (C i')), by simp [roW, h1, absV], .inr (.inl ⟨b', o', C i', by simp, by simp; omega, fun y x hy => ?_⟩)⟩
        simp only [List.getElem?_map, Option.map_eq_some_iff] at hy
        obtain ⟨y', hy', rfl⟩ := hy
        obtain ⟨hyl, rfl⟩ : y < L i' ∧ y' = y := by
          obtain ⟨h1, h2⟩ := List.getElem?_eq_some_iff.1 hy'
          simp at h1 h2
          exact ⟨h1, h2.symm⟩
        have := h6 y' (by omega)
        rw [add_none] at this
        exact roW_bool this
      | some s =>
        have hC : C i' = 0 := by
          by_cases hz : C i' = 0
          · exact hz
          · have := h6 0 (by omega)
            rw [show (⟨b', o', some s⟩ : Addr).add 0 = ⟨b', o', some s⟩ from rfl, cell_spot] at this
            cases this
        have hL : L i' = 0 := by omega
        rw [hL] at h1
        exact ⟨.raw (.slice (some ⟨b', o', some s⟩) 0 (C i')), by simp [roW, h1, absV, Value.oneCell'], .inr (.inr ⟨by simp [hL], _, _, rfl⟩)⟩
end
end Am
