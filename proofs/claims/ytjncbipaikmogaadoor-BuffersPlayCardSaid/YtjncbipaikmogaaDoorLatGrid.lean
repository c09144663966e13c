/- A table that came in, as a table. -/
import Derived.Test.YtjncbipaikmogaaDoorLatRNew
import Derived.Test.YtjncbipaikmogaaDoorAmGrid
namespace Go.Proofs.YtjncbipaikmogaaDoor.Latt
open Go Go.RowKit Am
set_option linter.unusedSimpArgs false
set_option linter.unusedVariables false
variable {R : Ro}
theorem grid_tab {a : AV} {T : List (List Bool)} (h : Grid R a T) (H : AH) : TabIn R H a T := by
  rcases h with ⟨rfl, rfl⟩ | ⟨b, off, cap, rfl, _, _, hx⟩
  · exact ⟨[], .inl ⟨rfl, rfl⟩, rfl, fun i r h => by cases h⟩
  · have each : ∀ i, i < T.length → ∃ u, R b (off + i) = some u ∧ ∀ r, T[i]? = some r → RowS R H u (r.map AV.bool) := by
      intro i hi
      obtain ⟨u, h1, h2⟩ := hx i _ (List.getElem?_eq_getElem hi)
      refine ⟨u, h1, fun r hr => ?_⟩
      rw [List.getElem?_eq_getElem hi] at hr; cases hr
      rcases h2 with ⟨rfl, h3⟩ | ⟨b', o', c', rfl, _, h3⟩ | ⟨h3, A, c, rfl⟩
      · exact .inl (.inl ⟨rfl, by rw [h3]; rfl⟩)
      · refine .inl (.inr ⟨.ro b', o', .known c', by simp, fun y x hy => ?_⟩)
        rw [List.getElem?_map, Option.map_eq_some_iff] at hy
        obtain ⟨z, hz, rfl⟩ := hy
        exact h3 y z hz
      · exact .inr ⟨by rw [h3]; rfl, A, c, rfl⟩
    obtain ⟨f, hf⟩ := Go.Deep.choose_lt each
    refine ⟨(List.range T.length).map f, .inr ⟨.ro b, off, .known cap, by simp, fun i x hi => ?_⟩, by simp, fun i r hr => ?_⟩
    · rw [List.getElem?_map, Option.map_eq_some_iff] at hi
      obtain ⟨i', hi', rfl⟩ := hi
      obtain ⟨h1, h2⟩ := List.getElem?_eq_some_iff.1 hi'
      simp at h1 h2
      subst h2
      exact (hf i h1).1
    · have hi := (List.getElem?_eq_some_iff.1 hr).1
      exact ⟨f i, by rw [List.getElem?_map, List.getElem?_range hi]; rfl, (hf i hi).2 r hr⟩
theorem grid_len {a : AV} {T : List (List Bool)} (h : Grid R a T) : T.length ≤ 9223372036854775807 := by
  rcases h with ⟨_, rfl⟩ | ⟨b, off, cap, rfl, h1, h2, _⟩
  · simp
  · unfold maxLen at h2; omega
theorem grid_head {a : AV} {T : List (List Bool)} (h : Grid R a T) : (a = .nilslice ∧ T.length = 0) ∨ ∃ b off cap, a = .slice (.ro b) off T.length cap := by
  rcases h with ⟨rfl, rfl⟩ | ⟨b, off, cap, rfl, _, _, _⟩
  · exact .inl ⟨rfl, rfl⟩
  · exact .inr ⟨b, off, _, rfl⟩
theorem grid_cells {b off : Nat} {cap : Cap} {T : List (List Bool)} (h : Grid R (.slice (.ro b) off T.length cap) T) (hsq : SqT T) {x : Nat} (hx : x < T.length) :
    ∃ b' o c, R b (off + x) = some (.slice (.ro b') o T.length c) ∧ ∀ y, y < T.length → R b' (o + y) = some (.bool (tb T x y)) := by
  have hxr := hsq _ (List.getElem_mem hx)
  rcases h with ⟨h0, _⟩ | ⟨b1, off1, cap1, h0, _, _, hrow⟩
  · cases h0
  · simp only [AV.slice.injEq, Am.Loc.ro.injEq] at h0
    obtain ⟨rfl, rfl, _, rfl⟩ := h0
    obtain ⟨u, h1, h2⟩ := hrow x _ (List.getElem?_eq_getElem hx)
    rcases h2 with ⟨_, h3⟩ | ⟨b', o', c', rfl, _, h3⟩ | ⟨h3, _⟩
    · rw [h3] at hxr; simp at hxr; omega
    · rw [hxr] at h1
      refine ⟨b', o', _, h1, fun y hy => ?_⟩
      have hyl : y < T[x].length := by omega
      rw [h3 y _ (List.getElem?_eq_getElem hyl)]
      simp [tb, List.getElem?_eq_getElem hx, List.getElem?_eq_getElem hyl]
    · rw [h3] at hxr; simp at hxr; omega
end Go.Proofs.YtjncbipaikmogaaDoor.Latt
