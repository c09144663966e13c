/- One more at a row's end. -/
import Derived.Test.YtjglohfkpigdfaaDoorAmSym
set_option linter.unusedSimpArgs false
set_option linter.unusedVariables false
set_option linter.unusedSectionVars false
set_option linter.unnecessarySimpa false
namespace Am
open Go Go.RowKit
/-- A slice that grows: its content, 'k' elements of 'sz' cells. -/
def RowAt (H : AH) (v : AV) (k sz : Nat) (t : TypeId) (C : List AV) : Prop := (v = .nilslice ∧ k = 0 ∧ C = []) ∨ ∃ j, v = .slice (.mu j) 0 k (.opn 0) ∧ H[j]? = some (.row C t sz) ∧ C.length = k * sz
theorem RowAt.nil (H : AH) (sz : Nat) (t : TypeId) : RowAt H .nilslice 0 sz t [] := .inl ⟨rfl, rfl, rfl⟩
theorem RowAt.frame {H H' : AH} {v : AV} {k sz : Nat} {t : TypeId} {C : List AV} (h : RowAt H v k sz t C) (hf : ∀ j, v = .slice (.mu j) 0 k (.opn 0) → H'[j]? = H[j]?) : RowAt H' v k sz t C := by
  rcases h with h | ⟨j, h1, h2, h3⟩
  · exact .inl h
  · exact .inr ⟨j, h1, by rw [hf j h1]; exact h2, h3⟩
theorem append_row {R : Ro} {H : AH} {v x : AV} {k m sz by' : Nat} {t : TypeId} {C new : List AV} (h : RowAt H v k sz t C) (hs : srcEv R H sz x = some (new, m)) (hm : 0 < m) (hsz : sz ≠ 0) (hby : by' ≠ 0) (hfit : (k + m) * by' ≤ 140737488355328)
    (hone : new.all AV.oneCell = true) (hlen : new.length = m * sz) :
    ∃ G, appendEv R H t sz by' v x = some (.slice (.mu H.length) 0 (k + m) (.opn 0), G) ∧ G.length = H.length + 1 ∧ RowAt G (.slice (.mu H.length) 0 (k + m) (.opn 0)) (k + m) sz t (C ++ new) ∧
      ∀ i, i < H.length → (∀ o l c, v ≠ .slice (.mu i) o l c) → G[i]? = H[i]? := by
  unfold appendEv
  rw [hs]
  dsimp only
  rcases h with ⟨rfl, rfl, rfl⟩ | ⟨j, rfl, hj, hC⟩
  · dsimp only
    rw [if_neg (by omega), if_pos ⟨by simpa using hfit, hsz, hby, hone⟩]
    refine ⟨_, by rw [Nat.zero_add], by simp, .inr ⟨H.length, by simp, by simp, by simp [hlen]⟩, fun i hi _ => by rw [List.getElem?_append_left hi]⟩
  · dsimp only
    have hjl := (List.getElem?_eq_some_iff.1 hj).1
    rw [if_pos ⟨hfit, hsz, hby, hone⟩, hj]
    dsimp only
    rw [if_pos ⟨rfl, rfl, by omega, by omega⟩, if_neg (by
      have : 0 < m * sz := Nat.mul_pos hm (Nat.pos_of_ne_zero hsz)
      rw [Nat.add_mul]; omega)]
    refine ⟨_, rfl, by simp, .inr ⟨H.length, rfl, ?_, by rw [List.length_append, hC, hlen, Nat.add_mul]⟩, fun i hi hne => ?_⟩
    · rw [List.getElem?_append_right (by simp), List.length_set, Nat.sub_self]
      rw [List.drop_zero, List.take_of_length_le (by omega)]
      rfl
    · rw [List.getElem?_append_left (by simpa using hi), List.getElem?_set]
      by_cases hij : j = i
      · subst hij; exact absurd rfl (hne 0 k (.opn 0))
      · rw [if_neg hij]
/-- A slice laid out of what is written there, as a source. -/
theorem src_cells {R : Ro} {H : AH} {s m sz : Nat} {c : List AV} {t : TypeId} {cap : Cap} (h : H[s]? = some (.cells c t)) (hl : c.length = m * sz) : srcEv R H sz (.slice (.mu s) 0 m cap) = some (c, m) := by
  simp only [srcEv, readN, h, Option.bind_some, AO.content, Nat.zero_add, hl, Nat.le_refl, if_true, List.drop_zero, Option.map_some]
  rw [List.take_of_length_le (by omega)]
end Am
