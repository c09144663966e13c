/- One more at a row's end. -/
import Derived.Test.YtbcfhiohdamcjaaAmSym
set_option linter.unusedSimpArgs false
set_option linter.unusedVariables false
set_option linter.unusedSectionVars false
set_option linter.unnecessarySimpa false
namespace Am
open Go Go.RowKit
/-- A slice that grows: its content, 'k' elements of 'sz' cells. -/
def RowAt (H : AH) (v : AV) (k sz : Nat) (t : TypeId) (C : List AV) : Prop := (v = .nilslice ∧ k = 0 ∧ C = []) ∨ ∃ j, v = .slice (.mu j) 0 k (.opn 0) ∧ H[j]? = some (.row C t sz) ∧ C.length = k * sz
theorem RowAt.nil (H : AH) (sz : Nat) (t : TypeId) : RowAt H .nilslice 0 sz t [] := .inl ⟨rfl, rfl, rfl⟩
theorem RowAt.frame {H H' : AH} {v : AV} {k sz : Nat} {t : TypeId} {C : List AV} (h : RowAt H v k sz t C) (hf : ∀ j, v = .slice (.mu j) 0 k (.opn 0) → H'[j]? = H[j]?) : RowAt H' v k sz t C := by
  rcases h with h | ⟨j, h1, h2, h3⟩
  · exact .inl h
  · exact .inr ⟨j, h1, by rw [hf j h1]; exact h2, h3⟩
theorem append_row {R : Ro} {H : AH} {v x : AV} {k m sz by' : Nat} {t : TypeId} {C new : List AV} (h : RowAt H v k sz t C) (hs : srcEv R H sz x = some (new, m)) (hm : 0 < m) (hsz : sz ≠ 0) (hby : by' ≠ 0) (hfit : (k + m) * by' ≤ 140737488355328)
    (hone : new.all AV.oneCell = true) (hlen : new.length = m * sz) :
    ∃ G, appendEv R H t sz by' v x = some (.slice (.mu H.length) 0 (k + m) (.opn 0), G) ∧ G.length = H.length + 1 ∧ RowAt G (.slice (.mu H.length) 0 (k + m) (.opn 0)) (k + m) sz t (C ++ new) ∧
      ∀ i, i < H.length → (∀ o l c, v ≠ .slice (.mu i) o l c) → G[i]? = H[i]? := by
  unfold appendEv
  rw [hs]
  dsimp only
  rcases h with ⟨rfl, rfl, rfl⟩ | ⟨j, rfl, hj, hC⟩
  · dsimp only
    rw [if_neg (by omega), if_pos ⟨by simpa using hfit, hsz, hby, hone⟩]
    refine ⟨_, by rw [Nat.zero_add], by simp, .inr ⟨H.length, by simp, by simp, by simp [hlen]⟩, fun i hi _ => by rw [List.getElem?_append_left hi]⟩
  · dsimp only
    have hjl := (List.getElem?_eq_some_iff.1 hj).1
    rw [if_pos ⟨hfit, hsz, hby, hone⟩, hj]
    dsimp only
    rw [if_pos ⟨rfl, rfl, by omega, by omega⟩, if_neg (by
      have : 0 < m * sz := Nat.mul_pos hm (Nat.pos_of_ne_zero hsz)
      rw [Nat.add_mul]; omega)]
    refine ⟨_, rfl, by simp, .inr ⟨H.length, rfl, ?_, by rw [List.length_append, hC, hlen, Nat.add_mul]⟩, fun i hi hne => ?_⟩
    · rw [List.getElem?_append_right (by simp), List.length_set, Nat.sub_self]
      rw [List.drop_zero, List.take_of_length_le (by omega)]
      rfl
    · rw [List.getElem?_append_left (by simpa using hi), List.getElem?_set]
      by_cases hij : j = i
      · subst hij; exact absurd rfl (hne 0 k (.opn 0))
      · rw [if_neg hij]
/-- A slice laid out of what is written there, as a source. -/
theorem src_cells {R : Ro} {H : AH} {s m sz : Nat} {c : List AV} {t : TypeId} {cap : Cap} (h : H[s]? = some (.cells c t)) (hl : c.length = m * sz) : srcEv R H sz (.slice (.mu s) 0 m cap) = some (c, m) := by
  simp only [srcEv, readN, h, Option.bind_some, AO.content, Nat.zero_add, hl, Nat.le_refl, if_true, List.drop_zero, Option.map_some]
  rw [List.take_of_length_le (by omega)]
/-- What lay there lies there. -/
def Keeps (H H' : AH) : Prop := H.length ≤ H'.length ∧ ∀ i, i < H.length → H'[i]? = H[i]?
theorem Keeps.refl (H : AH) : Keeps H H := ⟨Nat.le_refl _, fun _ _ => rfl⟩
theorem Keeps.trans {A B C : AH} (h : Keeps A B) (k : Keeps B C) : Keeps A C := ⟨Nat.le_trans h.1 k.1, fun i hi => by rw [k.2 i (by have := h.1; omega), h.2 i hi]⟩
theorem Keeps.app (H G : AH) : Keeps H (H ++ G) := ⟨by simp, fun i hi => List.getElem?_append_left hi⟩
theorem Keeps.set {A B : AH} (h : Keeps A B) {i : Nat} (hi : A.length ≤ i) (o : AO) : Keeps A (B.set i o) := ⟨by rw [List.length_set]; exact h.1, fun j hj => by rw [List.getElem?_set, if_neg (by omega)]; exact h.2 j hj⟩
/-- A growing slice of the call's own: what lay there at first lies there. -/
structure RowOwn (H0 H : AH) (v : AV) (k sz : Nat) (t : TypeId) (C : List AV) : Prop where
  row : RowAt H v k sz t C
  low : ∀ i o ln cp, v = .slice (.mu i) o ln cp → H0.length ≤ i
  keeps : Keeps H0 H
theorem RowOwn.nil (H : AH) (sz : Nat) (t : TypeId) : RowOwn H H .nilslice 0 sz t [] := ⟨RowAt.nil _ _ _, fun _ _ _ _ e => (by cases e), Keeps.refl _⟩
theorem RowOwn.more {H0 H H' : AH} {v : AV} {k sz : Nat} {t : TypeId} {C : List AV} (h : RowOwn H0 H v k sz t C) (hk : Keeps H H') : RowOwn H0 H' v k sz t C := by
  refine ⟨h.row.frame fun j hj => ?_, h.low, h.keeps.trans hk⟩
  rcases h.row with ⟨h1, _⟩ | ⟨j', h1, h2, _⟩
  · rw [hj] at h1; cases h1
  · rw [hj] at h1; cases h1
    exact hk.2 j (List.getElem?_eq_some_iff.1 h2).1
/-- One element laid out, and put behind. -/
theorem RowOwn.push {R : Ro} {H0 H : AH} {v : AV} {k sz by' : Nat} {t t' : TypeId} {C new : List AV} (h : RowOwn H0 H v k sz t C) (hsz : sz ≠ 0) (hby : by' ≠ 0) (hfit : (k + 1) * by' ≤ 140737488355328) (hone : new.all AV.oneCell = true) (hlen : new.length = sz) (cap : Cap) :
    ∃ G, appendEv R (H ++ [.cells new t']) t sz by' v (.slice (.mu H.length) 0 1 cap) = some (.slice (.mu (H.length + 1)) 0 (k + 1) (.opn 0), G) ∧ RowOwn H0 G (.slice (.mu (H.length + 1)) 0 (k + 1) (.opn 0)) (k + 1) sz t (C ++ new) ∧
      G.length = H.length + 2 ∧ ∀ i, i < H.length → (∀ o l c, v ≠ .slice (.mu i) o l c) → G[i]? = H[i]? := by
  have h1 := h.more (Keeps.app H [.cells new t'])
  obtain ⟨G, hG, hl, hr, hf⟩ := append_row (R := R) (by' := by') h1.row (src_cells (s := H.length) (m := 1) (c := new) (t := t') (cap := cap) (by simp) (by simpa using hlen)) (by omega) hsz hby hfit hone (by simpa using hlen)
  simp only [List.length_append, List.length_cons, List.length_nil, Nat.zero_add] at hG hl hr hf
  refine ⟨G, hG, ⟨hr, fun i o ln cp e => ?_, ⟨by rw [hl]; have := h.keeps.1; omega, fun i hi => ?_⟩⟩, by omega, fun i hi hne => by rw [hf i (by omega) hne, List.getElem?_append_left hi]⟩
  · simp only [AV.slice.injEq, Am.Loc.mu.injEq] at e
    have := h.keeps.1
    omega
  · have := h.keeps.1
    rw [hf i (by omega) (fun o l c e => by have := h.low i o l c e; omega), List.getElem?_append_left (by omega)]
    exact h.keeps.2 i hi
end Am
