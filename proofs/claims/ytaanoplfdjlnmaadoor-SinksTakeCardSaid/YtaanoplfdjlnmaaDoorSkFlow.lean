/- What may flow to a label makes what is there: no program. -/
import Derived.Test.YtaanoplfdjlnmaaDoorSkRel
import Derived.Test.YtaanoplfdjlnmaaDoorLatPure
namespace Go.Proofs.YtaanoplfdjlnmaaDoor.Sk
open Go Go.RowKit Am Latt
set_option maxRecDepth 100000
set_option linter.unusedSimpArgs false
set_option linter.unusedVariables false
def Trans (up : List Nat) : Prop := ∀ a b c, bel up a b = true → bel up b c = true → bel up a c = true
theorem trans_of {T : List (List Bool)} (g : GoodT T) : Trans (upT T) := by
  intro a b c h1 h2
  unfold bel isL at *
  rw [upT_len] at *
  simp only [Bool.and_eq_true, decide_eq_true_eq] at *
  obtain ⟨⟨a0, a1⟩, ⟨b0, b1⟩, t1⟩ := h1
  obtain ⟨_, ⟨c0, c1⟩, t2⟩ := h2
  have ha : a.toNat < T.length := by omega
  have hb : b.toNat < T.length := by omega
  have hc : c.toNat < T.length := by omega
  rw [upT_tb ha hb] at t1
  rw [upT_tb hb hc] at t2
  refine ⟨⟨a0, a1⟩, ⟨c0, c1⟩, ?_⟩
  rw [upT_tb ha hc]
  exact g.trans ha hb hc t1 t2
/-- Alike in all that a label may see. -/
structure Flow (up : List Nat) (z : Int) (S T : List SK) : Prop where
  lab : S.map SK.label = T.map SK.label
  same : ∀ (i : Nat) x y, S[i]? = some x → T[i]? = some y → bel up x.label z = true → x = y
theorem Flow.len {up : List Nat} {z : Int} {S T : List SK} (h : Flow up z S T) : S.length = T.length := by simpa using congrArg List.length h.lab
theorem labelAt_map (S : List SK) (a : Int) : labelAt S a = ((S.map SK.label)[a.toNat]?).getD 0 := by
  unfold labelAt
  rw [List.getElem?_map]
  cases S[a.toNat]? <;> rfl
theorem Flow.may {up : List Nat} {z : Int} {S T : List SK} (h : Flow up z S T) (a b : Int) : mayF up S a b = mayF up T a b := by
  unfold mayF
  rw [h.len, labelAt_map, h.lab, ← labelAt_map]
theorem Flow.refl (up : List Nat) (z : Int) (S : List SK) : Flow up z S S := ⟨rfl, fun i x y hx hy _ => by rw [hx] at hy; exact Option.some.inj hy⟩
theorem map_set_label (S : List SK) {an : Nat} {x : SK} (hx : S[an]? = some x) (b : Int) (t : List UInt8) : (S.set an (takeK x b t)).map SK.label = S.map SK.label := by
  rw [List.map_set]
  apply List.ext_getElem?
  intro i
  rw [List.getElem?_set]
  by_cases hi : an = i
  · subst hi
    have hl := (List.getElem?_eq_some_iff.1 hx).1
    simp [hl, hx]
    rw [← (List.getElem?_eq_some_iff.1 hx).2]
    simp [takeK]
  · simp [hi]
theorem mayF_bel {up : List Nat} {S : List SK} {an : Nat} {b : Int} (h : mayF up S an b = 0) {x : SK} (hx : S[an]? = some x) : bel up b x.label = true := by
  unfold mayF at h
  have : labelAt S (an : Int) = x.label := by unfold labelAt; simp [hx]
  rw [this] at h
  split at h
  · split at h
    · split at h
      · assumption
      · cases h
    · cases h
  · cases h
theorem Flow.one {up : List Nat} {z : Int} {S T : List SK} (h : Flow up z S T) (tr : Trans up) {an : Nat} {b : Int} (hm : mayF up S an b = 0) (hb : ¬ bel up b z = true) {x : SK} (hx : S[an]? = some x) (t : List UInt8) : Flow up z (S.set an (takeK x b t)) T := by
  refine ⟨by rw [map_set_label S hx]; exact h.lab, fun i u v hu hv hz => ?_⟩
  rw [List.getElem?_set] at hu
  by_cases hi : an = i
  · subst hi
    have hl := (List.getElem?_eq_some_iff.1 hx).1
    simp [hl] at hu
    subst hu
    exact absurd (tr _ _ _ (mayF_bel hm hx) hz) hb
  · simp [hi] at hu
    exact h.same i u v hu hv hz
theorem Flow.both {up : List Nat} {z : Int} {S T : List SK} (h : Flow up z S T) {an : Nat} (b : Int) {x y : SK} (hx : S[an]? = some x) (hy : T[an]? = some y) (t : List UInt8) : Flow up z (S.set an (takeK x b t)) (T.set an (takeK y b t)) := by
  refine ⟨by rw [map_set_label S hx, map_set_label T hy]; exact h.lab, fun i u v hu hv hz => ?_⟩
  rw [List.getElem?_set] at hu hv
  by_cases hi : an = i
  · subst hi
    have hl := (List.getElem?_eq_some_iff.1 hx).1
    have hl2 := (List.getElem?_eq_some_iff.1 hy).1
    simp [hl] at hu
    simp [hl2] at hv
    subst hu hv
    rw [h.same an x y hx hy hz]
  · simp [hi] at hu hv
    exact h.same i u v hu hv hz
theorem Flow.content {up : List Nat} {z : Int} {S T : List SK} (h : Flow up z S T) {i : Nat} {c : Int} (hc : (S.map SK.label)[i]? = some c) (hb : bel up c z = true) : contentF S i = contentF T i := by
  unfold contentF
  rw [h.len]
  split
  · rename_i hL
    rw [List.getElem?_map] at hc
    obtain ⟨x, hx, rfl⟩ := Option.map_eq_some_iff.1 hc
    obtain ⟨y, hy⟩ : ∃ y, T[i]? = some y := ⟨_, List.getElem?_eq_getElem (by rw [← h.len]; exact (List.getElem?_eq_some_iff.1 hx).1)⟩
    have := h.same i x y hx hy hb
    simp [hx, hy, this]
  · rfl
end Go.Proofs.YtaanoplfdjlnmaaDoor.Sk
