/- What a label's bytes alone make of sinks. -/
import Derived.Test.YtaanoplfdjlnmaaDoorSkTwo
namespace Go.Proofs.YtaanoplfdjlnmaaDoor.Sk
open Go Go.RowKit Am Latt
set_option maxRecDepth 100000
set_option linter.unusedSimpArgs false
set_option linter.unusedVariables false
def face (z : Int) (x : SK) : Int × Int × Int := (x.label, x.room, x.came z)
/-- Alike in what was taken of a label. -/
def Alike (z : Int) (S T : List SK) : Prop := S.map (face z) = T.map (face z)
theorem Alike.len {z : Int} {S T : List SK} (h : Alike z S T) : S.length = T.length := by simpa using congrArg List.length h
theorem Alike.at {z : Int} {S T : List SK} (h : Alike z S T) {i : Nat} {x : SK} (hx : S[i]? = some x) : ∃ y, T[i]? = some y ∧ face z x = face z y := by
  have h1 : (S.map (face z))[i]? = some (face z x) := by rw [List.getElem?_map, hx]; rfl
  rw [h, List.getElem?_map] at h1
  obtain ⟨y, hy, e⟩ := Option.map_eq_some_iff.1 h1
  exact ⟨y, hy, e.symm⟩
theorem Alike.label {z : Int} {S T : List SK} (h : Alike z S T) (a : Int) : labelAt S a = labelAt T a := by
  unfold labelAt
  cases hx : S[a.toNat]? with
  | none =>
    have : T[a.toNat]? = none := by
      rw [List.getElem?_eq_none_iff] at hx ⊢
      rw [← h.len]; exact hx
    rw [this]
  | some x =>
    obtain ⟨y, hy, e⟩ := h.at hx
    rw [hy]
    exact congrArg Prod.fst e
theorem Alike.may {z : Int} {S T : List SK} (h : Alike z S T) (up : List Nat) (a b : Int) : mayF up S a b = mayF up T a b := by
  unfold mayF
  rw [h.len, h.label]
theorem Alike.left {z : Int} {S T : List SK} (h : Alike z S T) (up : List Nat) (a : Int) : leftF up S a z = leftF up T a z := by
  unfold leftF
  rw [h.may]
  cases hx : S[a.toNat]? with
  | none =>
    have : T[a.toNat]? = none := by
      rw [List.getElem?_eq_none_iff] at hx ⊢
      rw [← h.len]; exact hx
    rw [this]
  | some x =>
    obtain ⟨y, hy, e⟩ := h.at hx
    rw [hy]
    simp only [face, Prod.mk.injEq] at e
    simp only [e.2.1, e.2.2]
theorem Alike.other {z b : Int} {S T : List SK} (h : Alike z S T) (hb : b ≠ z) {an : Nat} {x : SK} (hx : S[an]? = some x) (t : List UInt8) : Alike z (S.set an (takeK x b t)) T := by
  unfold Alike
  rw [List.map_set, ← h]
  have hf : face z (takeK x b t) = face z x := by simp [face, takeK, updI, Ne.symm hb]
  rw [hf]
  apply List.ext_getElem?
  intro i
  rw [List.getElem?_set]
  by_cases hi : an = i
  · subst hi
    have hl := (List.getElem?_eq_some_iff.1 hx).1
    simp [hl, hx]
    exact congrArg (face z) (List.getElem?_eq_some_iff.1 hx).2.symm
  · simp [hi]
theorem Alike.both {z : Int} {S T : List SK} (h : Alike z S T) {an : Nat} {x y : SK} (hx : S[an]? = some x) (hy : T[an]? = some y) (t : List UInt8) : takeN x z t = takeN y z t ∧ Alike z (S.set an (takeK x z t)) (T.set an (takeK y z t)) := by
  obtain ⟨y', hy', e⟩ := h.at hx
  rw [hy] at hy'
  cases hy'
  simp only [face, Prod.mk.injEq] at e
  have hn : takeN x z t = takeN y z t := by unfold takeN; rw [e.2.1, e.2.2]
  refine ⟨hn, ?_⟩
  unfold Alike
  rw [List.map_set, List.map_set, h]
  congr 1
  simp [face, takeK, updI, hn, e.1, e.2.1, e.2.2]
end Go.Proofs.YtaanoplfdjlnmaaDoor.Sk
