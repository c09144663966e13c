/- Each column and row of a rectangle is in just one place or border. -/
import Derived.Test.YtbcfhiohdamcjaaGeLayS
namespace Go.Proofs.Ytbcfhiohdamcjaa.Ge
open Go Go.RowKit Am Tr
set_option linter.unusedSimpArgs false
set_option linter.unusedVariables false
open PT
/-- How many of a list have it. -/
def cntR (x y : Int) : List RE → Int
  | [] => 0
  | z :: l => (if inR z x y then 1 else 0) + cntR x y l
theorem cntR_app (x y : Int) : ∀ A B : List RE, cntR x y (A ++ B) = cntR x y A + cntR x y B
  | [], B => by simp [cntR]
  | z :: A, B => by simp [cntR, cntR_app x y A B]; omega
def Sm (z : RE) : Prop := 0 ≤ z.x ∧ 0 ≤ z.y ∧ 0 ≤ z.w ∧ 0 ≤ z.h ∧ z.x ≤ 100000 ∧ z.y ≤ 100000 ∧ z.w ≤ 100000 ∧ z.h ≤ 100000
theorem inR_iff {z : RE} (h : Sm z) (x y : Int) : inR z x y = decide (z.x ≤ x ∧ x < z.x + z.w ∧ z.y ≤ y ∧ y < z.y + z.h) := by
  obtain ⟨h1, h2, h3, h4, h5, h6, h7, h8⟩ := h
  have e1 : endI z.x z.w = z.x + z.w := by unfold endI; rw [if_neg (by omega)]
  have e2 : endI z.y z.h = z.y + z.h := by unfold endI; rw [if_neg (by omega)]
  unfold inR
  rw [e1, e2, ← Bool.decide_and, ← Bool.decide_and, ← Bool.decide_and, ← Bool.decide_and, ← Bool.decide_and]
  exact decide_eq_decide.2 (by omega)
theorem ZOk.sm {z : RE} (h : ZOk z) : Sm z := by
  obtain ⟨q1, q2, q3, q4, q5, q6, q7, q8⟩ := h
  unfold Sm; omega
theorem ZOk.l {z : RE} (h : ZOk z) (s : Int) {sh : Int} (h1 : 1 ≤ sh) : Sm (partsL s sh z) := by
  obtain ⟨q1, q2, q3, q4, q5, q6, q7, q8⟩ := h
  have c1 := cut_le (sh := sh) q3 h1
  have c2 := cut_le (sh := sh) q4 h1
  have s1 := cut_sum z.w sh
  have s2 := cut_sum z.h sh
  unfold Sm partsL
  split <;> dsimp only <;> omega
def one (z : RE) (x y : Int) : Int := if z.x ≤ x ∧ x < z.x + z.w ∧ z.y ≤ y ∧ y < z.y + z.h then 1 else 0
theorem one_eq {z : RE} (h : Sm z) (x y : Int) : (if inR z x y then (1 : Int) else 0) = one z x y := by
  rw [inR_iff h]; unfold one; simp
theorem empty_no {z : RE} (h : ZOk z) (he : z.empty = true) (x y : Int) : one z x y = 0 := by
  unfold RE.empty at he
  unfold one
  rw [if_neg]
  simp at he
  omega
theorem bare_no (z : RE) (x y : Int) : one z.bare x y = 0 := by
  unfold one RE.bare
  dsimp only
  rw [if_neg (by omega)]
/-- A cut: the two parts and the border between. -/
theorem cut_one {z : RE} (h : ZOk z) {s sh : Int} (h1 : 1 ≤ sh) (x y : Int) : one (partsA s sh z) x y + one (partsL s sh z) x y + one (partsB s sh z) x y = one z x y := by
  obtain ⟨q1, q2, q3, q4, q5, q6, q7, q8⟩ := h
  have c1 := cut_le (sh := sh) q3 h1
  have c2 := cut_le (sh := sh) q4 h1
  have s1 := cut_sum z.w sh
  have s2 := cut_sum z.h sh
  unfold one partsA partsL partsB
  split
  all_goals
    dsimp only
    split <;> split <;> split <;> split <;> omega
/-- What is not cut is the first part, whole. -/
theorem cut_whole {z : RE} {s sh : Int} (h : parts1 s z = true) : partsA s sh z = z := by
  unfold parts1 cutL at h
  unfold partsA cutA
  obtain ⟨a, b, c, d⟩ := z
  split
  · rename_i hs
    rw [if_pos hs] at h
    dsimp only at h ⊢
    have h3 : c < 3 := by
      rcases Int.lt_or_le c 3 with hc | hc
      · exact hc
      · rw [if_neg (by omega)] at h; simp at h
    rw [if_pos h3]
  · rename_i hs
    rw [if_neg hs] at h
    dsimp only at h ⊢
    have h3 : d < 3 := by
      rcases Int.lt_or_le d 3 with hc | hc
      · exact hc
      · rw [if_neg (by omega)] at h; simp at h
    rw [if_pos h3]
theorem cov : ∀ {P : PT} {z : RE}, P.sides → ZOk z → ∀ x y : Int, cntR x y ((layP P z).map (·.2)) + cntR x y (layB P z) = one z x y
  | .leaf p, z, _, hz, x, y => by
    simp only [layP, layB, List.map_cons, List.map_nil, cntR]
    split
    · rename_i he
      rw [one_eq hz.bare.sm, bare_no, empty_no hz he]; rfl
    · rw [one_eq hz.sm]; omega
  | .split s sh a b, z, ⟨_, h1, _, ha, hb⟩, hz, x, y => by
    have r1 := cov (z := bigA z s sh) ha (hz.bigA s h1) x y
    have r2 := cov (z := bigB z s sh) hb (hz.bigB s h1) x y
    simp only [layP, layB, List.map_append, cntR_app]
    have r3 : one (bigA z s sh) x y + cntR x y (ownL z s sh) + one (bigB z s sh) x y = one z x y := by
      unfold bigA bigB ownL
      cases he : z.empty with
      | true =>
        simp only [Bool.true_or, if_true, cntR]
        rw [bare_no, empty_no hz he]; rfl
      | false =>
        simp only [Bool.false_or]
        by_cases h0 : parts1 s z = true
        · rw [if_pos h0, if_pos h0, if_neg (by simp), bare_no, cut_whole h0]; simp [cntR]
        · rw [if_neg h0, if_neg h0, if_neg (by simp)]
          simp only [cntR]
          rw [one_eq (hz.l s h1), ← cut_one hz h1 (s := s)]; omega
    omega
/-- Both lists' rectangles are small. -/
theorem layP_sm : ∀ {P : PT} {z : RE}, P.sides → ZOk z → ∀ w ∈ (layP P z).map (·.2), Sm w
  | .leaf p, z, _, hz, w, hw => by
    simp only [layP, List.map_cons, List.map_nil, List.mem_singleton] at hw
    subst hw
    split
    · exact hz.bare.sm
    · exact hz.sm
  | .split s sh a b, z, ⟨_, h1, _, ha, hb⟩, hz, w, hw => by
    simp only [layP, List.map_append, List.mem_append] at hw
    rcases hw with hw | hw
    · exact layP_sm ha (hz.bigA s h1) w hw
    · exact layP_sm hb (hz.bigB s h1) w hw
theorem layB_sm : ∀ {P : PT} {z : RE}, P.sides → ZOk z → ∀ w ∈ layB P z, Sm w
  | .leaf p, z, _, hz, w, hw => by simp [layB] at hw
  | .split s sh a b, z, ⟨_, h1, _, ha, hb⟩, hz, w, hw => by
    simp only [layB, List.mem_append] at hw
    rcases hw with hw | hw | hw
    · unfold ownL at hw
      split at hw
      · simp at hw
      · simp at hw; subst hw; exact hz.l s h1
    · exact layB_sm ha (hz.bigA s h1) w hw
    · exact layB_sm hb (hz.bigB s h1) w hw
theorem cntR_pos (x y : Int) : ∀ L : List RE, 0 ≤ cntR x y L ∧ cntR x y L ≤ L.length
  | [] => by simp [cntR]
  | z :: L => by
    have := cntR_pos x y L
    simp only [cntR, List.length_cons]
    split <;> omega
theorem cntR_succ {x y : Int} {L : List RE} {i : Nat} {z : RE} (h : L[i]? = some z) : cntR x y (L.take (i + 1)) = cntR x y (L.take i) + if inR z x y then 1 else 0 := by
  rw [List.take_add_one, h, Option.toList_some, cntR_app]
  simp [cntR]
end Go.Proofs.Ytbcfhiohdamcjaa.Ge
