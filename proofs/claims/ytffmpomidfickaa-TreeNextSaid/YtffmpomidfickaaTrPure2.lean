/- Close, Swap, Share of the document's tree, as the nodes told have it. -/
import Derived.Test.YtffmpomidfickaaTrPure
namespace Go.Proofs.Ytffmpomidfickaa.Tr
open Go Go.RowKit Am
set_option linter.unusedSimpArgs false
set_option linter.unusedVariables false
open PT
/-! ### Close -/
def er (i : Nat) (L : List ND) : List ND := L.take i ++ L.drop (i + 1)
theorem er_zero (r : ND) (L : List ND) : er 0 (r :: L) = L := by simp [er]
theorem er_cons (r : ND) (i : Nat) (L : List ND) : er (1 + i) (r :: L) = r :: er i L := by unfold er; rw [Nat.add_comm 1 i]; simp
theorem er_left {i : Nat} {A B : List ND} (h : i < A.length) : er i (A ++ B) = er i A ++ B := by
  unfold er
  rw [List.take_append_of_le_length (by omega), List.drop_append_of_le_length (by omega), List.append_assoc]
theorem er_right (i : Nat) (A B : List ND) : er (A.length + i) (A ++ B) = A ++ er i B := by
  unfold er
  rw [Nat.add_assoc, List.take_length_add_append, List.drop_length_add_append, List.append_assoc]
def PT.isL (p : PA) : PT → Bool
  | .leaf r => decide (r = p)
  | _ => false
def PT.closeA (p : PA) : PT → PT
  | .leaf r => .leaf r
  | .split s h a b => if a.isL p then b else if b.isL p then a else .split s h (a.closeA p) (b.closeA p)
/-- The split above a pane's leaf. -/
def PT.upP (p : PA) : PT → Nat
  | .leaf _ => 0
  | .split s h a b => if a.isL p then 0 else if b.isL p then 0 else match a.pos p with
    | some _ => 1 + a.upP p
    | none => 1 + a.size + b.upP p
def PT.isS : PT → Bool
  | .leaf _ => false
  | _ => true
theorem isL_iff {p : PA} {P : PT} : P.isL p = true ↔ P = .leaf p := by
  cases P <;> simp [PT.isL]
theorem isL_pos {p : PA} {P : PT} {i : Nat} (h : P.pos p = some i) : (P.isL p = true ∧ i = 0) ∨ (P.isL p = false ∧ P.isS = true ∧ 0 < i) := by
  cases P with
  | leaf r =>
    simp only [pos] at h
    split at h
    · rename_i e; cases h; exact .inl ⟨by simp [PT.isL, e], rfl⟩
    · cases h
  | split s hh a b =>
    refine .inr ⟨rfl, rfl, ?_⟩
    simp only [pos] at h
    split at h
    · cases h; omega
    · obtain ⟨j, _, rfl⟩ := Option.map_eq_some_iff.1 h; omega
theorem closeA_none {p : PA} : ∀ {P : PT}, P.pos p = none → P.closeA p = P
  | .leaf r, _ => rfl
  | .split s h a b, hp => by
    have ha : a.pos p = none := by
      cases hx : a.pos p with
      | none => rfl
      | some j => simp [pos, hx] at hp
    have hb : b.pos p = none := by simpa [pos, ha] using hp
    have la : a.isL p = false := by
      cases hl : a.isL p with
      | false => rfl
      | true => rw [isL_iff.1 hl] at ha; simp [pos] at ha
    have lb : b.isL p = false := by
      cases hl : b.isL p with
      | false => rfl
      | true => rw [isL_iff.1 hl] at hb; simp [pos] at hb
    simp [PT.closeA, la, lb, closeA_none ha, closeA_none hb]
theorem isL_none {p : PA} {P : PT} (h : P.pos p = none) : P.isL p = false := by
  cases hl : P.isL p with
  | false => rfl
  | true => rw [isL_iff.1 hl] at h; simp [pos] at h
theorem nodup_not {p : PA} {a b : PT} (h : (a.panes ++ b.panes).Nodup) {i : Nat} (ha : a.pos p = some i) : b.pos p = none := by
  rw [pos_none]
  intro hb
  have hpa : p ∈ a.panes := by
    by_cases hx : p ∈ a.panes
    · exact hx
    · rw [pos_none.2 hx] at ha; cases ha
  rw [List.nodup_append] at h
  exact h.2.2 p hpa p hb rfl
theorem closeA_size {p : PA} : ∀ {P : PT} {i : Nat}, P.panes.Nodup → P.pos p = some i → P.isS = true → (P.closeA p).size + 2 = P.size ∧ P.upP p < i
  | .leaf _, i, _, _, h => by cases h
  | .split s h a b, i, hn, hp, _ => by
    have hn' := hn
    simp only [panes] at hn
    rw [List.nodup_append] at hn
    obtain ⟨na, nb, _⟩ := hn
    cases hj : a.pos p with
    | some j =>
      have hb := nodup_not hn' hj
      simp only [pos, hj] at hp
      cases hp
      rcases isL_pos hj with ⟨l1, rfl⟩ | ⟨l1, l2, l3⟩
      · have := isL_iff.1 l1
        subst this
        simp [PT.closeA, PT.upP, PT.isL, size]; omega
      · obtain ⟨ih1, ih2⟩ := closeA_size na hj l2
        simp only [PT.closeA, PT.upP, l1, isL_none hb, hj, closeA_none hb]
        simp only [Bool.false_eq_true, if_false, size]; omega
    | none =>
      simp only [pos, hj] at hp
      obtain ⟨j, hb, rfl⟩ := Option.map_eq_some_iff.1 hp
      rcases isL_pos hb with ⟨l1, rfl⟩ | ⟨l1, l2, l3⟩
      · have := isL_iff.1 l1
        subst this
        simp only [PT.closeA, PT.upP, l1, isL_none hj]
        simp only [Bool.false_eq_true, if_false, if_true, size]; omega
      · obtain ⟨ih1, ih2⟩ := closeA_size nb hb l2
        simp only [PT.closeA, PT.upP, l1, isL_none hj, hj, closeA_none hj]
        simp only [Bool.false_eq_true, if_false, size]; omega
theorem er_map (f : ND → ND) (i : Nat) (L : List ND) : er i (L.map f) = (er i L).map f := by simp [er, List.map_take, List.map_drop]
theorem cut_tell {p : PA} : ∀ {P : PT} {i : Nat}, P.sides → P.panes.Nodup → P.pos p = some i → P.isS = true → ∀ k : Nat,
    (er (P.upP p) ((er i (tell k P)).map (mvN ((k : Int) + i + 1) (-1)))).map (mvN ((k : Int) + P.upP p + 1) (-1)) = tell k (P.closeA p)
  | .leaf _, i, _, _, _, h, _ => by cases h
  | .split s h a b, i, hs, hn, hp, _, k => by
    obtain ⟨h1, _, _, sa, sb⟩ := hs
    have hn' := hn
    simp only [panes] at hn
    rw [List.nodup_append] at hn
    obtain ⟨na, nb, _⟩ := hn
    have zb := size_pos b
    have za := size_pos a
    cases hj : a.pos p with
    | some j =>
      have hb := nodup_not hn' hj
      simp only [pos, hj] at hp
      cases hp
      have hlt := pos_lt hj
      rcases isL_pos hj with ⟨l1, rfl⟩ | ⟨l1, l2, l3⟩
      · have := isL_iff.1 l1
        subst this
        simp only [PT.closeA, PT.upP, l1, if_true, tell, size]
        rw [er_cons, List.singleton_append, er_zero, List.map_cons, er_zero, mv_high (k' := k + 1) sb (by omega) (by omega), mv_high (k' := k) sb (by omega) (by omega)]
      · obtain ⟨z1, z2⟩ := closeA_size na hj l2
        have ih := cut_tell sa na hj l2 (k + 1)
        simp only [PT.closeA, PT.upP, l1, isL_none hb, hj, closeA_none hb, tell]
        simp only [Bool.false_eq_true, if_false]
        rw [er_cons, er_left (by rw [tell_len]; exact hlt), List.map_cons, List.map_append, er_cons, er_left (by simp [er, tell_len]; omega), List.map_cons, List.map_append]
        have e1 : (k : Int) + ((1 + j : Nat) : Int) + 1 = ((k + 1 : Nat) : Int) + j + 1 := by omega
        have e2 : (k : Int) + ((1 + a.upP p : Nat) : Int) + 1 = ((k + 1 : Nat) : Int) + a.upP p + 1 := by omega
        rw [e1, e2, ih, mv_high (P := b) (k' := k + a.size) sb (by omega) (by omega), mv_high (P := b) (k' := k + 1 + (a.closeA p).size) sb (by omega) (by omega)]
        simp only [tell]
        congr 1
        have hm : ∀ (c c' : Int), ((k : Int) + 1 < c) → c ≤ (k : Int) + 1 + a.size → (k : Int) + 1 < c' → c' ≤ (k : Int) + a.size → mvN c' (-1) (mvN c (-1) ⟨s, (k : Int) + 1, (k : Int) + 1 + a.size, h, 0, 0, 0⟩) = ⟨s, (k : Int) + 1, (k : Int) + 1 + a.size - 2, h, 0, 0, 0⟩ := fun c c' q1 q2 q3 q4 => by
          have hs0 : ¬ s = 0 := by omega
          have m1 : mvN c (-1) ⟨s, (k : Int) + 1, (k : Int) + 1 + a.size, h, 0, 0, 0⟩ = ⟨s, (k : Int) + 1, (k : Int) + 1 + a.size - 1, h, 0, 0, 0⟩ := by
            unfold mvN mvZ
            rw [if_neg hs0]
            simp only
            rw [if_neg (by omega), if_pos (by omega)]
            congr 1
          have m2 : mvN c' (-1) ⟨s, (k : Int) + 1, (k : Int) + 1 + a.size - 1, h, 0, 0, 0⟩ = ⟨s, (k : Int) + 1, (k : Int) + 1 + a.size - 2, h, 0, 0, 0⟩ := by
            unfold mvN mvZ
            rw [if_neg hs0]
            simp only
            rw [if_neg (by omega), if_pos (by omega)]
            congr 1; omega
          rw [m1, m2]
        rw [hm _ _ (by omega) (by omega) (by omega) (by omega)]
        congr 1; omega
    | none =>
      simp only [pos, hj] at hp
      obtain ⟨j, hb, rfl⟩ := Option.map_eq_some_iff.1 hp
      have hlt := pos_lt hb
      have e3 : 1 + a.size + j = 1 + ((tell (k + 1) a).length + j) := by rw [tell_len]; omega
      rcases isL_pos hb with ⟨l1, rfl⟩ | ⟨l1, l2, l3⟩
      · have := isL_iff.1 l1
        subst this
        simp only [PT.closeA, PT.upP, l1, isL_none hj, if_true, tell]
        simp only [Bool.false_eq_true, if_false]
        rw [e3, er_cons, er_right, er_zero, List.append_nil, List.map_cons, er_zero, mv_low (P := a) (by rw [tell_len]; omega), mv_high (P := a) (k' := k) sa (by omega) (by omega)]
      · obtain ⟨z1, z2⟩ := closeA_size nb hb l2
        have ih := cut_tell sb nb hb l2 (k + 1 + a.size)
        have e4 : 1 + a.size + b.upP p = 1 + ((tell (k + 1) a).length + b.upP p) := by rw [tell_len]; omega
        simp only [PT.closeA, PT.upP, l1, isL_none hj, hj, closeA_none hj, tell]
        simp only [Bool.false_eq_true, if_false]
        have e1 : (k : Int) + ((1 + a.size + j : Nat) : Int) + 1 = ((k + 1 + a.size : Nat) : Int) + j + 1 := by omega
        have e2 : (k : Int) + ((1 + a.size + b.upP p : Nat) : Int) + 1 = ((k + 1 + a.size : Nat) : Int) + b.upP p + 1 := by omega
        rw [e1, e2, e3, er_cons, er_right, List.map_cons, List.map_append, mv_low (P := a) (by omega), e4, er_cons, er_right, List.map_cons, List.map_append, mv_low (P := a) (by omega), ih]
        congr 1
        have hm : ∀ (c c' : Int), (k : Int) + 1 + a.size < c → (k : Int) + 1 + a.size < c' → mvN c' (-1) (mvN c (-1) ⟨s, (k : Int) + 1, (k : Int) + 1 + a.size, h, 0, 0, 0⟩) = ⟨s, (k : Int) + 1, (k : Int) + 1 + a.size, h, 0, 0, 0⟩ := fun c c' q1 q2 => by
          have hs0 : ¬ s = 0 := by omega
          have m1 : ∀ c : Int, (k : Int) + 1 + a.size < c → mvN c (-1) ⟨s, (k : Int) + 1, (k : Int) + 1 + a.size, h, 0, 0, 0⟩ = ⟨s, (k : Int) + 1, (k : Int) + 1 + a.size, h, 0, 0, 0⟩ := fun c q => by
            unfold mvN mvZ
            rw [if_neg hs0]
            simp only
            rw [if_neg (by omega), if_neg (by omega)]
          rw [m1 c q1, m1 c' q2]
        rw [hm _ _ (by omega) (by omega)]
/-- No node of a part is above what stands at its root, ahead of it or behind it. -/
theorem above_none : ∀ {P : PT} {k : Nat} {j : Int}, (j ≤ k ∨ (k : Int) + P.size ≤ j) → (tell k P).findIdx (isAbove j) = (tell k P).length
  | .leaf p, k, j, _ => by simp [tell, leafN, isAbove, List.findIdx_cons]
  | .split s h a b, k, j, hj => by
    have zb := size_pos b
    have za := size_pos a
    simp only [size] at hj
    have hr : isAbove j ⟨s, (k : Int) + 1, (k : Int) + 1 + a.size, h, 0, 0, 0⟩ = false := by
      simp only [isAbove, Bool.and_eq_false_iff, Bool.or_eq_false_iff, decide_eq_false_iff_not]
      right; constructor <;> omega
    simp only [tell]
    rw [List.findIdx_cons, hr, cond_false, find_app, above_none (P := a) (by omega), above_none (P := b) (by omega)]
    simp
theorem above_leaf {p : PA} : ∀ {P : PT} {i : Nat}, P.sides → P.panes.Nodup → P.pos p = some i → P.isS = true → ∀ k : Nat, (tell k P).findIdx (isAbove ((k : Int) + i)) = P.upP p
  | .leaf _, i, _, _, _, h, _ => by cases h
  | .split s h a b, i, hs, hn, hp, _, k => by
    obtain ⟨h1, _, _, sa, sb⟩ := hs
    have hn' := hn
    simp only [panes] at hn
    rw [List.nodup_append] at hn
    obtain ⟨na, nb, _⟩ := hn
    have hs0 : ¬ s = 0 := by omega
    cases hj : a.pos p with
    | some j =>
      have hb := nodup_not hn' hj
      simp only [pos, hj] at hp
      cases hp
      have hlt := pos_lt hj
      rcases isL_pos hj with ⟨l1, rfl⟩ | ⟨l1, l2, l3⟩
      · have hr : isAbove ((k : Int) + ((1 + 0 : Nat) : Int)) ⟨s, (k : Int) + 1, (k : Int) + 1 + a.size, h, 0, 0, 0⟩ = true := by
          simp [isAbove, hs0]
        simp only [PT.upP, l1, if_true, tell]
        rw [List.findIdx_cons, hr, cond_true]
      · obtain ⟨z1, z2⟩ := closeA_size na hj l2
        have ih := above_leaf sa na hj l2 (k + 1)
        have hr : isAbove ((k : Int) + ((1 + j : Nat) : Int)) ⟨s, (k : Int) + 1, (k : Int) + 1 + a.size, h, 0, 0, 0⟩ = false := by
          simp only [isAbove, Bool.and_eq_false_iff, Bool.or_eq_false_iff, decide_eq_false_iff_not]
          right; constructor <;> omega
        have e1 : (k : Int) + ((1 + j : Nat) : Int) = ((k + 1 : Nat) : Int) + j := by omega
        simp only [PT.upP, l1, isL_none hb, hj, tell]
        simp only [Bool.false_eq_true, if_false]
        rw [List.findIdx_cons, hr, cond_false, e1, find_app, ih, if_pos (by rw [tell_len]; omega)]; omega
    | none =>
      simp only [pos, hj] at hp
      obtain ⟨j, hb, rfl⟩ := Option.map_eq_some_iff.1 hp
      have hlt := pos_lt hb
      rcases isL_pos hb with ⟨l1, rfl⟩ | ⟨l1, l2, l3⟩
      · have hr : isAbove ((k : Int) + ((1 + a.size + 0 : Nat) : Int)) ⟨s, (k : Int) + 1, (k : Int) + 1 + a.size, h, 0, 0, 0⟩ = true := by
          simp [isAbove, hs0]; omega
        simp only [PT.upP, l1, isL_none hj, if_true, tell]
        rw [List.findIdx_cons, hr, cond_true]; simp
      · have ih := above_leaf sb nb hb l2 (k + 1 + a.size)
        have hr : isAbove ((k : Int) + ((1 + a.size + j : Nat) : Int)) ⟨s, (k : Int) + 1, (k : Int) + 1 + a.size, h, 0, 0, 0⟩ = false := by
          simp only [isAbove, Bool.and_eq_false_iff, Bool.or_eq_false_iff, decide_eq_false_iff_not]
          have := size_pos a
          right; constructor <;> omega
        have e1 : (k : Int) + ((1 + a.size + j : Nat) : Int) = ((k + 1 + a.size : Nat) : Int) + j := by omega
        simp only [PT.upP, l1, isL_none hj, hj, tell]
        simp only [Bool.false_eq_true, if_false]
        rw [List.findIdx_cons, hr, cond_false, e1, find_app, above_none (P := a) (.inr (by omega)), if_neg (by omega), ih, tell_len]; omega
/-- Close, in plain words. -/
def PT.closeR (p : PA) (P : PT) : Int × PT :=
  if P.pos p = none then (4, P)
  else if P.isS = false then (9, P)
  else (0, P.closeA p)
theorem isS_panes {P : PT} : P.isS = false ↔ P.panes.length = 1 := by
  cases P with
  | leaf r => simp [PT.isS, panes]
  | split s h a b =>
    have := panes_size a
    have := panes_size b
    have := size_pos a
    have := size_pos b
    simp [PT.isS, panes]; omega
theorem close_tell {P : PT} (hs : P.sides) (hn : P.panes.Nodup) (p : PA) : closeN p (tell 0 P) = ((P.closeR p).1, tell 0 (P.closeR p).2) := by
  unfold closeN PT.closeR
  rw [idx_tell hs, lv_len hs]
  cases h : P.pos p with
  | none => rfl
  | some i =>
    have n1 : ¬ (match (some i : Option Nat) with | some i => (i : Int) | none => -1) < 0 := by simp only; omega
    rw [if_neg n1, if_neg (c := (some i : Option Nat) = none) (by simp)]
    cases h2 : P.isS with
    | false =>
      rw [if_pos (isS_panes.1 h2), if_pos rfl]
    | true =>
      rw [if_neg (fun e => by rw [isS_panes.2 e] at h2; cases h2), if_neg (by simp)]
      have h3 := cut_tell hs hn h h2 0
      have h4 := above_leaf hs hn h h2 0
      simp only [Int.natCast_zero, Int.zero_add, Int.ofNat_zero] at h3 h4
      simp only
      rw [find_tell hs, h]
      simp only
      rw [h4, ← h3]
      rfl
end Go.Proofs.Ytffmpomidfickaa.Tr
