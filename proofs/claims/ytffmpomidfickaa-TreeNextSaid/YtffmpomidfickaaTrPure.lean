/- A tree as the document has it, in plain words; how its nodes are told. -/
import Derived.Test.YtffmpomidfickaaTrOps2
namespace Go.Proofs.Ytffmpomidfickaa.Tr
open Go Go.RowKit Am
set_option linter.unusedSimpArgs false
set_option linter.unusedVariables false
inductive PT where
  | leaf (p : PA)
  | split (sd sh : Int) (a b : PT)
namespace PT
def size : PT → Nat
  | leaf _ => 1
  | split _ _ a b => 1 + a.size + b.size
def panes : PT → List PA
  | leaf p => [p]
  | split _ _ a b => a.panes ++ b.panes
def tell : Nat → PT → List ND
  | _, leaf p => [leafN p]
  | k, split sd sh a b => ⟨sd, (k : Int) + 1, (k : Int) + 1 + a.size, sh, 0, 0, 0⟩ :: (tell (k + 1) a ++ tell (k + 1 + a.size) b)
def sides : PT → Prop
  | leaf _ => True
  | split sd sh a b => (sd = 1 ∨ sd = 2) ∧ 1 ≤ sh ∧ sh ≤ 99 ∧ a.sides ∧ b.sides
/-- Where a pane's leaf stands among the nodes told. -/
def pos (p : PA) : PT → Option Nat
  | leaf q => if q = p then some 0 else none
  | split _ _ a b => match a.pos p with
    | some i => some (1 + i)
    | none => (b.pos p).map (1 + a.size + ·)
theorem size_pos : ∀ P : PT, 0 < P.size
  | leaf _ => by simp [size]
  | split _ _ a b => by simp [size]; omega
theorem tell_len : ∀ (k : Nat) (P : PT), (tell k P).length = P.size
  | _, leaf _ => rfl
  | k, split _ _ a b => by simp [tell, size, tell_len]; omega
theorem panes_size : ∀ P : PT, P.size + 1 = 2 * P.panes.length
  | leaf _ => rfl
  | split _ _ a b => by
    have := panes_size a
    have := panes_size b
    simp [size, panes]; omega
theorem pos_lt {p : PA} : ∀ {P : PT} {i : Nat}, P.pos p = some i → i < P.size
  | leaf q, i, h => by
    simp only [pos] at h
    split at h <;> cases h
    simp [size]
  | split _ _ a b, i, h => by
    simp only [pos] at h
    split at h
    · rename_i j hj
      cases h
      have := pos_lt hj
      simp [size]; omega
    · obtain ⟨j, hj, rfl⟩ := Option.map_eq_some_iff.1 h
      have := pos_lt hj
      simp [size]; omega
theorem pos_none {p : PA} : ∀ {P : PT}, P.pos p = none ↔ p ∉ P.panes
  | leaf q => by simp [pos, panes, eq_comm]
  | split _ _ a b => by
    simp only [pos, panes, List.mem_append, not_or]
    rw [← pos_none (P := a), ← pos_none (P := b)]
    cases a.pos p <;> simp
theorem lv_app (A B : List ND) : lv (A ++ B) = lv A ++ lv B := by simp [lv]
theorem lv_tell : ∀ {P : PT}, P.sides → ∀ k, (lv (tell k P)).map ND.pa = P.panes
  | leaf p, _, k => by simp [tell, lv, leafN, panes, ND.pa]
  | split sd sh a b, h, k => by
    obtain ⟨h1, _, _, ha, hb⟩ := h
    have : lv (tell k (split sd sh a b)) = lv (tell (k + 1) a) ++ lv (tell (k + 1 + a.size) b) := by
      simp only [tell]
      rw [← lv_app]
      simp only [lv]
      rw [List.filter_cons, if_neg (by simp; omega)]
    rw [this, List.map_append, lv_tell ha, lv_tell hb, panes]
theorem lv_len {P : PT} (h : P.sides) (k : Nat) : (lv (tell k P)).length = P.panes.length := by rw [← lv_tell h k, List.length_map]
theorem find_app {α : Type} (f : α → Bool) (A B : List α) : (A ++ B).findIdx f = if A.findIdx f < A.length then A.findIdx f else A.length + B.findIdx f := by
  rw [List.findIdx_append]; split <;> omega
theorem find_tell {p : PA} : ∀ {P : PT}, P.sides → ∀ k, (tell k P).findIdx (isLeaf p) = match P.pos p with | some i => i | none => P.size
  | leaf q, _, k => by
    simp only [tell, pos]
    by_cases h : q = p
    · subst h; simp [isLeaf, leafN, ND.pa, List.findIdx_cons]
    · have : isLeaf p (leafN q) = false := by
        rw [isLeaf, Bool.and_eq_false_iff]; right; exact decide_eq_false h
      simp [List.findIdx_cons, this, h, size]
  | split sd sh a b, h, k => by
    obtain ⟨h1, _, _, ha, hb⟩ := h
    have hr : isLeaf p ⟨sd, (k : Int) + 1, (k : Int) + 1 + a.size, sh, 0, 0, 0⟩ = false := by
      simp only [isLeaf, Bool.and_eq_false_iff, decide_eq_false_iff_not]; left; omega
    simp only [tell, pos]
    rw [List.findIdx_cons, hr, cond_false, find_app, find_tell ha, find_tell hb, tell_len]
    cases hpa : a.pos p with
    | some i =>
      have := pos_lt hpa
      simp only
      rw [if_pos this]; omega
    | none =>
      simp only
      rw [if_neg (by omega)]
      cases hpb : b.pos p with
      | some i => show _ = 1 + a.size + i; simp only; omega
      | none => show _ = 1 + a.size + b.size; simp only; omega
/-- Below a place, all of a part's children stand before it; from a place on, all behind. -/
theorem mv_low : ∀ {P : PT} {k : Nat} {c d : Int}, (k : Int) + P.size ≤ c → (tell k P).map (mvN c d) = tell k P
  | leaf p, k, c, d, h => by simp [tell, leafN, mvN]
  | split sd sh a b, k, c, d, h => by
    have hb := size_pos b
    simp only [size] at h
    simp only [tell, List.map_cons, List.map_append]
    rw [mv_low (P := a) (by omega), mv_low (P := b) (by omega)]
    congr 1
    unfold mvN mvZ
    split
    · rfl
    · simp only; rw [if_neg (by omega), if_neg (by omega)]
theorem mv_high : ∀ {P : PT} {k k' : Nat} {c d : Int}, P.sides → c ≤ (k : Int) + 1 → (k' : Int) = k + d → (tell k P).map (mvN c d) = tell k' P
  | leaf p, k, k', c, d, _, h, hk => by simp [tell, leafN, mvN]
  | split sd sh a b, k, k', c, d, hs, h, hk => by
    obtain ⟨h1, _, _, ha, hb⟩ := hs
    simp only [tell, List.map_cons, List.map_append]
    rw [mv_high (P := a) (k' := k' + 1) ha (by omega) (by omega), mv_high (P := b) (k' := k' + 1 + a.size) hb (by omega) (by omega)]
    congr 1
    unfold mvN mvZ
    rw [if_neg (by simp; omega)]
    simp only
    rw [if_pos (by omega), if_pos (by omega)]
    congr 1 <;> omega
end PT
/-! ### Split -/
def spl (p q : PA) (x : ND) (i : Nat) (L : List ND) : List ND := (L.take (i + 1) ++ [leafN p, leafN q] ++ L.drop (i + 1)).set i x
theorem spl_cons (p q : PA) (x r : ND) (i : Nat) (L : List ND) : spl p q x (1 + i) (r :: L) = r :: spl p q x i L := by
  unfold spl; rw [Nat.add_comm 1 i]; simp
theorem spl_left (p q : PA) (x : ND) {i : Nat} {A B : List ND} (h : i < A.length) : spl p q x i (A ++ B) = spl p q x i A ++ B := by
  unfold spl
  rw [List.take_append_of_le_length (by omega), List.drop_append_of_le_length (by omega), ← List.append_assoc, List.set_append, if_pos (by simp; omega)]
theorem spl_right (p q : PA) (x : ND) (i : Nat) (A B : List ND) : spl p q x (A.length + i) (A ++ B) = A ++ spl p q x i B := by
  unfold spl
  rw [Nat.add_assoc, List.take_length_add_append, List.drop_length_add_append, List.append_assoc, List.append_assoc, List.set_append, if_neg (by omega)]
  simp [List.append_assoc]
def PT.splitA (p q : PA) (sd sh : Int) : PT → PT
  | .leaf r => if r = p then .split sd sh (.leaf p) (.leaf q) else .leaf r
  | .split s h a b => match a.pos p with
    | some _ => .split s h (a.splitA p q sd sh) b
    | none => .split s h a (b.splitA p q sd sh)
open PT
theorem splitA_size (p q : PA) (sd sh : Int) : ∀ {P : PT} {i : Nat}, P.pos p = some i → (P.splitA p q sd sh).size = P.size + 2
  | .leaf r, i, h => by
    simp only [pos] at h
    split at h
    · rename_i e; simp [splitA, e, size]
    · cases h
  | .split s h a b, i, hp => by
    cases hpa : a.pos p with
    | some j =>
      simp only [splitA, hpa, size]
      rw [splitA_size p q sd sh hpa]; omega
    | none =>
      simp only [pos, hpa] at hp
      obtain ⟨j, hj, rfl⟩ := Option.map_eq_some_iff.1 hp
      simp only [splitA, hpa, size]
      rw [splitA_size p q sd sh hj]; omega
theorem spl_tell (p q : PA) (sd sh : Int) : ∀ {P : PT} {i : Nat}, P.sides → P.pos p = some i → ∀ k : Nat,
    spl p q ⟨sd, (k : Int) + i + 1, (k : Int) + i + 2, sh, 0, 0, 0⟩ i ((tell k P).map (mvN ((k : Int) + i + 1) 2)) = tell k (P.splitA p q sd sh)
  | .leaf r, i, _, h, k => by
    simp only [pos] at h
    split at h
    · rename_i e
      cases h
      subst e
      simp [tell, splitA, spl, leafN, mvN, size]; omega
    · cases h
  | .split s h a b, i, hs, hp, k => by
    obtain ⟨h1, _, _, ha, hb⟩ := hs
    cases hj0 : a.pos p with
    | some j =>
      have hj := hj0
      simp only [pos, hj] at hp
      cases hp
      simp only [splitA, hj]
      have hlt := pos_lt hj
      have ih := spl_tell p q sd sh ha hj (k + 1)
      have e1 : ((k : Nat) : Int) + ((1 + j : Nat) : Int) + 1 = ((k + 1 : Nat) : Int) + j + 1 := by omega
      have e2 : ((k : Nat) : Int) + ((1 + j : Nat) : Int) + 2 = ((k + 1 : Nat) : Int) + j + 2 := by omega
      rw [e1, e2]
      simp only [tell, List.map_cons, List.map_append]
      rw [spl_cons, spl_left _ _ _ (by rw [List.length_map, tell_len]; exact hlt), ih, mv_high (P := b) (k' := k + 1 + (a.size + 2)) hb (by omega) (by omega), splitA_size p q sd sh hj]
      congr 1
      unfold mvN mvZ
      rw [if_neg (by simp; omega)]
      simp only
      rw [if_neg (by omega), if_pos (by omega)]
      congr 1 <;> omega
    | none =>
      simp only [pos, hj0] at hp
      obtain ⟨j, hj, rfl⟩ := Option.map_eq_some_iff.1 hp
      simp only [splitA, hj0]
      have hlt := pos_lt hj
      have ih := spl_tell p q sd sh hb hj (k + 1 + a.size)
      have e1 : ((k : Nat) : Int) + ((1 + a.size + j : Nat) : Int) + 1 = ((k + 1 + a.size : Nat) : Int) + j + 1 := by omega
      have e2 : ((k : Nat) : Int) + ((1 + a.size + j : Nat) : Int) + 2 = ((k + 1 + a.size : Nat) : Int) + j + 2 := by omega
      rw [e1, e2]
      simp only [tell, List.map_cons, List.map_append]
      have e3 : 1 + a.size + j = 1 + (a.size + j) := by omega
      rw [e3, spl_cons, mv_low (P := a) (by omega)]
      have : a.size + j = (tell (k + 1) a).length + j := by rw [tell_len]
      rw [this, spl_right, ih]
      congr 1
      unfold mvN mvZ
      split
      · rfl
      · simp only; rw [if_neg (by omega), if_neg (by omega)]
/-- Split, in plain words. -/
def PT.splitR (p q : PA) (sd sh : Int) (P : PT) : Int × PT :=
  if P.pos p = none then (4, P)
  else if P.pos q ≠ none then (5, P)
  else if ¬ (sd = 1 ∨ sd = 2) ∨ sh < 1 ∨ 99 < sh then (1, P)
  else if P.panes.length = 16 then (6, P)
  else (0, P.splitA p q sd sh)
theorem idx_tell {P : PT} (hs : P.sides) (p : PA) (k : Nat) : idx (isLeaf p) (tell k P) = match P.pos p with | some i => (i : Int) | none => -1 := by
  unfold idx
  rw [find_tell hs, tell_len]
  cases h : P.pos p with
  | some i => simp only; rw [if_pos (pos_lt h)]
  | none => simp only; rw [if_neg (by omega)]
theorem hasP_tell {P : PT} (hs : P.sides) (p : PA) (k : Nat) : hasP p (tell k P) = decide (P.pos p ≠ none) := by
  unfold hasP
  rw [idx_tell hs]
  cases P.pos p with
  | some i => simp
  | none => simp
theorem split_tell {P : PT} (hs : P.sides) (p q : PA) (sd sh : Int) : splitN p q sd sh (tell 0 P) = ((P.splitR p q sd sh).1, tell 0 (P.splitR p q sd sh).2) := by
  unfold splitN PT.splitR
  rw [idx_tell hs, hasP_tell hs, lv_len hs]
  cases h : P.pos p with
  | none => rfl
  | some i =>
    have n1 : ¬ (match (some i : Option Nat) with | some i => (i : Int) | none => -1) < 0 := by simp only; omega
    rw [if_neg n1, if_neg (c := (some i : Option Nat) = none) (by simp)]
    cases h2 : P.pos q with
    | none =>
      rw [if_neg (c := decide ((none : Option Nat) ≠ none) = true) (by simp), if_neg (c := (none : Option Nat) ≠ none) (by simp)]
      by_cases h3 : ¬ (sd = 1 ∨ sd = 2) ∨ sh < 1 ∨ 99 < sh
      · rw [if_pos h3, if_pos h3]
      · rw [if_neg h3, if_neg h3]
        by_cases h4 : P.panes.length = 16
        · rw [if_pos h4, if_pos h4]
        · rw [if_neg h4, if_neg h4]
          have := spl_tell p q sd sh hs h 0
          simp only [Int.natCast_zero, Int.zero_add, Int.ofNat_zero] at this
          simp only
          rw [find_tell hs, h, ← this]
          rfl
    | some j =>
      rw [if_pos (c := decide ((some j : Option Nat) ≠ none) = true) (by simp), if_pos (c := (some j : Option Nat) ≠ none) (by simp)]
end Go.Proofs.Ytffmpomidfickaa.Tr
