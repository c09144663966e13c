/- A tree as the document has it, in plain words; how its nodes are told. -/
import Derived.Test.YtbcfhiohdamcjaaTrOps2
namespace Go.Proofs.Ytbcfhiohdamcjaa.Tr
open Go Go.RowKit Am
set_option linter.unusedSimpArgs false
set_option linter.unusedVariables false
inductive PT where
  | leaf (p : PA)
  | split (sd sh : Int) (a b : PT)
namespace PT
def size : PT → Nat
  | leaf _ => 1
  | split _ _ a b => 1 + a.size + b.size
def panes : PT → List PA
  | leaf p => [p]
  | split _ _ a b => a.panes ++ b.panes
def tell : Nat → PT → List ND
  | _, leaf p => [leafN p]
  | k, split sd sh a b => ⟨sd, (k : Int) + 1, (k : Int) + 1 + a.size, sh, 0, 0, 0⟩ :: (tell (k + 1) a ++ tell (k + 1 + a.size) b)
def sides : PT → Prop
  | leaf _ => True
  | split sd sh a b => (sd = 1 ∨ sd = 2) ∧ 1 ≤ sh ∧ sh ≤ 99 ∧ a.sides ∧ b.sides
/-- Where a pane's leaf stands among the nodes told. -/
def pos (p : PA) : PT → Option Nat
  | leaf q => if q = p then some 0 else none
  | split _ _ a b => match a.pos p with
    | some i => some (1 + i)
    | none => (b.pos p).map (1 + a.size + ·)
theorem size_pos : ∀ P : PT, 0 < P.size
  | leaf _ => by simp [size]
  | split _ _ a b => by simp [size]; omega
theorem tell_len : ∀ (k : Nat) (P : PT), (tell k P).length = P.size
  | _, leaf _ => rfl
  | k, split _ _ a b => by simp [tell, size, tell_len]; omega
theorem panes_size : ∀ P : PT, P.size + 1 = 2 * P.panes.length
  | leaf _ => rfl
  | split _ _ a b => by
    have := panes_size a
    have := panes_size b
    simp [size, panes]; omega
theorem pos_lt {p : PA} : ∀ {P : PT} {i : Nat}, P.pos p = some i → i < P.size
  | leaf q, i, h => by
    simp only [pos] at h
    split at h <;> cases h
    simp [size]
  | split _ _ a b, i, h => by
    simp only [pos] at h
    split at h
    · rename_i j hj
      cases h
      have := pos_lt hj
      simp [size]; omega
    · obtain ⟨j, hj, rfl⟩ := Option.map_eq_some_iff.1 h
      have := pos_lt hj
      simp [size]; omega
theorem pos_none {p : PA} : ∀ {P : PT}, P.pos p = none ↔ p ∉ P.panes
  | leaf q => by simp [pos, panes, eq_comm]
  | split _ _ a b => by
    simp only [pos, panes, List.mem_append, not_or]
    rw [← pos_none (P := a), ← pos_none (P := b)]
    cases a.pos p <;> simp
theorem lv_app (A B : List ND) : lv (A ++ B) = lv A ++ lv B := by simp [lv]
theorem lv_tell : ∀ {P : PT}, P.sides → ∀ k, (lv (tell k P)).map ND.pa = P.panes
  | leaf p, _, k => by simp [tell, lv, leafN, panes, ND.pa]
  | split sd sh a b, h, k => by
    obtain ⟨h1, _, _, ha, hb⟩ := h
    have : lv (tell k (split sd sh a b)) = lv (tell (k + 1) a) ++ lv (tell (k + 1 + a.size) b) := by
      simp only [tell]
      rw [← lv_app]
      simp only [lv]
      rw [List.filter_cons, if_neg (by simp; omega)]
    rw [this, List.map_append, lv_tell ha, lv_tell hb, panes]
theorem lv_len {P : PT} (h : P.sides) (k : Nat) : (lv (tell k P)).length = P.panes.length := by rw [← lv_tell h k, List.length_map]
theorem find_app {α : Type} (f : α → Bool) (A B : List α) : (A ++ B).findIdx f = if A.findIdx f < A.length then A.findIdx f else A.length + B.findIdx f := by
  rw [List.findIdx_append]; split <;> omega
theorem find_tell {p : PA} : ∀ {P : PT}, P.sides → ∀ k, (tell k P).findIdx (isLeaf p) = match P.pos p with | some i => i | none => P.size
  | leaf q, _, k => by
    simp only [tell, pos]
    by_cases h : q = p
    · subst h; simp [isLeaf, leafN, ND.pa, List.findIdx_cons]
    · have : isLeaf p (leafN q) = false := by
        rw [isLeaf, Bool.and_eq_false_iff]; right; exact decide_eq_false h
      simp [List.findIdx_cons, this, h, size]
  | split sd sh a b, h, k => by
    obtain ⟨h1, _, _, ha, hb⟩ := h
    have hr : isLeaf p ⟨sd, (k : Int) + 1, (k : Int) + 1 + a.size, sh, 0, 0, 0⟩ = false := by
      simp only [isLeaf, Bool.and_eq_false_iff, decide_eq_false_iff_not]; left; omega
    simp only [tell, pos]
    rw [List.findIdx_cons, hr, cond_false, find_app, find_tell ha, find_tell hb, tell_len]
    cases hpa : a.pos p with
    | some i =>
      have := pos_lt hpa
      simp only
      rw [if_pos this]; omega
    | none =>
      simp only
      rw [if_neg (by omega)]
      cases hpb : b.pos p with
      | some i => show _ = 1 + a.size + i; simp only; omega
      | none => show _ = 1 + a.size + b.size; simp only; omega
/-- Below a place, all of a part's children stand before it; from a place on, all behind. -/
theorem mv_low : ∀ {P : PT} {k : Nat} {c d : Int}, (k : Int) + P.size ≤ c → (tell k P).map (mvN c d) = tell k P
  | leaf p, k, c, d, h => by simp [tell, leafN, mvN]
  | split sd sh a b, k, c, d, h => by
    have hb := size_pos b
    simp only [size] at h
    simp only [tell, List.map_cons, List.map_append]
    rw [mv_low (P := a) (by omega), mv_low (P := b) (by omega)]
    congr 1
    unfold mvN mvZ
    split
    · rfl
    · simp only; rw [if_neg (by omega), if_neg (by omega)]
theorem mv_high : ∀ {P : PT} {k k' : Nat} {c d : Int}, P.sides → c ≤ (k : Int) + 1 → (k' : Int) = k + d → (tell k P).map (mvN c d) = tell k' P
  | leaf p, k, k', c, d, _, h, hk => by simp [tell, leafN, mvN]
  | split sd sh a b, k, k', c, d, hs, h, hk => by
    obtain ⟨h1, _, _, ha, hb⟩ := hs
    simp only [tell, List.map_cons, List.map_append]
    rw [mv_high (P := a) (k' := k' + 1) ha (by omega) (by omega), mv_high (P := b) (k' := k' + 1 + a.size) hb (by omega) (by omega)]
    congr 1
    unfold mvN mvZ
    rw [if_neg (by simp; omega)]
    simp only
    rw [if_pos (by omega), if_pos (by omega)]
    congr 1 <;> omega
end PT
/-! ### Split -/
def spl (p q : PA) (x : ND) (i : Nat) (L : List ND) : List ND := (L.take (i + 1) ++ [leafN p, leafN q] ++ L.drop (i + 1)).set i x
theorem spl_cons (p q : PA) (x r : ND) (i : Nat) (L : List ND) : spl p q x (1 + i) (r :: L) = r :: spl p q x i L := by
  unfold spl; rw [Nat.add_comm 1 i]; simp
theorem spl_left (p q : PA) (x : ND) {i : Nat} {A B : List ND} (h : i < A.length) : spl p q x i (A ++ B) = spl p q x i A ++ B := by
  unfold spl
  rw [List.take_append_of_le_length (by omega), List.drop_append_of_le_length (by omega), ← List.append_assoc, List.set_append, if_pos (by simp; omega)]
theorem spl_right (p q : PA) (x : ND) (i : Nat) (A B : List ND) : spl p q x (A.length + i) (A ++ B) = A ++ spl p q x i B := by
  unfold spl
  rw [Nat.add_assoc, List.take_length_add_append, List.drop_length_add_append, List.append_assoc, List.append_assoc, List.set_append, if_neg (by omega)]
  simp [List.append_assoc]
def PT.splitA (p q : PA) (sd sh : Int) : PT → PT
  | .leaf r => if r = p then .split sd sh (.leaf p) (.leaf q) else .leaf r
  | .split s h a b => match a.pos p with
    | some _ => .split s h (a.splitA p q sd sh) b
    | none => .split s h a (b.splitA p q sd sh)
open PT
theorem splitA_size (p q : PA) (sd sh : Int) : ∀ {P : PT} {i : Nat}, P.pos p = some i → (P.splitA p q sd sh).size = P.size + 2
  | .leaf r, i, h => by
    simp only [pos] at h
    split at h
    · rename_i e; simp [splitA, e, size]
    · cases h
  | .split s h a b, i, hp => by
    cases hpa : a.pos p with
    | some j =>
      simp only [splitA, hpa, size]
      rw [splitA_size p q sd sh hpa]; omega
    | none =>
      simp only [pos, hpa] at hp
      obtain ⟨j, hj, rfl⟩ := Option.map_eq_some_iff.1 hp
      simp only [splitA, hpa, size]
      rw [splitA_size p q sd sh hj]; omega
theorem spl_tell (p q : PA) (sd sh : Int) : ∀ {P : PT} {i : Nat}, P.sides → P.pos p = some i → ∀ k : Nat,
    spl p q ⟨sd, (k : Int) + i + 1, (k : Int) + i + 2, sh, 0, 0, 0⟩ i ((tell k P).map (mvN ((k : Int) + i + 1) 2)) = tell k (P.splitA p q sd sh)
  | .leaf r, i, _, h, k => by
    simp only [pos] at h
    split at h
    · rename_i e
      cases h
      subst e
      simp [tell, splitA, spl, leafN, mvN, size]; omega
    · cases h
  | .split s h a b, i, hs, hp, k => by
    obtain ⟨h1, _, _, ha, hb⟩ := hs
    cases hj0 : a.pos p with
    | some j =>
      have hj := hj0
      simp only [pos, hj] at hp
      cases hp
      simp only [splitA, hj]
      have hlt := pos_lt hj
      have ih := spl_tell p q sd sh ha hj (k + 1)
      have e1 : ((k : Nat) : Int) + ((1 + j : Nat) : Int) + 1 = ((k + 1 : Nat) : Int) + j + 1 := by omega
      have e2 : ((k : Nat) : Int) + ((1 + j : Nat) : Int) + 2 = ((k + 1 : Nat) : Int) + j + 2 := by omega
      rw [e1, e2]
      simp only [tell, List.map_cons, List.map_append]
      rw [spl_cons, spl_left _ _ _ (by rw [List.length_map, tell_len]; exact hlt), ih, mv_high (P := b) (k' := k + 1 + (a.size + 2)) hb (by omega) (by omega), splitA_size p q sd sh hj]
      congr 1
      unfold mvN mvZ
      rw [if_neg (by simp; omega)]
      simp only
      rw [if_neg (by omega), if_pos (by omega)]
      congr 1 <;> omega
    | none =>
      simp only [pos, hj0] at hp
      obtain ⟨j, hj, rfl⟩ := Option.map_eq_some_iff.1 hp
      simp only [splitA, hj0]
      have hlt := pos_lt hj
      have ih := spl_tell p q sd sh hb hj (k + 1 + a.size)
      have e1 : ((k : Nat) : Int) + ((1 + a.size + j : Nat) : Int) + 1 = ((k + 1 + a.size : Nat) : Int) + j + 1 := by omega
      have e2 : ((k : Nat) : Int) + ((1 + a.size + j : Nat) : Int) + 2 = ((k + 1 + a.size : Nat) : Int) + j + 2 := by omega
      rw [e1, e2]
      simp only [tell, List.map_cons, List.map_append]
      have e3 : 1 + a.size + j = 1 + (a.size + j) := by omega
      rw [e3, spl_cons, mv_low (P := a) (by omega)]
      have : a.size + j = (tell (k + 1) a).length + j := by rw [tell_len]
      rw [this, spl_right, ih]
      congr 1
      unfold mvN mvZ
      split
      · rfl
      · simp only; rw [if_neg (by omega), if_neg (by omega)]
/-- Split, in plain words. -/
def PT.splitR (p q : PA) (sd sh : Int) (P : PT) : Int × PT :=
  if P.pos p = none then (4, P)
  else if P.pos q ≠ none then (5, P)
  else if ¬ (sd = 1 ∨ sd = 2) ∨ sh < 1 ∨ 99 < sh then (1, P)
  else if P.panes.length = 16 then (6, P)
  else (0, P.splitA p q sd sh)
theorem idx_tell {P : PT} (hs : P.sides) (p : PA) (k : Nat) : idx (isLeaf p) (tell k P) = match P.pos p with | some i => (i : Int) | none => -1 := by
  unfold idx
  rw [find_tell hs, tell_len]
  cases h : P.pos p with
  | some i => simp only; rw [if_pos (pos_lt h)]
  | none => simp only; rw [if_neg (by omega)]
theorem hasP_tell {P : PT} (hs : P.sides) (p : PA) (k : Nat) : hasP p (tell k P) = decide (P.pos p ≠ none) := by
  unfold hasP
  rw [idx_tell hs]
  cases P.pos p with
  | some i => simp
  | none => simp
theorem split_tell {P : PT} (hs : P.sides) (p q : PA) (sd sh : Int) : splitN p q sd sh (tell 0 P) = ((P.splitR p q sd sh).1, tell 0 (P.splitR p q sd sh).2) := by
  unfold splitN PT.splitR
  rw [idx_tell hs, hasP_tell hs, lv_len hs]
  cases h : P.pos p with
  | none => rfl
  | some i =>
    have n1 : ¬ (match (some i : Option Nat) with | some i => (i : Int) | none => -1) < 0 := by simp only; omega
    rw [if_neg n1, if_neg (c := (some i : Option Nat) = none) (by simp)]
    cases h2 : P.pos q with
    | none =>
      rw [if_neg (c := decide ((none : Option Nat) ≠ none) = true) (by simp), if_neg (c := (none : Option Nat) ≠ none) (by simp)]
      by_cases h3 : ¬ (sd = 1 ∨ sd = 2) ∨ sh < 1 ∨ 99 < sh
      · rw [if_pos h3, if_pos h3]
      · rw [if_neg h3, if_neg h3]
        by_cases h4 : P.panes.length = 16
        · rw [if_pos h4, if_pos h4]
        · rw [if_neg h4, if_neg h4]
          have := spl_tell p q sd sh hs h 0
          simp only [Int.natCast_zero, Int.zero_add, Int.ofNat_zero] at this
          simp only
          rw [find_tell hs, h, ← this]
          rfl
    | some j =>
      rw [if_pos (c := decide ((some j : Option Nat) ≠ none) = true) (by simp), if_pos (c := (some j : Option Nat) ≠ none) (by simp)]
end Go.Proofs.Ytbcfhiohdamcjaa.Tr
namespace Go.Proofs.Ytbcfhiohdamcjaa.Tr
open Go Go.RowKit Am
set_option linter.unusedSimpArgs false
set_option linter.unusedVariables false
open PT
/-! ### Close -/
def er (i : Nat) (L : List ND) : List ND := L.take i ++ L.drop (i + 1)
theorem er_zero (r : ND) (L : List ND) : er 0 (r :: L) = L := by simp [er]
theorem er_cons (r : ND) (i : Nat) (L : List ND) : er (1 + i) (r :: L) = r :: er i L := by unfold er; rw [Nat.add_comm 1 i]; simp
theorem er_left {i : Nat} {A B : List ND} (h : i < A.length) : er i (A ++ B) = er i A ++ B := by
  unfold er
  rw [List.take_append_of_le_length (by omega), List.drop_append_of_le_length (by omega), List.append_assoc]
theorem er_right (i : Nat) (A B : List ND) : er (A.length + i) (A ++ B) = A ++ er i B := by
  unfold er
  rw [Nat.add_assoc, List.take_length_add_append, List.drop_length_add_append, List.append_assoc]
def PT.isL (p : PA) : PT → Bool
  | .leaf r => decide (r = p)
  | _ => false
def PT.closeA (p : PA) : PT → PT
  | .leaf r => .leaf r
  | .split s h a b => if a.isL p then b else if b.isL p then a else .split s h (a.closeA p) (b.closeA p)
/-- The split above a pane's leaf. -/
def PT.upP (p : PA) : PT → Nat
  | .leaf _ => 0
  | .split s h a b => if a.isL p then 0 else if b.isL p then 0 else match a.pos p with
    | some _ => 1 + a.upP p
    | none => 1 + a.size + b.upP p
def PT.isS : PT → Bool
  | .leaf _ => false
  | _ => true
theorem isL_iff {p : PA} {P : PT} : P.isL p = true ↔ P = .leaf p := by
  cases P <;> simp [PT.isL]
theorem isL_pos {p : PA} {P : PT} {i : Nat} (h : P.pos p = some i) : (P.isL p = true ∧ i = 0) ∨ (P.isL p = false ∧ P.isS = true ∧ 0 < i) := by
  cases P with
  | leaf r =>
    simp only [pos] at h
    split at h
    · rename_i e; cases h; exact .inl ⟨by simp [PT.isL, e], rfl⟩
    · cases h
  | split s hh a b =>
    refine .inr ⟨rfl, rfl, ?_⟩
    simp only [pos] at h
    split at h
    · cases h; omega
    · obtain ⟨j, _, rfl⟩ := Option.map_eq_some_iff.1 h; omega
theorem closeA_none {p : PA} : ∀ {P : PT}, P.pos p = none → P.closeA p = P
  | .leaf r, _ => rfl
  | .split s h a b, hp => by
    have ha : a.pos p = none := by
      cases hx : a.pos p with
      | none => rfl
      | some j => simp [pos, hx] at hp
    have hb : b.pos p = none := by simpa [pos, ha] using hp
    have la : a.isL p = false := by
      cases hl : a.isL p with
      | false => rfl
      | true => rw [isL_iff.1 hl] at ha; simp [pos] at ha
    have lb : b.isL p = false := by
      cases hl : b.isL p with
      | false => rfl
      | true => rw [isL_iff.1 hl] at hb; simp [pos] at hb
    simp [PT.closeA, la, lb, closeA_none ha, closeA_none hb]
theorem isL_none {p : PA} {P : PT} (h : P.pos p = none) : P.isL p = false := by
  cases hl : P.isL p with
  | false => rfl
  | true => rw [isL_iff.1 hl] at h; simp [pos] at h
theorem nodup_not {p : PA} {a b : PT} (h : (a.panes ++ b.panes).Nodup) {i : Nat} (ha : a.pos p = some i) : b.pos p = none := by
  rw [pos_none]
  intro hb
  have hpa : p ∈ a.panes := by
    by_cases hx : p ∈ a.panes
    · exact hx
    · rw [pos_none.2 hx] at ha; cases ha
  rw [List.nodup_append] at h
  exact h.2.2 p hpa p hb rfl
theorem closeA_size {p : PA} : ∀ {P : PT} {i : Nat}, P.panes.Nodup → P.pos p = some i → P.isS = true → (P.closeA p).size + 2 = P.size ∧ P.upP p < i
  | .leaf _, i, _, _, h => by cases h
  | .split s h a b, i, hn, hp, _ => by
    have hn' := hn
    simp only [panes] at hn
    rw [List.nodup_append] at hn
    obtain ⟨na, nb, _⟩ := hn
    cases hj : a.pos p with
    | some j =>
      have hb := nodup_not hn' hj
      simp only [pos, hj] at hp
      cases hp
      rcases isL_pos hj with ⟨l1, rfl⟩ | ⟨l1, l2, l3⟩
      · have := isL_iff.1 l1
        subst this
        simp [PT.closeA, PT.upP, PT.isL, size]; omega
      · obtain ⟨ih1, ih2⟩ := closeA_size na hj l2
        simp only [PT.closeA, PT.upP, l1, isL_none hb, hj, closeA_none hb]
        simp only [Bool.false_eq_true, if_false, size]; omega
    | none =>
      simp only [pos, hj] at hp
      obtain ⟨j, hb, rfl⟩ := Option.map_eq_some_iff.1 hp
      rcases isL_pos hb with ⟨l1, rfl⟩ | ⟨l1, l2, l3⟩
      · have := isL_iff.1 l1
        subst this
        simp only [PT.closeA, PT.upP, l1, isL_none hj]
        simp only [Bool.false_eq_true, if_false, if_true, size]; omega
      · obtain ⟨ih1, ih2⟩ := closeA_size nb hb l2
        simp only [PT.closeA, PT.upP, l1, isL_none hj, hj, closeA_none hj]
        simp only [Bool.false_eq_true, if_false, size]; omega
theorem er_map (f : ND → ND) (i : Nat) (L : List ND) : er i (L.map f) = (er i L).map f := by simp [er, List.map_take, List.map_drop]
theorem cut_tell {p : PA} : ∀ {P : PT} {i : Nat}, P.sides → P.panes.Nodup → P.pos p = some i → P.isS = true → ∀ k : Nat,
    (er (P.upP p) ((er i (tell k P)).map (mvN ((k : Int) + i + 1) (-1)))).map (mvN ((k : Int) + P.upP p + 1) (-1)) = tell k (P.closeA p)
  | .leaf _, i, _, _, _, h, _ => by cases h
  | .split s h a b, i, hs, hn, hp, _, k => by
    obtain ⟨h1, _, _, sa, sb⟩ := hs
    have hn' := hn
    simp only [panes] at hn
    rw [List.nodup_append] at hn
    obtain ⟨na, nb, _⟩ := hn
    have zb := size_pos b
    have za := size_pos a
    cases hj : a.pos p with
    | some j =>
      have hb := nodup_not hn' hj
      simp only [pos, hj] at hp
      cases hp
      have hlt := pos_lt hj
      rcases isL_pos hj with ⟨l1, rfl⟩ | ⟨l1, l2, l3⟩
      · have := isL_iff.1 l1
        subst this
        simp only [PT.closeA, PT.upP, l1, if_true, tell, size]
        rw [er_cons, List.singleton_append, er_zero, List.map_cons, er_zero, mv_high (k' := k + 1) sb (by omega) (by omega), mv_high (k' := k) sb (by omega) (by omega)]
      · obtain ⟨z1, z2⟩ := closeA_size na hj l2
        have ih := cut_tell sa na hj l2 (k + 1)
        simp only [PT.closeA, PT.upP, l1, isL_none hb, hj, closeA_none hb, tell]
        simp only [Bool.false_eq_true, if_false]
        rw [er_cons, er_left (by rw [tell_len]; exact hlt), List.map_cons, List.map_append, er_cons, er_left (by simp [er, tell_len]; omega), List.map_cons, List.map_append]
        have e1 : (k : Int) + ((1 + j : Nat) : Int) + 1 = ((k + 1 : Nat) : Int) + j + 1 := by omega
        have e2 : (k : Int) + ((1 + a.upP p : Nat) : Int) + 1 = ((k + 1 : Nat) : Int) + a.upP p + 1 := by omega
        rw [e1, e2, ih, mv_high (P := b) (k' := k + a.size) sb (by omega) (by omega), mv_high (P := b) (k' := k + 1 + (a.closeA p).size) sb (by omega) (by omega)]
        simp only [tell]
        congr 1
        have hm : ∀ (c c' : Int), ((k : Int) + 1 < c) → c ≤ (k : Int) + 1 + a.size → (k : Int) + 1 < c' → c' ≤ (k : Int) + a.size → mvN c' (-1) (mvN c (-1) ⟨s, (k : Int) + 1, (k : Int) + 1 + a.size, h, 0, 0, 0⟩) = ⟨s, (k : Int) + 1, (k : Int) + 1 + a.size - 2, h, 0, 0, 0⟩ := fun c c' q1 q2 q3 q4 => by
          have hs0 : ¬ s = 0 := by omega
          have m1 : mvN c (-1) ⟨s, (k : Int) + 1, (k : Int) + 1 + a.size, h, 0, 0, 0⟩ = ⟨s, (k : Int) + 1, (k : Int) + 1 + a.size - 1, h, 0, 0, 0⟩ := by
            unfold mvN mvZ
            rw [if_neg hs0]
            simp only
            rw [if_neg (by omega), if_pos (by omega)]
            congr 1
          have m2 : mvN c' (-1) ⟨s, (k : Int) + 1, (k : Int) + 1 + a.size - 1, h, 0, 0, 0⟩ = ⟨s, (k : Int) + 1, (k : Int) + 1 + a.size - 2, h, 0, 0, 0⟩ := by
            unfold mvN mvZ
            rw [if_neg hs0]
            simp only
            rw [if_neg (by omega), if_pos (by omega)]
            congr 1; omega
          rw [m1, m2]
        rw [hm _ _ (by omega) (by omega) (by omega) (by omega)]
        congr 1; omega
    | none =>
      simp only [pos, hj] at hp
      obtain ⟨j, hb, rfl⟩ := Option.map_eq_some_iff.1 hp
      have hlt := pos_lt hb
      have e3 : 1 + a.size + j = 1 + ((tell (k + 1) a).length + j) := by rw [tell_len]; omega
      rcases isL_pos hb with ⟨l1, rfl⟩ | ⟨l1, l2, l3⟩
      · have := isL_iff.1 l1
        subst this
        simp only [PT.closeA, PT.upP, l1, isL_none hj, if_true, tell]
        simp only [Bool.false_eq_true, if_false]
        rw [e3, er_cons, er_right, er_zero, List.append_nil, List.map_cons, er_zero, mv_low (P := a) (by rw [tell_len]; omega), mv_high (P := a) (k' := k) sa (by omega) (by omega)]
      · obtain ⟨z1, z2⟩ := closeA_size nb hb l2
        have ih := cut_tell sb nb hb l2 (k + 1 + a.size)
        have e4 : 1 + a.size + b.upP p = 1 + ((tell (k + 1) a).length + b.upP p) := by rw [tell_len]; omega
        simp only [PT.closeA, PT.upP, l1, isL_none hj, hj, closeA_none hj, tell]
        simp only [Bool.false_eq_true, if_false]
        have e1 : (k : Int) + ((1 + a.size + j : Nat) : Int) + 1 = ((k + 1 + a.size : Nat) : Int) + j + 1 := by omega
        have e2 : (k : Int) + ((1 + a.size + b.upP p : Nat) : Int) + 1 = ((k + 1 + a.size : Nat) : Int) + b.upP p + 1 := by omega
        rw [e1, e2, e3, er_cons, er_right, List.map_cons, List.map_append, mv_low (P := a) (by omega), e4, er_cons, er_right, List.map_cons, List.map_append, mv_low (P := a) (by omega), ih]
        congr 1
        have hm : ∀ (c c' : Int), (k : Int) + 1 + a.size < c → (k : Int) + 1 + a.size < c' → mvN c' (-1) (mvN c (-1) ⟨s, (k : Int) + 1, (k : Int) + 1 + a.size, h, 0, 0, 0⟩) = ⟨s, (k : Int) + 1, (k : Int) + 1 + a.size, h, 0, 0, 0⟩ := fun c c' q1 q2 => by
          have hs0 : ¬ s = 0 := by omega
          have m1 : ∀ c : Int, (k : Int) + 1 + a.size < c → mvN c (-1) ⟨s, (k : Int) + 1, (k : Int) + 1 + a.size, h, 0, 0, 0⟩ = ⟨s, (k : Int) + 1, (k : Int) + 1 + a.size, h, 0, 0, 0⟩ := fun c q => by
            unfold mvN mvZ
            rw [if_neg hs0]
            simp only
            rw [if_neg (by omega), if_neg (by omega)]
          rw [m1 c q1, m1 c' q2]
        rw [hm _ _ (by omega) (by omega)]
/-- No node of a part is above what stands at its root, ahead of it or behind it. -/
theorem above_none : ∀ {P : PT} {k : Nat} {j : Int}, (j ≤ k ∨ (k : Int) + P.size ≤ j) → (tell k P).findIdx (isAbove j) = (tell k P).length
  | .leaf p, k, j, _ => by simp [tell, leafN, isAbove, List.findIdx_cons]
  | .split s h a b, k, j, hj => by
    have zb := size_pos b
    have za := size_pos a
    simp only [size] at hj
    have hr : isAbove j ⟨s, (k : Int) + 1, (k : Int) + 1 + a.size, h, 0, 0, 0⟩ = false := by
      simp only [isAbove, Bool.and_eq_false_iff, Bool.or_eq_false_iff, decide_eq_false_iff_not]
      right; constructor <;> omega
    simp only [tell]
    rw [List.findIdx_cons, hr, cond_false, find_app, above_none (P := a) (by omega), above_none (P := b) (by omega)]
    simp
theorem above_leaf {p : PA} : ∀ {P : PT} {i : Nat}, P.sides → P.panes.Nodup → P.pos p = some i → P.isS = true → ∀ k : Nat, (tell k P).findIdx (isAbove ((k : Int) + i)) = P.upP p
  | .leaf _, i, _, _, _, h, _ => by cases h
  | .split s h a b, i, hs, hn, hp, _, k => by
    obtain ⟨h1, _, _, sa, sb⟩ := hs
    have hn' := hn
    simp only [panes] at hn
    rw [List.nodup_append] at hn
    obtain ⟨na, nb, _⟩ := hn
    have hs0 : ¬ s = 0 := by omega
    cases hj : a.pos p with
    | some j =>
      have hb := nodup_not hn' hj
      simp only [pos, hj] at hp
      cases hp
      have hlt := pos_lt hj
      rcases isL_pos hj with ⟨l1, rfl⟩ | ⟨l1, l2, l3⟩
      · have hr : isAbove ((k : Int) + ((1 + 0 : Nat) : Int)) ⟨s, (k : Int) + 1, (k : Int) + 1 + a.size, h, 0, 0, 0⟩ = true := by
          simp [isAbove, hs0]
        simp only [PT.upP, l1, if_true, tell]
        rw [List.findIdx_cons, hr, cond_true]
      · obtain ⟨z1, z2⟩ := closeA_size na hj l2
        have ih := above_leaf sa na hj l2 (k + 1)
        have hr : isAbove ((k : Int) + ((1 + j : Nat) : Int)) ⟨s, (k : Int) + 1, (k : Int) + 1 + a.size, h, 0, 0, 0⟩ = false := by
          simp only [isAbove, Bool.and_eq_false_iff, Bool.or_eq_false_iff, decide_eq_false_iff_not]
          right; constructor <;> omega
        have e1 : (k : Int) + ((1 + j : Nat) : Int) = ((k + 1 : Nat) : Int) + j := by omega
        simp only [PT.upP, l1, isL_none hb, hj, tell]
        simp only [Bool.false_eq_true, if_false]
        rw [List.findIdx_cons, hr, cond_false, e1, find_app, ih, if_pos (by rw [tell_len]; omega)]; omega
    | none =>
      simp only [pos, hj] at hp
      obtain ⟨j, hb, rfl⟩ := Option.map_eq_some_iff.1 hp
      have hlt := pos_lt hb
      rcases isL_pos hb with ⟨l1, rfl⟩ | ⟨l1, l2, l3⟩
      · have hr : isAbove ((k : Int) + ((1 + a.size + 0 : Nat) : Int)) ⟨s, (k : Int) + 1, (k : Int) + 1 + a.size, h, 0, 0, 0⟩ = true := by
          simp [isAbove, hs0]; omega
        simp only [PT.upP, l1, isL_none hj, if_true, tell]
        rw [List.findIdx_cons, hr, cond_true]; simp
      · have ih := above_leaf sb nb hb l2 (k + 1 + a.size)
        have hr : isAbove ((k : Int) + ((1 + a.size + j : Nat) : Int)) ⟨s, (k : Int) + 1, (k : Int) + 1 + a.size, h, 0, 0, 0⟩ = false := by
          simp only [isAbove, Bool.and_eq_false_iff, Bool.or_eq_false_iff, decide_eq_false_iff_not]
          have := size_pos a
          right; constructor <;> omega
        have e1 : (k : Int) + ((1 + a.size + j : Nat) : Int) = ((k + 1 + a.size : Nat) : Int) + j := by omega
        simp only [PT.upP, l1, isL_none hj, hj, tell]
        simp only [Bool.false_eq_true, if_false]
        rw [List.findIdx_cons, hr, cond_false, e1, find_app, above_none (P := a) (.inr (by omega)), if_neg (by omega), ih, tell_len]; omega
/-- Close, in plain words. -/
def PT.closeR (p : PA) (P : PT) : Int × PT :=
  if P.pos p = none then (4, P)
  else if P.isS = false then (9, P)
  else (0, P.closeA p)
theorem isS_panes {P : PT} : P.isS = false ↔ P.panes.length = 1 := by
  cases P with
  | leaf r => simp [PT.isS, panes]
  | split s h a b =>
    have := panes_size a
    have := panes_size b
    have := size_pos a
    have := size_pos b
    simp [PT.isS, panes]; omega
theorem close_tell {P : PT} (hs : P.sides) (hn : P.panes.Nodup) (p : PA) : closeN p (tell 0 P) = ((P.closeR p).1, tell 0 (P.closeR p).2) := by
  unfold closeN PT.closeR
  rw [idx_tell hs, lv_len hs]
  cases h : P.pos p with
  | none => rfl
  | some i =>
    have n1 : ¬ (match (some i : Option Nat) with | some i => (i : Int) | none => -1) < 0 := by simp only; omega
    rw [if_neg n1, if_neg (c := (some i : Option Nat) = none) (by simp)]
    cases h2 : P.isS with
    | false =>
      rw [if_pos (isS_panes.1 h2), if_pos rfl]
    | true =>
      rw [if_neg (fun e => by rw [isS_panes.2 e] at h2; cases h2), if_neg (by simp)]
      have h3 := cut_tell hs hn h h2 0
      have h4 := above_leaf hs hn h h2 0
      simp only [Int.natCast_zero, Int.zero_add, Int.ofNat_zero] at h3 h4
      simp only
      rw [find_tell hs, h]
      simp only
      rw [h4, ← h3]
      rfl
end Go.Proofs.Ytbcfhiohdamcjaa.Tr
namespace Go.Proofs.Ytbcfhiohdamcjaa.Tr
open Go Go.RowKit Am
set_option linter.unusedSimpArgs false
set_option linter.unusedVariables false
open PT
/-! ### Swap -/
def PT.mapP (f : PA → PA) : PT → PT
  | .leaf r => .leaf (f r)
  | .split s h a b => .split s h (a.mapP f) (b.mapP f)
theorem mapP_size (f : PA → PA) : ∀ P : PT, (P.mapP f).size = P.size
  | .leaf _ => rfl
  | .split _ _ a b => by simp [PT.mapP, size, mapP_size f a, mapP_size f b]
theorem mapP_panes (f : PA → PA) : ∀ P : PT, (P.mapP f).panes = P.panes.map f
  | .leaf _ => rfl
  | .split _ _ a b => by simp [PT.mapP, panes, mapP_panes f a, mapP_panes f b]
theorem mapP_sides (f : PA → PA) : ∀ {P : PT}, P.sides → (P.mapP f).sides
  | .leaf _, _ => trivial
  | .split _ _ a b, ⟨h1, h2, h3, h4, h5⟩ => ⟨h1, h2, h3, mapP_sides f h4, mapP_sides f h5⟩
theorem mapP_map (f g : PA → PA) : ∀ P : PT, (P.mapP f).mapP g = P.mapP (fun x => g (f x))
  | .leaf _ => rfl
  | .split _ _ a b => by simp [PT.mapP, mapP_map f g a, mapP_map f g b]
theorem mapP_id {f : PA → PA} (h : ∀ x, f x = x) : ∀ P : PT, P.mapP f = P
  | .leaf _ => by simp [PT.mapP, h]
  | .split _ _ a b => by simp [PT.mapP, mapP_id h a, mapP_id h b]
def mapN (f : PA → PA) (x : ND) : ND := if x.side = 0 then x.withPa (f x.pa) else x
theorem map_tell (f : PA → PA) : ∀ {P : PT}, P.sides → ∀ k, (tell k P).map (mapN f) = tell k (P.mapP f)
  | .leaf r, _, k => by simp [tell, PT.mapP, mapN, leafN, ND.withPa, ND.pa]
  | .split s h a b, ⟨h1, _, _, ha, hb⟩, k => by
    have hs : ¬ s = 0 := by omega
    simp [tell, PT.mapP, map_tell f ha, map_tell f hb, mapN, hs, mapP_size]
theorem leaf_at {x : ND} : ∀ {P : PT} {k j : Nat}, P.sides → P.panes.Nodup → (tell k P)[j]? = some x → x.side = 0 → P.pos x.pa = some j
  | .leaf r, k, j, _, _, h, hx => by
    simp only [tell] at h
    cases j with
    | zero => simp at h; subst h; simp [pos, leafN, ND.pa]
    | succ j => simp at h
  | .split s hh a b, k, j, ⟨h1, _, _, ha, hb⟩, hn, h, hx => by
    have hn' := hn
    simp only [panes] at hn
    rw [List.nodup_append] at hn
    obtain ⟨na, nb, _⟩ := hn
    simp only [tell] at h
    cases j with
    | zero => simp at h; subst h; simp only at hx; omega
    | succ j =>
      rw [List.getElem?_cons_succ] at h
      by_cases hj : j < (tell (k + 1) a).length
      · rw [List.getElem?_append_left hj] at h
        have := leaf_at ha na h hx
        simp only [pos, this]; congr 1; omega
      · rw [List.getElem?_append_right (by omega)] at h
        have := leaf_at hb nb h hx
        rw [tell_len] at this hj
        cases hpa : a.pos x.pa with
        | some i => rw [nodup_not hn' hpa] at this; cases this
        | none => simp only [pos, hpa, this, Option.map_some]; congr 1; omega
theorem pos_leaf {p : PA} {P : PT} {i : Nat} (hs : P.sides) (h : P.pos p = some i) (k : Nat) : ∃ x, (tell k P)[i]? = some x ∧ x.side = 0 ∧ x.pa = p := by
  have hf := find_tell hs k (p := p)
  rw [h] at hf
  simp only at hf
  have hlt : (tell k P).findIdx (isLeaf p) < (tell k P).length := by rw [hf, tell_len]; exact pos_lt h
  have := List.findIdx_getElem (w := hlt)
  simp only [isLeaf, Bool.and_eq_true, decide_eq_true_eq] at this
  refine ⟨(tell k P)[i]'(by rw [tell_len]; exact pos_lt h), List.getElem?_eq_getElem _, ?_, ?_⟩
  · have h1 := this.1; simpa [hf] using h1
  · have h1 := this.2; simpa [hf] using h1
def swp (p q : PA) (r : PA) : PA := if r = p then q else if r = q then p else r
theorem swp_swp (p q r : PA) : swp p q (swp p q r) = r := by
  unfold swp
  by_cases h1 : r = p
  · subst h1
    by_cases h2 : q = r
    · subst h2; simp
    · simp [h2]
  · by_cases h2 : r = q
    · subst h2; simp [h1]
    · simp [h1, h2]
theorem swp_inj {p q a b : PA} (h : swp p q a = swp p q b) : a = b := by rw [← swp_swp p q a, h, swp_swp]
theorem setPa_get {N : List ND} {i : Nat} {p : PA} {x : ND} (h : N[i]? = some x) : setPa i p N = N.set i (x.withPa p) := by unfold setPa; rw [h]
theorem swap_list {p q : PA} {P : PT} {i j : Nat} (hs : P.sides) (hn : P.panes.Nodup) (hi : P.pos p = some i) (hj : P.pos q = some j) (k : Nat) : setPa j p (setPa i q (tell k P)) = tell k (P.mapP (swp p q)) := by
  obtain ⟨x, hx, hx0, hxp⟩ := pos_leaf hs hi k
  obtain ⟨y, hy, hy0, hyq⟩ := pos_leaf hs hj k
  have hil := (List.getElem?_eq_some_iff.1 hx).1
  have hjl := (List.getElem?_eq_some_iff.1 hy).1
  rw [setPa_get hx, ← map_tell _ hs]
  apply List.ext_getElem?
  intro m
  by_cases hij : i = j
  · subst hij
    rw [hx] at hy; cases hy
    rw [setPa_get (List.getElem?_set_self hil), List.set_set, List.getElem?_set, List.getElem?_map]
    by_cases hm : i = m
    · subst hm
      rw [if_pos rfl, if_pos hil, hx, Option.map_some]
      have : p = q := by rw [← hxp, ← hyq]
      subst this
      simp [mapN, hx0, ND.withPa, hxp, swp]
    · rw [if_neg hm]
      cases hz : (tell k P)[m]? with
      | none => rfl
      | some z =>
        rw [Option.map_some]
        congr 1
        unfold mapN
        split
        · rename_i h0
          have := leaf_at hs hn hz h0
          have h1 : z.pa ≠ p := fun e => by rw [e, hi] at this; cases this; exact hm rfl
          have h2 : z.pa ≠ q := fun e => by rw [e, hj] at this; cases this; exact hm rfl
          simp only [swp, if_neg h1, if_neg h2]; rfl
        · rfl
  · rw [setPa_get (x := y) (by rw [List.getElem?_set_ne hij]; exact hy), List.getElem?_set, List.getElem?_map]
    by_cases hm : j = m
    · subst hm
      rw [if_pos rfl, if_pos (by simpa using hjl), hy, Option.map_some]
      congr 1
      unfold mapN
      rw [if_pos hy0]
      congr 1
      unfold swp
      rw [hyq]
      by_cases h : q = p
      · rw [if_pos h, h]
      · rw [if_neg h, if_pos rfl]
    · rw [if_neg hm, List.getElem?_set]
      by_cases hm2 : i = m
      · subst hm2
        rw [if_pos rfl, if_pos hil, hx, Option.map_some]
        congr 1
        unfold mapN
        rw [if_pos hx0]
        congr 1
        unfold swp
        rw [hxp, if_pos rfl]
      · rw [if_neg hm2]
        cases hz : (tell k P)[m]? with
        | none => rfl
        | some z =>
          rw [Option.map_some]
          congr 1
          unfold mapN
          split
          · rename_i h0
            have := leaf_at hs hn hz h0
            have h1 : z.pa ≠ p := fun e => by rw [e, hi] at this; cases this; exact hm2 rfl
            have h2 : z.pa ≠ q := fun e => by rw [e, hj] at this; cases this; exact hm rfl
            simp only [swp, if_neg h1, if_neg h2]; rfl
          · rfl
def PT.swapR (p q : PA) (P : PT) : Int × PT := if P.pos p = none ∨ P.pos q = none then (4, P) else (0, P.mapP (swp p q))
theorem swap_tell {P : PT} (hs : P.sides) (hn : P.panes.Nodup) (p q : PA) : swapN p q (tell 0 P) = ((P.swapR p q).1, tell 0 (P.swapR p q).2) := by
  unfold swapN PT.swapR
  rw [idx_tell hs, idx_tell hs]
  cases h : P.pos p with
  | none => simp
  | some i =>
    cases h2 : P.pos q with
    | none => simp
    | some j =>
      have f1 : (tell 0 P).findIdx (isLeaf p) = i := by rw [find_tell hs, h]
      have f2 : (tell 0 P).findIdx (isLeaf q) = j := by rw [find_tell hs, h2]
      rw [if_neg (by simp only; omega), if_neg (by simp), f1, f2, swap_list hs hn h h2]
/-! ### Share -/
def PT.shareA (side : Int) (p : PA) (d : Int) : PT → Option PT
  | .leaf _ => none
  | .split s h a b => match a.pos p with
    | some _ => match a.shareA side p d with
      | some a' => some (.split s h a' b)
      | none => if s = side then some (.split s (clamp 1 99 (h + d)) a b) else none
    | none => match b.shareA side p d with
      | some b' => some (.split s h a b')
      | none => if s = side then some (.split s (clamp 1 99 (h - d)) a b) else none
theorem shareA_keep {side : Int} {p : PA} {d : Int} : ∀ {P P' : PT}, P.shareA side p d = some P' → P'.size = P.size ∧ P'.panes = P.panes ∧ (P.sides → P'.sides)
  | .leaf _, P', h => by cases h
  | .split s h a b, P', hp => by
    have hc : ∀ z, 1 ≤ clamp 1 99 z ∧ clamp 1 99 z ≤ 99 := fun z => clamp_le (by omega) z
    simp only [PT.shareA] at hp
    split at hp
    · split at hp
      · rename_i a' ha
        cases hp
        obtain ⟨h1, h2, h3⟩ := shareA_keep ha
        exact ⟨by simp [size, h1], by simp [panes, h2], fun ⟨q1, q2, q3, q4, q5⟩ => ⟨q1, q2, q3, h3 q4, q5⟩⟩
      · split at hp <;> cases hp
        exact ⟨rfl, rfl, fun ⟨q1, q2, q3, q4, q5⟩ => ⟨q1, (hc _).1, (hc _).2, q4, q5⟩⟩
    · split at hp
      · rename_i b' hb
        cases hp
        obtain ⟨h1, h2, h3⟩ := shareA_keep hb
        exact ⟨by simp [size, h1], by simp [panes, h2], fun ⟨q1, q2, q3, q4, q5⟩ => ⟨q1, q2, q3, q4, h3 q5⟩⟩
      · split at hp <;> cases hp
        exact ⟨rfl, rfl, fun ⟨q1, q2, q3, q4, q5⟩ => ⟨q1, (hc _).1, (hc _).2, q4, q5⟩⟩
theorem all_of_find {f : ND → Bool} {N : List ND} (h : N.findIdx f = N.length) : ∀ x ∈ N, f x = false := fun x hx => by
  cases hf : f x with
  | false => rfl
  | true =>
    have := List.findIdx_lt_length.2 ⟨x, hx, hf⟩
    omega
theorem find_none {f : ND → Bool} {N : List ND} (h : ∀ x ∈ N, f x = false) : N.findIdx f = N.length := by
  rw [List.findIdx_eq_length]; exact h
theorem find_mid {f : ND → Bool} {A B : List ND} {r : ND} (h : ∀ x ∈ A, f x = false) (hr : f r = true) : idx f (A ++ r :: B) = (A.length : Int) := by
  have e : (A ++ r :: B).findIdx f = A.length := by
    rw [find_app, find_none h, if_neg (by omega), List.findIdx_cons, hr, cond_true, Nat.add_zero]
  unfold idx
  rw [e, if_pos (by simp)]
def setSh (x : ND) (c d : Int) : ND := { x with sh := clamp 1 99 (if x.f = c then x.sh + d else x.sh - d) }
theorem set_mid (A B : List ND) (r x : ND) : (A ++ r :: B).set A.length x = A ++ x :: B := by
  rw [List.set_append, if_neg (by omega)]; simp
theorem get_mid (A B : List ND) (r : ND) : (A ++ r :: B)[A.length]? = some r := by
  rw [List.getElem?_append_right (Nat.le_refl _)]; simp
theorem climb_tell {side : Int} {p : PA} {d : Int} : ∀ {P : PT} {i k : Nat} {pre post N : List ND}, P.sides → P.pos p = some i → pre.length = k → (∀ x ∈ pre, ∀ j : Int, (k : Int) < j → j < (k : Int) + P.size → isAbove j x = false) → N = pre ++ (tell k P ++ post) →
    match P.shareA side p d with
    | some P' => ∃ (c u : Nat) (x : ND), climb side N (k + i) = (c, (u : Int)) ∧ N[u]? = some x ∧ N.set u (setSh x c d) = pre ++ (tell k P' ++ post)
    | none => climb side N (k + i) = climb side N k
  | .leaf r, i, k, pre, post, N, _, h, _, _, _ => by
    simp only [pos] at h
    split at h <;> cases h
    simp [PT.shareA]
  | .split s h a b, i, k, pre, post, N, ⟨h1, _, _, ha, hb⟩, hp, hl, hpre, hN => by
    have za := size_pos a
    have zb := size_pos b
    have hs0 : ¬ s = 0 := by omega
    obtain ⟨r, hr⟩ : ∃ r : ND, r = ⟨s, (k : Int) + 1, (k : Int) + 1 + a.size, h, 0, 0, 0⟩ := ⟨_, rfl⟩
    have hN2 : N = pre ++ r :: (tell (k + 1) a ++ tell (k + 1 + a.size) b ++ post) := by rw [hN, hr]; simp [tell]
    have hside : sideAt N k = s := by
      unfold sideAt
      rw [hN2, ← hl, get_mid, hr]
    simp only [size] at hpre
    cases hj : a.pos p with
    | some j =>
      simp only [pos, hj] at hp
      cases hp
      have hN3 : N = (pre ++ [r]) ++ (tell (k + 1) a ++ (tell (k + 1 + a.size) b ++ post)) := by rw [hN2]; simp
      have ih := climb_tell (side := side) (d := d) (i := j) (k := k + 1) (pre := pre ++ [r]) (post := tell (k + 1 + a.size) b ++ post) (N := N) ha hj (by simp [hl]) (fun x hx m hm1 hm2 => by
        rw [List.mem_append] at hx
        rcases hx with hx | hx
        · exact hpre x hx m (by omega) (by omega)
        · simp at hx; subst hx; rw [hr]
          simp only [isAbove, Bool.and_eq_false_iff, Bool.or_eq_false_iff, decide_eq_false_iff_not]
          right; constructor <;> omega) hN3
      have e0 : k + (1 + j) = k + 1 + j := by omega
      rw [e0]
      simp only [PT.shareA, hj]
      cases hsh : a.shareA side p d with
      | some a' =>
        rw [hsh] at ih
        obtain ⟨c, u, x, q1, q2, q3⟩ := ih
        refine ⟨c, u, x, q1, q2, ?_⟩
        rw [q3, hr]
        simp [tell, (shareA_keep hsh).1]
      | none =>
        rw [hsh] at ih
        simp only at ih
        have hup : idx (isAbove ((k + 1 : Nat) : Int)) N = (k : Int) := by
          rw [hN2, find_mid (fun x hx => hpre x hx _ (by omega) (by omega)) (by rw [hr]; simp [isAbove, hs0]), hl]
        by_cases hss : s = side
        · rw [if_pos hss]
          refine ⟨k + 1, k, r, by rw [ih, climb_stop hup (by rw [hside]; exact hss)], by rw [hN2, ← hl, get_mid], ?_⟩
          rw [hN2, ← hl, set_mid, hr]
          simp [tell, setSh, hl]
        · rw [if_neg hss]
          rw [ih, climb_step hup (by omega) (by rw [hside]; exact hss)]
    | none =>
      simp only [pos, hj] at hp
      obtain ⟨j, hb', rfl⟩ := Option.map_eq_some_iff.1 hp
      have hN3 : N = (pre ++ r :: tell (k + 1) a) ++ (tell (k + 1 + a.size) b ++ post) := by rw [hN2]; simp
      have hal := all_of_find (above_none (P := a) (k := k + 1) (j := 0) (.inl (by omega)))
      have ih := climb_tell (side := side) (d := d) (i := j) (k := k + 1 + a.size) (pre := pre ++ r :: tell (k + 1) a) (post := post) (N := N) hb hb' (by simp [hl, tell_len]; omega) (fun x hx m hm1 hm2 => by
        rw [List.mem_append] at hx
        rcases hx with hx | hx
        · exact hpre x hx m (by omega) (by omega)
        · rw [List.mem_cons] at hx
          rcases hx with hx | hx
          · subst hx; rw [hr]
            simp only [isAbove, Bool.and_eq_false_iff, Bool.or_eq_false_iff, decide_eq_false_iff_not]
            right; constructor <;> omega
          · exact all_of_find (above_none (P := a) (k := k + 1) (j := m) (.inr (by omega))) x hx) hN3
      have e0 : k + (1 + a.size + j) = k + 1 + a.size + j := by omega
      rw [e0]
      simp only [PT.shareA, hj]
      cases hsh : b.shareA side p d with
      | some b' =>
        rw [hsh] at ih
        obtain ⟨c, u, x, q1, q2, q3⟩ := ih
        refine ⟨c, u, x, q1, q2, ?_⟩
        rw [q3, hr]
        simp [tell]
      | none =>
        rw [hsh] at ih
        simp only at ih
        have hup : idx (isAbove ((k + 1 + a.size : Nat) : Int)) N = (k : Int) := by
          rw [hN2, find_mid (fun x hx => hpre x hx _ (by omega) (by omega)) (by rw [hr]; simp [isAbove, hs0]), hl]
        by_cases hss : s = side
        · rw [if_pos hss]
          refine ⟨k + 1 + a.size, k, r, by rw [ih, climb_stop hup (by rw [hside]; exact hss)], by rw [hN2, ← hl, get_mid], ?_⟩
          have hne : ¬ (k : Int) + 1 = ((k + 1 + a.size : Nat) : Int) := by omega
          have hset : setSh r ((k + 1 + a.size : Nat) : Int) d = ⟨s, (k : Int) + 1, (k : Int) + 1 + a.size, clamp 1 99 (h - d), 0, 0, 0⟩ := by
            rw [hr]; simp only [setSh, if_neg hne]
          have hset2 := set_mid pre (tell (k + 1) a ++ tell (k + 1 + a.size) b ++ post) r (setSh r ((k + 1 + a.size : Nat) : Int) d)
          rw [hl] at hset2
          rw [hN2, hset2, hset]
          simp [tell]
        · rw [if_neg hss]
          rw [ih, climb_step hup (by omega) (by rw [hside]; exact hss)]
def PT.shareR (p : PA) (side d : Int) (P : PT) : Int × PT :=
  if P.pos p = none then (4, P)
  else if ¬ (side = 1 ∨ side = 2) then (1, P)
  else match P.shareA side p (clamp (-99) 99 d) with
    | some P' => (0, P')
    | none => (9, P)
theorem share_tell {P : PT} (hs : P.sides) (p : PA) (side d : Int) : shareN p side d (tell 0 P) = ((P.shareR p side d).1, tell 0 (P.shareR p side d).2) := by
  unfold shareN PT.shareR
  rw [idx_tell hs]
  cases h : P.pos p with
  | none => rfl
  | some i =>
    have n1 : ¬ (match (some i : Option Nat) with | some i => (i : Int) | none => -1) < 0 := by simp only; omega
    rw [if_neg n1, if_neg (c := (some i : Option Nat) = none) (by simp)]
    by_cases hsd : ¬ (side = 1 ∨ side = 2)
    · rw [if_pos hsd, if_pos hsd]
    rw [if_neg hsd, if_neg hsd, find_tell hs, h]
    simp only
    have := climb_tell (side := side) (d := clamp (-99) 99 d) (pre := []) (post := []) (k := 0) hs h rfl (fun x hx => by cases hx) rfl
    simp only [List.nil_append, List.append_nil, Nat.zero_add] at this
    unfold shareL
    cases hsh : P.shareA side p (clamp (-99) 99 d) with
    | some P' =>
      rw [hsh] at this
      obtain ⟨c, u, x, q1, q2, q3⟩ := this
      rw [q1]
      simp only [Int.ofNat_eq_natCast]
      show (match (tell 0 P)[u]? with | some x => _ | none => _) = _
      rw [q2]
      simp only
      rw [← q3]; rfl
    | none =>
      rw [hsh] at this
      simp only at this
      have h0 : idx (isAbove ((0 : Nat) : Int)) (tell 0 P) = -1 := by
        unfold idx
        rw [above_none (.inl (by omega)), if_neg (by omega)]
      rw [this, climb_none h0]
      rfl
end Go.Proofs.Ytbcfhiohdamcjaa.Tr
namespace Go.Proofs.Ytbcfhiohdamcjaa.Tr
open Go Go.RowKit Am
set_option linter.unusedSimpArgs false
set_option linter.unusedVariables false
open PT
structure Good (P : PT) : Prop where
  sides : P.sides
  nodup : P.panes.Nodup
  le : P.panes.length ≤ 16
theorem Good.size {P : PT} (h : Good P) : P.size ≤ 31 := by
  have := panes_size P
  have := h.le
  omega
theorem bnd_tell : ∀ {P : PT} {k : Nat}, P.sides → k + P.size ≤ 100000 → bnd (tell k P)
  | .leaf p, k, _, _ => fun x hx => by
    simp [tell] at hx; subst hx; simp [leafN]
  | .split s h a b, k, ⟨h1, h2, h3, ha, hb⟩, hk => fun x hx => by
    simp only [PT.size] at hk
    have := size_pos a
    have := size_pos b
    simp only [tell, List.mem_cons, List.mem_append] at hx
    rcases hx with hx | hx | hx
    · subst hx; simp only; omega
    · exact bnd_tell ha (by omega) x hx
    · exact bnd_tell hb (by omega) x hx
theorem mv_bnd {N : List ND} (hb : ∀ x ∈ N, 0 ≤ x.f ∧ x.f ≤ 1000 ∧ 0 ≤ x.s ∧ x.s ≤ 1000 ∧ 0 ≤ x.sh ∧ x.sh ≤ 99) {c : Int} (hc : 1 ≤ c) : bnd (N.map (mvN c (-1))) := fun x hx => by
  obtain ⟨y, hy, rfl⟩ := List.mem_map.1 hx
  obtain ⟨h1, h2, h3, h4, h5, h6⟩ := hb y hy
  unfold mvN mvZ
  split
  · exact ⟨h1, by omega, h3, by omega, h5, h6⟩
  · simp only
    refine ⟨?_, ?_, ?_, ?_, h5, h6⟩ <;> split <;> omega
theorem small_tell : ∀ {P : PT} {k : Nat}, P.sides → k + P.size ≤ 1000 → ∀ x ∈ tell k P, 0 ≤ x.f ∧ x.f ≤ 1000 ∧ 0 ≤ x.s ∧ x.s ≤ 1000 ∧ 0 ≤ x.sh ∧ x.sh ≤ 99
  | .leaf p, k, _, _ => fun x hx => by
    simp [tell] at hx; subst hx; simp [leafN]
  | .split s h a b, k, ⟨h1, h2, h3, ha, hb⟩, hk => fun x hx => by
    simp only [PT.size] at hk
    have := size_pos a
    have := size_pos b
    simp only [tell, List.mem_cons, List.mem_append] at hx
    rcases hx with hx | hx | hx
    · subst hx; simp only; omega
    · exact small_tell ha (by omega) x hx
    · exact small_tell hb (by omega) x hx
theorem above_up : ∀ {P : PT} {k u : Nat} {j : Int} {x : ND}, (tell k P)[u]? = some x → isAbove j x = true → (k : Int) + u < j
  | .leaf p, k, u, j, x, h, hx => by
    cases u with
    | zero => simp [tell] at h; subst h; simp [isAbove, leafN] at hx
    | succ u => simp [tell] at h
  | .split s hh a b, k, u, j, x, h, hx => by
    have := size_pos a
    simp only [tell] at h
    cases u with
    | zero =>
      simp at h; subst h
      simp only [isAbove, Bool.and_eq_true, Bool.or_eq_true, decide_eq_true_eq] at hx
      omega
    | succ u =>
      rw [List.getElem?_cons_succ] at h
      by_cases hu : u < (tell (k + 1) a).length
      · rw [List.getElem?_append_left hu] at h
        have := above_up h hx
        omega
      · rw [List.getElem?_append_right (by omega)] at h
        have := above_up h hx
        rw [tell_len] at this hu
        omega
theorem up_lt {P : PT} (a : Nat) (h : (tell 0 P).findIdx (isAbove a) < (tell 0 P).length) : (tell 0 P).findIdx (isAbove a) < a := by
  have h1 := List.findIdx_getElem (w := h)
  have h2 := above_up (List.getElem?_eq_getElem h) h1
  omega
theorem splitA_panes {p : PA} (q : PA) (sd sh : Int) : ∀ {P : PT} {i : Nat}, P.pos p = some i → (P.splitA p q sd sh).panes.Perm (q :: P.panes)
  | .leaf r, i, h => by
    simp only [pos] at h
    split at h
    · rename_i e; subst e
      simp only [PT.splitA, if_true, panes, List.singleton_append]
      exact List.Perm.swap q r []
    · cases h
  | .split s h a b, i, hp => by
    cases hj : a.pos p with
    | some j =>
      simp only [PT.splitA, hj, panes]
      exact (splitA_panes q sd sh hj).append_right b.panes
    | none =>
      simp only [pos, hj] at hp
      obtain ⟨j, hb, rfl⟩ := Option.map_eq_some_iff.1 hp
      simp only [PT.splitA, hj, panes]
      exact ((splitA_panes q sd sh hb).append_left a.panes).trans List.perm_middle
theorem splitA_sides {p : PA} (q : PA) {sd sh : Int} (h1 : sd = 1 ∨ sd = 2) (h2 : 1 ≤ sh) (h3 : sh ≤ 99) : ∀ {P : PT}, P.sides → (P.splitA p q sd sh).sides
  | .leaf r, _ => by
    simp only [PT.splitA]
    split
    · exact ⟨h1, h2, h3, trivial, trivial⟩
    · trivial
  | .split s h a b, ⟨q1, q2, q3, q4, q5⟩ => by
    simp only [PT.splitA]
    split
    · exact ⟨q1, q2, q3, splitA_sides q h1 h2 h3 q4, q5⟩
    · exact ⟨q1, q2, q3, q4, splitA_sides q h1 h2 h3 q5⟩
theorem good_split {P : PT} (h : Good P) (p q : PA) (sd sh : Int) : Good (P.splitR p q sd sh).2 := by
  unfold PT.splitR
  cases hp : P.pos p with
  | none => simpa using h
  | some i =>
    rw [if_neg (c := (some i : Option Nat) = none) (by simp)]
    cases hq : P.pos q with
    | some j => rw [if_pos (by simp)]; exact h
    | none =>
      rw [if_neg (by simp)]
      split
      · exact h
      · rename_i hc
        split
        · exact h
        · rename_i hl
          have hpm := splitA_panes q sd sh hp
          have hle := h.le
          refine ⟨splitA_sides q (by omega) (by omega) (by omega) h.sides, ?_, ?_⟩
          · rw [hpm.nodup_iff, List.nodup_cons]; exact ⟨pos_none.1 hq, h.nodup⟩
          · rw [hpm.length_eq, List.length_cons]; omega
theorem closeA_panes {p : PA} : ∀ P : PT, (P.closeA p).panes.Sublist P.panes
  | .leaf _ => List.Sublist.refl _
  | .split s h a b => by
    simp only [PT.closeA]
    split
    · exact List.sublist_append_right _ _
    · split
      · exact List.sublist_append_left _ _
      · exact List.Sublist.append (closeA_panes a) (closeA_panes b)
theorem closeA_sides {p : PA} : ∀ {P : PT}, P.sides → (P.closeA p).sides
  | .leaf _, _ => trivial
  | .split s h a b, ⟨q1, q2, q3, q4, q5⟩ => by
    simp only [PT.closeA]
    split
    · exact q5
    · split
      · exact q4
      · exact ⟨q1, q2, q3, closeA_sides q4, closeA_sides q5⟩
theorem good_close {P : PT} (h : Good P) (p : PA) : Good (P.closeR p).2 := by
  unfold PT.closeR
  split
  · exact h
  · split
    · exact h
    · exact ⟨closeA_sides h.sides, (closeA_panes P).nodup h.nodup, Nat.le_trans (closeA_panes P).length_le h.le⟩
theorem good_map {P : PT} (h : Good P) (p q : PA) : Good (P.mapP (swp p q)) := by
  refine ⟨mapP_sides _ h.sides, ?_, by rw [mapP_panes, List.length_map]; exact h.le⟩
  rw [mapP_panes]
  exact List.Pairwise.map _ (fun a b hab e => hab (swp_inj e)) h.nodup
theorem good_swap {P : PT} (h : Good P) (p q : PA) : Good (P.swapR p q).2 := by
  unfold PT.swapR
  split
  · exact h
  · exact good_map h p q
theorem good_share {P : PT} (h : Good P) (p : PA) (side d : Int) : Good (P.shareR p side d).2 := by
  unfold PT.shareR
  split
  · exact h
  · split
    · exact h
    · split
      · rename_i P' hP
        obtain ⟨h1, h2, h3⟩ := shareA_keep hP
        exact ⟨h3 h.sides, by rw [h2]; exact h.nodup, by rw [h2]; exact h.le⟩
      · exact h
theorem splitA_isS {p : PA} (q : PA) (sd sh : Int) : ∀ {P : PT} {i : Nat}, P.pos p = some i → (P.splitA p q sd sh).isS = true
  | .leaf r, i, h => by
    simp only [pos] at h
    split at h
    · rename_i e; simp [PT.splitA, e, PT.isS]
    · cases h
  | .split s h a b, i, hp => by
    simp only [PT.splitA]; split <;> rfl
/-- Closed again behind a split, a tree is as it was. -/
theorem split_close {p q : PA} (sd sh : Int) : ∀ {P : PT} {i : Nat}, P.pos p = some i → P.pos q = none → (P.splitA p q sd sh).closeA q = P
  | .leaf r, i, h, hq => by
    simp only [pos] at h hq
    split at h
    · rename_i e; subst e
      split at hq
      · cases hq
      · rename_i hn
        simp [PT.splitA, PT.closeA, PT.isL, hn]
    · cases h
  | .split s h a b, i, hp, hq => by
    have qa : a.pos q = none := by
      cases hx : a.pos q with
      | none => rfl
      | some j => simp [pos, hx] at hq
    have qb : b.pos q = none := by simpa [pos, qa] using hq
    have hnl : ∀ {T : PT}, T.isS = true → T.isL q = false := fun {T} hT => by cases T <;> first | rfl | cases hT
    cases hj : a.pos p with
    | some j =>
      simp only [PT.splitA, hj, PT.closeA, hnl (splitA_isS q sd sh hj), isL_none qb, closeA_none qb, split_close sd sh hj qa]
      simp
    | none =>
      simp only [pos, hj] at hp
      obtain ⟨j, hb, rfl⟩ := Option.map_eq_some_iff.1 hp
      simp only [PT.splitA, hj, PT.closeA, hnl (splitA_isS q sd sh hb), isL_none qa, closeA_none qa, split_close sd sh hb qb]
      simp
/-! ### The program's acts -/
section
variable {R : Ro} {H : AH} {t j : Nat} {cp : Cap} {P : PT}
theorem psplit (h : TreM H t j cp (tell 0 P)) (g : Good P) (p q : PA) (side share : Int) :
    ACalls Try.prog R 19 [.ptr (.mu t) 0, p.av, q.av, .int .i64 side, .int .i64 share] H (ActOut H t j ((P.splitR p q side share).1, tell 0 (P.splitR p q side share).2)) := by
  have := g.size
  rw [← split_tell g.sides]
  exact split_ok h (bnd_tell g.sides (by omega)) (by rw [tell_len]; omega) p q side share
theorem pclose (h : TreM H t j cp (tell 0 P)) (g : Good P) (p : PA) :
    ACalls Try.prog R 26 [.ptr (.mu t) 0, p.av] H (ActOut H t j ((P.closeR p).1, tell 0 (P.closeR p).2)) := by
  have hz := g.size
  rw [← close_tell g.sides g.nodup]
  refine close_ok h (bnd_tell g.sides (by omega)) p fun h1 h2 => ?_
  rw [lv_len g.sides] at h2
  have hi : ∃ i, P.pos p = some i := by
    cases hp : P.pos p with
    | some i => exact ⟨i, rfl⟩
    | none => rw [find_tell g.sides, hp, tell_len] at h1; simp only at h1; omega
  obtain ⟨i, hi⟩ := hi
  have hS : P.isS = true := by
    cases hS : P.isS with
    | true => rfl
    | false => exact absurd (isS_panes.1 hS) h2
  have e := find_tell g.sides 0 (p := p)
  rw [hi] at e
  simp only at e
  have hab := above_leaf g.sides g.nodup hi hS 0
  simp only [Int.natCast_zero, Int.zero_add, Int.ofNat_zero] at hab
  rw [e, hab, tell_len]
  have hps := panes_size P
  refine ⟨by have := size_pos P; omega, (closeA_size g.nodup hi hS).2, ?_⟩
  exact mv_bnd (fun x hx => by
    rw [List.mem_append] at hx
    rcases hx with hx | hx
    · exact small_tell g.sides (by omega) x (List.mem_of_mem_take hx)
    · exact small_tell g.sides (by omega) x (List.mem_of_mem_drop hx)) (by omega)
theorem pswap (h : TreM H t j cp (tell 0 P)) (g : Good P) (p q : PA) :
    ACalls Try.prog R 28 [.ptr (.mu t) 0, p.av, q.av] H (ActOut H t j ((P.swapR p q).1, tell 0 (P.swapR p q).2)) := by
  rw [← swap_tell g.sides g.nodup]
  exact swap_ok h p q
theorem pshare (h : TreM H t j cp (tell 0 P)) (g : Good P) (p : PA) (side d : Int) :
    ACalls Try.prog R 30 [.ptr (.mu t) 0, p.av, .int .i64 side, .int .i64 d] H (ActOut H t j ((P.shareR p side d).1, tell 0 (P.shareR p side d).2)) := by
  have := g.size
  rw [← share_tell g.sides]
  exact share_ok h (bnd_tell g.sides (by omega)) (fun a ha => up_lt a ha) p side d
theorem phas (h : TreM H t j cp (tell 0 P)) (g : Good P) (p : PA) : ACalls Try.prog R 20 [.ptr (.mu t) 0, p.av] H fun v G => G = H ∧ v = .bool (decide (P.pos p ≠ none)) := by
  have := has_ok (R := R) h.tre p
  rw [hasP_tell g.sides] at this
  exact this
theorem plen (h : TreM H t j cp (tell 0 P)) (g : Good P) : ACalls Try.prog R 35 [.ptr (.mu t) 0] H fun v G => G = H ∧ v = .int .i64 P.panes.length := by
  have := h.tre.len (R := R)
  rw [lv_len g.sides] at this
  exact this
end
end Go.Proofs.Ytbcfhiohdamcjaa.Tr
