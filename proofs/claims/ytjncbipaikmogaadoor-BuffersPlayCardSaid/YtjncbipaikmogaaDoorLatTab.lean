/- Tables, as sets of bits: no program. -/
import Derived.Test.YtjncbipaikmogaaDoorLatOrder
namespace Go.Proofs.YtjncbipaikmogaaDoor.Latt
open Go Go.RowKit Am
set_option linter.unusedSimpArgs false
set_option linter.unusedVariables false
/-- The first 'k' of 'f', as bits. -/
def bitsOf (f : Nat → Bool) : Nat → Nat
  | 0 => 0
  | k + 1 => bitsOf f k ||| (if f k then 2 ^ k else 0)
theorem bitsOf_test (f : Nat → Bool) : ∀ (k j : Nat), (bitsOf f k).testBit j = (decide (j < k) && f j)
  | 0, j => by simp [bitsOf]
  | k + 1, j => by
    unfold bitsOf
    rw [Nat.testBit_or, bitsOf_test f k j]
    by_cases h : f k = true
    · rw [if_pos h, Nat.testBit_two_pow]
      by_cases hj : k = j
      · subst hj; simp [h]
      · have : (decide (j < k + 1)) = decide (j < k) := by congr 1; apply propext; omega
        simp [hj, this]
    · simp only [Bool.not_eq_true] at h
      rw [h]
      by_cases hj : k = j
      · subst hj; simp [h]
      · have : (decide (j < k + 1)) = decide (j < k) := by congr 1; apply propext; omega
        simp [this]
theorem bitsOf_lt (f : Nat → Bool) {k : Nat} (h : k ≤ 64) : bitsOf f k < M64 := lt64_of_bits (n := k) (fun j hj => by rw [bitsOf_test] at hj; simp at hj; exact hj.1) h
def tb (T : List (List Bool)) (x y : Nat) : Bool := ((T[x]?.getD [])[y]?.getD false)
/-- The sets above, when 'a' rows and 'b' of the next are through. -/
def upAt (T : List (List Bool)) (n a b : Nat) : List Nat := (List.range n).map fun x => bitsOf (tb T x) (if x < a then n else if x = a then b else 0)
def dnAt (T : List (List Bool)) (n a b : Nat) : List Nat := (List.range n).map fun y => bitsOf (fun x => tb T x y) (if y < b then a + 1 else a)
theorem upAt_len (T : List (List Bool)) (n a b : Nat) : (upAt T n a b).length = n := by simp [upAt]
theorem dnAt_len (T : List (List Bool)) (n a b : Nat) : (dnAt T n a b).length = n := by simp [dnAt]
theorem upAt_at (T : List (List Bool)) {n : Nat} (a b : Nat) {x : Nat} (h : x < n) : at' (upAt T n a b) x = bitsOf (tb T x) (if x < a then n else if x = a then b else 0) := by
  rw [at'_lt (by rw [upAt_len]; exact h)]; simp [upAt]
theorem dnAt_at (T : List (List Bool)) {n : Nat} (a b : Nat) {y : Nat} (h : y < n) : at' (dnAt T n a b) y = bitsOf (fun x => tb T x y) (if y < b then a + 1 else a) := by
  rw [at'_lt (by rw [dnAt_len]; exact h)]; simp [dnAt]
theorem upAt_zero (T : List (List Bool)) (n : Nat) : upAt T n 0 0 = List.replicate n 0 := by
  unfold upAt
  rw [List.eq_replicate_iff]
  refine ⟨by simp, fun b hb => ?_⟩
  simp at hb
  obtain ⟨x, _, rfl⟩ := hb
  rfl
theorem dnAt_zero (T : List (List Bool)) (n : Nat) : dnAt T n 0 0 = List.replicate n 0 := by
  unfold dnAt
  rw [List.eq_replicate_iff]
  refine ⟨by simp, fun b hb => ?_⟩
  simp at hb
  obtain ⟨x, _, rfl⟩ := hb
  rfl
theorem upAt_row (T : List (List Bool)) (n a : Nat) : upAt T n a n = upAt T n (a + 1) 0 := by
  unfold upAt
  refine List.map_congr_left fun x _ => ?_
  congr 1
  by_cases h1 : x < a
  · rw [if_pos h1, if_pos (by omega)]
  · rw [if_neg h1]
    by_cases h2 : x = a
    · rw [if_pos h2, if_pos (by omega)]
    · rw [if_neg h2, if_neg (by omega)]; split <;> rfl
theorem dnAt_row (T : List (List Bool)) (n a : Nat) : dnAt T n a n = dnAt T n (a + 1) 0 := by
  unfold dnAt
  refine List.map_congr_left fun x hx => ?_
  simp at hx
  congr 1
  rw [if_pos hx, if_neg (by omega)]
theorem upAt_step {T : List (List Bool)} {n a b : Nat} (ha : a < n) : (upAt T n a b).set a (at' (upAt T n a b) a ||| (if tb T a b then 2 ^ b else 0)) = upAt T n a (b + 1) := by
  apply List.ext_getElem (by simp [upAt_len])
  intro i h1 h2
  rw [List.getElem_set]
  rw [upAt_len] at h2
  have e1 := upAt_at T a b ha
  have e2 := at'_lt (of := upAt T n a (b + 1)) (i := i) (by rw [upAt_len]; exact h2)
  rw [upAt_at T a (b + 1) h2] at e2
  by_cases h : a = i
  · subst h
    rw [if_pos rfl, e1, ← e2]
    simp [bitsOf]
  · rw [if_neg h, ← e2, ← at'_lt (of := upAt T n a b), upAt_at T a b h2]
    have h' : ¬ i = a := fun e => h e.symm
    simp [h']
theorem upAt_skip {T : List (List Bool)} {n a b : Nat} (ha : a < n) (h : tb T a b = false) : upAt T n a b = upAt T n a (b + 1) := by
  have := upAt_step (T := T) (b := b) ha
  rw [h] at this
  rw [← this, at'_lt (by rw [upAt_len]; exact ha)]
  simp
theorem dnAt_step {T : List (List Bool)} {n a b : Nat} (hb : b < n) : (dnAt T n a b).set b (at' (dnAt T n a b) b ||| (if tb T a b then 2 ^ a else 0)) = dnAt T n a (b + 1) := by
  apply List.ext_getElem (by simp [dnAt_len])
  intro i h1 h2
  rw [List.getElem_set]
  rw [dnAt_len] at h2
  have e1 := dnAt_at T a b hb
  have e2 := at'_lt (of := dnAt T n a (b + 1)) (i := i) (by rw [dnAt_len]; exact h2)
  rw [dnAt_at T a (b + 1) h2] at e2
  by_cases h : b = i
  · subst h
    rw [if_pos rfl, e1, ← e2]
    simp [bitsOf]
  · rw [if_neg h, ← e2, ← at'_lt (of := dnAt T n a b), dnAt_at T a b h2]
    congr 1
    by_cases h3 : i < b
    · rw [if_pos h3, if_pos (by omega)]
    · rw [if_neg h3, if_neg (by omega)]
theorem dnAt_skip {T : List (List Bool)} {n a b : Nat} (hb : b < n) (h : tb T a b = false) : dnAt T n a b = dnAt T n a (b + 1) := by
  have := dnAt_step (T := T) (a := a) hb
  rw [h] at this
  rw [← this, at'_lt (by rw [dnAt_len]; exact hb)]
  simp
def upT (T : List (List Bool)) : List Nat := upAt T T.length T.length 0
def dnT (T : List (List Bool)) : List Nat := dnAt T T.length T.length 0
theorem upT_len (T : List (List Bool)) : (upT T).length = T.length := upAt_len ..
theorem dnT_len (T : List (List Bool)) : (dnT T).length = T.length := dnAt_len ..
theorem upT_test (T : List (List Bool)) (x y : Nat) : (at' (upT T) x).testBit y = (decide (x < T.length) && decide (y < T.length) && tb T x y) := by
  by_cases h : x < T.length
  · unfold upT
    rw [upAt_at T _ _ h, if_pos h, bitsOf_test]; simp [h]
  · rw [at'_ge (by rw [upT_len]; omega)]; simp [h]
theorem dnT_test (T : List (List Bool)) (x y : Nat) : (at' (dnT T) x).testBit y = (decide (x < T.length) && decide (y < T.length) && tb T y x) := by
  by_cases h : x < T.length
  · unfold dnT
    rw [dnAt_at T _ _ h, if_neg (by omega), bitsOf_test]; simp [h]
  · rw [at'_ge (by rw [dnT_len]; omega)]; simp [h]
/-- Of two labels a best one, above and below. -/
def BestAt (up dn : List Nat) (a b : Nat) : Prop := (∃ i, (at' up a &&& at' up b).testBit i = true ∧ at' up i &&& (at' up a &&& at' up b) = at' up a &&& at' up b) ∧
  ∃ i, (at' dn a &&& at' dn b).testBit i = true ∧ at' dn i &&& (at' dn a &&& at' dn b) = at' dn a &&& at' dn b
structure GoodT (T : List (List Bool)) : Prop where
  lo : 1 ≤ T.length
  hi : T.length ≤ 64
  rows : ∀ r ∈ T, r.length = T.length
  ord : ∀ a, a < T.length → OrdAt (upT T) (dnT T) a
  best : ∀ a, a < T.length → ∀ b, b < a → BestAt (upT T) (dnT T) a b
end Go.Proofs.YtjncbipaikmogaaDoor.Latt
