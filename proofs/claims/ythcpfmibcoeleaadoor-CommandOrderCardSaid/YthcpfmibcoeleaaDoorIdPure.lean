/- A name's words: no program. -/
import Derived.Lib.AtoiAll
import Derived.Lib.ItoaNum
import Derived.Lib.Split
import Derived.Lib.SplitLaws
namespace Go.Proofs.YthcpfmibcoeleaaDoor.Id
open Go
set_option linter.unusedSimpArgs false
set_option linter.unusedVariables false
theorem dec_small {u : Nat} (h : u < 10) : Lib.decDigits u = [UInt8.ofNat (48 + u)] := by rw [Lib.decDigits, dif_pos h]
theorem dec_big {u : Nat} (h : ¬ u < 10) : Lib.decDigits u = Lib.decDigits (u / 10) ++ [UInt8.ofNat (48 + u % 10)] := by rw [Lib.decDigits, dif_neg h]
theorem ofNat_toNat {n : Nat} (h : n < 256) : (UInt8.ofNat n).toNat = n := by simp [UInt8.toNat_ofNat, Nat.mod_eq_of_lt h]
theorem dec_digit : ∀ (u : Nat), ∀ x ∈ Lib.decDigits u, 48 ≤ x.toNat ∧ x.toNat ≤ 57 := by
  intro u
  induction u using Nat.strongRecOn with
  | ind u ih =>
    intro x hx
    by_cases h : u < 10
    · rw [dec_small h] at hx
      simp only [List.mem_singleton] at hx
      rw [hx, ofNat_toNat (by omega)]
      omega
    · rw [dec_big h] at hx
      rcases List.mem_append.1 hx with hx | hx
      · exact ih (u / 10) (by omega) x hx
      · simp only [List.mem_singleton] at hx
        rw [hx, ofNat_toNat (by omega)]
        omega
theorem dec_ne (u : Nat) : Lib.decDigits u ≠ [] := by
  by_cases h : u < 10
  · rw [dec_small h]; simp
  · rw [dec_big h]; simp
theorem parse_snoc (d : UInt8) (h1 : 48 ≤ d.toNat) (h2 : d.toNat ≤ 57) : ∀ (l : List UInt8) (acc v : Nat), Lib.parseUint10 acc l = .ok v → v < 1844674407370955161 → Lib.parseUint10 acc (l ++ [d]) = .ok (v * 10 + (d.toNat - 48))
  | [], acc, v, h, hv => by
    simp only [Lib.parseUint10] at h
    cases h
    simp only [List.nil_append, Lib.parseUint10]
    rw [if_pos ⟨h1, h2⟩, if_neg (by omega), if_neg (by omega)]
  | c :: r, acc, v, h, hv => by
    simp only [List.cons_append, Lib.parseUint10] at h ⊢
    split at h
    · rename_i hc
      rw [if_pos hc]
      split at h
      · cases h
      · rename_i h3
        rw [if_neg h3]
        split at h
        · cases h
        · rename_i h4
          rw [if_neg h4]
          exact parse_snoc d h1 h2 r _ v h hv
    · cases h
theorem parse_dec : ∀ u : Nat, u < 1844674407370955161 → Lib.parseUint10 0 (Lib.decDigits u) = .ok u := by
  intro u
  induction u using Nat.strongRecOn with
  | ind u ih =>
    intro hu
    by_cases h : u < 10
    · rw [dec_small h]
      simp only [Lib.parseUint10, ofNat_toNat (show 48 + u < 256 by omega)]
      rw [if_pos (by omega), if_neg (by omega), if_neg (by omega)]
      congr 1
      omega
    · rw [dec_big h]
      have h3 := parse_snoc (UInt8.ofNat (48 + u % 10)) (by rw [ofNat_toNat (by omega)]; omega) (by rw [ofNat_toNat (by omega)]; omega) _ _ _ (ih (u / 10) (by omega) (by omega)) (by omega)
      rw [h3, ofNat_toNat (by omega)]
      congr 1
      omega
def mayI (n : Int) : Prop := 0 ≤ n ∧ n ≤ 2147483647
instance (n : Int) : Decidable (mayI n) := by unfold mayI; exact inferInstance
theorem itoa_pos {n : Int} (h : 0 ≤ n) : Lib.itoa n = Lib.decDigits n.toNat := by unfold Lib.itoa; rw [if_neg (by omega)]
theorem itoa_digit {n : Int} (h : 0 ≤ n) : ∀ x ∈ Lib.itoa n, 48 ≤ x.toNat ∧ x.toNat ≤ 57 := by rw [itoa_pos h]; exact dec_digit _
theorem atoi_itoa {n : Int} (h : mayI n) : Lib.atoiAll (Lib.itoa n) = .ok n := by
  have hd := itoa_digit h.1
  have hp := parse_dec n.toNat (by have := h.2; omega)
  have hne := dec_ne n.toNat
  rw [itoa_pos h.1] at hd ⊢
  generalize Lib.decDigits n.toNat = l at *
  cases l with
  | nil => exact absurd rfl hne
  | cons c r =>
    have hc := hd c (by simp)
    unfold Lib.atoiAll
    simp only
    rw [if_neg (by omega)]
    unfold Lib.parseMag
    rw [if_neg (by simp), hp]
    simp only
    rw [if_neg (by have := h.2; omega), if_neg (by omega), if_neg (by omega)]
    congr 1
    have := h.1
    omega
theorem itoa_inj {a b : Int} (ha : mayI a) (hb : mayI b) (h : Lib.itoa a = Lib.itoa b) : a = b := by
  have h1 := atoi_itoa ha
  rw [h, atoi_itoa hb] at h1
  cases h1
  rfl
def wordsF (a b c : Int) : List UInt8 := 112 :: (Lib.itoa a ++ 46 :: (Lib.itoa b ++ 46 :: Lib.itoa c))
/-- Two runs without a sign, and behind the sign. -/
theorem cut_at {s : UInt8} : ∀ {l m l' m' : List UInt8}, (∀ x ∈ l, x ≠ s) → (∀ x ∈ l', x ≠ s) → l ++ s :: m = l' ++ s :: m' → l = l' ∧ m = m'
  | [], m, [], m', _, _, h => by simp at h; exact ⟨rfl, h⟩
  | [], m, y :: l', m', _, h2, h => by
    simp at h
    exact absurd h.1.symm (h2 y (by simp))
  | x :: l, m, [], m', h1, _, h => by
    simp at h
    exact absurd h.1 (h1 x (by simp))
  | x :: l, m, y :: l', m', h1, h2, h => by
    simp at h
    obtain ⟨e1, e2⟩ := cut_at (fun z hz => h1 z (by simp [hz])) (fun z hz => h2 z (by simp [hz])) h.2
    exact ⟨by rw [h.1, e1], e2⟩
theorem digit_ne {l : List UInt8} (h : ∀ x ∈ l, 48 ≤ x.toNat ∧ x.toNat ≤ 57) : ∀ x ∈ l, x ≠ 46 := fun x hx e => by
  have := h x hx
  rw [e] at this
  exact absurd this.1 (by decide)
theorem words_inj {a b c a' b' c' : Int} (ha : mayI a) (hb : mayI b) (hc : mayI c) (ha' : mayI a') (hb' : mayI b') (hc' : mayI c') (h : wordsF a b c = wordsF a' b' c') : a = a' ∧ b = b' ∧ c = c' := by
  unfold wordsF at h
  simp only [List.cons.injEq, true_and] at h
  obtain ⟨e1, h⟩ := cut_at (digit_ne (itoa_digit ha.1)) (digit_ne (itoa_digit ha'.1)) h
  obtain ⟨e2, h⟩ := cut_at (digit_ne (itoa_digit hb.1)) (digit_ne (itoa_digit hb'.1)) h
  exact ⟨itoa_inj ha ha' e1, itoa_inj hb hb' e2, itoa_inj hc hc' h⟩
theorem index_at {c : UInt8} : ∀ {x : List UInt8}, (∀ y ∈ x, y ≠ c) → ∀ m : List UInt8, Lib.index (x ++ c :: m) [c] = (x.length : Int)
  | [], _, m => by simp [Lib.index, List.isPrefixOf]
  | y :: x, h, m => by
    have ih := index_at (c := c) (x := x) (fun z hz => h z (by simp [hz])) m
    have hy : ¬ c = y := fun e => h y (by simp) e.symm
    simp only [List.cons_append, Lib.index]
    have hp : List.isPrefixOf [c] (y :: (x ++ c :: m)) = false := by simp [List.isPrefixOf, hy]
    rw [hp, ih]
    have hne : ((x.length : Int) == -1) = false := by
      rw [beq_eq_false_iff_ne]
      omega
    rw [hne]
    simp
theorem split3 {x y z : List UInt8} (hx : ∀ b ∈ x, b ≠ 46) (hy : ∀ b ∈ y, b ≠ 46) : Lib.splitK [46] 0 2 (x ++ 46 :: (y ++ 46 :: z)) = [x, y, z] := by
  have i1 := index_at hx (y ++ 46 :: z)
  have i2 := index_at hy z
  have n1 : ((x.length : Int) == -1) = false := by rw [beq_eq_false_iff_ne]; omega
  have n2 : ((y.length : Int) == -1) = false := by rw [beq_eq_false_iff_ne]; omega
  have d1 : (x ++ 46 :: (y ++ 46 :: z)).drop (x.length + 1) = y ++ 46 :: z := by
    rw [show x.length + 1 = (x ++ [46]).length by simp, show x ++ 46 :: (y ++ 46 :: z) = (x ++ [46]) ++ (y ++ 46 :: z) by simp, List.drop_left]
  have d2 : (y ++ 46 :: z).drop (y.length + 1) = z := by
    rw [show y.length + 1 = (y ++ [46]).length by simp, show y ++ 46 :: z = (y ++ [46]) ++ z by simp, List.drop_left]
  simp only [Lib.splitK, i1, n1, Bool.false_eq_true, if_false, Int.toNat_natCast, Nat.add_zero, List.take_left', List.length_cons, List.length_nil, Nat.zero_add, d1, i2, n2, d2]
theorem count3 {x y z : List UInt8} (hx : ∀ b ∈ x, b ≠ 46) (hy : ∀ b ∈ y, b ≠ 46) (hz : ∀ b ∈ z, b ≠ 46) : Lib.count (x ++ 46 :: (y ++ 46 :: z)) [46] = 2 := by
  have h0 : ∀ l : List UInt8, (∀ b ∈ l, b ≠ 46) → l.count 46 = 0 := fun l h => List.count_eq_zero.2 fun h' => h 46 h' rfl
  rw [Lib.count_one, List.count_append, List.count_cons_self, List.count_append, List.count_cons_self, h0 x hx, h0 y hy, h0 z hz]
end Go.Proofs.YthcpfmibcoeleaaDoor.Id
