/- A name's words: no program. -/
import Derived.Lib.AtoiAll
import Derived.Lib.ItoaNum
import Derived.Lib.Split
import Derived.Lib.SplitLaws
namespace Go.Proofs.YthcpfmibcoeleaaDoor.Id
open Go
set_option linter.unusedSimpArgs false
set_option linter.unusedVariables false
theorem dec_small {u : Nat} (h : u < 10) : Lib.decDigits u = [UInt8.ofNat (48 + u)] := by rw [Lib.decDigits, dif_pos h]
theorem dec_big {u : Nat} (h : ¬ u < 10) : Lib.decDigits u = Lib.decDigits (u / 10) ++ [UInt8.ofNat (48 + u % 10)] := by rw [Lib.decDigits, dif_neg h]
theorem ofNat_toNat {n : Nat} (h : n < 256) : (UInt8.ofNat n).toNat = n := by simp [UInt8.toNat_ofNat, Nat.mod_eq_of_lt h]
theorem dec_digit : ∀ (u : Nat), ∀ x ∈ Lib.decDigits u, 48 ≤ x.toNat ∧ x.toNat ≤ 57 := by
  intro u
  induction u using Nat.strongRecOn with
  | ind u ih =>
    intro x hx
    by_cases h : u < 10
    · rw [dec_small h] at hx
      simp only [List.mem_singleton] at hx
      rw [hx, ofNat_toNat (by omega)]
      omega
    · rw [dec_big h] at hx
      rcases List.mem_append.1 hx with hx | hx
      · exact ih (u / 10) (by omega) x hx
      · simp only [List.mem_singleton] at hx
        rw [hx, ofNat_toNat (by omega)]
        omega
theorem dec_ne (u : Nat) : Lib.decDigits u ≠ [] := by
  by_cases h : u < 10
  · rw [dec_small h]; simp
  · rw [dec_big h]; simp
theorem parse_snoc (d : UInt8) (h1 : 48 ≤ d.toNat) (h2 : d.toNat ≤ 57) : ∀ (l : List UInt8) (acc v : Nat), Lib.parseUint10 acc l = .ok v → v < 1844674407370955161 → Lib.parseUint10 acc (l ++ [d]) = .ok (v * 10 + (d.toNat - 48))
  | [], acc, v, h, hv => by
    simp only [Lib.parseUint10] at h
    cases h
    simp only [List.nil_append, Lib.parseUint10]
    rw [if_pos ⟨h1, h2⟩, if_neg (by omega), if_neg (by omega)]
  | c :: r, acc, v, h, hv => by
    simp only [List.cons_append, Lib.parseUint10] at h ⊢
    split at h
    · rename_i hc
      rw [if_pos hc]
      split at h
      · cases h
      · rename_i h3
        rw [if_neg h3]
        split at h
        · cases h
        · rename_i h4
          rw [if_neg h4]
          exact parse_snoc d h1 h2 r _ v h hv
    · cases h
theorem parse_dec : ∀ u : Nat, u < 1844674407370955161 → Lib.parseUint10 0 (Lib.decDigits u) = .ok u := by
  intro u
  induction u using Nat.strongRecOn with
  | ind u ih =>
    intro hu
    by_cases h : u < 10
    · rw [dec_small h]
      simp only [Lib.parseUint10, ofNat_toNat (show 48 + u < 256 by omega)]
      rw [if_pos (by omega), if_neg (by omega), if_neg (by omega)]
      congr 1
      omega
    · rw [dec_big h]
      have h3 := parse_snoc (UInt8.ofNat (48 + u % 10)) (by rw [ofNat_toNat (by omega)]; omega) (by rw [ofNat_toNat (by omega)]; omega) _ _ _ (ih (u / 10) (by omega) (by omega)) (by omega)
      rw [h3, ofNat_toNat (by omega)]
      congr 1
      omega
def mayI (n : Int) : Prop := 0 ≤ n ∧ n ≤ 2147483647
instance (n : Int) : Decidable (mayI n) := by unfold mayI; exact inferInstance
theorem itoa_pos {n : Int} (h : 0 ≤ n) : Lib.itoa n = Lib.decDigits n.toNat := by unfold Lib.itoa; rw [if_neg (by omega)]
theorem itoa_digit {n : Int} (h : 0 ≤ n) : ∀ x ∈ Lib.itoa n, 48 ≤ x.toNat ∧ x.toNat ≤ 57 := by rw [itoa_pos h]; exact dec_digit _
theorem atoi_itoa {n : Int} (h : mayI n) : Lib.atoiAll (Lib.itoa n) = .ok n := by
  have hd := itoa_digit h.1
  have hp := parse_dec n.toNat (by have := h.2; omega)
  have hne := dec_ne n.toNat
  rw [itoa_pos h.1] at hd ⊢
  generalize Lib.decDigits n.toNat = l at *
  cases l with
  | nil => exact absurd rfl hne
  | cons c r =>
    have hc := hd c (by simp)
    unfold Lib.atoiAll
    simp only
    rw [if_neg (by omega)]
    unfold Lib.parseMag
    rw [if_neg (by simp), hp]
    simp only
    rw [if_neg (by have := h.2; omega), if_neg (by omega), if_neg (by omega)]
    congr 1
    have := h.1
    omega
theorem itoa_inj {a b : Int} (ha : mayI a) (hb : mayI b) (h : Lib.itoa a = Lib.itoa b) : a = b := by
  have h1 := atoi_itoa ha
  rw [h, atoi_itoa hb] at h1
  cases h1
  rfl
def wordsF (a b c : Int) : List UInt8 := 112 :: (Lib.itoa a ++ 46 :: (Lib.itoa b ++ 46 :: Lib.itoa c))
/-- Two runs without a sign, and behind the sign. -/
theorem cut_at {s : UInt8} : ∀ {l m l' m' : List UInt8}, (∀ x ∈ l, x ≠ s) → (∀ x ∈ l', x ≠ s) → l ++ s :: m = l' ++ s :: m' → l = l' ∧ m = m'
  | [], m, [], m', _, _, h => by simp at h; exact ⟨rfl, h⟩
  | [], m, y :: l', m', _, h2, h => by
    simp at h
    exact absurd h.1.symm (h2 y (by simp))
  | x :: l, m, [], m', h1, _, h => by
    simp at h
    exact absurd h.1 (h1 x (by simp))
  | x :: l, m, y :: l', m', h1, h2, h => by
    simp at h
    obtain ⟨e1, e2⟩ := cut_at (fun z hz => h1 z (by simp [hz])) (fun z hz => h2 z (by simp [hz])) h.2
    exact ⟨by rw [h.1, e1], e2⟩
theorem digit_ne {l : List UInt8} (h : ∀ x ∈ l, 48 ≤ x.toNat ∧ x.toNat ≤ 57) : ∀ x ∈ l, x ≠ 46 := fun x hx e => by
  have := h x hx
  rw [e] at this
  exact absurd this.1 (by decide)
theorem words_inj {a b c a' b' c' : Int} (ha : mayI a) (hb : mayI b) (hc : mayI c) (ha' : mayI a') (hb' : mayI b') (hc' : mayI c') (h : wordsF a b c = wordsF a' b' c') : a = a' ∧ b = b' ∧ c = c' := by
  unfold wordsF at h
  simp only [List.cons.injEq, true_and] at h
  obtain ⟨e1, h⟩ := cut_at (digit_ne (itoa_digit ha.1)) (digit_ne (itoa_digit ha'.1)) h
  obtain ⟨e2, h⟩ := cut_at (digit_ne (itoa_digit hb.1)) (digit_ne (itoa_digit hb'.1)) h
  exact ⟨itoa_inj ha ha' e1, itoa_inj hb hb' e2, itoa_inj hc hc' h⟩
theorem index_at {c : UInt8} : ∀ {x : List UInt8}, (∀ y ∈ x, y ≠ c) → ∀ m : List UInt8, Lib.index (x ++ c :: m) [c] = (x.length : Int)
  | [], _, m => by simp [Lib.index, List.isPrefixOf]
  | y :: x, h, m => by
    have ih := index_at (c := c) (x := x) (fun z hz => h z (by simp [hz])) m
    have hy : ¬ c = y := fun e => h y (by simp) e.symm
    simp only [List.cons_append, Lib.index]
    have hp : List.isPrefixOf [c] (y :: (x ++ c :: m)) = false := by simp [List.isPrefixOf, hy]
    rw [hp, ih]
    have hne : ((x.length : Int) == -1) = false := by
      rw [beq_eq_false_iff_ne]
      omega
    rw [hne]
    simp
theorem split3 {x y z : List UInt8} (hx : ∀ b ∈ x, b ≠ 46) (hy : ∀ b ∈ y, b ≠ 46) : Lib.splitK [46] 0 2 (x ++ 46 :: (y ++ 46 :: z)) = [x, y, z] := by
  have i1 := index_at hx (y ++ 46 :: z)
  have i2 := index_at hy z
  have n1 : ((x.length : Int) == -1) = false := by rw [beq_eq_false_iff_ne]; omega
  have n2 : ((y.length : Int) == -1) = false := by rw [beq_eq_false_iff_ne]; omega
  have d1 : (x ++ 46 :: (y ++ 46 :: z)).drop (x.length + 1) = y ++ 46 :: z := by
    rw [show x.length + 1 = (x ++ [46]).length by simp, show x ++ 46 :: (y ++ 46 :: z) = (x ++ [46]) ++ (y ++ 46 :: z) by simp, List.drop_left]
  have d2 : (y ++ 46 :: z).drop (y.length + 1) = z := by
    rw [show y.length + 1 = (y ++ [46]).length by simp, show y ++ 46 :: z = (y ++ [46]) ++ z by simp, List.drop_left]
  simp only [Lib.splitK, i1, n1, Bool.false_eq_true, if_false, Int.toNat_natCast, Nat.add_zero, List.take_left', List.length_cons, List.length_nil, Nat.zero_add, d1, i2, n2, d2]
theorem count3 {x y z : List UInt8} (hx : ∀ b ∈ x, b ≠ 46) (hy : ∀ b ∈ y, b ≠ 46) (hz : ∀ b ∈ z, b ≠ 46) : Lib.count (x ++ 46 :: (y ++ 46 :: z)) [46] = 2 := by
  have h0 : ∀ l : List UInt8, (∀ b ∈ l, b ≠ 46) → l.count 46 = 0 := fun l h => List.count_eq_zero.2 fun h' => h 46 h' rfl
  rw [Lib.count_one, List.count_append, List.count_cons_self, List.count_append, List.count_cons_self, h0 x hx, h0 y hy, h0 z hz]
end Go.Proofs.YthcpfmibcoeleaaDoor.Id
namespace Go.Proofs.YthcpfmibcoeleaaDoor.Id
open Go
set_option linter.unusedSimpArgs false
set_option linter.unusedVariables false
def isD (c : UInt8) : Bool := decide (48 ≤ c.toNat) && decide (c.toNat ≤ 57)
def valL (l : List UInt8) : Nat := l.foldl (fun n c => 10 * n + (c.toNat - 48)) 0
theorem val_snoc (l : List UInt8) (d : UInt8) : valL (l ++ [d]) = 10 * valL l + (d.toNat - 48) := by simp [valL]
theorem snoc_of {l : List UInt8} (h : l ≠ []) : ∃ l' d, l = l' ++ [d] := ⟨l.dropLast, l.getLast h, (List.dropLast_concat_getLast h).symm⟩
theorem val_pos : ∀ (k : Nat) (l : List UInt8), l.length = k → l ≠ [] → (∀ x ∈ l, isD x = true) → l.head? ≠ some 48 → 1 ≤ valL l
  | 0, l, hk, hl, _, _ => absurd (List.length_eq_zero_iff.1 hk) hl
  | k + 1, l, hk, hl, hd, hh => by
    obtain ⟨l', d, rfl⟩ := snoc_of hl
    rw [val_snoc]
    cases l' with
    | nil =>
      have h1 := hd d (by simp)
      simp only [isD, Bool.and_eq_true, decide_eq_true_eq] at h1
      have h2 : d ≠ 48 := fun e => hh (by simp [e])
      have h3 : d.toNat ≠ 48 := fun e => h2 (UInt8.toNat_inj.1 (by rw [e]; rfl))
      simp [valL]
      omega
    | cons y l'' =>
      have := val_pos k (y :: l'') (by simpa using hk) (by simp) (fun x hx => hd x (by simp at hx ⊢; rcases hx with h | h <;> simp [h])) (by simpa using hh)
      omega
theorem dec_of_digits : ∀ (k : Nat) (l : List UInt8), l.length = k → l ≠ [] → (∀ x ∈ l, isD x = true) → (2 ≤ l.length → l.head? ≠ some 48) → Lib.decDigits (valL l) = l
  | 0, l, hk, hl, _, _ => absurd (List.length_eq_zero_iff.1 hk) hl
  | k + 1, l, hk, hl, hd, hh => by
    obtain ⟨l', d, rfl⟩ := snoc_of hl
    have h1 := hd d (by simp)
    simp only [isD, Bool.and_eq_true, decide_eq_true_eq] at h1
    rw [val_snoc]
    cases l' with
    | nil =>
      have hv : valL [] = 0 := rfl
      rw [hv, Nat.mul_zero, Nat.zero_add, dec_small (by omega), show 48 + (d.toNat - 48) = d.toNat by omega]
      simp
    | cons y l'' =>
      have hdl : ∀ x ∈ y :: l'', isD x = true := fun x hx => hd x (by simp at hx ⊢; rcases hx with h | h <;> simp [h])
      have hh' : (y :: l'').head? ≠ some 48 := by
        have := hh (by simp)
        simpa using this
      have ih := dec_of_digits k (y :: l'') (by simpa using hk) (by simp) hdl (fun _ => hh')
      have hp := val_pos k (y :: l'') (by simpa using hk) (by simp) hdl hh'
      rw [dec_big (by omega), show (10 * valL (y :: l'') + (d.toNat - 48)) / 10 = valL (y :: l'') by omega, show (10 * valL (y :: l'') + (d.toNat - 48)) % 10 = d.toNat - 48 by omega, ih, show 48 + (d.toNat - 48) = d.toNat by omega]
      simp
/-- What the loop reads: the number so far, how many, the rest; none: too great. -/
def runD (n k : Nat) : List UInt8 → Option (Nat × Nat)
  | [] => some (n, k)
  | c :: r => if isD c then (if 2147483647 < 10 * n + (c.toNat - 48) then none else runD (10 * n + (c.toNat - 48)) (k + 1) r) else some (n, k)
def digitsOf (r : List UInt8) : List UInt8 := r.takeWhile isD
theorem fold_ge : ∀ (l : List UInt8) (n : Nat), n ≤ l.foldl (fun n c => 10 * n + (c.toNat - 48)) n
  | [], n => Nat.le_refl _
  | c :: r, n => by
    have := fold_ge r (10 * n + (c.toNat - 48))
    simp only [List.foldl_cons]
    omega
theorem run_eq : ∀ (r : List UInt8) (n k : Nat), n ≤ 2147483647 → runD n k r = if (digitsOf r).foldl (fun n c => 10 * n + (c.toNat - 48)) n ≤ 2147483647 then some ((digitsOf r).foldl (fun n c => 10 * n + (c.toNat - 48)) n, k + (digitsOf r).length) else none
  | [], n, k, h => by simp [runD, digitsOf, h]
  | c :: r, n, k, h => by
    unfold runD
    by_cases hc : isD c = true
    · rw [if_pos hc]
      have hd : digitsOf (c :: r) = c :: digitsOf r := by simp [digitsOf, List.takeWhile_cons, hc]
      rw [hd, List.foldl_cons, List.length_cons]
      have hge := fold_ge (digitsOf r) (10 * n + (c.toNat - 48))
      by_cases hb : 2147483647 < 10 * n + (c.toNat - 48)
      · rw [if_pos hb, if_neg (by omega)]
      · rw [if_neg hb, run_eq r _ _ (by omega), show k + 1 + (digitsOf r).length = k + ((digitsOf r).length + 1) by omega]
    · rw [if_neg hc]
      have hd : digitsOf (c :: r) = [] := by simp [digitsOf, List.takeWhile_cons, hc]
      rw [hd]
      simp [h]
/-- The document's number at the head of a text: what it is, and how many digits. -/
def numD (r : List UInt8) : Option (Nat × Nat) := match runD 0 0 r with
  | none => none
  | some (n, k) => if k = 0 ∨ (1 < k ∧ r.head? = some 48) then none else some (n, k)
theorem take_digits (r : List UInt8) : r = digitsOf r ++ r.dropWhile isD := (List.takeWhile_append_dropWhile).symm
theorem digits_all (r : List UInt8) : ∀ x ∈ digitsOf r, isD x = true := by
  induction r with
  | nil => simp [digitsOf]
  | cons c r ih =>
    intro x hx
    unfold digitsOf at hx ih
    rw [List.takeWhile_cons] at hx
    split at hx
    · rename_i hc
      rcases List.mem_cons.1 hx with rfl | hx
      · exact hc
      · exact ih x hx
    · cases hx
/-- A number there: its numeral, and no digit behind. -/
theorem num_some {r : List UInt8} {n k : Nat} (h : numD r = some (n, k)) : n ≤ 2147483647 ∧ k = (Lib.decDigits n).length ∧ r = Lib.decDigits n ++ r.drop k ∧ (∀ c, (r.drop k).head? = some c → isD c = false) := by
  unfold numD at h
  rw [run_eq r 0 0 (by omega)] at h
  have hr := take_digits r
  have hda := digits_all r
  obtain ⟨l, hl⟩ : ∃ l, l = digitsOf r := ⟨_, rfl⟩
  rw [← hl] at h hr hda
  by_cases hb : l.foldl (fun n c => 10 * n + (c.toNat - 48)) 0 ≤ 2147483647
  · rw [if_pos hb] at h
    simp only [Nat.zero_add] at h
    split at h
    · cases h
    · rename_i hnot
      simp only [Option.some.injEq, Prod.mk.injEq] at h
      obtain ⟨h1, h2⟩ := h
      have hne : l ≠ [] := fun e => hnot (.inl (by rw [e]; rfl))
      have hhead : 2 ≤ l.length → l.head? ≠ some 48 := fun h2l e => hnot (.inr ⟨by omega, by
        rw [hr]
        cases l with
        | nil => exact absurd rfl hne
        | cons y l' => simpa using e⟩)
      have hdec := dec_of_digits _ l rfl hne hda hhead
      have hv : valL l = n := h1
      rw [hv] at hdec
      have hdrop : r.drop k = r.dropWhile isD := by
        rw [← h2]
        conv => lhs; rw [hr]
        simp
      refine ⟨by rw [← h1]; exact hb, by rw [hdec, h2], by rw [hdec, hdrop]; exact hr, fun c hc => ?_⟩
      rw [hdrop] at hc
      have := List.head?_dropWhile_not isD r
      rw [hc] at this
      simpa using this
  · rw [if_neg hb] at h
    cases h
theorem dec_head : ∀ n : Nat, 1 ≤ n → (Lib.decDigits n).head? ≠ some 48 := by
  intro n
  induction n using Nat.strongRecOn with
  | ind n ih =>
    intro h1 e
    by_cases h : n < 10
    · rw [dec_small h] at e
      simp only [List.head?_cons, Option.some.injEq] at e
      have := congrArg UInt8.toNat e
      rw [ofNat_toNat (by omega)] at this
      have h48 : (48 : UInt8).toNat = 48 := rfl
      omega
    · rw [dec_big h] at e
      have hne := dec_ne (n / 10)
      cases hx : Lib.decDigits (n / 10) with
      | nil => exact hne hx
      | cons y l =>
        rw [hx] at e
        exact ih (n / 10) (by omega) (by omega) (by rw [hx]; simpa using e)
/-- Where a numeral stands, and no digit behind, it is the number. -/
theorem num_of {n : Nat} (hn : n ≤ 2147483647) (m : List UInt8) (hm : ∀ c, m.head? = some c → isD c = false) : numD (Lib.decDigits n ++ m) = some (n, (Lib.decDigits n).length) := by
  have hdd : ∀ x ∈ Lib.decDigits n, isD x = true := fun x hx => by
    have := dec_digit n x hx
    simp [isD, this]
  have hne := dec_ne n
  have hdo : digitsOf (Lib.decDigits n ++ m) = Lib.decDigits n := by
    unfold digitsOf
    rw [List.takeWhile_append_of_pos (fun x hx => hdd x hx)]
    have : m.takeWhile isD = [] := by
      cases m with
      | nil => rfl
      | cons c m' => rw [List.takeWhile_cons, hm c rfl]; rfl
    rw [this, List.append_nil]
  have hval : ∀ u : Nat, valL (Lib.decDigits u) = u := by
    intro u
    induction u using Nat.strongRecOn with
    | ind u ih =>
      by_cases h : u < 10
      · rw [dec_small h]
        simp [valL, UInt8.toNat_ofNat]
        omega
      · rw [dec_big h, val_snoc, ih (u / 10) (by omega), ofNat_toNat (by omega)]
        omega
  have hhead : 2 ≤ (Lib.decDigits n).length → (Lib.decDigits n).head? ≠ some 48 := by
    intro hl
    refine dec_head n ?_
    rcases Nat.eq_zero_or_pos n with h0 | h0
    · rw [h0, dec_small (by omega)] at hl
      simp at hl
    · exact h0
  unfold numD
  rw [run_eq _ 0 0 (by omega), hdo]
  have hv := hval n
  unfold valL at hv
  rw [hv, if_pos hn]
  simp only [Nat.zero_add]
  rw [if_neg ?_]
  rintro (h | ⟨h1, h2⟩)
  · exact hne (List.length_eq_zero_iff.1 h)
  · refine hhead h1 ?_
    cases hx : Lib.decDigits n with
    | nil => exact absurd hx hne
    | cons y l => rw [hx] at h2; simpa using h2
end Go.Proofs.YthcpfmibcoeleaaDoor.Id
namespace Go.Proofs.YthcpfmibcoeleaaDoor.Id
open Go
set_option linter.unusedSimpArgs false
set_option linter.unusedVariables false
/-- A number, and a point behind it. -/
def numDot (r : List UInt8) : Option (Nat × List UInt8) := match numD r with
  | some (n, k) => match r.drop k with
    | 46 :: r' => some (n, r')
    | _ => none
  | none => none
def refF (s : List UInt8) : Option (Nat × Nat × Nat) := match s with
  | 112 :: r => match numDot r with
    | some (a, r2) => match numDot r2 with
      | some (b, r3) => match numD r3 with
        | some (c, k) => if k = r3.length then some (a, b, c) else none
        | none => none
      | none => none
    | none => none
  | _ => none
theorem numDot_some {r r' : List UInt8} {n : Nat} (h : numDot r = some (n, r')) : n ≤ 2147483647 ∧ r = Lib.decDigits n ++ 46 :: r' := by
  unfold numDot at h
  split at h
  · rename_i n' k hn
    obtain ⟨h1, h2, h3, _⟩ := num_some hn
    split at h
    · rename_i r2 hr
      cases h
      rw [hr] at h3
      exact ⟨h1, h3⟩
    · cases h
  · cases h
theorem numDot_of {n : Nat} (hn : n ≤ 2147483647) (m : List UInt8) : numDot (Lib.decDigits n ++ 46 :: m) = some (n, m) := by
  unfold numDot
  rw [num_of hn (46 :: m) (fun c hc => by simp at hc; rw [← hc]; rfl)]
  simp
theorem refF_of {a b c : Nat} (ha : a ≤ 2147483647) (hb : b ≤ 2147483647) (hc : c ≤ 2147483647) : refF (wordsF a b c) = some (a, b, c) := by
  have h0 : ∀ n : Nat, Lib.itoa (n : Int) = Lib.decDigits n := fun n => by rw [itoa_pos (by omega)]; simp
  unfold wordsF refF
  simp only [h0]
  rw [numDot_of ha]
  simp only
  rw [numDot_of hb]
  simp only
  have := num_of hc [] (fun c h => by cases h)
  rw [List.append_nil] at this
  rw [this]
  simp
theorem refF_some {s : List UInt8} {a b c : Nat} (h : refF s = some (a, b, c)) : a ≤ 2147483647 ∧ b ≤ 2147483647 ∧ c ≤ 2147483647 ∧ s = wordsF a b c := by
  have h0 : ∀ n : Nat, Lib.itoa (n : Int) = Lib.decDigits n := fun n => by rw [itoa_pos (by omega)]; simp
  unfold refF at h
  split at h
  · rename_i r
    split at h
    · rename_i a' r2 h1
      split at h
      · rename_i b' r3 h2
        split at h
        · rename_i c' k h3
          split at h
          · rename_i hk
            cases h
            obtain ⟨n1, e1⟩ := numDot_some h1
            obtain ⟨n2, e2⟩ := numDot_some h2
            obtain ⟨n3, _, e3, _⟩ := num_some h3
            rw [hk, List.drop_length, List.append_nil] at e3
            refine ⟨n1, n2, n3, ?_⟩
            unfold wordsF
            simp only [h0]
            rw [e1, e2, ← e3]
          · cases h
        · cases h
      · cases h
    · cases h
  · cases h
end Go.Proofs.YthcpfmibcoeleaaDoor.Id
