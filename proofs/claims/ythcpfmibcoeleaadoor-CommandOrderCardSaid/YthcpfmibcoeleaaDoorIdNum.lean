/- The document's numbers, digit by digit: no program. -/
import Derived.Test.YthcpfmibcoeleaaDoorIdPure
namespace Go.Proofs.YthcpfmibcoeleaaDoor.Id
open Go
set_option linter.unusedSimpArgs false
set_option linter.unusedVariables false
def isD (c : UInt8) : Bool := decide (48 ≤ c.toNat) && decide (c.toNat ≤ 57)
def valL (l : List UInt8) : Nat := l.foldl (fun n c => 10 * n + (c.toNat - 48)) 0
theorem val_snoc (l : List UInt8) (d : UInt8) : valL (l ++ [d]) = 10 * valL l + (d.toNat - 48) := by simp [valL]
theorem snoc_of {l : List UInt8} (h : l ≠ []) : ∃ l' d, l = l' ++ [d] := ⟨l.dropLast, l.getLast h, (List.dropLast_concat_getLast h).symm⟩
theorem val_pos : ∀ (k : Nat) (l : List UInt8), l.length = k → l ≠ [] → (∀ x ∈ l, isD x = true) → l.head? ≠ some 48 → 1 ≤ valL l
  | 0, l, hk, hl, _, _ => absurd (List.length_eq_zero_iff.1 hk) hl
  | k + 1, l, hk, hl, hd, hh => by
    obtain ⟨l', d, rfl⟩ := snoc_of hl
    rw [val_snoc]
    cases l' with
    | nil =>
      have h1 := hd d (by simp)
      simp only [isD, Bool.and_eq_true, decide_eq_true_eq] at h1
      have h2 : d ≠ 48 := fun e => hh (by simp [e])
      have h3 : d.toNat ≠ 48 := fun e => h2 (UInt8.toNat_inj.1 (by rw [e]; rfl))
      simp [valL]
      omega
    | cons y l'' =>
      have := val_pos k (y :: l'') (by simpa using hk) (by simp) (fun x hx => hd x (by simp at hx ⊢; rcases hx with h | h <;> simp [h])) (by simpa using hh)
      omega
theorem dec_of_digits : ∀ (k : Nat) (l : List UInt8), l.length = k → l ≠ [] → (∀ x ∈ l, isD x = true) → (2 ≤ l.length → l.head? ≠ some 48) → Lib.decDigits (valL l) = l
  | 0, l, hk, hl, _, _ => absurd (List.length_eq_zero_iff.1 hk) hl
  | k + 1, l, hk, hl, hd, hh => by
    obtain ⟨l', d, rfl⟩ := snoc_of hl
    have h1 := hd d (by simp)
    simp only [isD, Bool.and_eq_true, decide_eq_true_eq] at h1
    rw [val_snoc]
    cases l' with
    | nil =>
      have hv : valL [] = 0 := rfl
      rw [hv, Nat.mul_zero, Nat.zero_add, dec_small (by omega), show 48 + (d.toNat - 48) = d.toNat by omega]
      simp
    | cons y l'' =>
      have hdl : ∀ x ∈ y :: l'', isD x = true := fun x hx => hd x (by simp at hx ⊢; rcases hx with h | h <;> simp [h])
      have hh' : (y :: l'').head? ≠ some 48 := by
        have := hh (by simp)
        simpa using this
      have ih := dec_of_digits k (y :: l'') (by simpa using hk) (by simp) hdl (fun _ => hh')
      have hp := val_pos k (y :: l'') (by simpa using hk) (by simp) hdl hh'
      rw [dec_big (by omega), show (10 * valL (y :: l'') + (d.toNat - 48)) / 10 = valL (y :: l'') by omega, show (10 * valL (y :: l'') + (d.toNat - 48)) % 10 = d.toNat - 48 by omega, ih, show 48 + (d.toNat - 48) = d.toNat by omega]
      simp
/-- What the loop reads: the number so far, how many, the rest; none: too great. -/
def runD (n k : Nat) : List UInt8 → Option (Nat × Nat)
  | [] => some (n, k)
  | c :: r => if isD c then (if 2147483647 < 10 * n + (c.toNat - 48) then none else runD (10 * n + (c.toNat - 48)) (k + 1) r) else some (n, k)
def digitsOf (r : List UInt8) : List UInt8 := r.takeWhile isD
theorem fold_ge : ∀ (l : List UInt8) (n : Nat), n ≤ l.foldl (fun n c => 10 * n + (c.toNat - 48)) n
  | [], n => Nat.le_refl _
  | c :: r, n => by
    have := fold_ge r (10 * n + (c.toNat - 48))
    simp only [List.foldl_cons]
    omega
theorem run_eq : ∀ (r : List UInt8) (n k : Nat), n ≤ 2147483647 → runD n k r = if (digitsOf r).foldl (fun n c => 10 * n + (c.toNat - 48)) n ≤ 2147483647 then some ((digitsOf r).foldl (fun n c => 10 * n + (c.toNat - 48)) n, k + (digitsOf r).length) else none
  | [], n, k, h => by simp [runD, digitsOf, h]
  | c :: r, n, k, h => by
    unfold runD
    by_cases hc : isD c = true
    · rw [if_pos hc]
      have hd : digitsOf (c :: r) = c :: digitsOf r := by simp [digitsOf, List.takeWhile_cons, hc]
      rw [hd, List.foldl_cons, List.length_cons]
      have hge := fold_ge (digitsOf r) (10 * n + (c.toNat - 48))
      by_cases hb : 2147483647 < 10 * n + (c.toNat - 48)
      · rw [if_pos hb, if_neg (by omega)]
      · rw [if_neg hb, run_eq r _ _ (by omega), show k + 1 + (digitsOf r).length = k + ((digitsOf r).length + 1) by omega]
    · rw [if_neg hc]
      have hd : digitsOf (c :: r) = [] := by simp [digitsOf, List.takeWhile_cons, hc]
      rw [hd]
      simp [h]
/-- The document's number at the head of a text: what it is, and how many digits. -/
def numD (r : List UInt8) : Option (Nat × Nat) := match runD 0 0 r with
  | none => none
  | some (n, k) => if k = 0 ∨ (1 < k ∧ r.head? = some 48) then none else some (n, k)
theorem take_digits (r : List UInt8) : r = digitsOf r ++ r.dropWhile isD := (List.takeWhile_append_dropWhile).symm
theorem digits_all (r : List UInt8) : ∀ x ∈ digitsOf r, isD x = true := by
  induction r with
  | nil => simp [digitsOf]
  | cons c r ih =>
    intro x hx
    unfold digitsOf at hx ih
    rw [List.takeWhile_cons] at hx
    split at hx
    · rename_i hc
      rcases List.mem_cons.1 hx with rfl | hx
      · exact hc
      · exact ih x hx
    · cases hx
/-- A number there: its numeral, and no digit behind. -/
theorem num_some {r : List UInt8} {n k : Nat} (h : numD r = some (n, k)) : n ≤ 2147483647 ∧ k = (Lib.decDigits n).length ∧ r = Lib.decDigits n ++ r.drop k ∧ (∀ c, (r.drop k).head? = some c → isD c = false) := by
  unfold numD at h
  rw [run_eq r 0 0 (by omega)] at h
  have hr := take_digits r
  have hda := digits_all r
  obtain ⟨l, hl⟩ : ∃ l, l = digitsOf r := ⟨_, rfl⟩
  rw [← hl] at h hr hda
  by_cases hb : l.foldl (fun n c => 10 * n + (c.toNat - 48)) 0 ≤ 2147483647
  · rw [if_pos hb] at h
    simp only [Nat.zero_add] at h
    split at h
    · cases h
    · rename_i hnot
      simp only [Option.some.injEq, Prod.mk.injEq] at h
      obtain ⟨h1, h2⟩ := h
      have hne : l ≠ [] := fun e => hnot (.inl (by rw [e]; rfl))
      have hhead : 2 ≤ l.length → l.head? ≠ some 48 := fun h2l e => hnot (.inr ⟨by omega, by
        rw [hr]
        cases l with
        | nil => exact absurd rfl hne
        | cons y l' => simpa using e⟩)
      have hdec := dec_of_digits _ l rfl hne hda hhead
      have hv : valL l = n := h1
      rw [hv] at hdec
      have hdrop : r.drop k = r.dropWhile isD := by
        rw [← h2]
        conv => lhs; rw [hr]
        simp
      refine ⟨by rw [← h1]; exact hb, by rw [hdec, h2], by rw [hdec, hdrop]; exact hr, fun c hc => ?_⟩
      rw [hdrop] at hc
      have := List.head?_dropWhile_not isD r
      rw [hc] at this
      simpa using this
  · rw [if_neg hb] at h
    cases h
theorem dec_head : ∀ n : Nat, 1 ≤ n → (Lib.decDigits n).head? ≠ some 48 := by
  intro n
  induction n using Nat.strongRecOn with
  | ind n ih =>
    intro h1 e
    by_cases h : n < 10
    · rw [dec_small h] at e
      simp only [List.head?_cons, Option.some.injEq] at e
      have := congrArg UInt8.toNat e
      rw [ofNat_toNat (by omega)] at this
      have h48 : (48 : UInt8).toNat = 48 := rfl
      omega
    · rw [dec_big h] at e
      have hne := dec_ne (n / 10)
      cases hx : Lib.decDigits (n / 10) with
      | nil => exact hne hx
      | cons y l =>
        rw [hx] at e
        exact ih (n / 10) (by omega) (by omega) (by rw [hx]; simpa using e)
/-- Where a numeral stands, and no digit behind, it is the number. -/
theorem num_of {n : Nat} (hn : n ≤ 2147483647) (m : List UInt8) (hm : ∀ c, m.head? = some c → isD c = false) : numD (Lib.decDigits n ++ m) = some (n, (Lib.decDigits n).length) := by
  have hdd : ∀ x ∈ Lib.decDigits n, isD x = true := fun x hx => by
    have := dec_digit n x hx
    simp [isD, this]
  have hne := dec_ne n
  have hdo : digitsOf (Lib.decDigits n ++ m) = Lib.decDigits n := by
    unfold digitsOf
    rw [List.takeWhile_append_of_pos (fun x hx => hdd x hx)]
    have : m.takeWhile isD = [] := by
      cases m with
      | nil => rfl
      | cons c m' => rw [List.takeWhile_cons, hm c rfl]; rfl
    rw [this, List.append_nil]
  have hval : ∀ u : Nat, valL (Lib.decDigits u) = u := by
    intro u
    induction u using Nat.strongRecOn with
    | ind u ih =>
      by_cases h : u < 10
      · rw [dec_small h]
        simp [valL, UInt8.toNat_ofNat]
        omega
      · rw [dec_big h, val_snoc, ih (u / 10) (by omega), ofNat_toNat (by omega)]
        omega
  have hhead : 2 ≤ (Lib.decDigits n).length → (Lib.decDigits n).head? ≠ some 48 := by
    intro hl
    refine dec_head n ?_
    rcases Nat.eq_zero_or_pos n with h0 | h0
    · rw [h0, dec_small (by omega)] at hl
      simp at hl
    · exact h0
  unfold numD
  rw [run_eq _ 0 0 (by omega), hdo]
  have hv := hval n
  unfold valL at hv
  rw [hv, if_pos hn]
  simp only [Nat.zero_add]
  rw [if_neg ?_]
  rintro (h | ⟨h1, h2⟩)
  · exact hne (List.length_eq_zero_iff.1 h)
  · refine hhead h1 ?_
    cases hx : Lib.decDigits n with
    | nil => exact absurd hx hne
    | cons y l => rw [hx] at h2; simpa using h2
end Go.Proofs.YthcpfmibcoeleaaDoor.Id
