/- The document's number of a word, and the program's: no program. -/
import Derived.Test.YthcpfmibcoeleaaDoorCmPure
namespace Go.Proofs.YthcpfmibcoeleaaDoor.Cm
open Go Go.RowKit Am Go.Proofs.YthcpfmibcoeleaaDoor.Id
set_option linter.unusedSimpArgs false
set_option linter.unusedVariables false
def numR (s : List UInt8) : Option Int := match s with
  | [] => none
  | c :: r => if c = 45 then (if r = [] ∨ 10 < r.length ∨ r.head? = some 48 ∨ r.all isD = false then none else some (-(valL r : Int)))
    else (if 10 < (c :: r).length ∨ (c = 48 ∧ r ≠ []) ∨ (c :: r).all isD = false then none else some (valL (c :: r) : Int))
theorem val_dec : ∀ (k n : Nat), n ≤ k → valL (Lib.decDigits n) = n
  | 0, n, h => by
    obtain rfl : n = 0 := by omega
    rw [dec_small (by omega)]
    rfl
  | k + 1, n, h => by
    by_cases hs : n < 10
    · rw [dec_small hs]
      show 10 * 0 + ((UInt8.ofNat (48 + n)).toNat - 48) = n
      rw [ofNat_toNat (by omega)]
      omega
    · rw [dec_big hs, val_snoc, val_dec k (n / 10) (by omega), ofNat_toNat (by omega)]
      omega
theorem dec_all (n : Nat) : (Lib.decDigits n).all isD = true := by
  rw [List.all_eq_true]
  intro x hx
  have := dec_digit n x hx
  unfold isD
  simp [this]
theorem dec_len2 : ∀ (k u : Nat), u < 10 ^ (k + 1) → (Lib.decDigits u).length ≤ k + 1
  | 0, u, h => by rw [dec_small (by simpa using h)]; simp
  | k + 1, u, h => by
    by_cases hs : u < 10
    · rw [dec_small hs]; simp
    · rw [dec_big hs, List.length_append, List.length_singleton]
      have := dec_len2 k (u / 10) (by rw [Nat.pow_succ] at h; omega)
      omega
theorem itoa_neg {n : Int} (h : n < 0) : Lib.itoa n = 45 :: Lib.decDigits n.natAbs := by unfold Lib.itoa; rw [if_pos h]
theorem dec_cons (n : Nat) : ∃ c r, Lib.decDigits n = c :: r ∧ 48 ≤ c.toNat ∧ c.toNat ≤ 57 := by
  have hd := dec_digit n
  have hne := dec_ne n
  generalize Lib.decDigits n = l at *
  cases l with
  | nil => exact absurd rfl hne
  | cons c r => exact ⟨c, r, rfl, hd c (by simp)⟩
theorem ne45 {c : UInt8} (h : 48 ≤ c.toNat) : ¬ c = 45 := fun e => by rw [e] at h; exact absurd h (by decide)
theorem numR_itoa {n : Int} (h1 : -9999999999 ≤ n) (h2 : n ≤ 9999999999) : numR (Lib.itoa n) = some n := by
  by_cases hn : n < 0
  · rw [itoa_neg hn]
    have hl := dec_len2 9 n.natAbs (by omega)
    have hh := dec_head n.natAbs (by omega)
    have ha := dec_all n.natAbs
    have hv := val_dec n.natAbs n.natAbs (Nat.le_refl _)
    have hne := dec_ne n.natAbs
    unfold numR
    dsimp only
    rw [if_pos rfl, if_neg (by
      rintro (h | h | h | h)
      · exact hne h
      · omega
      · exact hh h
      · rw [ha] at h; cases h), hv]
    congr 1
    omega
  · rw [itoa_pos (by omega)]
    have hl := dec_len2 9 n.toNat (by omega)
    have ha := dec_all n.toNat
    have hv := val_dec n.toNat n.toNat (Nat.le_refl _)
    obtain ⟨c, r, e, hc1, hc2⟩ := dec_cons n.toNat
    have hh := dec_head n.toNat
    rw [e] at hl ha hv hh ⊢
    unfold numR
    dsimp only
    rw [if_neg (ne45 hc1), if_neg (by
      rintro (h | ⟨h, h'⟩ | h)
      · omega
      · by_cases h0 : 1 ≤ n.toNat
        · exact hh h0 (by rw [h]; rfl)
        · have hz : n.toNat = 0 := by omega
          rw [hz, dec_small (by omega)] at e
          simp only [List.cons.injEq] at e
          exact h' e.2.symm
      · rw [ha] at h; cases h), hv]
    congr 1
    omega
theorem val_small : ∀ (k : Nat) (l : List UInt8), l.length ≤ k → l.all isD = true → valL l < 10 ^ k
  | 0, l, hk, _ => by
    rw [List.length_eq_zero_iff.1 (by omega : l.length = 0)]
    decide
  | k + 1, l, hk, ha => by
    by_cases hl : l = []
    · rw [hl]; exact Nat.lt_of_lt_of_le (by decide : valL [] < 1) (Nat.one_le_pow _ _ (by omega))
    · obtain ⟨l', d, rfl⟩ := snoc_of hl
      rw [List.all_append, Bool.and_eq_true] at ha
      have ih := val_small k l' (by simpa using hk) ha.1
      have hd := ha.2
      simp [isD] at hd
      rw [val_snoc, Nat.pow_succ]
      omega
theorem itoa_numR {s : List UInt8} {n : Int} (h : numR s = some n) : Lib.itoa n = s ∧ -9999999999 ≤ n ∧ n ≤ 9999999999 := by
  unfold numR at h
  split at h
  · cases h
  · rename_i c r
    split at h
    · rename_i hc
      split at h
      · cases h
      · rename_i hn
        cases h
        have hn' : r ≠ [] ∧ r.length ≤ 10 ∧ r.head? ≠ some 48 ∧ r.all isD = true := by
          refine ⟨fun e => hn (.inl e), by have := fun e => hn (.inr (.inl e)); omega, fun e => hn (.inr (.inr (.inl e))), ?_⟩
          cases ha : r.all isD with
          | true => rfl
          | false => exact absurd (.inr (.inr (.inr ha))) hn
        obtain ⟨g1, g2, g3, g4⟩ := hn'
        have hp := val_pos r.length r rfl g1 (List.all_eq_true.1 g4) g3
        have hs := val_small 10 r g2 g4
        have hd := dec_of_digits r.length r rfl g1 (List.all_eq_true.1 g4) (fun _ => g3)
        refine ⟨?_, by omega, by omega⟩
        rw [itoa_neg (by omega), show (-(valL r : Int)).natAbs = valL r by omega, hd, hc]
    · rename_i hc
      split at h
      · cases h
      · rename_i hn
        cases h
        have g2 : (c :: r).length ≤ 10 := by have := fun e => hn (.inl e); omega
        have g4 : (c :: r).all isD = true := by
          cases ha : (c :: r).all isD with
          | true => rfl
          | false => exact absurd (.inr (.inr ha)) hn
        have hs := val_small 10 (c :: r) g2 g4
        have hd := dec_of_digits (c :: r).length (c :: r) rfl (by simp) (List.all_eq_true.1 g4) (fun h2 e => hn (.inr (.inl ⟨by simpa using e, by rintro rfl; simp at h2⟩)))
        refine ⟨?_, by omega, by omega⟩
        rw [itoa_pos (by omega), Int.toNat_natCast, hd]
theorem atoi_itoa2 {n : Int} (h1 : -9999999999 ≤ n) (h2 : n ≤ 9999999999) : Lib.atoiAll (Lib.itoa n) = .ok n := by
  by_cases hn : n < 0
  · rw [itoa_neg hn]
    have hp := parse_dec n.natAbs (by omega)
    have hne := dec_ne n.natAbs
    unfold Lib.atoiAll
    simp only
    rw [if_pos (.inr rfl)]
    unfold Lib.parseMag
    rw [if_neg hne, hp]
    simp only
    rw [if_neg (by rintro ⟨h, _⟩; exact h rfl), if_neg (by omega), if_pos (show UInt8.toNat 45 = 45 from rfl)]
    congr 1
    omega
  · obtain ⟨c, r, e, hc1, hc2⟩ := dec_cons n.toNat
    have hp := parse_dec n.toNat (by omega)
    rw [itoa_pos (by omega)]
    rw [e] at hp ⊢
    unfold Lib.atoiAll
    simp only
    rw [if_neg (by omega)]
    unfold Lib.parseMag
    rw [if_neg (by simp), hp]
    simp only
    rw [if_neg (by omega), if_neg (by omega), if_neg (by omega)]
    congr 1
    omega
theorem numF_iff (s : List UInt8) (n : Int) : numF s = some n ↔ numR s = some n ∧ -9999 ≤ n ∧ n ≤ 9999 := by
  constructor
  · intro h
    unfold numF at h
    split at h
    · split at h
      · rename_i m hm hc
        cases h
        refine ⟨?_, hc.2.1, hc.2.2⟩
        have := numR_itoa (n := n) (by omega) (by omega)
        rw [hc.1] at this
        exact this
      · cases h
    · cases h
  · rintro ⟨h, h1, h2⟩
    obtain ⟨e, _, _⟩ := itoa_numR h
    have ha := atoi_itoa2 (n := n) (by omega) (by omega)
    rw [e] at ha
    unfold numF
    rw [ha]
    dsimp only
    rw [if_pos ⟨e, h1, h2⟩]
end Go.Proofs.YthcpfmibcoeleaaDoor.Cm
