/- Ranks and sets make a lattice: no program. -/
import Derived.Test.YtjncbipaikmogaaDoorLatRank
namespace Go.Proofs.YtjncbipaikmogaaDoor.Latt
open Go Go.RowKit Am
set_option linter.unusedSimpArgs false
set_option linter.unusedVariables false
/-- Below, of ranks and sets. -/
def Le (r x y : Nat) : Prop := x % r ≤ y % r ∧ ∀ j, (x / r).testBit j = true → (y / r).testBit j = true
theorem rk_iff {r x y : Nat} (hx : x < 64) (hy : y < 64) : rk r x y = true ↔ Le r x y := by
  unfold rk Le
  have h1 : x / r < M64 := Nat.lt_of_le_of_lt (Nat.div_le_self _ _) (by unfold M64; omega)
  have h2 : y / r < M64 := Nat.lt_of_le_of_lt (Nat.div_le_self _ _) (by unfold M64; omega)
  simp [nandN_zero _ _ h1 h2]
theorem Le.refl (r x : Nat) : Le r x x := ⟨Nat.le_refl _, fun _ h => h⟩
theorem Le.trans {r x y z : Nat} (h : Le r x y) (k : Le r y z) : Le r x z := ⟨Nat.le_trans h.1 k.1, fun j hj => k.2 j (h.2 j hj)⟩
theorem Le.anti {r x y : Nat} (h : Le r x y) (k : Le r y x) : x = y := by
  have e1 : x / r = y / r := Nat.eq_of_testBit_eq fun j => by
    have a := h.2 j
    have b := k.2 j
    cases h1 : (x / r).testBit j <;> cases h2 : (y / r).testBit j <;> simp_all
  have e2 : x % r = y % r := Nat.le_antisymm h.1 k.1
  rw [← Nat.div_add_mod x r, ← Nat.div_add_mod y r, e1, e2]
/-- A number of a rank and a set. -/
def mkN (r k s : Nat) : Nat := k + r * s
theorem mkN_mod {r k s : Nat} (hk : k < r) : mkN r k s % r = k := by unfold mkN; rw [Nat.add_mul_mod_self_left, Nat.mod_eq_of_lt hk]
theorem mkN_div {r k s : Nat} (hk : k < r) : mkN r k s / r = s := by unfold mkN; rw [Nat.add_mul_div_left _ _ (by omega), Nat.div_eq_of_lt hk, Nat.zero_add]
theorem mkN_lt {r k s e : Nat} (hk : k < r) (hs : s < 2 ^ e) : mkN r k s < r * 2 ^ e := by
  unfold mkN
  have : r * (s + 1) ≤ r * 2 ^ e := Nat.mul_le_mul (Nat.le_refl _) hs
  rw [Nat.mul_add] at this
  omega
theorem div_lt_pow {r x e : Nat} (h : x < r * 2 ^ e) : x / r < 2 ^ e := Nat.div_lt_of_lt_mul h
theorem rank_good {r e : Nat} (h1 : 1 ≤ r) (h2 : r * 2 ^ e ≤ 64) : GoodT (rankT r (r * 2 ^ e)) := by
  obtain ⟨n, hn⟩ : ∃ n, n = r * 2 ^ e := ⟨_, rfl⟩
  have hn0 : 0 < n := by rw [hn]; exact Nat.mul_pos (by omega) (Nat.two_pow_pos _)
  have hnd : ∀ {x}, x < n → x / r < 2 ^ e := fun hx => div_lt_pow (by rw [← hn]; exact hx)
  rw [← hn] at h2 ⊢
  have htb : ∀ {x y}, x < n → y < n → tb (rankT r n) x y = rk r x y := fun {x y} hx hy => by
    unfold tb
    rw [rankT_get r hx]
    simp [hy]
  have hup : ∀ x y, (at' (upT (rankT r n)) x).testBit y = (decide (x < n) && decide (y < n) && rk r x y) := by
    intro x y
    rw [upT_test, rankT_len]
    by_cases hx : x < n
    · by_cases hy : y < n
      · rw [htb hx hy]
      · simp [hy]
    · simp [hx]
  have hdn : ∀ x y, (at' (dnT (rankT r n)) x).testBit y = (decide (x < n) && decide (y < n) && rk r y x) := by
    intro x y
    rw [dnT_test, rankT_len]
    by_cases hx : x < n
    · by_cases hy : y < n
      · rw [htb hy hx]
      · simp [hy]
    · simp [hx]
  have iff : ∀ {x y}, x < n → y < n → (rk r x y = true ↔ Le r x y) := fun hx hy => rk_iff (by omega) (by omega)
  have hul : ∀ x, at' (upT (rankT r n)) x < M64 := fun x => lt64_of_bits (n := n) (fun j hj => by rw [hup] at hj; simp at hj; exact hj.1.2) h2
  refine ⟨by rw [rankT_len]; omega, by rw [rankT_len]; exact h2, fun w hw => ?_, fun a ha => ?_, fun a ha b hb => ?_⟩
  · unfold rankT at hw ⊢
    simp at hw
    obtain ⟨x, _, rfl⟩ := hw
    simp
  · rw [rankT_len] at ha
    refine ⟨by rw [hup]; simp [ha, (iff ha ha).2 (Le.refl _ _)], ?_, fun c hc => ?_⟩
    · apply Nat.eq_of_testBit_eq
      intro j
      rw [Nat.testBit_and, hup, hdn, Nat.testBit_two_pow]
      by_cases ej : a = j
      · subst ej; simp [ha, (iff ha ha).2 (Le.refl _ _)]
      · by_cases hj : j < n
        · cases h3 : rk r a j with
          | false => simp [ej]
          | true => cases h4 : rk r j a with
            | false => simp [ej]
            | true => exact absurd (((iff ha hj).1 h3).anti ((iff hj ha).1 h4)) ej
        · simp [ej, hj]
    · rw [nandN_zero _ _ (hul c) (hul a)]
      intro j hj
      rw [hup] at hc hj ⊢
      simp at hc hj ⊢
      exact ⟨⟨ha, hj.1.2⟩, (iff ha hj.1.2).2 (((iff ha hc.1.2).1 hc.2).trans ((iff hc.1.2 hj.1.2).1 hj.2))⟩
  · rw [rankT_len] at ha
    have hb' : b < n := by omega
    have hma : a % r < r := Nat.mod_lt _ (by omega)
    have hmb : b % r < r := Nat.mod_lt _ (by omega)
    have hkx : max (a % r) (b % r) < r := by omega
    have hkn : min (a % r) (b % r) < r := by omega
    have hso : a / r ||| b / r < 2 ^ e := Nat.or_lt_two_pow (hnd ha) (hnd hb')
    have hsa : a / r &&& b / r < 2 ^ e := Nat.lt_of_le_of_lt Nat.and_le_left (hnd ha)
    have hJ : mkN r (max (a % r) (b % r)) (a / r ||| b / r) < n := by rw [hn]; exact mkN_lt hkx hso
    have hM : mkN r (min (a % r) (b % r)) (a / r &&& b / r) < n := by rw [hn]; exact mkN_lt hkn hsa
    have aJ : Le r a (mkN r (max (a % r) (b % r)) (a / r ||| b / r)) := by
      unfold Le; rw [mkN_mod hkx, mkN_div hkx]
      exact ⟨by omega, fun j hj => by rw [Nat.testBit_or, hj]; rfl⟩
    have bJ : Le r b (mkN r (max (a % r) (b % r)) (a / r ||| b / r)) := by
      unfold Le; rw [mkN_mod hkx, mkN_div hkx]
      exact ⟨by omega, fun j hj => by rw [Nat.testBit_or, hj, Bool.or_true]⟩
    have aM : Le r (mkN r (min (a % r) (b % r)) (a / r &&& b / r)) a := by
      unfold Le; rw [mkN_mod hkn, mkN_div hkn]
      exact ⟨by omega, fun j hj => by rw [Nat.testBit_and] at hj; simp at hj; exact hj.1⟩
    have bM : Le r (mkN r (min (a % r) (b % r)) (a / r &&& b / r)) b := by
      unfold Le; rw [mkN_mod hkn, mkN_div hkn]
      exact ⟨by omega, fun j hj => by rw [Nat.testBit_and] at hj; simp at hj; exact hj.2⟩
    have jl : ∀ {z}, Le r a z → Le r b z → Le r (mkN r (max (a % r) (b % r)) (a / r ||| b / r)) z := by
      intro z h h'
      unfold Le; rw [mkN_mod hkx, mkN_div hkx]
      refine ⟨by have := h.1; have := h'.1; omega, fun j hj => ?_⟩
      rw [Nat.testBit_or] at hj; simp at hj
      rcases hj with hj | hj
      · exact h.2 j hj
      · exact h'.2 j hj
    have mg : ∀ {z}, Le r z a → Le r z b → Le r z (mkN r (min (a % r) (b % r)) (a / r &&& b / r)) := by
      intro z h h'
      unfold Le; rw [mkN_mod hkn, mkN_div hkn]
      exact ⟨by have := h.1; have := h'.1; omega, fun j hj => by rw [Nat.testBit_and, h.2 j hj, h'.2 j hj]; rfl⟩
    refine ⟨⟨mkN r (max (a % r) (b % r)) (a / r ||| b / r), ?_, ?_⟩, mkN r (min (a % r) (b % r)) (a / r &&& b / r), ?_, ?_⟩
    · rw [Nat.testBit_and, hup, hup]; simp [ha, hb', hJ, (iff ha hJ).2 aJ, (iff hb' hJ).2 bJ]
    · apply Nat.eq_of_testBit_eq
      intro j
      simp only [Nat.testBit_and, hup]
      by_cases hj : j < n
      · cases h3 : rk r a j with
        | false => simp
        | true => cases h4 : rk r b j with
          | false => simp
          | true => simp [ha, hb', hJ, hj, (iff hJ hj).2 (jl ((iff ha hj).1 h3) ((iff hb' hj).1 h4))]
      · simp [hj]
    · rw [Nat.testBit_and, hdn, hdn]; simp [ha, hb', hM, (iff hM ha).2 aM, (iff hM hb').2 bM]
    · apply Nat.eq_of_testBit_eq
      intro j
      simp only [Nat.testBit_and, hdn]
      by_cases hj : j < n
      · cases h3 : rk r j a with
        | false => simp
        | true => cases h4 : rk r j b with
          | false => simp
          | true => simp [ha, hb', hM, hj, (iff hj hM).2 (mg ((iff hj ha).1 h3) ((iff hj hb').1 h4))]
      · simp [hj]
variable {R : Ro}
theorem rank_sure (hT : HasTab R) (H : AH) (r s : Int) (h : RankMay r s) : ACalls Tryd.prog R 16 [.int .i64 r, .int .i64 s] H fun v H' => Keeps H H' ∧ ∃ l p q, v = .tuple [.ptr (.mu l) 0, .int .i64 0] ∧
    LatIn H' l p q (upT (rankT r.toNat (r.toNat * 2 ^ s.toNat))) (dnT (rankT r.toNat (r.toNat * 2 ^ s.toNat))) ∧ H.length ≤ l ∧ H.length ≤ p ∧ H.length ≤ q := by
  refine (rank_ok hT H r s).mono ?_
  rintro v H' ⟨hk, ⟨_, ⟨_, hy⟩ | ⟨hn, _⟩⟩ | ⟨hn, _⟩⟩
  · exact ⟨hk, hy⟩
  · exact absurd (rank_good (by have := h.1; omega) h.2.2.2.2) hn
  · exact absurd h hn
theorem rank_no (hT : HasTab R) (H : AH) (r s : Int) (h : ¬ RankMay r s) : ACalls Tryd.prog R 16 [.int .i64 r, .int .i64 s] H fun v H' => Keeps H H' ∧ v = .tuple [.nilptr, .int .i64 1] := by
  refine (rank_ok hT H r s).mono ?_
  rintro v H' ⟨hk, ⟨hm, _⟩ | ⟨_, hv⟩⟩
  · exact absurd hm h
  · exact ⟨hk, hv⟩
end Go.Proofs.YtjncbipaikmogaaDoor.Latt
