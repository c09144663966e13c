/- What is asked of a lattice. -/
import Derived.Test.YtjncbipaikmogaaDoorLatLen
namespace Go.Proofs.YtjncbipaikmogaaDoor.Latt
open Go Go.RowKit Am
set_option maxRecDepth 100000
set_option linter.unusedSimpArgs false
set_option linter.unusedVariables false
attribute [-simp] Am.binEv Am.intBin Am.read1
attribute [local simp] binEv_lss binEv_leq binEv_gtr binEv_geq binEv_eql binEv_neq binEv_add binEv_sub binEv_mul binEv_shr58 read1_ro read1_mu
variable {R : Ro}
theorem has_ok {H : AH} {l : Nat} {up dn : List Nat} (hL : LatAt R H l up dn) (a : Int) : ACalls Tryd.prog R 38 [.ptr (.mu l) 0, .int .i64 a] H fun v H' => v = .bool (isL up.length a) ∧ H' = H := by
  have hl := len_ok (R := R) hL
  refine ACalls.of_wpE Fns.ok38 (by simp [Fns.a38]) ?_
  unfold isL
  by_cases h1 : 0 ≤ a
  · simp [Fns.a38, h1]
    refine hl.mono ?_
    rintro v H' ⟨rfl, rfl⟩
    simp
  · simp [Fns.a38, h1]
/-- Whether a label is below another. -/
def bel (up : List Nat) (a b : Int) : Bool := isL up.length a && (isL up.length b && (at' up a.toNat).testBit b.toNat)
theorem below_ok {H : AH} {l : Nat} {up dn : List Nat} (hL : LatAt R H l up dn) (a b : Int) : ACalls Tryd.prog R 17 [.ptr (.mu l) 0, .int .i64 a, .int .i64 b] H fun v H' => v = .bool (bel up a b) ∧ H' = H := by
  have hha := has_ok (R := R) hL a
  have hhb := has_ok (R := R) hL b
  obtain ⟨⟨av, bv, rest0, hbox, hav, hbv⟩, hpos, hlen, hle, hbu, hbd⟩ := hL
  refine ACalls.of_wpE Fns.ok17 (by simp [Fns.a17]) ?_
  have hz0 : up ≠ [] := List.length_pos_iff.1 hpos
  rcases hav with ⟨_, hnil⟩ | ⟨l1, off1, cap1, rfl, hread1⟩
  · simp at hnil; exact absurd hnil hz0
  simp [Fns.a17]
  refine hha.mono ?_
  rintro v H' ⟨rfl, rfl⟩
  unfold bel
  cases ha : isL up.length a with
  | false => simp
  | true =>
    simp
    refine hhb.mono ?_
    rintro v H' ⟨rfl, rfl⟩
    cases hb : isL up.length b with
    | false => simp
    | true =>
      simp [isL] at ha hb
      obtain ⟨an, rfl⟩ : ∃ n : Nat, a = n := ⟨a.toNat, by omega⟩
      obtain ⟨bn, rfl⟩ : ∃ n : Nat, b = n := ⟨b.toNat, by omega⟩
      have han : an < up.length := by omega
      have hr1 := hread1 an _ (at'_map han)
      obtain ⟨s1, hshr, hbit⟩ := binEv_bit (at' up an) bn (lt64_of_bits (hbu an) hle) (by omega)
      have han' : (an : Int) < (up.length : Int) := by omega
      cases ht : (at' up an).testBit bn with
      | true => rw [ht] at hbit; simp [hbox, han, han', hr1, u64v, hshr, hbit, ht]
      | false => rw [ht] at hbit; simp [hbox, han, han', hr1, u64v, hshr, hbit, ht]
/-! ### The order of ranks alone is one -/
theorem rk_chain {n x y : Nat} (hx : x < n) (hy : y < n) : rk n x y = decide (x ≤ y) := by
  unfold rk
  rw [Nat.mod_eq_of_lt hx, Nat.mod_eq_of_lt hy, Nat.div_eq_of_lt hx, Nat.div_eq_of_lt hy]
  simp [nandN]
theorem tb_rank {r n x y : Nat} (hx : x < n) (hy : y < n) : tb (rankT r n) x y = rk r x y := by
  unfold tb
  rw [rankT_get r hx]
  simp [hy]
theorem chain_good {n : Nat} (h1 : 1 ≤ n) (h2 : n ≤ 64) : GoodT (rankT n n) := by
  have hup : ∀ x y, (at' (upT (rankT n n)) x).testBit y = (decide (x < n) && decide (y < n) && decide (x ≤ y)) := by
    intro x y
    rw [upT_test, rankT_len]
    by_cases hx : x < n
    · by_cases hy : y < n
      · rw [tb_rank hx hy, rk_chain hx hy]
      · simp [hy]
    · simp [hx]
  have hdn : ∀ x y, (at' (dnT (rankT n n)) x).testBit y = (decide (x < n) && decide (y < n) && decide (y ≤ x)) := by
    intro x y
    rw [dnT_test, rankT_len]
    by_cases hx : x < n
    · by_cases hy : y < n
      · rw [tb_rank hy hx, rk_chain hy hx]
      · simp [hy]
    · simp [hx]
  have hul : ∀ x, at' (upT (rankT n n)) x < M64 := fun x => lt64_of_bits (n := n) (fun j hj => by rw [hup] at hj; simp at hj; exact hj.1.2) h2
  refine ⟨by rw [rankT_len]; exact h1, by rw [rankT_len]; exact h2, fun r hr => ?_, fun a ha => ?_, fun a ha b hb => ?_⟩
  · unfold rankT at hr ⊢
    simp at hr
    obtain ⟨x, _, rfl⟩ := hr
    simp
  · rw [rankT_len] at ha
    refine ⟨by rw [hup]; simp [ha], ?_, fun c hc => ?_⟩
    · apply Nat.eq_of_testBit_eq
      intro j
      rw [Nat.testBit_and, hup, hdn, Nat.testBit_two_pow]
      by_cases e : a = j
      · subst e; simp [ha]
      · by_cases h3 : a ≤ j
        · have : ¬ j ≤ a := by omega
          simp [e, this]
        · simp [e, h3]
    · rw [nandN_zero _ _ (hul c) (hul a)]
      intro j hj
      rw [hup] at hc hj ⊢
      simp at hc hj ⊢
      exact ⟨⟨ha, hj.1.2⟩, by omega⟩
  · rw [rankT_len] at ha
    refine ⟨⟨a, ?_, ?_⟩, b, ?_, ?_⟩
    · rw [Nat.testBit_and, hup, hup]; simp; omega
    · apply Nat.eq_of_testBit_eq
      intro j
      simp only [Nat.testBit_and, hup]
      cases decide (a < n) <;> cases decide (j < n) <;> cases decide (a ≤ j) <;> simp
    · rw [Nat.testBit_and, hdn, hdn]; simp; omega
    · apply Nat.eq_of_testBit_eq
      intro j
      simp only [Nat.testBit_and, hdn]
      cases decide (b < n) <;> cases decide (j < n) <;> cases decide (j ≤ b) <;> simp
end Go.Proofs.YtjncbipaikmogaaDoor.Latt
