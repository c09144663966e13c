/- Whether a table is an order. -/
import Derived.Test.YtjncbipaikmogaaDoorLatBest
namespace Go.Proofs.YtjncbipaikmogaaDoor.Latt
open Go Go.RowKit Am
set_option maxRecDepth 100000
set_option linter.unusedSimpArgs false
set_option linter.unusedVariables false
attribute [-simp] Am.binEv Am.intBin Am.read1
attribute [local simp] binEv_lss binEv_leq binEv_gtr binEv_geq binEv_eql binEv_neq binEv_add binEv_sub binEv_mul binEv_shr58 read1_ro read1_mu
variable {R : Ro}
/-- A lattice in the heap: the sets above and below each label. -/
structure LatAt (R : Ro) (H : AH) (l : Nat) (up dn : List Nat) : Prop where
  box : ∃ av bv rest, H[l]? = some (.cells (av :: bv :: rest) 76) ∧ Sees R H av (up.map u64v) ∧ Sees R H bv (dn.map u64v)
  pos : 0 < up.length
  len : dn.length = up.length
  le : up.length ≤ 64
  bup : ∀ x j, (at' up x).testBit j = true → j < up.length
  bdn : ∀ x j, (at' dn x).testBit j = true → j < up.length
def OrdAt (up dn : List Nat) (a : Nat) : Prop := (at' up a).testBit a = true ∧ at' up a &&& at' dn a = 2 ^ a ∧ ∀ c, (at' up a).testBit c = true → nandN (at' up c) (at' up a) = 0
theorem order_ok (hT : HasTab R) (H : AH) (l : Nat) (up dn : List Nat) (hL : LatAt R H l up dn) : ACalls Tryd.prog R 25 [.ptr (.mu l) 0] H fun r H' => H' = H ∧ ∃ b, r = .bool b ∧ (b = true ↔ ∀ a, a < up.length → OrdAt up dn a) := by
  obtain ⟨⟨av, bv, rest0, hbox, hav, hbv⟩, hpos, hlen, hle, hbu, hbd⟩ := hL
  refine ACalls.of_wpE Fns.ok25 (by simp [Fns.a25]) ?_
  have hz0 : up ≠ [] := List.length_pos_iff.1 hpos
  rcases hav with ⟨_, hnil⟩ | ⟨l1, off1, cap1, rfl, hread1⟩
  · simp at hnil; exact absurd hnil hz0
  rcases hbv with ⟨_, hnil⟩ | ⟨l2, off2, cap2, rfl, hread2⟩
  · simp at hnil; subst hnil; simp at hlen; omega
  simp [Fns.a25, hbox]
  refine AWp.loop (fun e H' => H' = H ∧ e 0 = .ptr (.mu l) 0 ∧ e 9 = .slice l1 off1 up.length cap1 ∧ e 10 = .int .i64 up.length ∧ ∃ i : Nat, e 11 = .int .i64 i ∧ i ≤ up.length ∧ ∀ a, a < i → OrdAt up dn a) (fun e _ => match e 11 with | .int _ i => ((up.length : Int) - i).toNat | _ => 0) ⟨rfl, rfl, by simp, by simp, 0, rfl, by omega, fun a h => absurd h (by omega)⟩ ?_
  rintro e H' ⟨rfl, h0, h9, h10, i, h11, hi, hgood⟩
  refine wpE_sound _ ?_
  by_cases hlt : i < up.length
  · have hlt' : (i : Int) < (up.length : Int) := by omega
    have hw1 : IntKind.i64.wrap ((i : Int) + 1) = (i : Int) + 1 := wrap_small .i64 _ (by simp only [mx]; omega) (by simp only [neg?, mx, if_true]; omega)
    have hr1 := hread1 i _ (at'_map hlt)
    have hr2 := hread2 i _ (at'_map (show i < dn.length by omega))
    have hux := lt64_of_bits (hbu i) hle
    have hdx := lt64_of_bits (hbd i) hle
    obtain ⟨s1, hshr, hbit⟩ := binEv_bit (at' up i) i hux (by omega)
    obtain ⟨s2, hs2, hs2l, hpow⟩ := binEv_pow i (by omega)
    have hand := binEv_and64 (at' up i) (at' dn i) hux hdx
    have hlt2 : (i : Int) < (dn.length : Int) := by omega
    have hlt3 : i < dn.length := by omega
    simp [h0, h9, h10, h11, hlt', hlt, hr1]
    refine AWp.seqDraw Fns.mixed (by decide +kernel) ?_
    by_cases hb1 : (at' up i).testBit i = true
    · by_cases hb2 : at' up i &&& at' dn i = 2 ^ i
      · rw [← hs2] at hb2
        simp [h0, h9, h10, h11, hlt', hlt, hlt2, hlt3, hr1, hr2, u64v, hbox, hshr, hbit, hb1, hand, hpow, hb2]
        refine AWp.loop (fun e H'' => H'' = H' ∧ e 0 = .ptr (.mu l) 0 ∧ e 4 = .int .u64 (at' up i : Nat) ∧ e 9 = .slice l1 off1 up.length cap1 ∧ e 10 = .int .i64 up.length ∧ e 11 = .int .i64 i ∧ ∃ rest : Nat, e 5 = .int .u64 (rest : Int) ∧ (∀ j, rest.testBit j = true → (at' up i).testBit j = true) ∧ rest ≤ at' up i ∧ ∀ c, (at' up i).testBit c = true → rest.testBit c = false → nandN (at' up c) (at' up i) = 0) (fun e _ => match e 5 with | .int _ i => i.toNat | _ => 0) ⟨rfl, by simp [h0], by simp, by simp [h9], by simp [h10], by simp [h11], at' up i, by simp, fun j h => h, Nat.le_refl _, fun c h1 h2 => by rw [h1] at h2; cases h2⟩ ?_
        rintro e H'' ⟨rfl, h0, h4, h9, h10, h11, rest, h5, hsub, hle2, hno⟩
        refine wpE_sound _ ?_
        by_cases hz : rest = 0
        · subst hz
          simp [h0, h4, h9, h10, h11, h5, hw1]
          refine ⟨⟨i + 1, by simp, by omega, fun a ha => ?_⟩, by omega⟩
          by_cases hai : a = i
          · subst hai
            exact ⟨hb1, by rw [hb2, hs2], fun c hc => hno c hc (by simp)⟩
          · exact hgood a (by omega)
        · have hr : rest < M64 := Nat.lt_of_le_of_lt hle2 hux
          obtain ⟨hk, hbit2, _, hclr⟩ := ctz_low rest hz hr
          have hkl := hbu _ _ (hsub _ hbit2)
          have hkl' : ((Lib.ctz 64 rest : Nat) : Int) < (up.length : Int) := by omega
          have hrd := hread1 _ _ (at'_map hkl)
          have hcx := lt64_of_bits (hbu (Lib.ctz 64 rest)) hle
          have hnand := binEv_nand64 (at' up (Lib.ctz 64 rest)) (at' up i) hcx hux
          have hz' : ¬ ((rest : Int) = 0) := by omega
          have hdec := binEv_dec64 rest hz hr
          have hcl := binEv_and64 rest (rest - 1) hr (by omega)
          simp [h0, h4, h9, h10, h11, h5, hz, hz']
          refine AWp.sched [0, 1, 2, 3, 4, 8, 5, 6, 7, 9, 10] Fns.mixed (by decide +kernel) ?_
          simp [h0, h4, h9, h10, h11, h5, hbox]
          refine (tz_ok hT _ rest hz hr).mono ?_
          rintro v' H3 ⟨rfl, rfl⟩
          by_cases hn : nandN (at' up (Lib.ctz 64 rest)) (at' up i) = 0
          · have hn' : ((nandN (at' up (Lib.ctz 64 rest)) (at' up i) : Nat) : Int) = 0 := by omega
            simp [h0, h4, h9, h10, h11, h5, hbox, recheck, hrd, u64v, hkl, hkl', hnand, hn, hn', hdec, hcl]
            refine ⟨⟨rest &&& (rest - 1), rfl, fun j hj => hsub j ?_, by have := clear_lt rest hz; omega, fun c h1 h2 => ?_⟩, clear_lt rest hz⟩
            · rw [hclr] at hj; simp at hj; exact hj.1
            · rw [hclr] at h2
              simp at h2
              cases h3 : rest.testBit c with
              | false => exact hno c h1 h3
              | true => rw [h2 h3]; exact hn
          · have hn' : ¬ ((nandN (at' up (Lib.ctz 64 rest)) (at' up i) : Nat) : Int) = 0 := by omega
            simp [h0, h4, h9, h10, h11, h5, hbox, recheck, hrd, u64v, hkl, hkl', hnand, hn, hn', hdec, hcl]
            exact ⟨i, hlt, fun h => hn (h.2.2 _ (hsub _ hbit2))⟩
      · rw [← hs2] at hb2
        have hb2' : ¬ (((at' up i &&& at' dn i : Nat) : Int) = (s2 : Int)) := by omega
        simp [h0, h9, h10, h11, hlt', hlt, hlt2, hlt3, hr1, hr2, u64v, hbox, hshr, hbit, hb1, hand, hpow, hb2, hb2']
        exact ⟨i, hlt, fun h => hb2 (by rw [h.2.1, hs2])⟩
    · simp only [Bool.not_eq_true] at hb1
      simp [h0, h9, h10, h11, hlt', hlt, hlt2, hlt3, hr1, hr2, u64v, hbox, hshr, hbit, hb1, hand, hpow]
      exact ⟨i, hlt, fun h => by rw [h.1] at hb1; cases hb1⟩
  · obtain rfl : i = up.length := by omega
    simp [h0, h9, h10, h11]
    exact hgood
end Go.Proofs.YtjncbipaikmogaaDoor.Latt
