/- The lattice's small functions: the lowest bit; the best of a set. -/
import Derived.Test.YtjncbipaikmogaaDoorTab
import Derived.Test.YtjncbipaikmogaaDoorAmBits
namespace Go.Proofs.YtjncbipaikmogaaDoor.Latt
open Go Go.RowKit Am
set_option maxRecDepth 100000
set_option linter.unusedSimpArgs false
set_option linter.unusedVariables false
attribute [-simp] Am.binEv Am.intBin Am.read1
attribute [local simp] binEv_lss binEv_leq binEv_gtr binEv_geq binEv_eql binEv_neq binEv_add binEv_sub binEv_mul binEv_shr58 read1_ro read1_mu
variable {R : Ro}
/-- The table of the lowest bits lies there. -/
def HasTab (R : Ro) : Prop := ∀ j, j < 64 → R 0 j = some (.int .u8 (Lib.deBruijn64tab.getD j 0 : Nat))
theorem tz_ok (hT : HasTab R) (H : AH) (x : Nat) (h0 : x ≠ 0) (hx : x < M64) : ACalls Tryd.prog R 47 [.int .u64 (x : Int)] H fun v H' => v = .int .i64 (Lib.ctz 64 x : Nat) ∧ H' = H := by
  refine ACalls.of_wpE Fns.ok47 (by simp [Fns.a47]) ?_
  obtain ⟨idx, hi, htab, hkey⟩ := tz_key x h0 hx
  have hl := (ctz_low x h0 hx).1
  have hR := hT idx hi
  rw [htab] at hR
  have hneg : IntKind.u64.wrap (-(x : Int)) = ((M64 - x : Nat) : Int) := by
    rw [IntKind.wrap_u64]; unfold M64 at hx ⊢; omega
  have hand := binEv_and64 x (M64 - x) hx (by unfold M64 at *; omega)
  have h0' : ¬ ((x : Int) = 0) := by omega
  have hi' : (idx : Int) < 64 := by omega
  have hw : IntKind.i64.wrap (Lib.ctz 64 x : Nat) = (Lib.ctz 64 x : Nat) := wrap_small .i64 _ (by simp only [mx]; omega) (by simp only [neg?, mx, if_true]; omega)
  simp [Fns.a47, h0, h0', hneg, hand, hkey, hi, hi', hR, hw]
theorem best_ok (hT : HasTab R) (H : AH) (set : Nat) (hs : set < M64) (of : List Nat) (hof : ∀ x ∈ of, x < M64) (v : AV) (hv : Sees R H v (of.map u64v)) (hb : ∀ j, set.testBit j = true → j < of.length) :
    ACalls Tryd.prog R 26 [.int .u64 (set : Int), v] H fun r H' => H' = H ∧ ((r = .int .i64 (-1) ∧ ∀ i, set.testBit i = true → at' of i &&& set ≠ set) ∨ ∃ i : Nat, r = .int .i64 i ∧ set.testBit i = true ∧ at' of i &&& set = set) := by
  refine ACalls.of_wpE Fns.ok26 (by simp [Fns.a26]) ?_
  simp [Fns.a26]
  refine AWp.loop (fun e H' => H' = H ∧ e 0 = .int .u64 (set : Int) ∧ e 1 = v ∧ ∃ rest : Nat, e 5 = .int .u64 (rest : Int) ∧ (∀ j, rest.testBit j = true → set.testBit j = true) ∧ rest ≤ set ∧ ∀ j, set.testBit j = true → rest.testBit j = false → at' of j &&& set ≠ set) (fun e _ => match e 5 with | .int _ i => i.toNat | _ => 0) ⟨rfl, rfl, rfl, set, rfl, fun j h => h, Nat.le_refl _, fun j h1 h2 => by rw [h1] at h2; cases h2⟩ ?_
  rintro e H' ⟨rfl, h0, h1, rest, h5, hsub, hle, hno⟩
  refine wpE_sound _ ?_
  by_cases hz : rest = 0
  · subst hz
    simp [h0, h1, h5]
    intro i hi
    exact hno i hi (by simp)
  · have hr : rest < M64 := Nat.lt_of_le_of_lt hle hs
    obtain ⟨hk, hbit, _, hclr⟩ := ctz_low rest hz hr
    have hlt := hb _ (hsub _ hbit)
    rcases hv with ⟨_, hnil⟩ | ⟨l, off, cap, hv, hread⟩
    · simp at hnil; subst hnil; simp at hlt
    rw [hv] at h1
    have hrd := hread (Lib.ctz 64 rest) (u64v (at' of (Lib.ctz 64 rest))) (by rw [List.getElem?_map, List.getElem?_eq_getElem hlt]; simp [at', List.getElem?_eq_getElem hlt])
    have hox : at' of (Lib.ctz 64 rest) < M64 := hof _ (by unfold at'; rw [List.getD_eq_getElem?_getD, List.getElem?_eq_getElem hlt]; exact List.getElem_mem hlt)
    have hand := binEv_and64 (at' of (Lib.ctz 64 rest)) set hox hs
    have hz' : ¬ ((rest : Int) = 0) := by omega
    have hlt' : ((Lib.ctz 64 rest : Nat) : Int) < (of.length : Int) := by omega
    simp [h0, h1, h5, hz, hz']
    refine (tz_ok hT _ rest hz hr).mono ?_
    rintro v' H'' ⟨rfl, rfl⟩
    by_cases hok : at' of (Lib.ctz 64 rest) &&& set = set
    · simp [h0, h1, h5, hlt, hlt', hrd, u64v, hand, hok]
      exact ⟨_, rfl, hsub _ hbit, hok⟩
    · have hok' : ¬ (((at' of (Lib.ctz 64 rest) &&& set : Nat) : Int) = (set : Int)) := by omega
      have hdec := binEv_dec64 rest hz hr
      have hcl := binEv_and64 rest (rest - 1) hr (by omega)
      simp [h0, h1, h5, hlt, hlt', hrd, u64v, hand, hok, hok', hdec, hcl]
      refine ⟨⟨by rw [hv]; simp, rest &&& (rest - 1), rfl, fun j hj => hsub j ?_, by have := clear_lt rest hz; omega, fun j h1 h2 => ?_⟩, clear_lt rest hz⟩
      · rw [hclr] at hj; simp at hj; exact hj.1
      · rw [hclr] at h2
        simp at h2
        cases h3 : rest.testBit j with
        | false => exact hno j h1 h3
        | true => rw [h2 h3]; exact hok
end Go.Proofs.YtjncbipaikmogaaDoor.Latt
