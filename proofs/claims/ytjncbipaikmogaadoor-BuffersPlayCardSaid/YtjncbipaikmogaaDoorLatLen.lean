/- How many labels a lattice has. -/
import Derived.Test.YtjncbipaikmogaaDoorLatRank
namespace Go.Proofs.YtjncbipaikmogaaDoor.Latt
open Go Go.RowKit Am
set_option maxRecDepth 100000
set_option linter.unusedSimpArgs false
set_option linter.unusedVariables false
attribute [-simp] Am.binEv Am.intBin Am.read1
attribute [local simp] binEv_lss binEv_leq binEv_gtr binEv_geq binEv_eql binEv_neq binEv_add binEv_sub binEv_mul binEv_shr58 read1_ro read1_mu
variable {R : Ro}
theorem len_ok {H : AH} {l : Nat} {up dn : List Nat} (hL : LatAt R H l up dn) : ACalls Tryd.prog R 27 [.ptr (.mu l) 0] H fun v H' => v = .int .i64 up.length ∧ H' = H := by
  obtain ⟨⟨av, bv, rest0, hbox, hav, hbv⟩, hpos, hlen, hle, hbu, hbd⟩ := hL
  refine ACalls.of_wpE Fns.ok27 (by simp [Fns.a27]) ?_
  have hz0 : up ≠ [] := List.length_pos_iff.1 hpos
  rcases hav with ⟨_, hnil⟩ | ⟨l1, off1, cap1, rfl, hread1⟩
  · simp at hnil; exact absurd hnil hz0
  simp [Fns.a27, hbox, eqEv]
theorem len_nil (H : AH) : ACalls Tryd.prog R 27 [.nilptr] H fun v H' => v = .int .i64 0 ∧ H' = H := by
  refine ACalls.of_wpE Fns.ok27 (by simp [Fns.a27]) ?_
  simp [Fns.a27, eqEv]
/-- Whether there is a label. -/
def isL (n : Nat) (a : Int) : Bool := decide (0 ≤ a) && decide (a < n)
end Go.Proofs.YtjncbipaikmogaaDoor.Latt
