/- No tree. -/
import Derived.Test.YtbcfhiohdamcjaaTrLeaf
namespace Go.Proofs.Ytbcfhiohdamcjaa.Tr
open Go Go.RowKit Am
set_option maxRecDepth 100000
set_option linter.unusedSimpArgs false
set_option linter.unusedVariables false
attribute [-simp] Am.binEv Am.intBin Am.read1
attribute [local simp] binEv_lss binEv_leq binEv_gtr binEv_geq binEv_eql binEv_neq binEv_add binEv_sub binEv_mul read1_ro read1_mu
variable {R : Ro}
theorem nodes_nil (H : AH) : ACalls Try.prog R 40 [.nilptr] H fun v G => v = .nilslice ∧ G = H := by
  refine ACalls.of_wpE Fns.ok40 (by simp [Fns.a40]) ?_
  simp [Fns.a40, eqEv]
theorem idx_nil (g : AV) (H : AH) : ACalls Try.prog R 49 [.nilslice, g] H fun v G => v = .int .i64 (-1) ∧ G = H := by
  refine ACalls.of_wpE Fns.ok49 (by simp [Fns.a49]) ?_
  simp [Fns.a49]
  refine AWp.loop (fun e G => G = H ∧ e 7 = .int .i64 0 ∧ e 8 = .int .i64 0) (fun e _ => 0) ⟨rfl, by simp, by simp⟩ ?_
  rintro e G ⟨rfl, h7, h8⟩
  refine wpE_sound _ ?_
  simp [h7, h8]
theorem leaf_nil (p : PA) (H : AH) : ACalls Try.prog R 34 [.nilptr, p.av] H fun v G => G = H ∧ v = .int .i64 (-1) := by
  refine ACalls.gc ?_
  refine ACalls.of_wpE Fns.ok34 (by simp [Fns.a34]) ?_
  simp [Fns.a34, PA.av, PA.cells]
  refine (nodes_nil _).mono ?_
  rintro v G ⟨rfl, rfl⟩
  simp
  refine (idx_nil _ _).mono ?_
  rintro v G ⟨rfl, rfl⟩
  simp [ren]
theorem has_nil (p : PA) (H : AH) : ACalls Try.prog R 20 [.nilptr, p.av] H fun v G => G = H ∧ v = .bool false := by
  refine ACalls.gc ?_
  refine ACalls.of_wpE Fns.ok20 (by simp [Fns.a20]) ?_
  have h2 := leaf_nil (R := R) p (H ++ [.cells p.cells 32])
  simp [Fns.a20, PA.av, PA.cells]
  simp only [PA.av, PA.cells] at h2
  refine h2.mono ?_
  rintro v G ⟨rfl, rfl⟩
  simp [ren]
end Go.Proofs.Ytbcfhiohdamcjaa.Tr
