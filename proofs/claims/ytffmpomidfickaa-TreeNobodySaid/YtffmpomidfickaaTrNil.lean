/- No tree. -/
import Derived.Test.YtffmpomidfickaaTrLeaf
namespace Go.Proofs.Ytffmpomidfickaa.Tr
open Go Go.RowKit Am
set_option maxRecDepth 100000
set_option linter.unusedSimpArgs false
set_option linter.unusedVariables false
attribute [-simp] Am.binEv Am.intBin Am.read1
attribute [local simp] binEv_lss binEv_leq binEv_gtr binEv_geq binEv_eql binEv_neq binEv_add binEv_sub binEv_mul read1_ro read1_mu
variable {R : Ro}
theorem nodes_nil (H : AH) : ACalls Try.prog R 45 [.nilptr] H fun v G => v = .nilslice ∧ G = H := by
  refine ACalls.of_wpE Fns.ok45 (by simp [Fns.a45]) ?_
  simp [Fns.a45, eqEv]
theorem idx_nil (g : AV) (H : AH) : ACalls Try.prog R 46 [.nilslice, g] H fun v G => v = .int .i64 (-1) ∧ G = H := by
  refine ACalls.of_wpE Fns.ok46 (by simp [Fns.a46]) ?_
  simp [Fns.a46]
  refine AWp.loop (fun e G => G = H ∧ e 7 = .int .i64 0 ∧ e 8 = .int .i64 0) (fun e _ => 0) ⟨rfl, by simp, by simp⟩ ?_
  rintro e G ⟨rfl, h7, h8⟩
  refine wpE_sound _ ?_
  simp [h7, h8]
theorem leaf_nil (p : PA) (H : AH) : ACalls Try.prog R 29 [.nilptr, p.av] H fun v G => G = H ∧ v = .int .i64 (-1) := by
  refine ACalls.gc ?_
  refine ACalls.of_wpE Fns.ok29 (by simp [Fns.a29]) ?_
  simp [Fns.a29, PA.av, PA.cells]
  refine (nodes_nil _).mono ?_
  rintro v G ⟨rfl, rfl⟩
  simp
  refine (idx_nil _ _).mono ?_
  rintro v G ⟨rfl, rfl⟩
  simp [ren]
theorem has_nil (p : PA) (H : AH) : ACalls Try.prog R 18 [.nilptr, p.av] H fun v G => G = H ∧ v = .bool false := by
  refine ACalls.gc ?_
  refine ACalls.of_wpE Fns.ok18 (by simp [Fns.a18]) ?_
  have h2 := leaf_nil (R := R) p (H ++ [.cells p.cells 25])
  simp [Fns.a18, PA.av, PA.cells]
  simp only [PA.av, PA.cells] at h2
  refine h2.mono ?_
  rintro v G ⟨rfl, rfl⟩
  simp [ren]
end Go.Proofs.Ytffmpomidfickaa.Tr
