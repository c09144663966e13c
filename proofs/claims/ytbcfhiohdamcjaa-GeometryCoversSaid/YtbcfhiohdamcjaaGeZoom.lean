/- One pane alone. -/
import Derived.Test.YtbcfhiohdamcjaaTrLeaf
namespace Go.Proofs.Ytbcfhiohdamcjaa.Ge
open Go Go.RowKit Am Tr
set_option maxRecDepth 100000
set_option linter.unusedSimpArgs false
set_option linter.unusedVariables false
attribute [-simp] Am.binEv Am.intBin Am.read1
attribute [local simp] binEv_lss binEv_leq binEv_gtr binEv_geq binEv_eql binEv_neq binEv_add binEv_sub binEv_mul read1_ro read1_mu
variable {R : Ro}
structure RE where
  x : Int
  y : Int
  w : Int
  h : Int
deriving DecidableEq
def RE.cells (z : RE) : List AV := [.int .i64 z.x, .int .i64 z.y, .int .i64 z.w, .int .i64 z.h]
def RE.av (z : RE) : AV := .agg z.cells
def side (n : Int) : Prop := 0 ≤ n ∧ n ≤ 400
instance (n : Int) : Decidable (side n) := inferInstanceAs (Decidable (_ ∧ _))
def RE.may (z : RE) : Bool := decide (side z.x ∧ side z.y ∧ side z.w ∧ side z.h)
def RE.empty (z : RE) : Bool := decide (z.w = 0) || decide (z.h = 0)
theorem empty_ok (z : RE) (H : AH) : ACalls Try.prog R 21 [z.av] H fun v G => G = H ∧ v = .bool z.empty := by
  refine ACalls.gc ?_
  obtain ⟨x, y, w, h⟩ := z
  refine ACalls.of_wpE Fns.ok21 (by simp [Fns.a21]) ?_
  by_cases hw : w = 0
  · simp [Fns.a21, RE.av, RE.cells, hw, AO.content, readN, ren, RE.empty]
  · simp [Fns.a21, RE.av, RE.cells, hw, AO.content, readN, ren, RE.empty]
theorem may_ok (z : RE) (H : AH) : ACalls Try.prog R 17 [z.av] H fun v G => G = H ∧ v = .bool z.may := by
  refine ACalls.gc ?_
  obtain ⟨x, y, w, h⟩ := z
  refine ACalls.of_wpE Fns.ok17 (by simp [Fns.a17]) ?_
  simp [Fns.a17, RE.av, RE.cells, AO.content, readN, splice]
  refine AWp.loop (fun e G => (∃ X, G = H ++ X) ∧ e 13 = .agg [.int .i64 x, .int .i64 y, .int .i64 w, .int .i64 h] ∧ ∃ i : Nat, e 14 = .int .i64 i ∧ i ≤ 4 ∧ (0 < i → side x) ∧ (1 < i → side y) ∧ (2 < i → side w) ∧ (3 < i → side h)) (fun e _ => match e 14 with | .int _ i => ((4 : Int) - i).toNat | _ => 0)
    ⟨⟨_, rfl⟩, by simp; rfl, 0, by simp, by omega, by omega, by omega, by omega, by omega⟩ ?_
  rintro e G ⟨⟨X, rfl⟩, h13, i, h14, hi, p0, p1, p2, p3⟩
  refine wpE_sound _ ?_
  have h5 : i = 0 ∨ i = 1 ∨ i = 2 ∨ i = 3 ∨ i = 4 := by omega
  rcases h5 with rfl | rfl | rfl | rfl | rfl
  all_goals simp at p0 p1 p2 p3
  case inr.inr.inr.inr => simp [h13, h14, RE.may, p0, p1, p2, p3, ren]
  case inl =>
    by_cases hx : side x
    · have h1 : ¬ x < 0 := by unfold side at hx; omega
      have h2 : ¬ 400 < x := by unfold side at hx; omega
      simp [h13, h14, h1, h2]
      exact ⟨⟨1, by decide, by omega, fun _ => hx, by omega, by omega, by omega⟩, by decide⟩
    · by_cases h1 : x < 0
      · simp [h13, h14, h1, RE.may, hx, ren]
      · have h2 : 400 < x := by unfold side at hx; omega
        simp [h13, h14, h1, h2, RE.may, hx, ren]
  case inr.inl =>
    by_cases hx : side y
    · have h1 : ¬ y < 0 := by unfold side at hx; omega
      have h2 : ¬ 400 < y := by unfold side at hx; omega
      simp [h13, h14, h1, h2]
      exact ⟨⟨2, by decide, by omega, fun _ => p0, fun _ => hx, by omega, by omega⟩, by decide⟩
    · by_cases h1 : y < 0
      · simp [h13, h14, h1, RE.may, hx, ren]
      · have h2 : 400 < y := by unfold side at hx; omega
        simp [h13, h14, h1, h2, RE.may, hx, ren]
  case inr.inr.inl =>
    by_cases hx : side w
    · have h1 : ¬ w < 0 := by unfold side at hx; omega
      have h2 : ¬ 400 < w := by unfold side at hx; omega
      simp [h13, h14, h1, h2]
      exact ⟨⟨3, by decide, by omega, fun _ => p0, fun _ => p1, fun _ => hx, by omega⟩, by decide⟩
    · by_cases h1 : w < 0
      · simp [h13, h14, h1, RE.may, hx, ren]
      · have h2 : 400 < w := by unfold side at hx; omega
        simp [h13, h14, h1, h2, RE.may, hx, ren]
  case inr.inr.inr.inl =>
    by_cases hx : side h
    · have h1 : ¬ h < 0 := by unfold side at hx; omega
      have h2 : ¬ 400 < h := by unfold side at hx; omega
      simp [h13, h14, h1, h2]
      exact ⟨⟨4, by decide, by omega, fun _ => p0, fun _ => p1, fun _ => p2, fun _ => hx⟩, by decide⟩
    · by_cases h1 : h < 0
      · simp [h13, h14, h1, RE.may, hx, ren]
      · have h2 : 400 < h := by unfold side at hx; omega
        simp [h13, h14, h1, h2, RE.may, hx, ren]
end Go.Proofs.Ytbcfhiohdamcjaa.Ge
