/- One pane alone, in the evaluator's words. -/
import Derived.Test.YtbcfhiohdamcjaaGeZoomL
import Derived.Test.YtbcfhiohdamcjaaTrCtr
namespace Go.Proofs.Ytbcfhiohdamcjaa.Ge
open Go Go.RowKit Am Tr
set_option maxRecDepth 100000
set_option linter.unusedSimpArgs false
set_option linter.unusedVariables false
attribute [-simp] Am.binEv Am.intBin Am.read1
attribute [local simp] binEv_lss binEv_leq binEv_gtr binEv_geq binEv_eql binEv_neq binEv_add binEv_sub binEv_mul read1_ro read1_mu
variable {R : Ro}
theorem zoom_nil (p : PA) (z : RE) (H : AH) : ACalls Try.prog R 12 [.nilptr, p.av, z.av] H fun v G => G = H ∧ v = .nilslice := by
  refine ACalls.gc ?_
  refine ACalls.of_wpR Fns.ok12 (by simp [Fns.a12]) ?_
  have h2 := has_nil (R := R) p (H ++ [.cells p.cells 32, .cells z.cells 29])
  simp [Fns.a12, PA.av, RE.av, PA.cells, RE.cells]
  simp only [PA.av, PA.cells, RE.av, RE.cells] at h2
  refine h2.mono ?_
  rintro v G ⟨rfl, rfl⟩
  simp [ren]
noncomputable def ctrZoom : Ctr := fun _ args h n k => match args with
  | [.ptr (.mu t) 0, .agg [.int .i64 a, .int .i64 b, .int .i64 c], .agg [.int .i64 x, .int .i64 y, .int .i64 w, .int .i64 g]] => treK h t fun N =>
    match (hasP ⟨a, b, c⟩ N && (RE.mk x y w g).may) with
    | true => fN (lv N).length fun l => fAVL (zoomV (RE.mk x y w g).cut ⟨a, b, c⟩ (lv N)) fun D => pushF h n (.row D 36 7) fun h' n' => k (.slice (.mu n) 0 l (.opn 0)) h' n'
    | false => k .nilslice h n
  | [.nilptr, .agg [.int .i64 a, .int .i64 b, .int .i64 c], .agg [.int .i64 x, .int .i64 y, .int .i64 w, .int .i64 g]] => k .nilslice h n
  | _ => false
theorem ctrZoom_ok : CtrOk Try.prog R 12 ctrZoom := by
  intro m _ _ args h n k H s hk
  unfold ctrZoom at hk
  split at hk
  · rename_i t a b c x y w g
    obtain ⟨j, l, cp, N, ht, hq⟩ := treK_ok s hk
    split at hq
    · rename_i hb
      rw [Bool.and_eq_true] at hb
      rw [fN_eq, fAVL_eq, pushF_eq] at hq
      refine (zoom_ok ht ⟨a, b, c⟩ ⟨x, y, w, g⟩ hb.1 hb.2).mono ?_
      rintro v G ⟨rfl, rfl⟩
      exact ⟨_, _, s.push _, by rw [s.len]; exact hq⟩
    · rename_i hb
      exact CtrOk.done s hq ((zoom_no ht ⟨a, b, c⟩ ⟨x, y, w, g⟩ hb).mono fun v G h => ⟨h.2, h.1⟩)
  · rename_i a b c x y w g
    exact CtrOk.done s hk ((zoom_nil ⟨a, b, c⟩ ⟨x, y, w, g⟩ H).mono fun v G h => ⟨h.2, h.1⟩)
  · cases hk
end Go.Proofs.Ytbcfhiohdamcjaa.Ge
