/- sync.Once's slow road, walked; the evaluator's contracts. -/
import Derived.Test.YtjglohfkpigdfaaDoorTab
import Derived.Test.YtjglohfkpigdfaaDoorAmOnce
import Derived.WalkKit
namespace Go.Proofs.YtjglohfkpigdfaaDoor.Fns
open Go Go.RowKit Am
set_option maxRecDepth 100000
theorem once_law : OnceLaw Tryd.prog 35 37 34 39 38 1 := by
  intro w b o f fst cap R hb hlock
  go_enter_defers Tryd.func35, Tryd.ntmps35
  go_wp2_with (first
    | (go_at_call 37; refine hlock.mono ?_; rintro e w1 ⟨⟨v, rfl⟩, hload⟩)
    | (go_at_call 34; refine hload.mono ?_; rintro e w2 ⟨t, rfl, h1, h2⟩))
  · rw [callFunc_run hb]
    simp only [Oper.upon_enter]
    refine (h2 (by simpa using ‹(!t) = true›)).mono ?_
    rintro e w3 ⟨⟨v, rfl⟩, h3⟩
    go_wp2
    refine leaves_cons (f := 39) (args := #[.pointer (some ⟨b, o, none⟩), .bool true]) (by simp) (callFunc_run (by kernel_rfl) _) (h3.mono ?_)
    rintro e u w4 ⟨rfl, ⟨v, rfl⟩, h4⟩
    refine leaves_cons (f := 38) (args := #[.pointer (some ⟨b, o + 1, none⟩)]) (by simp [settle]) (callFunc_run (by kernel_rfl) _) (h4.mono ?_)
    rintro e u w5 ⟨rfl, ⟨v, rfl⟩, h5⟩
    exact ⟨_, results_none rfl _ _ _, h5⟩
  · refine leaves_cons (f := 38) (args := #[.pointer (some ⟨b, o + 1, none⟩)]) (by simp) (callFunc_run (by kernel_rfl) _) ((h1 (by simpa using ‹(!t) = false›)).mono ?_)
    rintro e u w5 ⟨rfl, ⟨v, rfl⟩, h5⟩
    exact ⟨_, results_none rfl _ _ _, h5⟩
noncomputable section
def ctr : FuncId → Option Ctr
  | 35 => some (ctrOnce Tryd.prog 37 34 a39 a38 1)
  | _ => none
theorem ctr_ok {R : Ro} : ∀ f g, ctr f = some g → CtrOk Tryd.prog R f g := by
  intro f g h
  unfold ctr at h
  split at h
  · cases h
    intro m hm hc args h n k H s hk
    exact ctrOnce_ok once_law ok39 ok38 hm hc s hk
  · cases h
end
end Go.Proofs.YtjglohfkpigdfaaDoor.Fns
