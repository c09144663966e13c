/- The library's contracts for the evaluator, and Form's. -/
import Derived.Test.YthcpfmibcoeleaaDoorShelf
import Derived.Test.YthcpfmibcoeleaaDoorForms
import Derived.Test.YthcpfmibcoeleaaDoorLaid
import Derived.Lib.AtoiErrMem
namespace Go.Proofs.YthcpfmibcoeleaaDoor.Fns
open Go Go.RowKit Am
set_option linter.unusedVariables false
noncomputable section
def ctr : FuncId → Option Ctr
  | 18 => some (ctrLook table)
  | 23 => some ctrCut
  | 41 => some ctrJoin
  | 43 => some (ctrAtoi 108)
  | 45 => some (ctrSplit 9)
  | _ => none
theorem below_drewN (w : World) (n : Nat) : Below w.heap.size w (w.drewN n) :=
  ⟨rfl, rfl, rfl, Nat.le_refl _, fun _ _ => rfl⟩
theorem ctr_ok (m : Int) (l0 o0 l1 o1 : Nat) : ∀ f g, ctr f = some g → CtrOk Tryd.prog (Laid.ro m l0 o0 l1 o1) f g := by
  intro f g h
  unfold ctr at h
  split at h
  · cases h
    exact ctrLook_ok fun s H => form_acalls _ s H
  · cases h
    refine ctrCut_ok (gM := 0) ⟨m, rfl⟩ fun s sep m w hs hm => (Tryd.strings_Cut s sep m w (by omega) hm).mono ?_
    rintro e w' ⟨rfl, n, rfl⟩
    exact ⟨rfl, below_drewN w n⟩
  · cases h
    exact ctrJoin_ok fun bk o c xs sep w h1 h2 h3 h4 h5 => Tryd.strings_Join bk o c xs sep w h1 h2 (by omega) h4 (by omega)
  · cases h
    refine ctrAtoi_ok (gS := 2) (gR := 3) ⟨_, _, _, rfl⟩ ⟨_, _, _, rfl⟩ (fun s v w hs hv => ?_) (fun s w ev hs hn hg hc he => ?_) (fun s w ev hs hv hc he => ?_)
    · refine (Tryd.strconv_Atoi_ok s (by omega) v hv w).mono ?_
      rintro e w' ⟨rfl, rfl | ⟨t, rfl⟩⟩
      · exact ⟨rfl, Below.refl _ _⟩
      · exact ⟨rfl, Lib.bytesWorld_below w 5 t⟩
    · refine (Tryd.strconv_Atoi_syntax s (by omega) hn hg ev w hc he).mono ?_
      rintro e w' ⟨N, rfl, _, _, hb⟩
      exact ⟨N, rfl, hb⟩
    · refine (Tryd.strconv_Atoi_range s (by omega) hv ev w hc he).mono ?_
      rintro e w' ⟨N, rfl, _, _, hb⟩
      exact ⟨N, rfl, hb⟩
  · cases h
    exact ctrSplit_ok (gM := 0) ⟨m, rfl⟩ fun s sep m w hs h1 hm => Tryd.strings_Split s sep m w (by omega) hm h1
  · cases h
end
end Go.Proofs.YthcpfmibcoeleaaDoor.Fns
