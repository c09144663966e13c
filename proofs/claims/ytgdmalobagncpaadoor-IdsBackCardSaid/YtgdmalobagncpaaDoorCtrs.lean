/- The library's contracts for the evaluator: strings.Split, Join, strconv.Atoi. -/
import Derived.Test.YtgdmalobagncpaaDoorShelf
import Derived.Test.YtgdmalobagncpaaDoorAmLib
import Derived.Test.YtgdmalobagncpaaDoorTab
import Derived.Test.YtgdmalobagncpaaDoorLaid
import Derived.Lib.AtoiErrMem
namespace Go.Proofs.YtgdmalobagncpaaDoor.Fns
open Go Go.RowKit Am
noncomputable section
def ctr : FuncId → Option Ctr
  | 19 => some (ctrSplit 9)
  | 20 => some (ctrAtoi 107)
  | 22 => some ctrJoin
  | _ => none
theorem ctr_ok (m : Int) (l0 o0 l1 o1 : Nat) : ∀ f g, ctr f = some g → CtrOk Tryd.prog (Laid.ro m l0 o0 l1 o1) f g := by
  intro f g h
  unfold ctr at h
  split at h
  · cases h
    exact ctrSplit_ok (gM := 3) ⟨m, rfl⟩ fun s sep m w hs h1 hm => Tryd.strings_Split s sep m w (by omega) hm h1
  · cases h
    refine ctrAtoi_ok (gS := 0) (gR := 1) ⟨_, _, _, rfl⟩ ⟨_, _, _, rfl⟩ (fun s v w hs hv => ?_) (fun s w ev hs hn hg hc he => ?_) (fun s w ev hs hv hc he => ?_)
    · refine (Tryd.strconv_Atoi_ok s (by omega) v hv w).mono ?_
      rintro e w' ⟨rfl, rfl | ⟨t, rfl⟩⟩
      · exact ⟨rfl, Below.refl _ _⟩
      · exact ⟨rfl, Lib.bytesWorld_below w 5 t⟩
    · refine (Tryd.strconv_Atoi_syntax s (by omega) hn hg ev w hc he).mono ?_
      rintro e w' ⟨N, rfl, _, _, hb⟩
      exact ⟨N, rfl, hb⟩
    · refine (Tryd.strconv_Atoi_range s (by omega) hv ev w hc he).mono ?_
      rintro e w' ⟨N, rfl, _, _, hb⟩
      exact ⟨N, rfl, hb⟩
  · cases h
    exact ctrJoin_ok fun bk o c xs sep w h1 h2 h3 h4 h5 => Tryd.strings_Join bk o c xs sep w h1 h2 (by omega) h4 (by omega)
  · cases h
end
end Go.Proofs.YtgdmalobagncpaaDoor.Fns
