/- What the laws reach: the labels apart. -/
import Derived.Test.YtgdmalobagncpaaDoorReach
import Derived.Test.YtgdmalobagncpaaDoorApart
namespace Go.Proofs.YtgdmalobagncpaaDoor.Reach
open Go Go.RowKit Am Latt
set_option linter.unusedSimpArgs false
variable {w : World} {m : Int} {l0 o0 l1 o1 : Nat}
theorem apart (hR : ROk (Laid.ro m l0 o0 l1 o1) w) (r : Int) (hw : (Lit.int .u8 r).wf = true) (a : AV) (L : List (List AV)) (hs : Sl (roW w) 1 a L) (hi : ∀ x ∈ L, Shape [.int .i64] x) (x : Int) (_ : (Lit.int .i64 x).wf = true) :
    ACalls Tryd.prog (roW w) 8 [.int .u8 r, a, .int .i64 x] [] fun v _ => v = .bool true :=
  Cnt.apart (tab hR) (fun H => ACalls.base (sub hR) (Nobody.awake m l0 o0 l1 o1 H)) (by
    have h1 : (IntKind.u8.min : Int) = 0 := by decide
    have h2 : (IntKind.u8.max : Int) = 255 := by decide
    simp [Lit.wf, h1, h2] at hw
    omega) hs hi
end Go.Proofs.YtgdmalobagncpaaDoor.Reach
