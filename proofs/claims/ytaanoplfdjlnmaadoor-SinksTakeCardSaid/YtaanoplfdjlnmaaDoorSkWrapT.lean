/- What SinksTake computes, as the card asks for it. -/
import Derived.Test.YtaanoplfdjlnmaaDoorSkLawT
import Derived.Test.YtaanoplfdjlnmaaDoorSkWrapA
namespace Go.Proofs.YtaanoplfdjlnmaaDoor.Sk
open Go Go.RowKit Am Latt
set_option maxRecDepth 100000
set_option linter.unusedSimpArgs false
set_option linter.unusedVariables false
variable {R : Ro}
theorem take_all (hle : ∀ b o v, Laid.ro b o = some v → R b o = some v) (r : Int) (_ : (Lit.int .i64 r).wf = true) (s : Int) (_ : (Lit.int .i64 s).wf = true) (a : AV) (L : List (List AV)) (hs : Sl R 2 a L) (hw : ∀ x ∈ L, Shape [.int .i64, .int .i64] x)
    (c : AV) (M : List (List AV)) (hc : Sl R 3 c M) (hm : ∀ x ∈ M, Shape [.int .i64, .int .i64, .str] x) :
    ACalls Tryd.prog R 3 [.int .i64 r, .int .i64 s, a, c] [] fun v _ => v = .bool true := by
  obtain ⟨P, rfl⟩ := pairs_of hw
  obtain ⟨A, rfl⟩ := acts_of hm
  exact take (x := 0) (tab_of hle) (wakes_of hle) hs hc
end Go.Proofs.YtaanoplfdjlnmaaDoor.Sk
