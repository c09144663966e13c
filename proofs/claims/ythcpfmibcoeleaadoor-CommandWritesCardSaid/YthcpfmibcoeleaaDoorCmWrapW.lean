/- What CommandWrites computes, as the card asks for it. -/
import Derived.Test.YthcpfmibcoeleaaDoorCmWrites
import Derived.Test.YthcpfmibcoeleaaDoorCmWrapB
namespace Go.Proofs.YthcpfmibcoeleaaDoor.CmReach
open Go Go.RowKit Am
set_option linter.unusedVariables false
variable {w : World} {m : Int} {l0 o0 l1 o1 : Nat}
theorem writes_all (hR : ROk (Laid.ro m l0 o0 l1 o1) w) (s : List UInt8) (nv : AV) (L : List (List AV)) (u : List AV) (x : List UInt8) (sl : Sl (roW w) 1 nv L) (ll : ∀ y ∈ L, Shape [.int .i64] y) (sh : Shape [.int .i64, .int .i64, .int .i64] u)
    (s2 : List UInt8) (nv2 : AV) (L2 : List (List AV)) (u2 : List AV) (x2 : List UInt8) (sl2 : Sl (roW w) 1 nv2 L2) (ll2 : ∀ y ∈ L2, Shape [.int .i64] y) (sh2 : Shape [.int .i64, .int .i64, .int .i64] u2) :
    ACalls Tryd.prog (roW w) 4 [.agg (.str s :: nv :: (u ++ [.str x])), .agg (.str s2 :: nv2 :: (u2 ++ [.str x2]))] [] fun v _ => v = .bool true := by
  obtain ⟨c, e, hr, hb⟩ := cmd_of (s := s) (x := x) sl ll sh
  obtain ⟨d, e2, hr2, _⟩ := cmd_of (s := s2) (x := x2) sl2 ll2 sh2
  rw [e, e2]
  exact Cm.law_writes (lc hR) (wakes hR) hr hb hr2
end Go.Proofs.YthcpfmibcoeleaaDoor.CmReach
