/- What CommandOrder computes, as the card asks for it. -/
import Derived.Test.YthcpfmibcoeleaaDoorCmLc
import Derived.Test.YthcpfmibcoeleaaDoorCmOrder
namespace Go.Proofs.YthcpfmibcoeleaaDoor.CmReach
open Go Go.RowKit Am
variable {w : World} {m : Int} {l0 o0 l1 o1 : Nat}
theorem order (hR : ROk (Laid.ro m l0 o0 l1 o1) w) (a : List UInt8) (_ : a.length ≤ 140737488351232) (b : List UInt8) (_ : b.length ≤ 140737488351232) :
    ACalls Tryd.prog (roW w) 6 [.str a, .str b] [] fun v _ => v = .bool true := Cm.law_order (lc hR) (wakes hR) a b
end Go.Proofs.YthcpfmibcoeleaaDoor.CmReach
