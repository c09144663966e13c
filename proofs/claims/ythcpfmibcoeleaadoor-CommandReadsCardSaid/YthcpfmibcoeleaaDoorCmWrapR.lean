/- What CommandReads computes, as the card asks for it. -/
import Derived.Test.YthcpfmibcoeleaaDoorCmLc
import Derived.Test.YthcpfmibcoeleaaDoorCmReads
namespace Go.Proofs.YthcpfmibcoeleaaDoor.CmReach
open Go Go.RowKit Am
variable {w : World} {m : Int} {l0 o0 l1 o1 : Nat}
theorem reads_all (hR : ROk (Laid.ro m l0 o0 l1 o1) w) (a : List UInt8) (_ : a.length ≤ 140737488351232) :
    ACalls Tryd.prog (roW w) 3 [.str a] [] fun v _ => v = .bool true := Cm.law_reads (lc hR) (wakes hR) a
end Go.Proofs.YthcpfmibcoeleaaDoor.CmReach
