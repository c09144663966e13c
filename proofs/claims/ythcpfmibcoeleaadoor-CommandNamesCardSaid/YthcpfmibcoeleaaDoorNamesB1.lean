/- CommandNames for some remainders. -/
import Derived.Test.YthcpfmibcoeleaaDoorNamesA
namespace Go.Proofs.YthcpfmibcoeleaaDoor.Names
open Go Go.RowKit Am
set_option maxRecDepth 100000
theorem ev1 (m : Int) (l0 o0 l1 o1 : Nat) (n : Int) : ([(-51), (-44), (-37), (-30), (-23), (-16), (-9), (-2), 5, 12, 19, 26, 33, 40, 47].all fun r => EV m l0 o0 l1 o1 n r) = true := by kernel_rfl
end Go.Proofs.YthcpfmibcoeleaaDoor.Names
