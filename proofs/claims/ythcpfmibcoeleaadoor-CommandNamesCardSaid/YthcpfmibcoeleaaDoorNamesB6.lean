/- CommandNames for some remainders. -/
import Derived.Test.YthcpfmibcoeleaaDoorNamesA
namespace Go.Proofs.YthcpfmibcoeleaaDoor.Names
open Go Go.RowKit Am
set_option maxRecDepth 100000
theorem ev6 (m : Int) (l0 o0 l1 o1 : Nat) (n : Int) : ([(-46), (-39), (-32), (-25), (-18), (-11), (-4), 3, 10, 17, 24, 31, 38, 45, 52].all fun r => EV m l0 o0 l1 o1 n r) = true := by kernel_rfl
end Go.Proofs.YthcpfmibcoeleaaDoor.Names
