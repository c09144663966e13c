/- CommandNames for some remainders. -/
import Derived.Test.YthcpfmibcoeleaaDoorNamesA
namespace Go.Proofs.YthcpfmibcoeleaaDoor.Names
open Go Go.RowKit Am
set_option maxRecDepth 100000
theorem ev2 (m : Int) (l0 o0 l1 o1 : Nat) (n : Int) : ([(-50), (-43), (-36), (-29), (-22), (-15), (-8), (-1), 6, 13, 20, 27, 34, 41, 48].all fun r => EV m l0 o0 l1 o1 n r) = true := by kernel_rfl
end Go.Proofs.YthcpfmibcoeleaaDoor.Names
