/- CommandNames for some remainders. -/
import Derived.Test.YthcpfmibcoeleaaDoorNamesA
namespace Go.Proofs.YthcpfmibcoeleaaDoor.Names
open Go Go.RowKit Am
set_option maxRecDepth 100000
theorem ev0 (m : Int) (l0 o0 l1 o1 : Nat) (n : Int) : ([(-52), (-45), (-38), (-31), (-24), (-17), (-10), (-3), 4, 11, 18, 25, 32, 39, 46].all fun r => EV m l0 o0 l1 o1 n r) = true := by kernel_rfl
end Go.Proofs.YthcpfmibcoeleaaDoor.Names
