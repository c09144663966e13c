/- CommandNames for some remainders. -/
import Derived.Test.YthcpfmibcoeleaaDoorNamesA
namespace Go.Proofs.YthcpfmibcoeleaaDoor.Names
open Go Go.RowKit Am
set_option maxRecDepth 100000
theorem ev4 (m : Int) (l0 o0 l1 o1 : Nat) (n : Int) : ([(-48), (-41), (-34), (-27), (-20), (-13), (-6), 1, 8, 15, 22, 29, 36, 43, 50].all fun r => EV m l0 o0 l1 o1 n r) = true := by kernel_rfl
end Go.Proofs.YthcpfmibcoeleaaDoor.Names
