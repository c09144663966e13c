/- CommandNames for some remainders. -/
import Derived.Test.YthcpfmibcoeleaaDoorNamesA
namespace Go.Proofs.YthcpfmibcoeleaaDoor.Names
open Go Go.RowKit Am
set_option maxRecDepth 100000
theorem ev3 (m : Int) (l0 o0 l1 o1 : Nat) (n : Int) : ([(-49), (-42), (-35), (-28), (-21), (-14), (-7), 0, 7, 14, 21, 28, 35, 42, 49].all fun r => EV m l0 o0 l1 o1 n r) = true := by kernel_rfl
end Go.Proofs.YthcpfmibcoeleaaDoor.Names
