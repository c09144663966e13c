/- CommandNames for some remainders. -/
import Derived.Test.YthcpfmibcoeleaaDoorNamesA
namespace Go.Proofs.YthcpfmibcoeleaaDoor.Names
open Go Go.RowKit Am
set_option maxRecDepth 100000
theorem ev5 (m : Int) (l0 o0 l1 o1 : Nat) (n : Int) : ([(-47), (-40), (-33), (-26), (-19), (-12), (-5), 2, 9, 16, 23, 30, 37, 44, 51].all fun r => EV m l0 o0 l1 o1 n r) = true := by kernel_rfl
end Go.Proofs.YthcpfmibcoeleaaDoor.Names
