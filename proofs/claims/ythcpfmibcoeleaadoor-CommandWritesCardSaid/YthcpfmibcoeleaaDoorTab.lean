/- The table of the functions that are read. -/
import Derived.Test.YthcpfmibcoeleaaDoorFns0
import Derived.Test.YthcpfmibcoeleaaDoorFns1
import Derived.Test.YthcpfmibcoeleaaDoorFns2
import Derived.Test.YthcpfmibcoeleaaDoorFns3
import Derived.Test.YthcpfmibcoeleaaDoorAmRow
namespace Go.Proofs.YthcpfmibcoeleaaDoor.Fns
open Go Go.RowKit Am Go.Proofs.YthcpfmibcoeleaaDoor
def tab : FuncId → Option AFn
  | 7 => some a7
  | 8 => some a8
  | 9 => some a9
  | 10 => some a10
  | 15 => some a15
  | 16 => some a16
  | 20 => some a20
  | 21 => some a21
  | 22 => some a22
  | 24 => some a24
  | 29 => some a29
  | 30 => some a30
  | 32 => some a32
  | 33 => some a33
  | 34 => some a34
  | 36 => some a36
  | 37 => some a37
  | 38 => some a38
  | 39 => some a39
  | 40 => some a40
  | 44 => some a44
  | 46 => some a46
  | 47 => some a47
  | 48 => some a48
  | 58 => some a58
  | 60 => some a60
  | 61 => some a61
  | 62 => some a62
  | 63 => some a63
  | 74 => some a74
  | 78 => some a78
  | 79 => some a79
  | 80 => some a80
  | 81 => some a81
  | _ => none
set_option maxRecDepth 100000 in
theorem tab_ok : ∀ f af, tab f = some af → FnOk Tryd.prog f af := by
  intro f af h
  unfold tab at h
  split at h <;> first
    | (cases h; exact ok7)
    | (cases h; exact ok8)
    | (cases h; exact ok9)
    | (cases h; exact ok10)
    | (cases h; exact ok15)
    | (cases h; exact ok16)
    | (cases h; exact ok20)
    | (cases h; exact ok21)
    | (cases h; exact ok22)
    | (cases h; exact ok24)
    | (cases h; exact ok29)
    | (cases h; exact ok30)
    | (cases h; exact ok32)
    | (cases h; exact ok33)
    | (cases h; exact ok34)
    | (cases h; exact ok36)
    | (cases h; exact ok37)
    | (cases h; exact ok38)
    | (cases h; exact ok39)
    | (cases h; exact ok40)
    | (cases h; exact ok44)
    | (cases h; exact ok46)
    | (cases h; exact ok47)
    | (cases h; exact ok48)
    | (cases h; exact ok58)
    | (cases h; exact ok60)
    | (cases h; exact ok61)
    | (cases h; exact ok62)
    | (cases h; exact ok63)
    | (cases h; exact ok74)
    | (cases h; exact ok78)
    | (cases h; exact ok79)
    | (cases h; exact ok80)
    | (cases h; exact ok81)
    | cases h
theorem mixed : Tryd.prog.follows .mixedOrders = true := by kernel_rfl
end Go.Proofs.YthcpfmibcoeleaaDoor.Fns
