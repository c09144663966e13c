/- The table of the functions that are read. -/
import Derived.Test.YtaanoplfdjlnmaaDoorFns0
import Derived.Test.YtaanoplfdjlnmaaDoorFns1
import Derived.Test.YtaanoplfdjlnmaaDoorAmRow
namespace Go.Proofs.YtaanoplfdjlnmaaDoor.Fns
open Go Go.RowKit Am Go.Proofs.YtaanoplfdjlnmaaDoor
def tab : FuncId → Option AFn
  | 2 => some a2
  | 3 => some a3
  | 4 => some a4
  | 5 => some a5
  | 6 => some a6
  | 7 => some a7
  | 8 => some a8
  | 9 => some a9
  | 10 => some a10
  | 11 => some a11
  | 12 => some a12
  | 13 => some a13
  | 14 => some a14
  | 15 => some a15
  | 16 => some a16
  | 17 => some a17
  | 18 => some a18
  | 19 => some a19
  | 20 => some a20
  | 21 => some a21
  | 22 => some a22
  | 23 => some a23
  | 24 => some a24
  | 25 => some a25
  | 26 => some a26
  | 47 => some a47
  | _ => none
set_option maxRecDepth 100000 in
theorem tab_ok : ∀ f af, tab f = some af → FnOk Tryd.prog f af := by
  intro f af h
  unfold tab at h
  split at h <;> first
    | (cases h; exact ok2)
    | (cases h; exact ok3)
    | (cases h; exact ok4)
    | (cases h; exact ok5)
    | (cases h; exact ok6)
    | (cases h; exact ok7)
    | (cases h; exact ok8)
    | (cases h; exact ok9)
    | (cases h; exact ok10)
    | (cases h; exact ok11)
    | (cases h; exact ok12)
    | (cases h; exact ok13)
    | (cases h; exact ok14)
    | (cases h; exact ok15)
    | (cases h; exact ok16)
    | (cases h; exact ok17)
    | (cases h; exact ok18)
    | (cases h; exact ok19)
    | (cases h; exact ok20)
    | (cases h; exact ok21)
    | (cases h; exact ok22)
    | (cases h; exact ok23)
    | (cases h; exact ok24)
    | (cases h; exact ok25)
    | (cases h; exact ok26)
    | (cases h; exact ok47)
    | cases h
theorem mixed : Tryd.prog.follows .mixedOrders = true := by kernel_rfl
end Go.Proofs.YtaanoplfdjlnmaaDoor.Fns
