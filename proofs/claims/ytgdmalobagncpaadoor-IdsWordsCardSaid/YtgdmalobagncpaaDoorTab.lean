/- The table of the functions that are read. -/
import Derived.Test.YtgdmalobagncpaaDoorFns0
import Derived.Test.YtgdmalobagncpaaDoorFns1
import Derived.Test.YtgdmalobagncpaaDoorFns2
import Derived.Test.YtgdmalobagncpaaDoorAmRow
namespace Go.Proofs.YtgdmalobagncpaaDoor.Fns
open Go Go.RowKit Am Go.Proofs.YtgdmalobagncpaaDoor
def tab : FuncId → Option AFn
  | 3 => some a3
  | 4 => some a4
  | 5 => some a5
  | 6 => some a6
  | 7 => some a7
  | 8 => some a8
  | 9 => some a9
  | 10 => some a10
  | 11 => some a11
  | 12 => some a12
  | 13 => some a13
  | 14 => some a14
  | 15 => some a15
  | 16 => some a16
  | 17 => some a17
  | 18 => some a18
  | 21 => some a21
  | 23 => some a23
  | 24 => some a24
  | 25 => some a25
  | 26 => some a26
  | 27 => some a27
  | 28 => some a28
  | 29 => some a29
  | 30 => some a30
  | 31 => some a31
  | 35 => some a35
  | 39 => some a39
  | 40 => some a40
  | 43 => some a43
  | 52 => some a52
  | 55 => some a55
  | 63 => some a63
  | 64 => some a64
  | 65 => some a65
  | 76 => some a76
  | 77 => some a77
  | 78 => some a78
  | 80 => some a80
  | 83 => some a83
  | _ => none
set_option maxRecDepth 100000 in
theorem tab_ok : ∀ f af, tab f = some af → FnOk Tryd.prog f af := by
  intro f af h
  unfold tab at h
  split at h <;> first
    | (cases h; exact ok3)
    | (cases h; exact ok4)
    | (cases h; exact ok5)
    | (cases h; exact ok6)
    | (cases h; exact ok7)
    | (cases h; exact ok8)
    | (cases h; exact ok9)
    | (cases h; exact ok10)
    | (cases h; exact ok11)
    | (cases h; exact ok12)
    | (cases h; exact ok13)
    | (cases h; exact ok14)
    | (cases h; exact ok15)
    | (cases h; exact ok16)
    | (cases h; exact ok17)
    | (cases h; exact ok18)
    | (cases h; exact ok21)
    | (cases h; exact ok23)
    | (cases h; exact ok24)
    | (cases h; exact ok25)
    | (cases h; exact ok26)
    | (cases h; exact ok27)
    | (cases h; exact ok28)
    | (cases h; exact ok29)
    | (cases h; exact ok30)
    | (cases h; exact ok31)
    | (cases h; exact ok35)
    | (cases h; exact ok39)
    | (cases h; exact ok40)
    | (cases h; exact ok43)
    | (cases h; exact ok52)
    | (cases h; exact ok55)
    | (cases h; exact ok63)
    | (cases h; exact ok64)
    | (cases h; exact ok65)
    | (cases h; exact ok76)
    | (cases h; exact ok77)
    | (cases h; exact ok78)
    | (cases h; exact ok80)
    | (cases h; exact ok83)
    | cases h
theorem mixed : Tryd.prog.follows .mixedOrders = true := by kernel_rfl
end Go.Proofs.YtgdmalobagncpaaDoor.Fns
