/- The table of the functions that are read. -/
import Derived.Test.YtbcfhiohdamcjaaFns0
import Derived.Test.YtbcfhiohdamcjaaFns1
import Derived.Test.YtbcfhiohdamcjaaAmRow
namespace Go.Proofs.Ytbcfhiohdamcjaa.Fns
open Go Go.RowKit Am Go.Proofs.Ytbcfhiohdamcjaa
def tab : FuncId → Option AFn
  | 2 => some a2
  | 3 => some a3
  | 4 => some a4
  | 5 => some a5
  | 6 => some a6
  | 7 => some a7
  | 8 => some a8
  | 9 => some a9
  | 10 => some a10
  | 11 => some a11
  | 13 => some a13
  | 14 => some a14
  | 15 => some a15
  | 16 => some a16
  | 17 => some a17
  | 18 => some a18
  | 19 => some a19
  | 20 => some a20
  | 21 => some a21
  | 22 => some a22
  | 23 => some a23
  | 24 => some a24
  | 25 => some a25
  | 26 => some a26
  | 27 => some a27
  | 28 => some a28
  | 29 => some a29
  | 30 => some a30
  | 31 => some a31
  | 32 => some a32
  | 33 => some a33
  | 34 => some a34
  | 36 => some a36
  | 38 => some a38
  | 39 => some a39
  | 40 => some a40
  | 41 => some a41
  | 42 => some a42
  | 43 => some a43
  | 44 => some a44
  | 46 => some a46
  | 47 => some a47
  | 48 => some a48
  | 49 => some a49
  | 50 => some a50
  | 52 => some a52
  | 53 => some a53
  | 54 => some a54
  | 55 => some a55
  | _ => none
set_option maxRecDepth 100000 in
theorem tab_ok : ∀ f af, tab f = some af → FnOk Try.prog f af := by
  intro f af h
  unfold tab at h
  split at h <;> first
    | (cases h; exact ok2)
    | (cases h; exact ok3)
    | (cases h; exact ok4)
    | (cases h; exact ok5)
    | (cases h; exact ok6)
    | (cases h; exact ok7)
    | (cases h; exact ok8)
    | (cases h; exact ok9)
    | (cases h; exact ok10)
    | (cases h; exact ok11)
    | (cases h; exact ok13)
    | (cases h; exact ok14)
    | (cases h; exact ok15)
    | (cases h; exact ok16)
    | (cases h; exact ok17)
    | (cases h; exact ok18)
    | (cases h; exact ok19)
    | (cases h; exact ok20)
    | (cases h; exact ok21)
    | (cases h; exact ok22)
    | (cases h; exact ok23)
    | (cases h; exact ok24)
    | (cases h; exact ok25)
    | (cases h; exact ok26)
    | (cases h; exact ok27)
    | (cases h; exact ok28)
    | (cases h; exact ok29)
    | (cases h; exact ok30)
    | (cases h; exact ok31)
    | (cases h; exact ok32)
    | (cases h; exact ok33)
    | (cases h; exact ok34)
    | (cases h; exact ok36)
    | (cases h; exact ok38)
    | (cases h; exact ok39)
    | (cases h; exact ok40)
    | (cases h; exact ok41)
    | (cases h; exact ok42)
    | (cases h; exact ok43)
    | (cases h; exact ok44)
    | (cases h; exact ok46)
    | (cases h; exact ok47)
    | (cases h; exact ok48)
    | (cases h; exact ok49)
    | (cases h; exact ok50)
    | (cases h; exact ok52)
    | (cases h; exact ok53)
    | (cases h; exact ok54)
    | (cases h; exact ok55)
    | cases h
theorem mixed : Try.prog.follows .mixedOrders = true := by kernel_rfl
end Go.Proofs.Ytbcfhiohdamcjaa.Fns
