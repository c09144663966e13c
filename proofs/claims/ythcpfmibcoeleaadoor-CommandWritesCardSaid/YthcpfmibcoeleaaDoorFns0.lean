/- Functions of the translated code as the abstract machine reads them, printed by program; each is checked against the code. -/
import Derived.Test.YthcpfmibcoeleaaDoorProg
import Derived.Test.YthcpfmibcoeleaaDoorAmEval
namespace Go.Proofs.YthcpfmibcoeleaaDoor.Fns
open Go Go.RowKit Am Go.Proofs.YthcpfmibcoeleaaDoor
set_option maxRecDepth 100000
/-- gosem.cut.init -/
def a2 : AFn := ⟨1, [], .ops [⟨(some 0), none, .bad⟩]⟩
theorem ok2 : FnOk Tryd.prog 2 a2 := FnOk.of Tryd.prog Tryd.func2 (by kernel_rfl)
/-- jalousie/jalousielaw29.CommandReads -/
def a3 : AFn := ⟨33, [.tmp 2], .seq
   (.ops [⟨(some 2), none, .mv (.c (.bool false))⟩])
   (.seq
    (.seq
     (.ops [⟨(some 7), none, .mv (.t 0)⟩,
       ⟨(some 8), none, .lenS (.t 7)⟩,
       ⟨(some 9), none, .bin .gtr (.t 8) (.c (.int .i64 1000))⟩])
     (.cond (.t 9)
      (.seq
       (.ops [⟨(some 10), none, .call 9 []⟩,
         ⟨(some 2), none, .mv (.t 10)⟩])
       (.ret))
      (.skip)))
    (.seq
     (.ops [⟨(some 12), none, .mv (.t 0)⟩,
       ⟨(some 13), none, .call 10 [(.t 12)]⟩,
       ⟨(some 11), none, .mv (.t 13)⟩,
       ⟨(some 14), none, .ext (.t 11) 0⟩,
       ⟨(some 15), none, .ext (.t 11) 1⟩,
       ⟨(some 3), none, .alloc 27 [(.str []), .nilslice, (.int .i64 0), (.int .i64 0), (.int .i64 0), (.str [])]⟩,
       ⟨none, none, .store 6 (.t 3) (.t 14)⟩,
       ⟨(some 4), none, .mv (.t 15)⟩])
     (.seq
      (.ops [⟨(some 17), none, .mv (.t 0)⟩,
        ⟨(some 18), none, .call 11 [(.t 17)]⟩,
        ⟨(some 16), none, .mv (.t 18)⟩,
        ⟨(some 19), none, .ext (.t 16) 0⟩,
        ⟨(some 20), none, .ext (.t 16) 1⟩,
        ⟨(some 5), none, .alloc 31 [(.str []), .nilslice, (.int .i64 0), (.int .i64 0), (.int .i64 0), (.str [])]⟩,
        ⟨none, none, .store 6 (.t 5) (.t 19)⟩,
        ⟨(some 6), none, .mv (.t 20)⟩])
      (.seq
       (.draw [⟨⟨(some 21), none, .mv (.t 4)⟩, []⟩,
         ⟨⟨(some 22), none, .mv (.t 6)⟩, []⟩,
         ⟨⟨(some 23), none, .bin .eql (.t 21) (.t 22)⟩, [0, 1]⟩,
         ⟨⟨(some 24), none, .mv (.t 23)⟩, [2]⟩,
         ⟨⟨(some 25), (some (24, true)), .load (some 6) (.t 3)⟩, [3]⟩,
         ⟨⟨(some 26), (some (24, true)), .call 13 [(.t 25)]⟩, [4, 3, 3]⟩,
         ⟨⟨(some 27), (some (24, true)), .load (some 6) (.t 5)⟩, [3]⟩,
         ⟨⟨(some 28), (some (24, true)), .call 12 [(.t 26), (.t 27)]⟩, [5, 6, 5, 3]⟩,
         ⟨⟨(some 29), none, .pick (.t 24) (.t 28) (.c (.bool false))⟩, [3, 7]⟩,
         ⟨⟨(some 30), none, .mv (.t 29)⟩, [8, 7]⟩,
         ⟨⟨(some 31), (some (30, true)), .call 9 []⟩, [9, 9]⟩,
         ⟨⟨(some 32), none, .pick (.t 30) (.t 31) (.c (.bool false))⟩, [9, 10]⟩,
         ⟨⟨(some 2), none, .mv (.t 32)⟩, [11, 10, 0, 1, 2, 3, 4, 5, 6, 7, 8, 9, 10, 11]⟩] [0, 0, 3, 7, 15, 31, 15, 127, 255, 511, 1023, 2047, 4095])
       (.ret)))))⟩
theorem ok3 : FnOk Tryd.prog 3 a3 := FnOk.of Tryd.prog Tryd.func3 (by kernel_rfl)
/-- jalousie/jalousielaw29.CommandWrites -/
def a4 : AFn := ⟨109, [.tmp 4], .seq
   (.ops [⟨(some 2), none, .box 27 (.t 0)⟩,
     ⟨(some 3), none, .box 27 (.t 1)⟩,
     ⟨(some 4), none, .mv (.c (.bool false))⟩])
   (.seq
    (.seq
     (.ops [⟨(some 13), none, .addr 1 (.t 2)⟩,
       ⟨(some 14), none, .load none (.t 13)⟩,
       ⟨(some 15), none, .lenL (.t 14)⟩,
       ⟨(some 16), none, .bin .gtr (.t 15) (.c (.int .i64 20))⟩,
       ⟨(some 17), none, .mv (.t 16)⟩,
       ⟨(some 18), (some (17, false)), .addr 1 (.t 3)⟩,
       ⟨(some 19), (some (17, false)), .load none (.t 18)⟩,
       ⟨(some 20), (some (17, false)), .lenL (.t 19)⟩,
       ⟨(some 21), (some (17, false)), .bin .gtr (.t 20) (.c (.int .i64 20))⟩,
       ⟨(some 22), none, .pick (.t 17) (.c (.bool true)) (.t 21)⟩,
       ⟨(some 23), none, .mv (.t 22)⟩,
       ⟨(some 24), (some (23, false)), .addr 5 (.t 2)⟩,
       ⟨(some 25), (some (23, false)), .load none (.t 24)⟩,
       ⟨(some 26), (some (23, false)), .lenS (.t 25)⟩,
       ⟨(some 27), (some (23, false)), .bin .gtr (.t 26) (.c (.int .i64 300))⟩,
       ⟨(some 28), none, .pick (.t 23) (.c (.bool true)) (.t 27)⟩,
       ⟨(some 29), none, .mv (.t 28)⟩,
       ⟨(some 30), (some (29, false)), .addr 0 (.t 2)⟩,
       ⟨(some 31), (some (29, false)), .load none (.t 30)⟩,
       ⟨(some 32), (some (29, false)), .lenS (.t 31)⟩,
       ⟨(some 33), (some (29, false)), .bin .gtr (.t 32) (.c (.int .i64 300))⟩,
       ⟨(some 34), none, .pick (.t 29) (.c (.bool true)) (.t 33)⟩])
     (.cond (.t 34)
      (.seq
       (.ops [⟨(some 35), none, .call 9 []⟩,
         ⟨(some 4), none, .mv (.t 35)⟩])
       (.ret))
      (.skip)))
    (.seq
     (.ops [⟨(some 36), none, .load (some 6) (.t 2)⟩,
       ⟨(some 37), none, .call 13 [(.t 36)]⟩,
       ⟨(some 5), none, .alloc 31 [(.str []), .nilslice, (.int .i64 0), (.int .i64 0), (.int .i64 0), (.str [])]⟩,
       ⟨none, none, .store 6 (.t 5) (.t 37)⟩])
     (.seq
      (.ops [⟨(some 38), none, .load (some 6) (.t 5)⟩,
        ⟨(some 39), none, .call 14 [(.t 38)]⟩,
        ⟨(some 6), none, .mv (.t 39)⟩])
      (.seq
       (.ops [⟨(some 41), none, .load (some 6) (.t 2)⟩,
         ⟨(some 42), none, .call 15 [(.t 41)]⟩,
         ⟨(some 40), none, .mv (.t 42)⟩,
         ⟨(some 43), none, .ext (.t 40) 0⟩,
         ⟨(some 44), none, .ext (.t 40) 1⟩,
         ⟨(some 7), none, .mv (.t 43)⟩,
         ⟨(some 8), none, .mv (.t 44)⟩])
       (.seq
        (.seq
         (.ops [⟨(some 45), none, .load (some 6) (.t 2)⟩,
           ⟨(some 46), none, .call 16 [(.t 45)]⟩,
           ⟨(some 47), none, .mv (.t 6)⟩,
           ⟨(some 48), none, .eq true 4 .bool (.t 46) (.t 47)⟩,
           ⟨(some 49), none, .mv (.t 48)⟩,
           ⟨(some 50), (some (49, false)), .mv (.t 8)⟩,
           ⟨(some 51), (some (49, false)), .mv (.t 6)⟩,
           ⟨(some 52), (some (49, false)), .eq true 4 .bool (.t 50) (.t 51)⟩,
           ⟨(some 53), none, .pick (.t 49) (.c (.bool true)) (.t 52)⟩,
           ⟨(some 54), none, .mv (.t 53)⟩,
           ⟨(some 55), (some (54, false)), .mv (.t 6)⟩,
           ⟨(some 56), (some (54, false)), .un .not (.t 55)⟩,
           ⟨(some 57), (some (54, false)), .mv (.t 56)⟩,
           ⟨(some 58), (some (57, true)), .mv (.t 7)⟩,
           ⟨(some 59), (some (57, true)), .bin .neq (.t 58) (.c (.str []))⟩,
           ⟨(some 60), (some (54, false)), .pick (.t 57) (.t 59) (.c (.bool false))⟩,
           ⟨(some 61), none, .pick (.t 54) (.c (.bool true)) (.t 60)⟩,
           ⟨(some 62), none, .mv (.t 61)⟩,
           ⟨(some 63), (some (62, false)), .mv (.t 6)⟩,
           ⟨(some 64), (some (62, false)), .mv (.t 63)⟩,
           ⟨(some 65), (some (64, true)), .mv (.t 7)⟩,
           ⟨(some 66), (some (64, true)), .load (some 6) (.t 5)⟩,
           ⟨(some 67), (some (64, true)), .call 17 [(.t 66)]⟩,
           ⟨(some 68), (some (64, true)), .bin .neq (.t 65) (.t 67)⟩,
           ⟨(some 69), (some (62, false)), .pick (.t 64) (.t 68) (.c (.bool false))⟩,
           ⟨(some 70), none, .pick (.t 62) (.c (.bool true)) (.t 69)⟩])
         (.cond (.t 70)
          (.seq
           (.ops [⟨(some 4), none, .mv (.c (.bool false))⟩])
           (.ret))
          (.skip)))
        (.seq
         (.ops [⟨(some 72), none, .addr 0 (.t 2)⟩,
           ⟨(some 73), none, .load none (.t 72)⟩,
           ⟨(some 74), none, .call 18 [(.t 73)]⟩,
           ⟨(some 71), none, .mv (.t 74)⟩,
           ⟨(some 75), none, .ext (.t 71) 0⟩,
           ⟨(some 76), none, .ext (.t 71) 1⟩,
           ⟨(some 9), none, .mv (.t 75)⟩,
           ⟨(some 10), none, .mv (.t 76)⟩])
         (.seq
          (.ops [⟨(some 78), none, .addr 0 (.t 2)⟩,
            ⟨(some 79), none, .load none (.t 78)⟩,
            ⟨(some 80), none, .call 19 [(.t 79)]⟩,
            ⟨(some 77), none, .mv (.t 80)⟩,
            ⟨(some 81), none, .ext (.t 77) 0⟩,
            ⟨(some 82), none, .ext (.t 77) 1⟩,
            ⟨(some 11), none, .mv (.t 81)⟩,
            ⟨(some 12), none, .mv (.t 82)⟩])
          (.seq
           (.draw [⟨⟨(some 83), none, .mv (.t 9)⟩, []⟩,
             ⟨⟨(some 84), none, .mv (.t 11)⟩, []⟩,
             ⟨⟨(some 85), none, .bin .eql (.t 83) (.t 84)⟩, [0, 1]⟩,
             ⟨⟨(some 86), none, .mv (.t 85)⟩, [2]⟩,
             ⟨⟨(some 87), (some (86, true)), .mv (.t 10)⟩, [3]⟩,
             ⟨⟨(some 88), (some (86, true)), .mv (.t 12)⟩, [3]⟩,
             ⟨⟨(some 89), (some (86, true)), .eq false 4 .bool (.t 87) (.t 88)⟩, [4, 5, 3]⟩,
             ⟨⟨(some 90), none, .pick (.t 86) (.t 89) (.c (.bool false))⟩, [3, 6]⟩,
             ⟨⟨(some 91), none, .mv (.t 90)⟩, [7, 3]⟩,
             ⟨⟨(some 92), (some (91, true)), .load (some 6) (.t 2)⟩, [8]⟩,
             ⟨⟨(some 93), (some (91, true)), .load (some 6) (.t 3)⟩, [8]⟩,
             ⟨⟨(some 94), (some (91, true)), .call 20 [(.t 92), (.t 93)]⟩, [9, 10, 8, 8]⟩,
             ⟨⟨(some 95), (some (91, true)), .load (some 6) (.t 5)⟩, [8]⟩,
             ⟨⟨(some 96), (some (91, true)), .load (some 6) (.t 3)⟩, [8]⟩,
             ⟨⟨(some 97), (some (91, true)), .call 13 [(.t 96)]⟩, [13, 11, 8]⟩,
             ⟨⟨(some 98), (some (91, true)), .call 12 [(.t 95), (.t 97)]⟩, [12, 14, 14, 8]⟩,
             ⟨⟨(some 99), (some (91, true)), .eq false 4 .bool (.t 94) (.t 98)⟩, [11, 15, 8]⟩,
             ⟨⟨(some 100), none, .pick (.t 91) (.t 99) (.c (.bool false))⟩, [8, 16]⟩,
             ⟨⟨(some 101), none, .mv (.t 100)⟩, [17, 15]⟩,
             ⟨⟨(some 102), (some (101, true)), .load (some 6) (.t 2)⟩, [18]⟩,
             ⟨⟨(some 103), (some (101, true)), .load (some 6) (.t 2)⟩, [18]⟩,
             ⟨⟨(some 104), (some (101, true)), .call 20 [(.t 102), (.t 103)]⟩, [19, 20, 18, 18]⟩,
             ⟨⟨(some 105), none, .pick (.t 101) (.t 104) (.c (.bool false))⟩, [18, 21]⟩,
             ⟨⟨(some 106), none, .mv (.t 105)⟩, [22, 21]⟩,
             ⟨⟨(some 107), (some (106, true)), .call 9 []⟩, [23, 23]⟩,
             ⟨⟨(some 108), none, .pick (.t 106) (.t 107) (.c (.bool false))⟩, [23, 24]⟩,
             ⟨⟨(some 4), none, .mv (.t 108)⟩, [25, 24, 0, 1, 2, 3, 4, 5, 6, 7, 8, 9, 10, 11, 12, 13, 14, 15, 16, 17, 18, 19, 20, 21, 22, 23, 24, 25]⟩] [0, 0, 3, 7, 15, 15, 63, 127, 255, 511, 511, 2047, 511, 511, 12287, 32767, 65535, 131071, 262143, 524287, 524287, 2097151, 4194303, 8388607, 16777215, 33554431, 67108863])
           (.ret)))))))))⟩
theorem ok4 : FnOk Tryd.prog 4 a4 := FnOk.of Tryd.prog Tryd.func4 (by kernel_rfl)
/-- jalousie/jalousielaw29.CommandBack -/
def a5 : AFn := ⟨90, [.tmp 4], .seq
   (.ops [⟨(some 2), none, .box 27 (.t 0)⟩,
     ⟨(some 4), none, .mv (.c (.bool false))⟩])
   (.seq
    (.seq
     (.ops [⟨(some 13), none, .addr 1 (.t 2)⟩,
       ⟨(some 14), none, .load none (.t 13)⟩,
       ⟨(some 15), none, .lenL (.t 14)⟩,
       ⟨(some 16), none, .bin .gtr (.t 15) (.c (.int .i64 20))⟩,
       ⟨(some 17), none, .mv (.t 16)⟩,
       ⟨(some 18), (some (17, false)), .addr 5 (.t 2)⟩,
       ⟨(some 19), (some (17, false)), .load none (.t 18)⟩,
       ⟨(some 20), (some (17, false)), .lenS (.t 19)⟩,
       ⟨(some 21), (some (17, false)), .bin .gtr (.t 20) (.c (.int .i64 300))⟩,
       ⟨(some 22), none, .pick (.t 17) (.c (.bool true)) (.t 21)⟩,
       ⟨(some 23), none, .mv (.t 22)⟩,
       ⟨(some 24), (some (23, false)), .addr 0 (.t 2)⟩,
       ⟨(some 25), (some (23, false)), .load none (.t 24)⟩,
       ⟨(some 26), (some (23, false)), .lenS (.t 25)⟩,
       ⟨(some 27), (some (23, false)), .bin .gtr (.t 26) (.c (.int .i64 300))⟩,
       ⟨(some 28), none, .pick (.t 23) (.c (.bool true)) (.t 27)⟩,
       ⟨(some 29), none, .mv (.t 28)⟩,
       ⟨(some 30), (some (29, false)), .mv (.t 1)⟩,
       ⟨(some 31), (some (29, false)), .lenS (.t 30)⟩,
       ⟨(some 32), (some (29, false)), .bin .gtr (.t 31) (.c (.int .i64 1000))⟩,
       ⟨(some 33), none, .pick (.t 29) (.c (.bool true)) (.t 32)⟩])
     (.cond (.t 33)
      (.seq
       (.ops [⟨(some 34), none, .call 9 []⟩,
         ⟨(some 4), none, .mv (.t 34)⟩])
       (.ret))
      (.skip)))
    (.seq
     (.ops [⟨(some 36), none, .load (some 6) (.t 2)⟩,
       ⟨(some 37), none, .call 15 [(.t 36)]⟩,
       ⟨(some 35), none, .mv (.t 37)⟩,
       ⟨(some 38), none, .ext (.t 35) 0⟩,
       ⟨(some 39), none, .ext (.t 35) 1⟩,
       ⟨(some 5), none, .mv (.t 38)⟩,
       ⟨(some 6), none, .mv (.t 39)⟩])
     (.seq
      (.seq
       (.ops [⟨(some 40), none, .mv (.t 6)⟩])
       (.cond (.t 40)
        (.seq
         (.ops [⟨(some 42), none, .mv (.t 5)⟩,
           ⟨(some 43), none, .call 10 [(.t 42)]⟩,
           ⟨(some 41), none, .mv (.t 43)⟩,
           ⟨(some 44), none, .ext (.t 41) 0⟩,
           ⟨(some 45), none, .ext (.t 41) 1⟩,
           ⟨(some 7), none, .alloc 27 [(.str []), .nilslice, (.int .i64 0), (.int .i64 0), (.int .i64 0), (.str [])]⟩,
           ⟨none, none, .store 6 (.t 7) (.t 44)⟩,
           ⟨(some 8), none, .mv (.t 45)⟩])
         (.seq
          (.ops [⟨(some 46), none, .mv (.t 8)⟩,
            ⟨(some 47), none, .bin .neq (.t 46) (.c (.int .i64 0))⟩,
            ⟨(some 48), none, .mv (.t 47)⟩,
            ⟨(some 49), (some (48, false)), .load (some 6) (.t 2)⟩,
            ⟨(some 50), (some (48, false)), .load (some 6) (.t 7)⟩,
            ⟨(some 51), (some (48, false)), .call 20 [(.t 49), (.t 50)]⟩,
            ⟨(some 52), (some (48, false)), .un .not (.t 51)⟩,
            ⟨(some 53), none, .pick (.t 48) (.c (.bool true)) (.t 52)⟩,
            ⟨(some 54), none, .mv (.t 53)⟩,
            ⟨(some 55), (some (54, false)), .mv (.t 5)⟩,
            ⟨(some 56), (some (54, false)), .lenS (.t 55)⟩,
            ⟨(some 57), (some (54, false)), .bin .gtr (.t 56) (.c (.int .i64 256))⟩,
            ⟨(some 58), none, .pick (.t 54) (.c (.bool true)) (.t 57)⟩])
          (.cond (.t 58)
           (.seq
            (.ops [⟨(some 4), none, .mv (.c (.bool false))⟩])
            (.ret))
           (.skip))))
        (.skip)))
      (.seq
       (.ops [⟨(some 60), none, .mv (.t 1)⟩,
         ⟨(some 61), none, .call 10 [(.t 60)]⟩,
         ⟨(some 59), none, .mv (.t 61)⟩,
         ⟨(some 62), none, .ext (.t 59) 0⟩,
         ⟨(some 63), none, .ext (.t 59) 1⟩,
         ⟨(some 9), none, .alloc 27 [(.str []), .nilslice, (.int .i64 0), (.int .i64 0), (.int .i64 0), (.str [])]⟩,
         ⟨none, none, .store 6 (.t 9) (.t 62)⟩,
         ⟨(some 10), none, .mv (.t 63)⟩])
       (.seq
        (.seq
         (.ops [⟨(some 64), none, .mv (.t 10)⟩,
           ⟨(some 65), none, .bin .neq (.t 64) (.c (.int .i64 0))⟩])
         (.cond (.t 65)
          (.seq
           (.ops [⟨(some 66), none, .load (some 6) (.t 9)⟩,
             ⟨(some 67), none, .build [(.str []), .nilslice, (.int .i64 0), (.int .i64 0), (.int .i64 0), (.str [])] [(0, 1), (1, 1), (2, 3), (5, 1)] []⟩,
             ⟨(some 68), none, .call 20 [(.t 66), (.t 67)]⟩,
             ⟨(some 69), none, .mv (.t 68)⟩,
             ⟨(some 70), (some (69, true)), .call 9 []⟩,
             ⟨(some 71), none, .pick (.t 69) (.t 70) (.c (.bool false))⟩,
             ⟨(some 4), none, .mv (.t 71)⟩])
           (.ret))
          (.skip)))
        (.seq
         (.ops [⟨(some 73), none, .load (some 6) (.t 9)⟩,
           ⟨(some 74), none, .call 15 [(.t 73)]⟩,
           ⟨(some 72), none, .mv (.t 74)⟩,
           ⟨(some 75), none, .ext (.t 72) 0⟩,
           ⟨(some 76), none, .ext (.t 72) 1⟩,
           ⟨(some 11), none, .mv (.t 75)⟩,
           ⟨(some 12), none, .mv (.t 76)⟩])
         (.seq
          (.ops [⟨(some 77), none, .mv (.t 12)⟩,
            ⟨(some 78), none, .mv (.t 77)⟩,
            ⟨(some 79), (some (78, true)), .mv (.t 11)⟩,
            ⟨(some 80), (some (78, true)), .mv (.t 1)⟩,
            ⟨(some 81), (some (78, true)), .bin .eql (.t 79) (.t 80)⟩,
            ⟨(some 82), none, .pick (.t 78) (.t 81) (.c (.bool false))⟩,
            ⟨(some 83), none, .mv (.t 82)⟩,
            ⟨(some 84), (some (83, true)), .load (some 6) (.t 9)⟩,
            ⟨(some 85), (some (83, true)), .call 16 [(.t 84)]⟩,
            ⟨(some 86), none, .pick (.t 83) (.t 85) (.c (.bool false))⟩,
            ⟨(some 87), none, .mv (.t 86)⟩,
            ⟨(some 88), (some (87, true)), .call 9 []⟩,
            ⟨(some 89), none, .pick (.t 87) (.t 88) (.c (.bool false))⟩,
            ⟨(some 4), none, .mv (.t 89)⟩])
          (.ret))))))))⟩
theorem ok5 : FnOk Tryd.prog 5 a5 := FnOk.of Tryd.prog Tryd.func5 (by kernel_rfl)
/-- jalousie/jalousielaw29.CommandOrder -/
def a6 : AFn := ⟨110, [.tmp 4], .seq
   (.ops [⟨(some 4), none, .mv (.c (.bool false))⟩])
   (.seq
    (.seq
     (.ops [⟨(some 13), none, .mv (.t 0)⟩,
       ⟨(some 14), none, .lenS (.t 13)⟩,
       ⟨(some 15), none, .bin .gtr (.t 14) (.c (.int .i64 40))⟩,
       ⟨(some 16), none, .mv (.t 15)⟩,
       ⟨(some 17), (some (16, false)), .mv (.t 1)⟩,
       ⟨(some 18), (some (16, false)), .lenS (.t 17)⟩,
       ⟨(some 19), (some (16, false)), .bin .gtr (.t 18) (.c (.int .i64 300))⟩,
       ⟨(some 20), none, .pick (.t 16) (.c (.bool true)) (.t 19)⟩])
     (.cond (.t 20)
      (.seq
       (.ops [⟨(some 21), none, .call 9 []⟩,
         ⟨(some 4), none, .mv (.t 21)⟩])
       (.ret))
      (.skip)))
    (.seq
     (.seq
      (.ops [⟨(some 5), none, .mv (.c (.int .i64 0))⟩])
      (.block 0 (.loop (.seq
         (.seq
          (.ops [⟨(some 22), none, .mv (.t 5)⟩,
            ⟨(some 23), none, .mv (.t 0)⟩,
            ⟨(some 24), none, .lenS (.t 23)⟩,
            ⟨(some 25), none, .bin .lss (.t 22) (.t 24)⟩])
          (.cond (.t 25)
           (.skip)
           (.exit 0)))
         (.seq
          (.block 1 (.seq
            (.ops [⟨(some 28), none, .mv (.t 0)⟩,
              ⟨(some 29), none, .mv (.t 5)⟩,
              ⟨(some 30), none, .idxS (.t 28) (.t 29)⟩,
              ⟨(some 31), none, .bin .eql (.t 30) (.c (.int .u8 32))⟩])
            (.cond (.t 31)
             (.seq
              (.ops [⟨(some 32), none, .call 9 []⟩,
                ⟨(some 4), none, .mv (.t 32)⟩])
              (.ret))
             (.skip))))
          (.ops [⟨(some 26), none, .mv (.t 5)⟩,
            ⟨(some 27), none, .bin .add (.t 26) (.c (.int .i64 1))⟩,
            ⟨(some 5), none, .mv (.t 27)⟩]))))))
     (.seq
      (.ops [⟨(some 34), none, .mv (.t 0)⟩,
        ⟨(some 35), none, .bin .add (.t 34) (.c (.str [32]))⟩,
        ⟨(some 36), none, .mv (.t 1)⟩,
        ⟨(some 37), none, .bin .add (.t 35) (.t 36)⟩,
        ⟨(some 38), none, .call 10 [(.t 37)]⟩,
        ⟨(some 33), none, .mv (.t 38)⟩,
        ⟨(some 39), none, .ext (.t 33) 0⟩,
        ⟨(some 40), none, .ext (.t 33) 1⟩,
        ⟨(some 6), none, .alloc 27 [(.str []), .nilslice, (.int .i64 0), (.int .i64 0), (.int .i64 0), (.str [])]⟩,
        ⟨none, none, .store 6 (.t 6) (.t 39)⟩,
        ⟨(some 7), none, .mv (.t 40)⟩])
      (.seq
       (.ops [⟨(some 42), none, .mv (.t 0)⟩,
         ⟨(some 43), none, .call 10 [(.t 42)]⟩,
         ⟨(some 41), none, .mv (.t 43)⟩,
         ⟨(some 44), none, .ext (.t 41) 0⟩,
         ⟨(some 45), none, .ext (.t 41) 1⟩,
         ⟨(some 8), none, .alloc 27 [(.str []), .nilslice, (.int .i64 0), (.int .i64 0), (.int .i64 0), (.str [])]⟩,
         ⟨none, none, .store 6 (.t 8) (.t 44)⟩,
         ⟨(some 9), none, .mv (.t 45)⟩])
       (.seq
        (.ops [⟨(some 47), none, .mv (.t 0)⟩,
          ⟨(some 48), none, .call 18 [(.t 47)]⟩,
          ⟨(some 46), none, .mv (.t 48)⟩,
          ⟨(some 49), none, .ext (.t 46) 0⟩,
          ⟨(some 50), none, .ext (.t 46) 1⟩,
          ⟨(some 10), none, .mv (.t 49)⟩,
          ⟨(some 11), none, .mv (.t 50)⟩])
        (.seq
         (.seq
          (.ops [⟨(some 51), none, .mv (.t 0)⟩,
            ⟨(some 52), none, .lenS (.t 51)⟩,
            ⟨(some 53), none, .bin .add (.t 52) (.c (.int .i64 1))⟩,
            ⟨(some 54), none, .mv (.t 1)⟩,
            ⟨(some 55), none, .lenS (.t 54)⟩,
            ⟨(some 56), none, .bin .add (.t 53) (.t 55)⟩,
            ⟨(some 57), none, .bin .gtr (.t 56) (.c (.int .i64 256))⟩])
          (.cond (.t 57)
           (.seq
            (.ops [⟨(some 58), none, .mv (.t 7)⟩,
              ⟨(some 59), none, .bin .eql (.t 58) (.c (.int .i64 3))⟩,
              ⟨(some 60), none, .mv (.t 59)⟩,
              ⟨(some 61), (some (60, true)), .call 9 []⟩,
              ⟨(some 62), none, .pick (.t 60) (.t 61) (.c (.bool false))⟩,
              ⟨(some 4), none, .mv (.t 62)⟩])
            (.ret))
           (.skip)))
         (.seq
          (.seq
           (.ops [⟨(some 63), none, .mv (.t 11)⟩,
             ⟨(some 64), none, .un .not (.t 63)⟩])
           (.cond (.t 64)
            (.seq
             (.ops [⟨(some 65), none, .mv (.t 7)⟩,
               ⟨(some 66), none, .bin .eql (.t 65) (.c (.int .i64 4))⟩,
               ⟨(some 67), none, .mv (.t 66)⟩,
               ⟨(some 68), (some (67, true)), .mv (.t 9)⟩,
               ⟨(some 69), (some (67, true)), .bin .eql (.t 68) (.c (.int .i64 4))⟩,
               ⟨(some 70), none, .pick (.t 67) (.t 69) (.c (.bool false))⟩,
               ⟨(some 71), none, .mv (.t 70)⟩,
               ⟨(some 72), (some (71, true)), .mv (.t 10)⟩,
               ⟨(some 73), (some (71, true)), .bin .eql (.t 72) (.c (.str []))⟩,
               ⟨(some 74), none, .pick (.t 71) (.t 73) (.c (.bool false))⟩,
               ⟨(some 75), none, .mv (.t 74)⟩,
               ⟨(some 76), (some (75, true)), .call 9 []⟩,
               ⟨(some 77), none, .pick (.t 75) (.t 76) (.c (.bool false))⟩,
               ⟨(some 4), none, .mv (.t 77)⟩])
             (.ret))
            (.skip)))
          (.seq
           (.ops [⟨(some 78), none, .mv (.t 10)⟩,
             ⟨(some 79), none, .bin .eql (.t 78) (.c (.str []))⟩,
             ⟨(some 12), none, .mv (.t 79)⟩])
           (.seq
            (.ops [⟨(some 80), none, .mv (.t 9)⟩,
              ⟨(some 81), none, .bin .eql (.t 80) (.c (.int .i64 0))⟩,
              ⟨(some 82), none, .mv (.t 12)⟩,
              ⟨(some 83), none, .eq false 4 .bool (.t 81) (.t 82)⟩,
              ⟨(some 84), none, .mv (.t 83)⟩,
              ⟨(some 85), (some (84, true)), .mv (.t 9)⟩,
              ⟨(some 86), (some (84, true)), .bin .eql (.t 85) (.c (.int .i64 8))⟩,
              ⟨(some 87), (some (84, true)), .mv (.t 12)⟩,
              ⟨(some 88), (some (84, true)), .un .not (.t 87)⟩,
              ⟨(some 89), (some (84, true)), .eq false 4 .bool (.t 86) (.t 88)⟩,
              ⟨(some 90), none, .pick (.t 84) (.t 89) (.c (.bool false))⟩,
              ⟨(some 91), none, .mv (.t 90)⟩,
              ⟨(some 92), (some (91, true)), .mv (.t 12)⟩,
              ⟨(some 93), (some (91, true)), .un .not (.t 92)⟩,
              ⟨(some 94), (some (91, true)), .mv (.t 93)⟩,
              ⟨(some 95), (some (94, false)), .mv (.t 7)⟩,
              ⟨(some 96), (some (94, false)), .bin .eql (.t 95) (.c (.int .i64 8))⟩,
              ⟨(some 97), (some (91, true)), .pick (.t 94) (.c (.bool true)) (.t 96)⟩,
              ⟨(some 98), none, .pick (.t 91) (.t 97) (.c (.bool false))⟩,
              ⟨(some 99), none, .mv (.t 98)⟩,
              ⟨(some 100), (some (99, true)), .mv (.t 7)⟩,
              ⟨(some 101), (some (99, true)), .bin .eql (.t 100) (.c (.int .i64 0))⟩,
              ⟨(some 102), (some (99, true)), .mv (.t 101)⟩,
              ⟨(some 103), (some (102, false)), .mv (.t 7)⟩,
              ⟨(some 104), (some (102, false)), .bin .eql (.t 103) (.c (.int .i64 8))⟩,
              ⟨(some 105), (some (99, true)), .pick (.t 102) (.c (.bool true)) (.t 104)⟩,
              ⟨(some 106), none, .pick (.t 99) (.t 105) (.c (.bool false))⟩,
              ⟨(some 107), none, .mv (.t 106)⟩,
              ⟨(some 108), (some (107, true)), .call 9 []⟩,
              ⟨(some 109), none, .pick (.t 107) (.t 108) (.c (.bool false))⟩,
              ⟨(some 4), none, .mv (.t 109)⟩])
            (.ret))))))))))⟩
theorem ok6 : FnOk Tryd.prog 6 a6 := FnOk.of Tryd.prog Tryd.func6 (by kernel_rfl)
/-- jalousie/jalousielaw29.CommandNames -/
def a7 : AFn := ⟨125, [.tmp 2], .seq
   (.ops [⟨(some 2), none, .mv (.c (.bool false))⟩])
   (.seq
    (.ops [⟨(some 12), none, .call 21 []⟩,
      ⟨(some 3), none, .mv (.t 12)⟩])
    (.seq
     (.seq
      (.ops [⟨(some 13), none, .mv (.t 3)⟩,
        ⟨(some 14), none, .lenL (.t 13)⟩,
        ⟨(some 15), none, .bin .eql (.t 14) (.c (.int .i64 0))⟩])
      (.cond (.t 15)
       (.seq
        (.ops [⟨(some 2), none, .mv (.c (.bool false))⟩])
        (.ret))
       (.skip)))
     (.seq
      (.ops [⟨(some 16), none, .mv (.t 0)⟩,
        ⟨(some 17), none, .mv (.t 3)⟩,
        ⟨(some 18), none, .lenL (.t 17)⟩,
        ⟨(some 19), none, .bin .rem (.t 16) (.t 18)⟩,
        ⟨(some 4), none, .mv (.t 19)⟩])
      (.seq
       (.seq
        (.ops [⟨(some 20), none, .mv (.t 4)⟩,
          ⟨(some 21), none, .bin .lss (.t 20) (.c (.int .i64 0))⟩])
        (.cond (.t 21)
         (.ops [⟨(some 22), none, .mv (.t 4)⟩,
           ⟨(some 23), none, .mv (.t 3)⟩,
           ⟨(some 24), none, .lenL (.t 23)⟩,
           ⟨(some 25), none, .bin .add (.t 22) (.t 24)⟩,
           ⟨(some 4), none, .mv (.t 25)⟩])
         (.skip)))
       (.seq
        (.ops [⟨(some 27), none, .mv (.t 3)⟩,
          ⟨(some 28), none, .mv (.t 4)⟩,
          ⟨(some 29), none, .iaddrS 1 (.t 27) (.t 28)⟩,
          ⟨(some 30), none, .load none (.t 29)⟩,
          ⟨(some 31), none, .call 18 [(.t 30)]⟩,
          ⟨(some 26), none, .mv (.t 31)⟩,
          ⟨(some 32), none, .ext (.t 26) 0⟩,
          ⟨(some 33), none, .ext (.t 26) 1⟩,
          ⟨(some 5), none, .mv (.t 32)⟩,
          ⟨(some 6), none, .mv (.t 33)⟩])
        (.seq
         (.seq
          (.ops [⟨(some 34), none, .mv (.t 6)⟩,
            ⟨(some 35), none, .un .not (.t 34)⟩])
          (.cond (.t 35)
           (.seq
            (.ops [⟨(some 2), none, .mv (.c (.bool false))⟩])
            (.ret))
           (.skip)))
         (.seq
          (.ops [⟨(some 36), none, .mv (.t 3)⟩,
            ⟨(some 37), none, .mv (.t 4)⟩,
            ⟨(some 38), none, .iaddrS 1 (.t 36) (.t 37)⟩,
            ⟨(some 39), none, .load none (.t 38)⟩,
            ⟨(some 40), none, .build [(.str []), .nilslice, (.int .i64 0), (.int .i64 0), (.int .i64 0), (.str [])] [(0, 1), (1, 1), (2, 3), (5, 1)] [(0, (.t 39))]⟩,
            ⟨(some 7), none, .alloc 27 [(.str []), .nilslice, (.int .i64 0), (.int .i64 0), (.int .i64 0), (.str [])]⟩,
            ⟨none, none, .store 6 (.t 7) (.t 40)⟩])
          (.seq
           (.seq
            (.ops [⟨(some 8), none, .mv (.c (.int .i64 0))⟩])
            (.block 0 (.loop (.seq
               (.seq
                (.ops [⟨(some 41), none, .mv (.t 8)⟩,
                  ⟨(some 42), none, .mv (.t 5)⟩,
                  ⟨(some 43), none, .lenS (.t 42)⟩,
                  ⟨(some 44), none, .bin .lss (.t 41) (.t 43)⟩])
                (.cond (.t 44)
                 (.skip)
                 (.exit 0)))
               (.seq
                (.block 1 (.seq
                  (.ops [⟨(some 47), none, .mv (.t 5)⟩,
                    ⟨(some 48), none, .mv (.t 8)⟩,
                    ⟨(some 49), none, .idxS (.t 47) (.t 48)⟩])
                  (.block 2 (.seq
                    (.seq
                     (.ops [⟨(some 51), none, .bin .eql (.t 49) (.c (.int .u8 108))⟩,
                       ⟨(some 50), none, .mv (.t 51)⟩])
                     (.cond (.t 50)
                      (.skip)
                      (.ops [⟨(some 52), none, .bin .eql (.t 49) (.c (.int .u8 110))⟩,
                        ⟨(some 50), none, .mv (.t 52)⟩])))
                    (.cond (.t 50)
                     (.ops [⟨(some 53), none, .addr 1 (.t 7)⟩,
                       ⟨(some 54), none, .load none (.t 53)⟩,
                       ⟨(some 55), none, .bslice 3 1 1 [(.int .i64 0)] [(0, (.c (.int .i64 0)))]⟩,
                       ⟨(some 56), none, .append 3 1 8 (.t 54) (.t 55)⟩,
                       ⟨(some 57), none, .addr 1 (.t 7)⟩,
                       ⟨none, none, .store 1 (.t 57) (.t 56)⟩])
                     (.seq
                      (.ops [⟨(some 59), none, .bin .eql (.t 49) (.c (.int .u8 116))⟩,
                        ⟨(some 58), none, .mv (.t 59)⟩])
                      (.cond (.t 58)
                       (.seq
                        (.ops [⟨(some 60), none, .addr 5 (.t 7)⟩,
                          ⟨none, none, .store 1 (.t 60) (.c (.str [120]))⟩])
                        (.seq
                         (.ops [⟨(some 61), none, .mv (.t 8)⟩,
                           ⟨(some 62), none, .mv (.t 5)⟩,
                           ⟨(some 63), none, .lenS (.t 62)⟩,
                           ⟨(some 64), none, .bin .sub (.t 63) (.c (.int .i64 1))⟩,
                           ⟨(some 65), none, .bin .lss (.t 61) (.t 64)⟩])
                         (.cond (.t 65)
                          (.seq
                           (.ops [⟨(some 2), none, .mv (.c (.bool false))⟩])
                           (.ret))
                          (.skip))))
                       (.seq
                        (.ops [⟨(some 67), none, .bin .eql (.t 49) (.c (.int .u8 112))⟩,
                          ⟨(some 66), none, .mv (.t 67)⟩])
                        (.cond (.t 66)
                         (.skip)
                         (.seq
                          (.ops [⟨(some 2), none, .mv (.c (.bool false))⟩])
                          (.ret)))))))))))
                (.ops [⟨(some 45), none, .mv (.t 8)⟩,
                  ⟨(some 46), none, .bin .add (.t 45) (.c (.int .i64 1))⟩,
                  ⟨(some 8), none, .mv (.t 46)⟩]))))))
           (.seq
            (.seq
             (.ops [⟨(some 9), none, .mv (.c (.int .i64 0))⟩])
             (.block 3 (.loop (.seq
                (.seq
                 (.ops [⟨(some 68), none, .mv (.t 9)⟩,
                   ⟨(some 69), none, .mv (.t 3)⟩,
                   ⟨(some 70), none, .lenL (.t 69)⟩,
                   ⟨(some 71), none, .bin .lss (.t 68) (.t 70)⟩])
                 (.cond (.t 71)
                  (.skip)
                  (.exit 3)))
                (.seq
                 (.block 4 (.seq
                   (.draw [⟨⟨(some 74), none, .mv (.t 9)⟩, []⟩,
                     ⟨⟨(some 75), none, .mv (.t 4)⟩, []⟩,
                     ⟨⟨(some 76), none, .bin .neq (.t 74) (.t 75)⟩, [0, 1]⟩,
                     ⟨⟨(some 77), none, .mv (.t 76)⟩, [2]⟩,
                     ⟨⟨(some 78), (some (77, true)), .mv (.t 3)⟩, [3]⟩,
                     ⟨⟨(some 79), (some (77, true)), .mv (.t 9)⟩, [3]⟩,
                     ⟨⟨(some 80), (some (77, true)), .iaddrS 1 (.t 78) (.t 79)⟩, [4, 5, 3]⟩,
                     ⟨⟨(some 81), (some (77, true)), .load none (.t 80)⟩, [6, 3]⟩,
                     ⟨⟨(some 82), (some (77, true)), .mv (.t 3)⟩, [3]⟩,
                     ⟨⟨(some 83), (some (77, true)), .mv (.t 4)⟩, [3]⟩,
                     ⟨⟨(some 84), (some (77, true)), .iaddrS 1 (.t 82) (.t 83)⟩, [8, 9, 3]⟩,
                     ⟨⟨(some 85), (some (77, true)), .load none (.t 84)⟩, [10, 3]⟩,
                     ⟨⟨(some 86), (some (77, true)), .bin .eql (.t 81) (.t 85)⟩, [7, 11, 3]⟩,
                     ⟨⟨(some 87), none, .pick (.t 77) (.t 86) (.c (.bool false))⟩, [3, 12]⟩] [0, 0, 3, 7, 15, 15, 63, 127, 15, 15, 783, 1807, 4095, 8191])
                   (.cond (.t 87)
                    (.seq
                     (.ops [⟨(some 2), none, .mv (.c (.bool false))⟩])
                     (.ret))
                    (.skip))))
                 (.ops [⟨(some 72), none, .mv (.t 9)⟩,
                   ⟨(some 73), none, .bin .add (.t 72) (.c (.int .i64 1))⟩,
                   ⟨(some 9), none, .mv (.t 73)⟩]))))))
            (.seq
             (.ops [⟨(some 89), none, .load (some 6) (.t 7)⟩,
               ⟨(some 90), none, .call 15 [(.t 89)]⟩,
               ⟨(some 88), none, .mv (.t 90)⟩,
               ⟨(some 91), none, .ext (.t 88) 0⟩,
               ⟨(some 92), none, .ext (.t 88) 1⟩,
               ⟨(some 10), none, .mv (.t 91)⟩,
               ⟨(some 11), none, .mv (.t 92)⟩])
             (.seq
              (.draw [⟨⟨(some 93), none, .load (some 6) (.t 7)⟩, []⟩,
                ⟨⟨(some 94), none, .call 16 [(.t 93)]⟩, [0]⟩,
                ⟨⟨(some 95), none, .mv (.t 94)⟩, [1, 1]⟩,
                ⟨⟨(some 96), (some (95, true)), .mv (.t 11)⟩, [2]⟩,
                ⟨⟨(some 97), none, .pick (.t 95) (.t 96) (.c (.bool false))⟩, [2, 3]⟩,
                ⟨⟨(some 98), none, .mv (.t 97)⟩, [4, 2]⟩,
                ⟨⟨(some 99), (some (98, true)), .mv (.t 10)⟩, [5]⟩,
                ⟨⟨(some 100), (some (98, true)), .lenS (.t 99)⟩, [6, 5]⟩,
                ⟨⟨(some 101), (some (98, true)), .mv (.t 3)⟩, [5]⟩,
                ⟨⟨(some 102), (some (98, true)), .mv (.t 4)⟩, [5]⟩,
                ⟨⟨(some 103), (some (98, true)), .iaddrS 1 (.t 101) (.t 102)⟩, [8, 9, 5]⟩,
                ⟨⟨(some 104), (some (98, true)), .load none (.t 103)⟩, [10, 5]⟩,
                ⟨⟨(some 105), (some (98, true)), .lenS (.t 104)⟩, [11, 5]⟩,
                ⟨⟨(some 106), (some (98, true)), .bin .geq (.t 100) (.t 105)⟩, [7, 12, 5]⟩,
                ⟨⟨(some 107), none, .pick (.t 98) (.t 106) (.c (.bool false))⟩, [5, 13]⟩,
                ⟨⟨(some 108), none, .mv (.t 107)⟩, [14, 5]⟩,
                ⟨⟨(some 109), (some (108, true)), .mv (.t 10)⟩, [15]⟩,
                ⟨⟨(some 110), (some (108, true)), .mv (.t 3)⟩, [15]⟩,
                ⟨⟨(some 111), (some (108, true)), .mv (.t 4)⟩, [15]⟩,
                ⟨⟨(some 112), (some (108, true)), .iaddrS 1 (.t 110) (.t 111)⟩, [17, 18, 15]⟩,
                ⟨⟨(some 113), (some (108, true)), .load none (.t 112)⟩, [19, 15]⟩,
                ⟨⟨(some 114), (some (108, true)), .lenS (.t 113)⟩, [20, 15]⟩,
                ⟨⟨(some 115), (some (108, true)), .sliceS (.t 109) none (some (.t 114))⟩, [16, 21, 15]⟩,
                ⟨⟨(some 116), (some (108, true)), .mv (.t 3)⟩, [15]⟩,
                ⟨⟨(some 117), (some (108, true)), .mv (.t 4)⟩, [15]⟩,
                ⟨⟨(some 118), (some (108, true)), .iaddrS 1 (.t 116) (.t 117)⟩, [23, 24, 15]⟩,
                ⟨⟨(some 119), (some (108, true)), .load none (.t 118)⟩, [25, 15]⟩,
                ⟨⟨(some 120), (some (108, true)), .bin .eql (.t 115) (.t 119)⟩, [22, 26, 15]⟩,
                ⟨⟨(some 121), none, .pick (.t 108) (.t 120) (.c (.bool false))⟩, [15, 27]⟩,
                ⟨⟨(some 122), none, .mv (.t 121)⟩, [28, 15]⟩,
                ⟨⟨(some 123), (some (122, true)), .call 9 []⟩, [29, 29]⟩,
                ⟨⟨(some 124), none, .pick (.t 122) (.t 123) (.c (.bool false))⟩, [29, 30]⟩,
                ⟨⟨(some 2), none, .mv (.t 124)⟩, [31, 30, 0, 1, 2, 3, 4, 5, 6, 7, 8, 9, 10, 11, 12, 13, 14, 15, 16, 17, 18, 19, 20, 21, 22, 23, 24, 25, 26, 27, 28, 29, 30, 31]⟩] [0, 1, 3, 7, 15, 31, 63, 127, 63, 63, 831, 1855, 3903, 8191, 16383, 32767, 65535, 65535, 65535, 458751, 983039, 2031615, 4194303, 65535, 65535, 25231359, 58785791, 134217727, 268435455, 536870911, 1073741823, 2147483647, 4294967295])
              (.ret))))))))))))⟩
theorem ok7 : FnOk Tryd.prog 7 a7 := FnOk.of Tryd.prog Tryd.func7 (by kernel_rfl)
/-- jalousie/jalousielaw29.CommandKnown -/
def a8 : AFn := ⟨217, [.tmp 0], .seq
   (.ops [⟨(some 0), none, .mv (.c (.bool false))⟩])
   (.seq
    (.ops [⟨(some 24), none, .bslice 3 1 2 [(.int .i64 0)] [(0, (.c (.int .i64 1))), (1, (.c (.int .i64 0)))]⟩,
      ⟨(some 25), none, .build [(.str []), .nilslice, (.int .i64 0), (.int .i64 0), (.int .i64 0), (.str [])] [(0, 1), (1, 1), (2, 3), (5, 1)] [(0, (.c (.str [97, 116, 116, 97, 99, 104]))), (1, (.t 24))]⟩,
      ⟨(some 26), none, .build [(.str []), (.str []), .nilslice, (.int .i64 0), (.int .i64 0), (.int .i64 0), (.str [])] [(0, 1), (1, 6)] [(0, (.c (.str [97, 116, 116, 97, 99, 104, 32, 49, 32, 48]))), (1, (.t 25))]⟩,
      ⟨(some 27), none, .bslice 3 1 2 [(.int .i64 0)] [(0, (.c (.int .i64 (-3)))), (1, (.c (.int .i64 4)))]⟩,
      ⟨(some 28), none, .build [(.str []), .nilslice, (.int .i64 0), (.int .i64 0), (.int .i64 0), (.str [])] [(0, 1), (1, 1), (2, 3), (5, 1)] [(0, (.c (.str [99, 111, 112, 121, 45, 109, 111, 118, 101]))), (1, (.t 27))]⟩,
      ⟨(some 29), none, .build [(.str []), (.str []), .nilslice, (.int .i64 0), (.int .i64 0), (.int .i64 0), (.str [])] [(0, 1), (1, 6)] [(0, (.c (.str [99, 111, 112, 121, 45, 109, 111, 118, 101, 32, 45, 51, 32, 52]))), (1, (.t 28))]⟩,
      ⟨(some 30), none, .bslice 3 1 1 [(.int .i64 0)] [(0, (.c (.int .i64 0)))]⟩,
      ⟨(some 31), none, .build [(.str []), .nilslice, (.int .i64 0), (.int .i64 0), (.int .i64 0), (.str [])] [(0, 1), (1, 1), (2, 3), (5, 1)] [(0, (.c (.str [114, 101, 110, 97, 109, 101, 45, 119, 105, 110, 100, 111, 119]))), (1, (.t 30)), (3, (.c (.str [97, 32, 98])))]⟩,
      ⟨(some 32), none, .build [(.str []), (.str []), .nilslice, (.int .i64 0), (.int .i64 0), (.int .i64 0), (.str [])] [(0, 1), (1, 6)] [(0, (.c (.str [114, 101, 110, 97, 109, 101, 45, 119, 105, 110, 100, 111, 119, 32, 48, 32, 97, 32, 98]))), (1, (.t 31))]⟩,
      ⟨(some 33), none, .build [(.int .i64 0), (.int .i64 0), (.int .i64 0)] [(0, 1), (1, 1), (2, 1)] [(0, (.c (.int .i64 2))), (1, (.c (.int .i64 1)))]⟩,
      ⟨(some 34), none, .build [(.str []), .nilslice, (.int .i64 0), (.int .i64 0), (.int .i64 0), (.str [])] [(0, 1), (1, 1), (2, 3), (5, 1)] [(0, (.c (.str [115, 101, 108, 101, 99, 116, 45, 112, 97, 110, 101]))), (2, (.t 33))]⟩,
      ⟨(some 35), none, .build [(.str []), (.str []), .nilslice, (.int .i64 0), (.int .i64 0), (.int .i64 0), (.str [])] [(0, 1), (1, 6)] [(0, (.c (.str [115, 101, 108, 101, 99, 116, 45, 112, 97, 110, 101, 32, 112, 50, 46, 49, 46, 48]))), (1, (.t 34))]⟩,
      ⟨(some 36), none, .build [(.str []), .nilslice, (.int .i64 0), (.int .i64 0), (.int .i64 0), (.str [])] [(0, 1), (1, 1), (2, 3), (5, 1)] [(0, (.c (.str [122, 111, 111, 109])))]⟩,
      ⟨(some 37), none, .build [(.str []), (.str []), .nilslice, (.int .i64 0), (.int .i64 0), (.int .i64 0), (.str [])] [(0, 1), (1, 6)] [(0, (.c (.str [122, 111, 111, 109]))), (1, (.t 36))]⟩,
      ⟨(some 38), none, .build [(.str []), .nilslice, (.int .i64 0), (.int .i64 0), (.int .i64 0), (.str [])] [(0, 1), (1, 1), (2, 3), (5, 1)] [(0, (.c (.str [115, 101, 116, 45, 98, 117, 102, 102, 101, 114]))), (3, (.c (.str [32, 120, 32])))]⟩,
      ⟨(some 39), none, .build [(.str []), (.str []), .nilslice, (.int .i64 0), (.int .i64 0), (.int .i64 0), (.str [])] [(0, 1), (1, 6)] [(0, (.c (.str [115, 101, 116, 45, 98, 117, 102, 102, 101, 114, 32, 32, 120, 32]))), (1, (.t 38))]⟩,
      ⟨(some 40), none, .bslice 3 1 3 [(.int .i64 0)] [(0, (.c (.int .i64 3))), (1, (.c (.int .i64 0))), (2, (.c (.int .i64 1)))]⟩,
      ⟨(some 41), none, .build [(.str []), .nilslice, (.int .i64 0), (.int .i64 0), (.int .i64 0), (.str [])] [(0, 1), (1, 1), (2, 3), (5, 1)] [(0, (.c (.str [100, 111, 119, 110, 103, 114, 97, 100, 101]))), (1, (.t 40))]⟩,
      ⟨(some 42), none, .build [(.str []), (.str []), .nilslice, (.int .i64 0), (.int .i64 0), (.int .i64 0), (.str [])] [(0, 1), (1, 6)] [(0, (.c (.str [100, 111, 119, 110, 103, 114, 97, 100, 101, 32, 51, 32, 48, 32, 49]))), (1, (.t 41))]⟩,
      ⟨(some 43), none, .bslice 3 1 1 [(.int .i64 0)] [(0, (.c (.int .i64 97)))]⟩,
      ⟨(some 44), none, .build [(.str []), .nilslice, (.int .i64 0), (.int .i64 0), (.int .i64 0), (.str [])] [(0, 1), (1, 1), (2, 3), (5, 1)] [(0, (.c (.str [98, 105, 110, 100]))), (1, (.t 43)), (3, (.c (.str [122, 111, 111, 109])))]⟩,
      ⟨(some 45), none, .build [(.str []), (.str []), .nilslice, (.int .i64 0), (.int .i64 0), (.int .i64 0), (.str [])] [(0, 1), (1, 6)] [(0, (.c (.str [98, 105, 110, 100, 32, 57, 55, 32, 122, 111, 111, 109]))), (1, (.t 44))]⟩,
      ⟨(some 46), none, .bslice 3 1 1 [(.int .i64 0)] [(0, (.c (.int .i64 (-9999))))]⟩,
      ⟨(some 47), none, .build [(.str []), .nilslice, (.int .i64 0), (.int .i64 0), (.int .i64 0), (.str [])] [(0, 1), (1, 1), (2, 3), (5, 1)] [(0, (.c (.str [114, 101, 115, 105, 122, 101, 45, 104]))), (1, (.t 46))]⟩,
      ⟨(some 48), none, .build [(.str []), (.str []), .nilslice, (.int .i64 0), (.int .i64 0), (.int .i64 0), (.str [])] [(0, 1), (1, 6)] [(0, (.c (.str [114, 101, 115, 105, 122, 101, 45, 104, 32, 45, 57, 57, 57, 57]))), (1, (.t 47))]⟩,
      ⟨(some 49), none, .call 22 [(.c (.int .i64 200))]⟩,
      ⟨(some 50), none, .bin .add (.c (.str [115, 101, 110, 100, 32])) (.t 49)⟩,
      ⟨(some 51), none, .call 22 [(.c (.int .i64 200))]⟩,
      ⟨(some 52), none, .build [(.str []), .nilslice, (.int .i64 0), (.int .i64 0), (.int .i64 0), (.str [])] [(0, 1), (1, 1), (2, 3), (5, 1)] [(0, (.c (.str [115, 101, 110, 100]))), (3, (.t 51))]⟩,
      ⟨(some 53), none, .build [(.str []), (.str []), .nilslice, (.int .i64 0), (.int .i64 0), (.int .i64 0), (.str [])] [(0, 1), (1, 6)] [(0, (.t 50)), (1, (.t 52))]⟩,
      ⟨(some 54), none, .bslice 3 1 1 [(.int .i64 0)] [(0, (.c (.int .i64 63)))]⟩,
      ⟨(some 55), none, .build [(.str []), .nilslice, (.int .i64 0), (.int .i64 0), (.int .i64 0), (.str [])] [(0, 1), (1, 1), (2, 3), (5, 1)] [(0, (.c (.str [110, 101, 119, 45, 115, 101, 115, 115, 105, 111, 110]))), (1, (.t 54))]⟩,
      ⟨(some 56), none, .build [(.str []), (.str []), .nilslice, (.int .i64 0), (.int .i64 0), (.int .i64 0), (.str [])] [(0, 1), (1, 6)] [(0, (.c (.str [110, 101, 119, 45, 115, 101, 115, 115, 105, 111, 110, 32, 54, 51]))), (1, (.t 55))]⟩,
      ⟨(some 57), none, .bslice 49 7 11 [(.str []), (.str []), .nilslice, (.int .i64 0), (.int .i64 0), (.int .i64 0), (.str [])] [(0, (.t 26)), (1, (.t 29)), (2, (.t 32)), (3, (.t 35)), (4, (.t 37)), (5, (.t 39)), (6, (.t 42)), (7, (.t 45)), (8, (.t 48)), (9, (.t 53)), (10, (.t 56))]⟩,
      ⟨(some 1), none, .mv (.t 57)⟩])
    (.seq
     (.seq
      (.ops [⟨(some 2), none, .mv (.c (.int .i64 0))⟩])
      (.block 0 (.loop (.seq
         (.seq
          (.ops [⟨(some 58), none, .mv (.t 2)⟩,
            ⟨(some 59), none, .mv (.t 1)⟩,
            ⟨(some 60), none, .lenL (.t 59)⟩,
            ⟨(some 61), none, .bin .lss (.t 58) (.t 60)⟩])
          (.cond (.t 61)
           (.skip)
           (.exit 0)))
         (.seq
          (.block 1 (.seq
            (.ops [⟨(some 65), none, .mv (.t 1)⟩,
              ⟨(some 66), none, .mv (.t 2)⟩,
              ⟨(some 67), none, .iaddrS 7 (.t 65) (.t 66)⟩,
              ⟨(some 68), none, .addr 0 (.t 67)⟩,
              ⟨(some 69), none, .load none (.t 68)⟩,
              ⟨(some 70), none, .call 10 [(.t 69)]⟩,
              ⟨(some 64), none, .mv (.t 70)⟩,
              ⟨(some 71), none, .ext (.t 64) 0⟩,
              ⟨(some 72), none, .ext (.t 64) 1⟩,
              ⟨(some 3), none, .alloc 27 [(.str []), .nilslice, (.int .i64 0), (.int .i64 0), (.int .i64 0), (.str [])]⟩,
              ⟨none, none, .store 6 (.t 3) (.t 71)⟩,
              ⟨(some 4), none, .mv (.t 72)⟩])
            (.seq
             (.ops [⟨(some 74), none, .mv (.t 1)⟩,
               ⟨(some 75), none, .mv (.t 2)⟩,
               ⟨(some 76), none, .iaddrS 7 (.t 74) (.t 75)⟩,
               ⟨(some 77), none, .addr 1 (.t 76)⟩,
               ⟨(some 78), none, .load (some 6) (.t 77)⟩,
               ⟨(some 79), none, .call 15 [(.t 78)]⟩,
               ⟨(some 73), none, .mv (.t 79)⟩,
               ⟨(some 80), none, .ext (.t 73) 0⟩,
               ⟨(some 81), none, .ext (.t 73) 1⟩,
               ⟨(some 5), none, .mv (.t 80)⟩,
               ⟨(some 6), none, .mv (.t 81)⟩])
             (.seq
              (.draw [⟨⟨(some 82), none, .mv (.t 4)⟩, []⟩,
                ⟨⟨(some 83), none, .bin .neq (.t 82) (.c (.int .i64 0))⟩, [0]⟩,
                ⟨⟨(some 84), none, .mv (.t 83)⟩, [1]⟩,
                ⟨⟨(some 85), (some (84, false)), .load (some 6) (.t 3)⟩, [2]⟩,
                ⟨⟨(some 86), (some (84, false)), .mv (.t 1)⟩, [2]⟩,
                ⟨⟨(some 87), (some (84, false)), .mv (.t 2)⟩, [2]⟩,
                ⟨⟨(some 88), (some (84, false)), .iaddrS 7 (.t 86) (.t 87)⟩, [4, 5, 2]⟩,
                ⟨⟨(some 89), (some (84, false)), .addr 1 (.t 88)⟩, [6, 2]⟩,
                ⟨⟨(some 90), (some (84, false)), .load (some 6) (.t 89)⟩, [7, 2]⟩,
                ⟨⟨(some 91), (some (84, false)), .call 20 [(.t 85), (.t 90)]⟩, [3, 8, 2, 2]⟩,
                ⟨⟨(some 92), (some (84, false)), .un .not (.t 91)⟩, [9, 2]⟩,
                ⟨⟨(some 93), none, .pick (.t 84) (.c (.bool true)) (.t 92)⟩, [2, 10]⟩,
                ⟨⟨(some 94), none, .mv (.t 93)⟩, [11, 9]⟩,
                ⟨⟨(some 95), (some (94, false)), .mv (.t 5)⟩, [12]⟩,
                ⟨⟨(some 96), (some (94, false)), .mv (.t 1)⟩, [12]⟩,
                ⟨⟨(some 97), (some (94, false)), .mv (.t 2)⟩, [12]⟩,
                ⟨⟨(some 98), (some (94, false)), .iaddrS 7 (.t 96) (.t 97)⟩, [14, 15, 12]⟩,
                ⟨⟨(some 99), (some (94, false)), .addr 0 (.t 98)⟩, [16, 12]⟩,
                ⟨⟨(some 100), (some (94, false)), .load none (.t 99)⟩, [17, 12]⟩,
                ⟨⟨(some 101), (some (94, false)), .bin .neq (.t 95) (.t 100)⟩, [13, 18, 12]⟩,
                ⟨⟨(some 102), none, .pick (.t 94) (.c (.bool true)) (.t 101)⟩, [12, 19]⟩,
                ⟨⟨(some 103), none, .mv (.t 102)⟩, [20, 12]⟩,
                ⟨⟨(some 104), (some (103, false)), .mv (.t 6)⟩, [21]⟩,
                ⟨⟨(some 105), (some (103, false)), .un .not (.t 104)⟩, [22, 21]⟩,
                ⟨⟨(some 106), none, .pick (.t 103) (.c (.bool true)) (.t 105)⟩, [21, 23]⟩] [0, 1, 3, 7, 7, 7, 55, 119, 247, 511, 1023, 2047, 4095, 8191, 8191, 8191, 57343, 122879, 253951, 524287, 1048575, 2097151, 4194303, 8388607, 16777215])
              (.cond (.t 106)
               (.seq
                (.ops [⟨(some 0), none, .mv (.c (.bool false))⟩])
                (.ret))
               (.skip))))))
          (.ops [⟨(some 62), none, .mv (.t 2)⟩,
            ⟨(some 63), none, .bin .add (.t 62) (.c (.int .i64 1))⟩,
            ⟨(some 2), none, .mv (.t 63)⟩]))))))
     (.seq
      (.ops [⟨(some 107), none, .call 22 [(.c (.int .i64 201))]⟩,
        ⟨(some 108), none, .bin .add (.c (.str [115, 101, 110, 100, 32])) (.t 107)⟩,
        ⟨(some 109), none, .bslice 9 1 22 [(.str [])] [(0, (.c (.str [122, 111, 111, 109, 32, 49]))), (1, (.c (.str [122, 111, 111, 109, 32]))), (2, (.c (.str [97, 116, 116, 97, 99, 104, 32, 54, 52, 32, 48]))), (3, (.c (.str [97, 116, 116, 97, 99, 104, 32, 49, 32, 32, 48]))), (4, (.c (.str [97, 116, 116, 97, 99, 104, 32, 49]))), (5, (.c (.str [97, 116, 116, 97, 99, 104, 32, 49, 32, 48, 32, 48]))), (6, (.c (.str [97, 116, 116, 97, 99, 104, 32, 48, 49, 32, 48]))), (7, (.c (.str [97, 116, 116, 97, 99, 104, 32, 45, 49, 32, 48]))), (8, (.c (.str [97, 116, 116, 97, 99, 104, 32, 49, 32, 45, 48]))), (9, (.c (.str [97, 116, 116, 97, 99, 104, 32, 49, 32, 49, 48, 48, 48, 48]))), (10, (.c (.str [114, 101, 115, 105, 122, 101, 45, 104, 32, 120]))), (11, (.c (.str [114, 101, 115, 105, 122, 101, 45, 104]))), (12, (.c (.str [115, 101, 108, 101, 99, 116, 45, 112, 97, 110, 101, 32, 50, 46, 49, 46, 48]))), (13, (.c (.str [115, 101, 108, 101, 99, 116, 45, 112, 97, 110, 101, 32, 112, 50, 46, 49]))), (14, (.c (.str [115, 101, 108, 101, 99, 116, 45, 112, 97, 110, 101, 32, 112, 50, 46, 49, 46, 48, 48]))), (15, (.c (.str [115, 101, 108, 101, 99, 116, 45, 112, 97, 110, 101, 32, 112, 50, 49, 52, 55, 52, 56, 51, 54, 52, 56, 46, 48, 46, 48]))), (16, (.c (.str [115, 101, 110, 100]))), (17, (.c (.str [115, 101, 110, 100, 32]))), (18, (.c (.str [115, 101, 110, 100, 32, 9]))), (19, (.t 108)), (20, (.c (.str [114, 101, 110, 97, 109, 101, 45, 119, 105, 110, 100, 111, 119, 32, 97]))), (21, (.c (.str [114, 101, 110, 97, 109, 101, 45, 119, 105, 110, 100, 111, 119, 32, 48])))]⟩,
        ⟨(some 7), none, .mv (.t 109)⟩])
      (.seq
       (.seq
        (.ops [⟨(some 8), none, .mv (.c (.int .i64 0))⟩])
        (.block 2 (.loop (.seq
           (.seq
            (.ops [⟨(some 110), none, .mv (.t 8)⟩,
              ⟨(some 111), none, .mv (.t 7)⟩,
              ⟨(some 112), none, .lenL (.t 111)⟩,
              ⟨(some 113), none, .bin .lss (.t 110) (.t 112)⟩])
            (.cond (.t 113)
             (.skip)
             (.exit 2)))
           (.seq
            (.block 3 (.seq
              (.ops [⟨(some 117), none, .mv (.t 7)⟩,
                ⟨(some 118), none, .mv (.t 8)⟩,
                ⟨(some 119), none, .iaddrS 1 (.t 117) (.t 118)⟩,
                ⟨(some 120), none, .load none (.t 119)⟩,
                ⟨(some 121), none, .call 10 [(.t 120)]⟩,
                ⟨(some 116), none, .mv (.t 121)⟩,
                ⟨(some 122), none, .ext (.t 116) 0⟩,
                ⟨(some 123), none, .ext (.t 116) 1⟩,
                ⟨(some 9), none, .alloc 27 [(.str []), .nilslice, (.int .i64 0), (.int .i64 0), (.int .i64 0), (.str [])]⟩,
                ⟨none, none, .store 6 (.t 9) (.t 122)⟩,
                ⟨(some 10), none, .mv (.t 123)⟩])
              (.seq
               (.ops [⟨(some 124), none, .mv (.t 10)⟩,
                 ⟨(some 125), none, .bin .neq (.t 124) (.c (.int .i64 8))⟩])
               (.cond (.t 125)
                (.seq
                 (.ops [⟨(some 0), none, .mv (.c (.bool false))⟩])
                 (.ret))
                (.skip)))))
            (.ops [⟨(some 114), none, .mv (.t 8)⟩,
              ⟨(some 115), none, .bin .add (.t 114) (.c (.int .i64 1))⟩,
              ⟨(some 8), none, .mv (.t 115)⟩]))))))
       (.seq
        (.ops [⟨(some 126), none, .bslice 9 1 5 [(.str [])] [(0, (.c (.str []))), (1, (.c (.str [122, 111, 111, 109, 121]))), (2, (.c (.str [32, 122, 111, 111, 109]))), (3, (.c (.str [90, 111, 111, 109]))), (4, (.c (.str [120, 32, 49])))]⟩,
          ⟨(some 11), none, .mv (.t 126)⟩])
        (.seq
         (.seq
          (.ops [⟨(some 12), none, .mv (.c (.int .i64 0))⟩])
          (.block 4 (.loop (.seq
             (.seq
              (.ops [⟨(some 127), none, .mv (.t 12)⟩,
                ⟨(some 128), none, .mv (.t 11)⟩,
                ⟨(some 129), none, .lenL (.t 128)⟩,
                ⟨(some 130), none, .bin .lss (.t 127) (.t 129)⟩])
              (.cond (.t 130)
               (.skip)
               (.exit 4)))
             (.seq
              (.block 5 (.seq
                (.ops [⟨(some 134), none, .mv (.t 11)⟩,
                  ⟨(some 135), none, .mv (.t 12)⟩,
                  ⟨(some 136), none, .iaddrS 1 (.t 134) (.t 135)⟩,
                  ⟨(some 137), none, .load none (.t 136)⟩,
                  ⟨(some 138), none, .call 10 [(.t 137)]⟩,
                  ⟨(some 133), none, .mv (.t 138)⟩,
                  ⟨(some 139), none, .ext (.t 133) 0⟩,
                  ⟨(some 140), none, .ext (.t 133) 1⟩,
                  ⟨(some 13), none, .alloc 27 [(.str []), .nilslice, (.int .i64 0), (.int .i64 0), (.int .i64 0), (.str [])]⟩,
                  ⟨none, none, .store 6 (.t 13) (.t 139)⟩,
                  ⟨(some 14), none, .mv (.t 140)⟩])
                (.seq
                 (.ops [⟨(some 141), none, .mv (.t 14)⟩,
                   ⟨(some 142), none, .bin .neq (.t 141) (.c (.int .i64 4))⟩])
                 (.cond (.t 142)
                  (.seq
                   (.ops [⟨(some 0), none, .mv (.c (.bool false))⟩])
                   (.ret))
                  (.skip)))))
              (.ops [⟨(some 131), none, .mv (.t 12)⟩,
                ⟨(some 132), none, .bin .add (.t 131) (.c (.int .i64 1))⟩,
                ⟨(some 12), none, .mv (.t 132)⟩]))))))
         (.seq
          (.ops [⟨(some 144), none, .call 22 [(.c (.int .i64 257))]⟩,
            ⟨(some 145), none, .call 10 [(.t 144)]⟩,
            ⟨(some 143), none, .mv (.t 145)⟩,
            ⟨(some 146), none, .ext (.t 143) 0⟩,
            ⟨(some 147), none, .ext (.t 143) 1⟩,
            ⟨(some 15), none, .alloc 27 [(.str []), .nilslice, (.int .i64 0), (.int .i64 0), (.int .i64 0), (.str [])]⟩,
            ⟨none, none, .store 6 (.t 15) (.t 146)⟩,
            ⟨(some 16), none, .mv (.t 147)⟩])
          (.seq
           (.ops [⟨(some 148), none, .build [(.str []), .nilslice, (.int .i64 0), (.int .i64 0), (.int .i64 0), (.str [])] [(0, 1), (1, 1), (2, 3), (5, 1)] []⟩,
             ⟨(some 149), none, .bslice 3 1 1 [(.int .i64 0)] [(0, (.c (.int .i64 1)))]⟩,
             ⟨(some 150), none, .build [(.str []), .nilslice, (.int .i64 0), (.int .i64 0), (.int .i64 0), (.str [])] [(0, 1), (1, 1), (2, 3), (5, 1)] [(0, (.c (.str [122, 111, 111, 109]))), (1, (.t 149))]⟩,
             ⟨(some 151), none, .build [(.str []), .nilslice, (.int .i64 0), (.int .i64 0), (.int .i64 0), (.str [])] [(0, 1), (1, 1), (2, 3), (5, 1)] [(0, (.c (.str [122, 111, 111, 109]))), (3, (.c (.str [120])))]⟩,
             ⟨(some 152), none, .build [(.int .i64 0), (.int .i64 0), (.int .i64 0)] [(0, 1), (1, 1), (2, 1)] [(2, (.c (.int .i64 1)))]⟩,
             ⟨(some 153), none, .build [(.str []), .nilslice, (.int .i64 0), (.int .i64 0), (.int .i64 0), (.str [])] [(0, 1), (1, 1), (2, 3), (5, 1)] [(0, (.c (.str [122, 111, 111, 109]))), (2, (.t 152))]⟩,
             ⟨(some 154), none, .bslice 3 1 1 [(.int .i64 0)] [(0, (.c (.int .i64 1)))]⟩,
             ⟨(some 155), none, .build [(.str []), .nilslice, (.int .i64 0), (.int .i64 0), (.int .i64 0), (.str [])] [(0, 1), (1, 1), (2, 3), (5, 1)] [(0, (.c (.str [97, 116, 116, 97, 99, 104]))), (1, (.t 154))]⟩,
             ⟨(some 156), none, .bslice 3 1 2 [(.int .i64 0)] [(0, (.c (.int .i64 64))), (1, (.c (.int .i64 0)))]⟩,
             ⟨(some 157), none, .build [(.str []), .nilslice, (.int .i64 0), (.int .i64 0), (.int .i64 0), (.str [])] [(0, 1), (1, 1), (2, 3), (5, 1)] [(0, (.c (.str [97, 116, 116, 97, 99, 104]))), (1, (.t 156))]⟩,
             ⟨(some 158), none, .build [(.str []), .nilslice, (.int .i64 0), (.int .i64 0), (.int .i64 0), (.str [])] [(0, 1), (1, 1), (2, 3), (5, 1)] [(0, (.c (.str [115, 101, 110, 100])))]⟩,
             ⟨(some 159), none, .build [(.str []), .nilslice, (.int .i64 0), (.int .i64 0), (.int .i64 0), (.str [])] [(0, 1), (1, 1), (2, 3), (5, 1)] [(0, (.c (.str [115, 101, 110, 100]))), (3, (.c (.str [10])))]⟩,
             ⟨(some 160), none, .build [(.int .i64 0), (.int .i64 0), (.int .i64 0)] [(0, 1), (1, 1), (2, 1)] [(2, (.c (.int .i64 (-1))))]⟩,
             ⟨(some 161), none, .build [(.str []), .nilslice, (.int .i64 0), (.int .i64 0), (.int .i64 0), (.str [])] [(0, 1), (1, 1), (2, 3), (5, 1)] [(0, (.c (.str [115, 101, 108, 101, 99, 116, 45, 112, 97, 110, 101]))), (2, (.t 160))]⟩,
             ⟨(some 162), none, .bslice 27 6 9 [(.str []), .nilslice, (.int .i64 0), (.int .i64 0), (.int .i64 0), (.str [])] [(0, (.t 148)), (1, (.t 150)), (2, (.t 151)), (3, (.t 153)), (4, (.t 155)), (5, (.t 157)), (6, (.t 158)), (7, (.t 159)), (8, (.t 161))]⟩,
             ⟨(some 17), none, .mv (.t 162)⟩])
           (.seq
            (.seq
             (.ops [⟨(some 18), none, .mv (.c (.int .i64 0))⟩])
             (.block 6 (.loop (.seq
                (.seq
                 (.ops [⟨(some 163), none, .mv (.t 18)⟩,
                   ⟨(some 164), none, .mv (.t 17)⟩,
                   ⟨(some 165), none, .lenL (.t 164)⟩,
                   ⟨(some 166), none, .bin .lss (.t 163) (.t 165)⟩])
                 (.cond (.t 166)
                  (.skip)
                  (.exit 6)))
                (.seq
                 (.block 7 (.seq
                   (.ops [⟨(some 170), none, .mv (.t 17)⟩,
                     ⟨(some 171), none, .mv (.t 18)⟩,
                     ⟨(some 172), none, .iaddrS 6 (.t 170) (.t 171)⟩,
                     ⟨(some 173), none, .load (some 6) (.t 172)⟩,
                     ⟨(some 174), none, .call 15 [(.t 173)]⟩,
                     ⟨(some 169), none, .mv (.t 174)⟩,
                     ⟨(some 175), none, .ext (.t 169) 0⟩,
                     ⟨(some 176), none, .ext (.t 169) 1⟩,
                     ⟨(some 19), none, .mv (.t 175)⟩,
                     ⟨(some 20), none, .mv (.t 176)⟩])
                   (.seq
                    (.ops [⟨(some 177), none, .mv (.t 20)⟩,
                      ⟨(some 178), none, .mv (.t 177)⟩,
                      ⟨(some 179), (some (178, false)), .mv (.t 19)⟩,
                      ⟨(some 180), (some (178, false)), .bin .neq (.t 179) (.c (.str []))⟩,
                      ⟨(some 181), none, .pick (.t 178) (.c (.bool true)) (.t 180)⟩,
                      ⟨(some 182), none, .mv (.t 181)⟩,
                      ⟨(some 183), (some (182, false)), .mv (.t 17)⟩,
                      ⟨(some 184), (some (182, false)), .mv (.t 18)⟩,
                      ⟨(some 185), (some (182, false)), .iaddrS 6 (.t 183) (.t 184)⟩,
                      ⟨(some 186), (some (182, false)), .load (some 6) (.t 185)⟩,
                      ⟨(some 187), (some (182, false)), .call 16 [(.t 186)]⟩,
                      ⟨(some 188), none, .pick (.t 182) (.c (.bool true)) (.t 187)⟩])
                    (.cond (.t 188)
                     (.seq
                      (.ops [⟨(some 0), none, .mv (.c (.bool false))⟩])
                      (.ret))
                     (.skip)))))
                 (.ops [⟨(some 167), none, .mv (.t 18)⟩,
                   ⟨(some 168), none, .bin .add (.t 167) (.c (.int .i64 1))⟩,
                   ⟨(some 18), none, .mv (.t 168)⟩]))))))
            (.seq
             (.ops [⟨(some 190), none, .call 18 [(.c (.str [100, 111, 119, 110, 103, 114, 97, 100, 101]))]⟩,
               ⟨(some 189), none, .mv (.t 190)⟩,
               ⟨(some 191), none, .ext (.t 189) 0⟩,
               ⟨(some 192), none, .ext (.t 189) 1⟩,
               ⟨(some 21), none, .mv (.t 191)⟩,
               ⟨(some 22), none, .mv (.t 192)⟩])
             (.seq
              (.ops [⟨(some 193), none, .call 21 []⟩,
                ⟨(some 23), none, .mv (.t 193)⟩])
              (.seq
               (.ops [⟨(some 194), none, .mv (.t 16)⟩,
                 ⟨(some 195), none, .bin .eql (.t 194) (.c (.int .i64 3))⟩,
                 ⟨(some 196), none, .mv (.t 195)⟩,
                 ⟨(some 197), (some (196, true)), .mv (.t 21)⟩,
                 ⟨(some 198), (some (196, true)), .bin .eql (.t 197) (.c (.str [108, 110, 108]))⟩,
                 ⟨(some 199), none, .pick (.t 196) (.t 198) (.c (.bool false))⟩,
                 ⟨(some 200), none, .mv (.t 199)⟩,
                 ⟨(some 201), (some (200, true)), .mv (.t 22)⟩,
                 ⟨(some 202), none, .pick (.t 200) (.t 201) (.c (.bool false))⟩,
                 ⟨(some 203), none, .mv (.t 202)⟩,
                 ⟨(some 204), (some (203, true)), .mv (.t 23)⟩,
                 ⟨(some 205), (some (203, true)), .lenL (.t 204)⟩,
                 ⟨(some 206), (some (203, true)), .bin .gtr (.t 205) (.c (.int .i64 0))⟩,
                 ⟨(some 207), none, .pick (.t 203) (.t 206) (.c (.bool false))⟩,
                 ⟨(some 208), none, .mv (.t 207)⟩,
                 ⟨(some 209), (some (208, true)), .mv (.t 23)⟩,
                 ⟨(some 210), (some (208, true)), .iaddrS 1 (.t 209) (.c (.int .i64 0))⟩,
                 ⟨(some 211), (some (208, true)), .load none (.t 210)⟩,
                 ⟨(some 212), (some (208, true)), .bin .eql (.t 211) (.c (.str [110, 101, 119, 45, 115, 101, 115, 115, 105, 111, 110]))⟩,
                 ⟨(some 213), none, .pick (.t 208) (.t 212) (.c (.bool false))⟩,
                 ⟨(some 214), none, .mv (.t 213)⟩,
                 ⟨(some 215), (some (214, true)), .call 9 []⟩,
                 ⟨(some 216), none, .pick (.t 214) (.t 215) (.c (.bool false))⟩,
                 ⟨(some 0), none, .mv (.t 216)⟩])
               (.ret)))))))))))))⟩
theorem ok8 : FnOk Tryd.prog 8 a8 := FnOk.of Tryd.prog Tryd.func8 (by kernel_rfl)
/-- jalousie/jalousielaw29.wakes -/
def a9 : AFn := ⟨49, [.tmp 0], .seq
   (.ops [⟨(some 0), none, .mv (.c (.bool false))⟩])
   (.seq
    (.ops [⟨(some 8), none, .call 10 [(.c (.str [114, 101, 110, 97, 109, 101, 45, 119, 105, 110, 100, 111, 119, 32, 48, 32, 97, 32, 98]))]⟩,
      ⟨(some 7), none, .mv (.t 8)⟩,
      ⟨(some 9), none, .ext (.t 7) 0⟩,
      ⟨(some 10), none, .ext (.t 7) 1⟩,
      ⟨(some 1), none, .alloc 27 [(.str []), .nilslice, (.int .i64 0), (.int .i64 0), (.int .i64 0), (.str [])]⟩,
      ⟨none, none, .store 6 (.t 1) (.t 9)⟩,
      ⟨(some 2), none, .mv (.t 10)⟩])
    (.seq
     (.ops [⟨(some 12), none, .bslice 3 1 2 [(.int .i64 0)] [(0, (.c (.int .i64 (-3)))), (1, (.c (.int .i64 4)))]⟩,
       ⟨(some 13), none, .build [(.str []), .nilslice, (.int .i64 0), (.int .i64 0), (.int .i64 0), (.str [])] [(0, 1), (1, 1), (2, 3), (5, 1)] [(0, (.c (.str [99, 111, 112, 121, 45, 109, 111, 118, 101]))), (1, (.t 12))]⟩,
       ⟨(some 14), none, .call 15 [(.t 13)]⟩,
       ⟨(some 11), none, .mv (.t 14)⟩,
       ⟨(some 15), none, .ext (.t 11) 0⟩,
       ⟨(some 16), none, .ext (.t 11) 1⟩,
       ⟨(some 3), none, .mv (.t 15)⟩,
       ⟨(some 4), none, .mv (.t 16)⟩])
     (.seq
      (.ops [⟨(some 18), none, .call 10 [(.c (.str [122, 111, 111, 109, 32, 49]))]⟩,
        ⟨(some 17), none, .mv (.t 18)⟩,
        ⟨(some 19), none, .ext (.t 17) 0⟩,
        ⟨(some 20), none, .ext (.t 17) 1⟩,
        ⟨(some 5), none, .alloc 27 [(.str []), .nilslice, (.int .i64 0), (.int .i64 0), (.int .i64 0), (.str [])]⟩,
        ⟨none, none, .store 6 (.t 5) (.t 19)⟩,
        ⟨(some 6), none, .mv (.t 20)⟩])
      (.seq
       (.ops [⟨(some 21), none, .mv (.t 2)⟩,
         ⟨(some 22), none, .bin .eql (.t 21) (.c (.int .i64 0))⟩,
         ⟨(some 23), none, .mv (.t 22)⟩,
         ⟨(some 24), (some (23, true)), .load (some 6) (.t 1)⟩,
         ⟨(some 25), (some (23, true)), .bslice 3 1 1 [(.int .i64 0)] [(0, (.c (.int .i64 0)))]⟩,
         ⟨(some 26), (some (23, true)), .build [(.str []), .nilslice, (.int .i64 0), (.int .i64 0), (.int .i64 0), (.str [])] [(0, 1), (1, 1), (2, 3), (5, 1)] [(0, (.c (.str [114, 101, 110, 97, 109, 101, 45, 119, 105, 110, 100, 111, 119]))), (1, (.t 25)), (3, (.c (.str [97, 32, 98])))]⟩,
         ⟨(some 27), (some (23, true)), .call 20 [(.t 24), (.t 26)]⟩,
         ⟨(some 28), none, .pick (.t 23) (.t 27) (.c (.bool false))⟩,
         ⟨(some 29), none, .mv (.t 28)⟩,
         ⟨(some 30), (some (29, true)), .mv (.t 3)⟩,
         ⟨(some 31), (some (29, true)), .bin .eql (.t 30) (.c (.str [99, 111, 112, 121, 45, 109, 111, 118, 101, 32, 45, 51, 32, 52]))⟩,
         ⟨(some 32), none, .pick (.t 29) (.t 31) (.c (.bool false))⟩,
         ⟨(some 33), none, .mv (.t 32)⟩,
         ⟨(some 34), (some (33, true)), .mv (.t 4)⟩,
         ⟨(some 35), none, .pick (.t 33) (.t 34) (.c (.bool false))⟩,
         ⟨(some 36), none, .mv (.t 35)⟩,
         ⟨(some 37), (some (36, true)), .mv (.t 6)⟩,
         ⟨(some 38), (some (36, true)), .bin .eql (.t 37) (.c (.int .i64 8))⟩,
         ⟨(some 39), none, .pick (.t 36) (.t 38) (.c (.bool false))⟩,
         ⟨(some 40), none, .mv (.t 39)⟩,
         ⟨(some 41), (some (40, true)), .load (some 6) (.t 1)⟩,
         ⟨(some 42), (some (40, true)), .call 16 [(.t 41)]⟩,
         ⟨(some 43), none, .pick (.t 40) (.t 42) (.c (.bool false))⟩,
         ⟨(some 44), none, .mv (.t 43)⟩,
         ⟨(some 45), (some (44, true)), .call 21 []⟩,
         ⟨(some 46), (some (44, true)), .lenL (.t 45)⟩,
         ⟨(some 47), (some (44, true)), .bin .eql (.t 46) (.c (.int .i64 53))⟩,
         ⟨(some 48), none, .pick (.t 44) (.t 47) (.c (.bool false))⟩,
         ⟨(some 0), none, .mv (.t 48)⟩])
       (.ret)))))⟩
theorem ok9 : FnOk Tryd.prog 9 a9 := FnOk.of Tryd.prog Tryd.func9 (by kernel_rfl)
/-- jalousie/command.Parse -/
def a10 : AFn := ⟨58, [.cell 2 (some 6), .tmp 3], .seq
   (.ops [⟨(some 2), none, .alloc 27 [(.str []), .nilslice, (.int .i64 0), (.int .i64 0), (.int .i64 0), (.str [])]⟩,
     ⟨(some 3), none, .mv (.c (.int .i64 0))⟩])
   (.seq
    (.seq
     (.ops [⟨(some 13), none, .mv (.t 0)⟩,
       ⟨(some 14), none, .lenS (.t 13)⟩,
       ⟨(some 15), none, .bin .gtr (.t 14) (.c (.int .i64 256))⟩])
     (.cond (.t 15)
      (.seq
       (.ops [⟨(some 16), none, .build [(.str []), .nilslice, (.int .i64 0), (.int .i64 0), (.int .i64 0), (.str [])] [(0, 1), (1, 1), (2, 3), (5, 1)] []⟩,
         ⟨none, none, .store 6 (.t 2) (.t 16)⟩,
         ⟨(some 3), none, .mv (.c (.int .i64 3))⟩])
       (.ret))
      (.skip)))
    (.seq
     (.ops [⟨(some 18), none, .mv (.t 0)⟩,
       ⟨(some 19), none, .call 23 [(.t 18), (.c (.str [32]))]⟩,
       ⟨(some 17), none, .mv (.t 19)⟩,
       ⟨(some 20), none, .ext (.t 17) 0⟩,
       ⟨(some 21), none, .ext (.t 17) 1⟩,
       ⟨(some 22), none, .ext (.t 17) 2⟩,
       ⟨(some 4), none, .mv (.t 20)⟩,
       ⟨(some 5), none, .mv (.t 21)⟩,
       ⟨(some 6), none, .mv (.t 22)⟩])
     (.seq
      (.ops [⟨(some 24), none, .mv (.t 4)⟩,
        ⟨(some 25), none, .call 18 [(.t 24)]⟩,
        ⟨(some 23), none, .mv (.t 25)⟩,
        ⟨(some 26), none, .ext (.t 23) 0⟩,
        ⟨(some 27), none, .ext (.t 23) 1⟩,
        ⟨(some 7), none, .mv (.t 26)⟩,
        ⟨(some 8), none, .mv (.t 27)⟩])
      (.seq
       (.seq
        (.ops [⟨(some 28), none, .mv (.t 8)⟩,
          ⟨(some 29), none, .un .not (.t 28)⟩])
        (.cond (.t 29)
         (.seq
          (.ops [⟨(some 30), none, .build [(.str []), .nilslice, (.int .i64 0), (.int .i64 0), (.int .i64 0), (.str [])] [(0, 1), (1, 1), (2, 3), (5, 1)] []⟩,
            ⟨none, none, .store 6 (.t 2) (.t 30)⟩,
            ⟨(some 3), none, .mv (.c (.int .i64 4))⟩])
          (.ret))
         (.skip)))
       (.seq
        (.ops [⟨(some 31), none, .mv (.t 4)⟩,
          ⟨(some 32), none, .build [(.str []), .nilslice, (.int .i64 0), (.int .i64 0), (.int .i64 0), (.str [])] [(0, 1), (1, 1), (2, 3), (5, 1)] [(0, (.t 31))]⟩,
          ⟨(some 9), none, .alloc 27 [(.str []), .nilslice, (.int .i64 0), (.int .i64 0), (.int .i64 0), (.str [])]⟩,
          ⟨none, none, .store 6 (.t 9) (.t 32)⟩])
        (.seq
         (.seq
          (.ops [⟨(some 33), none, .mv (.t 7)⟩,
            ⟨(some 34), none, .rangeS (.t 33)⟩])
          (.block 0 (.loop (.seq
             (.ops [⟨(some 35), none, .nextS (.t 34)⟩,
               ⟨(some 36), none, .ext (.t 35) 0⟩])
             (.seq
              (.cond (.t 36)
               (.skip)
               (.exit 0))
              (.block 1 (.seq
                (.ops [⟨(some 37), none, .ext (.t 35) 2⟩,
                  ⟨(some 11), none, .mv (.t 37)⟩])
                (.seq
                 (.seq
                  (.ops [⟨(some 38), none, .mv (.t 6)⟩,
                    ⟨(some 39), none, .un .not (.t 38)⟩])
                  (.cond (.t 39)
                   (.seq
                    (.ops [⟨(some 40), none, .build [(.str []), .nilslice, (.int .i64 0), (.int .i64 0), (.int .i64 0), (.str [])] [(0, 1), (1, 1), (2, 3), (5, 1)] []⟩,
                      ⟨none, none, .store 6 (.t 2) (.t 40)⟩,
                      ⟨(some 3), none, .mv (.c (.int .i64 8))⟩])
                    (.ret))
                   (.skip)))
                 (.seq
                  (.ops [⟨(some 41), none, .mv (.t 5)⟩,
                    ⟨(some 12), none, .mv (.t 41)⟩])
                  (.seq
                   (.seq
                    (.ops [⟨(some 42), none, .mv (.t 11)⟩,
                      ⟨(some 43), none, .bin .neq (.t 42) (.c (.int .i32 116))⟩])
                    (.cond (.t 43)
                     (.ops [⟨(some 45), none, .mv (.t 5)⟩,
                       ⟨(some 46), none, .call 23 [(.t 45), (.c (.str [32]))]⟩,
                       ⟨(some 44), none, .mv (.t 46)⟩,
                       ⟨(some 47), none, .ext (.t 44) 0⟩,
                       ⟨(some 48), none, .ext (.t 44) 1⟩,
                       ⟨(some 49), none, .ext (.t 44) 2⟩,
                       ⟨(some 12), none, .mv (.t 47)⟩,
                       ⟨(some 5), none, .mv (.t 48)⟩,
                       ⟨(some 6), none, .mv (.t 49)⟩])
                     (.ops [⟨(some 6), none, .mv (.c (.bool false))⟩])))
                   (.seq
                    (.ops [⟨(some 50), none, .mv (.t 11)⟩,
                      ⟨(some 51), none, .mv (.t 12)⟩,
                      ⟨(some 52), none, .call 24 [(.t 9), (.t 50), (.t 51)]⟩,
                      ⟨(some 53), none, .un .not (.t 52)⟩])
                    (.cond (.t 53)
                     (.seq
                      (.ops [⟨(some 54), none, .build [(.str []), .nilslice, (.int .i64 0), (.int .i64 0), (.int .i64 0), (.str [])] [(0, 1), (1, 1), (2, 3), (5, 1)] []⟩,
                        ⟨none, none, .store 6 (.t 2) (.t 54)⟩,
                        ⟨(some 3), none, .mv (.c (.int .i64 8))⟩])
                      (.ret))
                     (.skip)))))))))))))
         (.seq
          (.seq
           (.ops [⟨(some 55), none, .mv (.t 6)⟩])
           (.cond (.t 55)
            (.seq
             (.ops [⟨(some 56), none, .build [(.str []), .nilslice, (.int .i64 0), (.int .i64 0), (.int .i64 0), (.str [])] [(0, 1), (1, 1), (2, 3), (5, 1)] []⟩,
               ⟨none, none, .store 6 (.t 2) (.t 56)⟩,
               ⟨(some 3), none, .mv (.c (.int .i64 8))⟩])
             (.ret))
            (.skip)))
          (.seq
           (.ops [⟨(some 57), none, .load (some 6) (.t 9)⟩,
             ⟨none, none, .store 6 (.t 2) (.t 57)⟩,
             ⟨(some 3), none, .mv (.c (.int .i64 0))⟩])
           (.ret)))))))))⟩
theorem ok10 : FnOk Tryd.prog 10 a10 := FnOk.of Tryd.prog Tryd.func10 (by kernel_rfl)
/-- jalousie/jalousieref29.Parse -/
def a11 : AFn := ⟨113, [.cell 2 (some 6), .tmp 3], .seq
   (.ops [⟨(some 2), none, .alloc 31 [(.str []), .nilslice, (.int .i64 0), (.int .i64 0), (.int .i64 0), (.str [])]⟩,
     ⟨(some 3), none, .mv (.c (.int .i64 0))⟩])
   (.seq
    (.seq
     (.ops [⟨(some 18), none, .mv (.t 0)⟩,
       ⟨(some 19), none, .lenS (.t 18)⟩,
       ⟨(some 20), none, .bin .gtr (.t 19) (.c (.int .i64 256))⟩])
     (.cond (.t 20)
      (.seq
       (.ops [⟨(some 21), none, .build [(.str []), .nilslice, (.int .i64 0), (.int .i64 0), (.int .i64 0), (.str [])] [(0, 1), (1, 1), (2, 3), (5, 1)] []⟩,
         ⟨none, none, .store 6 (.t 2) (.t 21)⟩,
         ⟨(some 3), none, .mv (.c (.int .i64 3))⟩])
       (.ret))
      (.skip)))
    (.seq
     (.ops [⟨(some 22), none, .mv (.t 0)⟩,
       ⟨(some 23), none, .call 25 [(.t 22), (.c (.int .i64 0))]⟩,
       ⟨(some 24), none, .iaddrS 1 (.t 23) (.c (.int .i64 0))⟩,
       ⟨(some 25), none, .load none (.t 24)⟩,
       ⟨(some 26), none, .build [(.str []), .nilslice, (.int .i64 0), (.int .i64 0), (.int .i64 0), (.str [])] [(0, 1), (1, 1), (2, 3), (5, 1)] [(0, (.t 25))]⟩,
       ⟨(some 4), none, .alloc 31 [(.str []), .nilslice, (.int .i64 0), (.int .i64 0), (.int .i64 0), (.str [])]⟩,
       ⟨none, none, .store 6 (.t 4) (.t 26)⟩])
     (.seq
      (.ops [⟨(some 28), none, .addr 0 (.t 4)⟩,
        ⟨(some 29), none, .load none (.t 28)⟩,
        ⟨(some 30), none, .call 19 [(.t 29)]⟩,
        ⟨(some 27), none, .mv (.t 30)⟩,
        ⟨(some 31), none, .ext (.t 27) 0⟩,
        ⟨(some 32), none, .ext (.t 27) 1⟩,
        ⟨(some 5), none, .mv (.t 31)⟩,
        ⟨(some 6), none, .mv (.t 32)⟩])
      (.seq
       (.seq
        (.ops [⟨(some 33), none, .mv (.t 6)⟩,
          ⟨(some 34), none, .un .not (.t 33)⟩])
        (.cond (.t 34)
         (.seq
          (.ops [⟨(some 35), none, .build [(.str []), .nilslice, (.int .i64 0), (.int .i64 0), (.int .i64 0), (.str [])] [(0, 1), (1, 1), (2, 3), (5, 1)] []⟩,
            ⟨none, none, .store 6 (.t 2) (.t 35)⟩,
            ⟨(some 3), none, .mv (.c (.int .i64 4))⟩])
          (.ret))
         (.skip)))
       (.seq
        (.ops [⟨(some 7), none, .mv (.c (.int .i64 0))⟩])
        (.seq
         (.seq
          (.ops [⟨(some 36), none, .mv (.t 5)⟩,
            ⟨(some 37), none, .lenS (.t 36)⟩,
            ⟨(some 38), none, .bin .gtr (.t 37) (.c (.int .i64 0))⟩,
            ⟨(some 39), none, .mv (.t 38)⟩,
            ⟨(some 40), (some (39, true)), .mv (.t 5)⟩,
            ⟨(some 41), (some (39, true)), .mv (.t 5)⟩,
            ⟨(some 42), (some (39, true)), .lenS (.t 41)⟩,
            ⟨(some 43), (some (39, true)), .bin .sub (.t 42) (.c (.int .i64 1))⟩,
            ⟨(some 44), (some (39, true)), .idxS (.t 40) (.t 43)⟩,
            ⟨(some 45), (some (39, true)), .bin .eql (.t 44) (.c (.int .u8 116))⟩,
            ⟨(some 46), none, .pick (.t 39) (.t 45) (.c (.bool false))⟩])
          (.cond (.t 46)
           (.ops [⟨(some 47), none, .mv (.t 5)⟩,
             ⟨(some 48), none, .lenS (.t 47)⟩,
             ⟨(some 49), none, .bin .add (.t 48) (.c (.int .i64 1))⟩,
             ⟨(some 7), none, .mv (.t 49)⟩])
           (.skip)))
         (.seq
          (.ops [⟨(some 50), none, .mv (.t 0)⟩,
            ⟨(some 51), none, .mv (.t 7)⟩,
            ⟨(some 52), none, .call 25 [(.t 50), (.t 51)]⟩,
            ⟨(some 8), none, .mv (.t 52)⟩])
          (.seq
           (.seq
            (.ops [⟨(some 53), none, .mv (.t 8)⟩,
              ⟨(some 54), none, .lenL (.t 53)⟩,
              ⟨(some 55), none, .mv (.t 5)⟩,
              ⟨(some 56), none, .lenS (.t 55)⟩,
              ⟨(some 57), none, .bin .add (.t 56) (.c (.int .i64 1))⟩,
              ⟨(some 58), none, .bin .neq (.t 54) (.t 57)⟩])
            (.cond (.t 58)
             (.seq
              (.ops [⟨(some 59), none, .build [(.str []), .nilslice, (.int .i64 0), (.int .i64 0), (.int .i64 0), (.str [])] [(0, 1), (1, 1), (2, 3), (5, 1)] []⟩,
                ⟨none, none, .store 6 (.t 2) (.t 59)⟩,
                ⟨(some 3), none, .mv (.c (.int .i64 8))⟩])
              (.ret))
             (.skip)))
           (.seq
            (.seq
             (.ops [⟨(some 9), none, .mv (.c (.int .i64 0))⟩])
             (.block 0 (.loop (.seq
                (.seq
                 (.ops [⟨(some 60), none, .mv (.t 9)⟩,
                   ⟨(some 61), none, .mv (.t 5)⟩,
                   ⟨(some 62), none, .lenS (.t 61)⟩,
                   ⟨(some 63), none, .bin .lss (.t 60) (.t 62)⟩])
                 (.cond (.t 63)
                  (.skip)
                  (.exit 0)))
                (.seq
                 (.block 1 (.seq
                   (.ops [⟨(some 66), none, .mv (.t 8)⟩,
                     ⟨(some 67), none, .mv (.t 9)⟩,
                     ⟨(some 68), none, .bin .add (.t 67) (.c (.int .i64 1))⟩,
                     ⟨(some 69), none, .iaddrS 1 (.t 66) (.t 68)⟩,
                     ⟨(some 70), none, .load none (.t 69)⟩,
                     ⟨(some 10), none, .mv (.t 70)⟩])
                   (.seq
                    (.ops [⟨(some 11), none, .mv (.c (.bool false))⟩])
                    (.seq
                     (.seq
                      (.ops [⟨(some 71), none, .mv (.t 5)⟩,
                        ⟨(some 72), none, .mv (.t 9)⟩,
                        ⟨(some 73), none, .idxS (.t 71) (.t 72)⟩])
                      (.block 2 (.seq
                        (.seq
                         (.ops [⟨(some 79), none, .bin .eql (.t 73) (.c (.int .u8 108))⟩,
                           ⟨(some 78), none, .mv (.t 79)⟩])
                         (.cond (.t 78)
                          (.skip)
                          (.ops [⟨(some 80), none, .bin .eql (.t 73) (.c (.int .u8 110))⟩,
                            ⟨(some 78), none, .mv (.t 80)⟩])))
                        (.cond (.t 78)
                         (.seq
                          (.ops [⟨(some 12), none, .mv (.c (.int .i64 (-9999)))⟩,
                            ⟨(some 13), none, .mv (.c (.int .i64 9999))⟩])
                          (.seq
                           (.seq
                            (.ops [⟨(some 81), none, .mv (.t 5)⟩,
                              ⟨(some 82), none, .mv (.t 9)⟩,
                              ⟨(some 83), none, .idxS (.t 81) (.t 82)⟩,
                              ⟨(some 84), none, .bin .eql (.t 83) (.c (.int .u8 108))⟩])
                            (.cond (.t 84)
                             (.ops [⟨(some 12), none, .mv (.c (.int .i64 0))⟩,
                               ⟨(some 13), none, .mv (.c (.int .i64 63))⟩])
                             (.skip)))
                           (.seq
                            (.ops [⟨(some 86), none, .mv (.t 10)⟩,
                              ⟨(some 87), none, .mv (.t 12)⟩,
                              ⟨(some 88), none, .mv (.t 13)⟩,
                              ⟨(some 89), none, .call 26 [(.t 86), (.t 87), (.t 88)]⟩,
                              ⟨(some 85), none, .mv (.t 89)⟩,
                              ⟨(some 90), none, .ext (.t 85) 0⟩,
                              ⟨(some 91), none, .ext (.t 85) 1⟩,
                              ⟨(some 14), none, .mv (.t 90)⟩,
                              ⟨(some 15), none, .mv (.t 91)⟩])
                            (.seq
                             (.ops [⟨(some 92), none, .addr 1 (.t 4)⟩,
                               ⟨(some 93), none, .load none (.t 92)⟩,
                               ⟨(some 94), none, .mv (.t 14)⟩,
                               ⟨(some 95), none, .bslice 3 1 1 [(.int .i64 0)] [(0, (.t 94))]⟩,
                               ⟨(some 96), none, .append 3 1 8 (.t 93) (.t 95)⟩,
                               ⟨(some 97), none, .addr 1 (.t 4)⟩,
                               ⟨none, none, .store 1 (.t 97) (.t 96)⟩])
                             (.ops [⟨(some 98), none, .mv (.t 15)⟩,
                               ⟨(some 11), none, .mv (.t 98)⟩])))))
                         (.seq
                          (.ops [⟨(some 100), none, .bin .eql (.t 73) (.c (.int .u8 112))⟩,
                            ⟨(some 99), none, .mv (.t 100)⟩])
                          (.cond (.t 99)
                           (.seq
                            (.ops [⟨(some 102), none, .mv (.t 10)⟩,
                              ⟨(some 103), none, .call 27 [(.t 102)]⟩,
                              ⟨(some 101), none, .mv (.t 103)⟩,
                              ⟨(some 104), none, .ext (.t 101) 0⟩,
                              ⟨(some 105), none, .ext (.t 101) 1⟩,
                              ⟨(some 16), none, .alloc 25 [(.int .i64 0), (.int .i64 0), (.int .i64 0)]⟩,
                              ⟨none, none, .store 3 (.t 16) (.t 104)⟩,
                              ⟨(some 17), none, .mv (.t 105)⟩])
                            (.seq
                             (.ops [⟨(some 106), none, .load (some 3) (.t 16)⟩,
                               ⟨(some 107), none, .addr 2 (.t 4)⟩,
                               ⟨none, none, .store 3 (.t 107) (.t 106)⟩])
                             (.ops [⟨(some 108), none, .mv (.t 17)⟩,
                               ⟨(some 11), none, .mv (.t 108)⟩])))
                           (.seq
                            (.ops [⟨(some 74), none, .mv (.t 10)⟩,
                              ⟨(some 75), none, .addr 5 (.t 4)⟩,
                              ⟨none, none, .store 1 (.t 75) (.t 74)⟩])
                            (.ops [⟨(some 76), none, .mv (.t 10)⟩,
                              ⟨(some 77), none, .call 28 [(.t 76)]⟩,
                              ⟨(some 11), none, .mv (.t 77)⟩]))))))))
                     (.seq
                      (.ops [⟨(some 109), none, .mv (.t 11)⟩,
                        ⟨(some 110), none, .un .not (.t 109)⟩])
                      (.cond (.t 110)
                       (.seq
                        (.ops [⟨(some 111), none, .build [(.str []), .nilslice, (.int .i64 0), (.int .i64 0), (.int .i64 0), (.str [])] [(0, 1), (1, 1), (2, 3), (5, 1)] []⟩,
                          ⟨none, none, .store 6 (.t 2) (.t 111)⟩,
                          ⟨(some 3), none, .mv (.c (.int .i64 8))⟩])
                        (.ret))
                       (.skip)))))))
                 (.ops [⟨(some 64), none, .mv (.t 9)⟩,
                   ⟨(some 65), none, .bin .add (.t 64) (.c (.int .i64 1))⟩,
                   ⟨(some 9), none, .mv (.t 65)⟩]))))))
            (.seq
             (.ops [⟨(some 112), none, .load (some 6) (.t 4)⟩,
               ⟨none, none, .store 6 (.t 2) (.t 112)⟩,
               ⟨(some 3), none, .mv (.c (.int .i64 0))⟩])
             (.ret)))))))))))⟩
theorem ok11 : FnOk Tryd.prog 11 a11 := FnOk.of Tryd.prog Tryd.func11 (by kernel_rfl)
/-- jalousie/jalousieref29.Same -/
def a12 : AFn := ⟨52, [.tmp 4], .seq
   (.ops [⟨(some 2), none, .box 31 (.t 0)⟩,
     ⟨(some 3), none, .box 31 (.t 1)⟩,
     ⟨(some 4), none, .mv (.c (.bool false))⟩])
   (.seq
    (.seq
     (.ops [⟨(some 6), none, .addr 0 (.t 2)⟩,
       ⟨(some 7), none, .load none (.t 6)⟩,
       ⟨(some 8), none, .addr 0 (.t 3)⟩,
       ⟨(some 9), none, .load none (.t 8)⟩,
       ⟨(some 10), none, .bin .neq (.t 7) (.t 9)⟩,
       ⟨(some 11), none, .mv (.t 10)⟩,
       ⟨(some 12), (some (11, false)), .addr 2 (.t 2)⟩,
       ⟨(some 13), (some (11, false)), .load (some 3) (.t 12)⟩,
       ⟨(some 14), (some (11, false)), .addr 2 (.t 3)⟩,
       ⟨(some 15), (some (11, false)), .load (some 3) (.t 14)⟩,
       ⟨(some 16), (some (11, false)), .eq true 25 (.struct #[⟨"Label", 3, 0, false, "", "", 0⟩, ⟨"Home", 3, 1, false, "", "", 8⟩, ⟨"N", 3, 2, false, "", "", 16⟩]) (.t 13) (.t 15)⟩,
       ⟨(some 17), none, .pick (.t 11) (.c (.bool true)) (.t 16)⟩,
       ⟨(some 18), none, .mv (.t 17)⟩,
       ⟨(some 19), (some (18, false)), .addr 5 (.t 2)⟩,
       ⟨(some 20), (some (18, false)), .load none (.t 19)⟩,
       ⟨(some 21), (some (18, false)), .addr 5 (.t 3)⟩,
       ⟨(some 22), (some (18, false)), .load none (.t 21)⟩,
       ⟨(some 23), (some (18, false)), .bin .neq (.t 20) (.t 22)⟩,
       ⟨(some 24), none, .pick (.t 18) (.c (.bool true)) (.t 23)⟩,
       ⟨(some 25), none, .mv (.t 24)⟩,
       ⟨(some 26), (some (25, false)), .addr 1 (.t 2)⟩,
       ⟨(some 27), (some (25, false)), .load none (.t 26)⟩,
       ⟨(some 28), (some (25, false)), .lenL (.t 27)⟩,
       ⟨(some 29), (some (25, false)), .addr 1 (.t 3)⟩,
       ⟨(some 30), (some (25, false)), .load none (.t 29)⟩,
       ⟨(some 31), (some (25, false)), .lenL (.t 30)⟩,
       ⟨(some 32), (some (25, false)), .bin .neq (.t 28) (.t 31)⟩,
       ⟨(some 33), none, .pick (.t 25) (.c (.bool true)) (.t 32)⟩])
     (.cond (.t 33)
      (.seq
       (.ops [⟨(some 4), none, .mv (.c (.bool false))⟩])
       (.ret))
      (.skip)))
    (.seq
     (.seq
      (.ops [⟨(some 5), none, .mv (.c (.int .i64 0))⟩])
      (.block 0 (.loop (.seq
         (.seq
          (.ops [⟨(some 34), none, .mv (.t 5)⟩,
            ⟨(some 35), none, .addr 1 (.t 2)⟩,
            ⟨(some 36), none, .load none (.t 35)⟩,
            ⟨(some 37), none, .lenL (.t 36)⟩,
            ⟨(some 38), none, .bin .lss (.t 34) (.t 37)⟩])
          (.cond (.t 38)
           (.skip)
           (.exit 0)))
         (.seq
          (.block 1 (.seq
            (.draw [⟨⟨(some 41), none, .addr 1 (.t 2)⟩, []⟩,
              ⟨⟨(some 42), none, .load none (.t 41)⟩, [0]⟩,
              ⟨⟨(some 43), none, .mv (.t 5)⟩, []⟩,
              ⟨⟨(some 44), none, .iaddrS 1 (.t 42) (.t 43)⟩, [1, 2]⟩,
              ⟨⟨(some 45), none, .load none (.t 44)⟩, [3]⟩,
              ⟨⟨(some 46), none, .addr 1 (.t 3)⟩, []⟩,
              ⟨⟨(some 47), none, .load none (.t 46)⟩, [5]⟩,
              ⟨⟨(some 48), none, .mv (.t 5)⟩, []⟩,
              ⟨⟨(some 49), none, .iaddrS 1 (.t 47) (.t 48)⟩, [6, 7]⟩,
              ⟨⟨(some 50), none, .load none (.t 49)⟩, [8]⟩,
              ⟨⟨(some 51), none, .bin .neq (.t 45) (.t 50)⟩, [4, 9]⟩] [0, 1, 0, 7, 15, 0, 32, 0, 224, 480, 1023])
            (.cond (.t 51)
             (.seq
              (.ops [⟨(some 4), none, .mv (.c (.bool false))⟩])
              (.ret))
             (.skip))))
          (.ops [⟨(some 39), none, .mv (.t 5)⟩,
            ⟨(some 40), none, .bin .add (.t 39) (.c (.int .i64 1))⟩,
            ⟨(some 5), none, .mv (.t 40)⟩]))))))
     (.seq
      (.ops [⟨(some 4), none, .mv (.c (.bool true))⟩])
      (.ret))))⟩
theorem ok12 : FnOk Tryd.prog 12 a12 := FnOk.of Tryd.prog Tryd.func12 (by kernel_rfl)
/-- jalousie/jalousielaw29.Given -/
def a13 : AFn := ⟨4, [.cell 2 (some 6)], .seq
   (.ops [⟨(some 1), none, .box 27 (.t 0)⟩,
     ⟨(some 2), none, .alloc 31 [(.str []), .nilslice, (.int .i64 0), (.int .i64 0), (.int .i64 0), (.str [])]⟩])
   (.seq
    (.ops [⟨(some 3), none, .load (some 6) (.t 1)⟩,
      ⟨none, none, .store 6 (.t 2) (.t 3)⟩])
    (.ret))⟩
theorem ok13 : FnOk Tryd.prog 13 a13 := FnOk.of Tryd.prog Tryd.func13 (by kernel_rfl)
/-- jalousie/jalousieref29.Right -/
def a14 : AFn := ⟨116, [.tmp 2], .seq
   (.ops [⟨(some 1), none, .box 31 (.t 0)⟩,
     ⟨(some 2), none, .mv (.c (.bool false))⟩])
   (.seq
    (.ops [⟨(some 12), none, .addr 0 (.t 1)⟩,
      ⟨(some 13), none, .load none (.t 12)⟩,
      ⟨(some 14), none, .call 19 [(.t 13)]⟩,
      ⟨(some 11), none, .mv (.t 14)⟩,
      ⟨(some 15), none, .ext (.t 11) 0⟩,
      ⟨(some 16), none, .ext (.t 11) 1⟩,
      ⟨(some 3), none, .mv (.t 15)⟩,
      ⟨(some 4), none, .mv (.t 16)⟩])
    (.seq
     (.seq
      (.ops [⟨(some 17), none, .mv (.t 4)⟩,
        ⟨(some 18), none, .un .not (.t 17)⟩])
      (.cond (.t 18)
       (.seq
        (.ops [⟨(some 2), none, .mv (.c (.bool false))⟩])
        (.ret))
       (.skip)))
     (.seq
      (.ops [⟨(some 5), none, .mv (.c (.int .i64 0))⟩])
      (.seq
       (.ops [⟨(some 19), none, .addr 2 (.t 1)⟩,
         ⟨(some 20), none, .load (some 3) (.t 19)⟩,
         ⟨(some 21), none, .build [(.int .i64 0), (.int .i64 0), (.int .i64 0)] [(0, 1), (1, 1), (2, 1)] []⟩,
         ⟨(some 22), none, .eq false 25 (.struct #[⟨"Label", 3, 0, false, "", "", 0⟩, ⟨"Home", 3, 1, false, "", "", 8⟩, ⟨"N", 3, 2, false, "", "", 16⟩]) (.t 20) (.t 21)⟩,
         ⟨(some 6), none, .mv (.t 22)⟩])
       (.seq
        (.ops [⟨(some 23), none, .addr 5 (.t 1)⟩,
          ⟨(some 24), none, .load none (.t 23)⟩,
          ⟨(some 25), none, .bin .eql (.t 24) (.c (.str []))⟩,
          ⟨(some 7), none, .mv (.t 25)⟩])
        (.seq
         (.seq
          (.ops [⟨(some 8), none, .mv (.c (.int .i64 0))⟩])
          (.block 0 (.loop (.seq
             (.seq
              (.ops [⟨(some 26), none, .mv (.t 8)⟩,
                ⟨(some 27), none, .mv (.t 3)⟩,
                ⟨(some 28), none, .lenS (.t 27)⟩,
                ⟨(some 29), none, .bin .lss (.t 26) (.t 28)⟩])
              (.cond (.t 29)
               (.skip)
               (.exit 0)))
             (.seq
              (.block 1 (.seq
                (.ops [⟨(some 32), none, .mv (.t 3)⟩,
                  ⟨(some 33), none, .mv (.t 8)⟩,
                  ⟨(some 34), none, .idxS (.t 32) (.t 33)⟩])
                (.block 2 (.seq
                  (.seq
                   (.ops [⟨(some 39), none, .bin .eql (.t 34) (.c (.int .u8 108))⟩,
                     ⟨(some 38), none, .mv (.t 39)⟩])
                   (.cond (.t 38)
                    (.skip)
                    (.ops [⟨(some 40), none, .bin .eql (.t 34) (.c (.int .u8 110))⟩,
                      ⟨(some 38), none, .mv (.t 40)⟩])))
                  (.cond (.t 38)
                   (.seq
                    (.seq
                     (.ops [⟨(some 41), none, .mv (.t 5)⟩,
                       ⟨(some 42), none, .addr 1 (.t 1)⟩,
                       ⟨(some 43), none, .load none (.t 42)⟩,
                       ⟨(some 44), none, .lenL (.t 43)⟩,
                       ⟨(some 45), none, .bin .geq (.t 41) (.t 44)⟩])
                     (.cond (.t 45)
                      (.seq
                       (.ops [⟨(some 2), none, .mv (.c (.bool false))⟩])
                       (.ret))
                      (.skip)))
                    (.seq
                     (.ops [⟨(some 46), none, .addr 1 (.t 1)⟩,
                       ⟨(some 47), none, .load none (.t 46)⟩,
                       ⟨(some 48), none, .mv (.t 5)⟩,
                       ⟨(some 49), none, .iaddrS 1 (.t 47) (.t 48)⟩,
                       ⟨(some 50), none, .load none (.t 49)⟩,
                       ⟨(some 9), none, .mv (.t 50)⟩])
                     (.seq
                      (.ops [⟨(some 51), none, .mv (.t 5)⟩,
                        ⟨(some 52), none, .bin .add (.t 51) (.c (.int .i64 1))⟩,
                        ⟨(some 5), none, .mv (.t 52)⟩])
                      (.seq
                       (.ops [⟨(some 53), none, .mv (.t 3)⟩,
                         ⟨(some 54), none, .mv (.t 8)⟩,
                         ⟨(some 55), none, .idxS (.t 53) (.t 54)⟩,
                         ⟨(some 56), none, .bin .eql (.t 55) (.c (.int .u8 108))⟩,
                         ⟨(some 57), none, .mv (.t 56)⟩,
                         ⟨(some 58), (some (57, true)), .mv (.t 9)⟩,
                         ⟨(some 59), (some (57, true)), .bin .lss (.t 58) (.c (.int .i64 0))⟩,
                         ⟨(some 60), (some (57, true)), .mv (.t 59)⟩,
                         ⟨(some 61), (some (60, false)), .mv (.t 9)⟩,
                         ⟨(some 62), (some (60, false)), .bin .gtr (.t 61) (.c (.int .i64 63))⟩,
                         ⟨(some 63), (some (57, true)), .pick (.t 60) (.c (.bool true)) (.t 62)⟩,
                         ⟨(some 64), none, .pick (.t 57) (.t 63) (.c (.bool false))⟩,
                         ⟨(some 65), none, .mv (.t 64)⟩,
                         ⟨(some 66), (some (65, false)), .mv (.t 9)⟩,
                         ⟨(some 67), (some (65, false)), .bin .lss (.t 66) (.c (.int .i64 (-9999)))⟩,
                         ⟨(some 68), none, .pick (.t 65) (.c (.bool true)) (.t 67)⟩,
                         ⟨(some 69), none, .mv (.t 68)⟩,
                         ⟨(some 70), (some (69, false)), .mv (.t 9)⟩,
                         ⟨(some 71), (some (69, false)), .bin .gtr (.t 70) (.c (.int .i64 9999))⟩,
                         ⟨(some 72), none, .pick (.t 69) (.c (.bool true)) (.t 71)⟩])
                       (.cond (.t 72)
                        (.seq
                         (.ops [⟨(some 2), none, .mv (.c (.bool false))⟩])
                         (.ret))
                        (.skip))))))
                   (.seq
                    (.ops [⟨(some 74), none, .bin .eql (.t 34) (.c (.int .u8 112))⟩,
                      ⟨(some 73), none, .mv (.t 74)⟩])
                    (.cond (.t 73)
                     (.seq
                      (.ops [⟨(some 75), none, .addr 2 (.t 1)⟩,
                        ⟨(some 76), none, .load (some 3) (.t 75)⟩,
                        ⟨(some 10), none, .alloc 25 [(.int .i64 0), (.int .i64 0), (.int .i64 0)]⟩,
                        ⟨none, none, .store 3 (.t 10) (.t 76)⟩])
                      (.ops [⟨(some 77), none, .addr 0 (.t 10)⟩,
                        ⟨(some 78), none, .load none (.t 77)⟩,
                        ⟨(some 79), none, .bin .geq (.t 78) (.c (.int .i64 0))⟩,
                        ⟨(some 80), none, .mv (.t 79)⟩,
                        ⟨(some 81), (some (80, true)), .addr 1 (.t 10)⟩,
                        ⟨(some 82), (some (80, true)), .load none (.t 81)⟩,
                        ⟨(some 83), (some (80, true)), .bin .geq (.t 82) (.c (.int .i64 0))⟩,
                        ⟨(some 84), none, .pick (.t 80) (.t 83) (.c (.bool false))⟩,
                        ⟨(some 85), none, .mv (.t 84)⟩,
                        ⟨(some 86), (some (85, true)), .addr 2 (.t 10)⟩,
                        ⟨(some 87), (some (85, true)), .load none (.t 86)⟩,
                        ⟨(some 88), (some (85, true)), .bin .geq (.t 87) (.c (.int .i64 0))⟩,
                        ⟨(some 89), none, .pick (.t 85) (.t 88) (.c (.bool false))⟩,
                        ⟨(some 90), none, .mv (.t 89)⟩,
                        ⟨(some 91), (some (90, true)), .addr 0 (.t 10)⟩,
                        ⟨(some 92), (some (90, true)), .load none (.t 91)⟩,
                        ⟨(some 93), (some (90, true)), .bin .lss (.t 92) (.c (.int .i64 2147483648))⟩,
                        ⟨(some 94), none, .pick (.t 90) (.t 93) (.c (.bool false))⟩,
                        ⟨(some 95), none, .mv (.t 94)⟩,
                        ⟨(some 96), (some (95, true)), .addr 1 (.t 10)⟩,
                        ⟨(some 97), (some (95, true)), .load none (.t 96)⟩,
                        ⟨(some 98), (some (95, true)), .bin .lss (.t 97) (.c (.int .i64 2147483648))⟩,
                        ⟨(some 99), none, .pick (.t 95) (.t 98) (.c (.bool false))⟩,
                        ⟨(some 100), none, .mv (.t 99)⟩,
                        ⟨(some 101), (some (100, true)), .addr 2 (.t 10)⟩,
                        ⟨(some 102), (some (100, true)), .load none (.t 101)⟩,
                        ⟨(some 103), (some (100, true)), .bin .lss (.t 102) (.c (.int .i64 2147483648))⟩,
                        ⟨(some 104), none, .pick (.t 100) (.t 103) (.c (.bool false))⟩,
                        ⟨(some 6), none, .mv (.t 104)⟩]))
                     (.ops [⟨(some 35), none, .addr 5 (.t 1)⟩,
                       ⟨(some 36), none, .load none (.t 35)⟩,
                       ⟨(some 37), none, .call 28 [(.t 36)]⟩,
                       ⟨(some 7), none, .mv (.t 37)⟩]))))))))
              (.ops [⟨(some 30), none, .mv (.t 8)⟩,
                ⟨(some 31), none, .bin .add (.t 30) (.c (.int .i64 1))⟩,
                ⟨(some 8), none, .mv (.t 31)⟩]))))))
         (.seq
          (.ops [⟨(some 105), none, .mv (.t 5)⟩,
            ⟨(some 106), none, .addr 1 (.t 1)⟩,
            ⟨(some 107), none, .load none (.t 106)⟩,
            ⟨(some 108), none, .lenL (.t 107)⟩,
            ⟨(some 109), none, .bin .eql (.t 105) (.t 108)⟩,
            ⟨(some 110), none, .mv (.t 109)⟩,
            ⟨(some 111), (some (110, true)), .mv (.t 6)⟩,
            ⟨(some 112), none, .pick (.t 110) (.t 111) (.c (.bool false))⟩,
            ⟨(some 113), none, .mv (.t 112)⟩,
            ⟨(some 114), (some (113, true)), .mv (.t 7)⟩,
            ⟨(some 115), none, .pick (.t 113) (.t 114) (.c (.bool false))⟩,
            ⟨(some 2), none, .mv (.t 115)⟩])
          (.ret))))))))⟩
theorem ok14 : FnOk Tryd.prog 14 a14 := FnOk.of Tryd.prog Tryd.func14 (by kernel_rfl)
/-- jalousie/command.Line -/
def a15 : AFn := ⟨105, [.tmp 2, .tmp 3], .seq
   (.ops [⟨(some 1), none, .box 27 (.t 0)⟩,
     ⟨(some 2), none, .mv (.c (.str []))⟩,
     ⟨(some 3), none, .mv (.c (.bool false))⟩])
   (.seq
    (.ops [⟨(some 16), none, .addr 0 (.t 1)⟩,
      ⟨(some 17), none, .load none (.t 16)⟩,
      ⟨(some 18), none, .call 18 [(.t 17)]⟩,
      ⟨(some 15), none, .mv (.t 18)⟩,
      ⟨(some 19), none, .ext (.t 15) 0⟩,
      ⟨(some 20), none, .ext (.t 15) 1⟩,
      ⟨(some 4), none, .mv (.t 19)⟩,
      ⟨(some 5), none, .mv (.t 20)⟩])
    (.seq
     (.seq
      (.ops [⟨(some 21), none, .mv (.t 5)⟩,
        ⟨(some 22), none, .un .not (.t 21)⟩])
      (.cond (.t 22)
       (.seq
        (.ops [⟨(some 2), none, .mv (.c (.str []))⟩,
          ⟨(some 3), none, .mv (.c (.bool false))⟩])
        (.ret))
       (.skip)))
     (.seq
      (.draw [⟨⟨(some 23), none, .addr 0 (.t 1)⟩, []⟩,
        ⟨⟨(some 24), none, .load none (.t 23)⟩, [0]⟩,
        ⟨⟨(some 25), none, .addr 0 (.t 1)⟩, []⟩,
        ⟨⟨(some 26), none, .load none (.t 25)⟩, [2]⟩,
        ⟨⟨(some 27), none, .build [(.str []), .nilslice, (.int .i64 0), (.int .i64 0), (.int .i64 0), (.str [])] [(0, 1), (1, 1), (2, 3), (5, 1)] [(0, (.t 26))]⟩, [3]⟩,
        ⟨⟨(some 7), none, .alloc 27 [(.str []), .nilslice, (.int .i64 0), (.int .i64 0), (.int .i64 0), (.str [])]⟩, []⟩,
        ⟨⟨(some 6), none, .mv (.t 24)⟩, [1, 0, 1, 5]⟩,
        ⟨⟨none, none, .store 6 (.t 7) (.t 27)⟩, [5, 4, 6, 0, 1, 2, 3, 4, 5, 6]⟩] [0, 1, 0, 4, 12, 0, 35, 127])
      (.seq
       (.ops [⟨(some 28), none, .addr 1 (.t 1)⟩,
         ⟨(some 29), none, .load none (.t 28)⟩,
         ⟨(some 8), none, .mv (.t 29)⟩])
       (.seq
        (.seq
         (.ops [⟨(some 30), none, .mv (.t 4)⟩,
           ⟨(some 31), none, .rangeS (.t 30)⟩])
         (.block 0 (.loop (.seq
            (.ops [⟨(some 32), none, .nextS (.t 31)⟩,
              ⟨(some 33), none, .ext (.t 32) 0⟩])
            (.seq
             (.cond (.t 33)
              (.skip)
              (.exit 0))
             (.block 1 (.seq
               (.ops [⟨(some 34), none, .ext (.t 32) 2⟩,
                 ⟨(some 10), none, .mv (.t 34)⟩])
               (.seq
                (.ops [⟨(some 35), none, .mv (.t 6)⟩,
                  ⟨(some 36), none, .bin .add (.t 35) (.c (.str [32]))⟩,
                  ⟨(some 6), none, .mv (.t 36)⟩])
                (.seq
                 (.ops [⟨(some 37), none, .mv (.t 10)⟩])
                 (.block 2 (.seq
                   (.seq
                    (.ops [⟨(some 39), none, .bin .eql (.t 37) (.c (.int .i32 108))⟩,
                      ⟨(some 38), none, .mv (.t 39)⟩])
                    (.cond (.t 38)
                     (.skip)
                     (.ops [⟨(some 40), none, .bin .eql (.t 37) (.c (.int .i32 110))⟩,
                       ⟨(some 38), none, .mv (.t 40)⟩])))
                   (.cond (.t 38)
                    (.seq
                     (.seq
                      (.ops [⟨(some 41), none, .mv (.t 8)⟩,
                        ⟨(some 42), none, .lenL (.t 41)⟩,
                        ⟨(some 43), none, .bin .eql (.t 42) (.c (.int .i64 0))⟩])
                      (.cond (.t 43)
                       (.seq
                        (.ops [⟨(some 2), none, .mv (.c (.str []))⟩,
                          ⟨(some 3), none, .mv (.c (.bool false))⟩])
                        (.ret))
                       (.skip)))
                     (.seq
                      (.ops [⟨(some 44), none, .mv (.t 6)⟩,
                        ⟨(some 45), none, .mv (.t 8)⟩,
                        ⟨(some 46), none, .iaddrS 1 (.t 45) (.c (.int .i64 0))⟩,
                        ⟨(some 47), none, .load none (.t 46)⟩,
                        ⟨(some 48), none, .call 29 [(.t 47)]⟩,
                        ⟨(some 49), none, .bin .add (.t 44) (.t 48)⟩,
                        ⟨(some 6), none, .mv (.t 49)⟩])
                      (.seq
                       (.draw [⟨⟨(some 50), none, .addr 1 (.t 7)⟩, []⟩,
                         ⟨⟨(some 51), none, .load none (.t 50)⟩, [0]⟩,
                         ⟨⟨(some 52), none, .mv (.t 8)⟩, []⟩,
                         ⟨⟨(some 53), none, .iaddrS 1 (.t 52) (.c (.int .i64 0))⟩, [2]⟩,
                         ⟨⟨(some 54), none, .load none (.t 53)⟩, [3]⟩,
                         ⟨⟨(some 55), none, .bslice 3 1 1 [(.int .i64 0)] [(0, (.t 54))]⟩, [4]⟩,
                         ⟨⟨(some 56), none, .append 3 1 8 (.t 51) (.t 55)⟩, [1, 5]⟩,
                         ⟨⟨(some 57), none, .addr 1 (.t 7)⟩, [0, 1, 2, 3, 4, 5, 6]⟩,
                         ⟨⟨none, none, .store 1 (.t 57) (.t 56)⟩, [7, 6, 6, 0, 1, 2, 3, 4, 5, 6]⟩] [0, 1, 0, 4, 12, 28, 63, 127, 255])
                       (.ops [⟨(some 58), none, .mv (.t 8)⟩,
                         ⟨(some 59), none, .slice 1 (.t 58) (some (.c (.int .i64 1))) none none⟩,
                         ⟨(some 8), none, .mv (.t 59)⟩]))))
                    (.seq
                     (.ops [⟨(some 61), none, .bin .eql (.t 37) (.c (.int .i32 112))⟩,
                       ⟨(some 60), none, .mv (.t 61)⟩])
                     (.cond (.t 60)
                      (.seq
                       (.ops [⟨(some 63), none, .addr 2 (.t 1)⟩,
                         ⟨(some 64), none, .load (some 3) (.t 63)⟩,
                         ⟨(some 65), none, .call 30 [(.t 64)]⟩,
                         ⟨(some 62), none, .mv (.t 65)⟩,
                         ⟨(some 66), none, .ext (.t 62) 0⟩,
                         ⟨(some 67), none, .ext (.t 62) 1⟩,
                         ⟨(some 11), none, .mv (.t 66)⟩,
                         ⟨(some 12), none, .mv (.t 67)⟩])
                       (.seq
                        (.seq
                         (.ops [⟨(some 68), none, .mv (.t 12)⟩,
                           ⟨(some 69), none, .un .not (.t 68)⟩])
                         (.cond (.t 69)
                          (.seq
                           (.ops [⟨(some 2), none, .mv (.c (.str []))⟩,
                             ⟨(some 3), none, .mv (.c (.bool false))⟩])
                           (.ret))
                          (.skip)))
                        (.seq
                         (.ops [⟨(some 70), none, .mv (.t 6)⟩,
                           ⟨(some 71), none, .mv (.t 11)⟩,
                           ⟨(some 72), none, .bin .add (.t 70) (.t 71)⟩,
                           ⟨(some 6), none, .mv (.t 72)⟩])
                         (.ops [⟨(some 73), none, .addr 2 (.t 1)⟩,
                           ⟨(some 74), none, .load (some 3) (.t 73)⟩,
                           ⟨(some 75), none, .addr 2 (.t 7)⟩,
                           ⟨none, none, .store 3 (.t 75) (.t 74)⟩]))))
                      (.seq
                       (.ops [⟨(some 77), none, .bin .eql (.t 37) (.c (.int .i32 116))⟩,
                         ⟨(some 76), none, .mv (.t 77)⟩])
                       (.cond (.t 76)
                        (.seq
                         (.ops [⟨(some 78), none, .mv (.t 6)⟩,
                           ⟨(some 79), none, .addr 5 (.t 1)⟩,
                           ⟨(some 80), none, .load none (.t 79)⟩,
                           ⟨(some 81), none, .bin .add (.t 78) (.t 80)⟩,
                           ⟨(some 6), none, .mv (.t 81)⟩])
                         (.ops [⟨(some 82), none, .addr 5 (.t 1)⟩,
                           ⟨(some 83), none, .load none (.t 82)⟩,
                           ⟨(some 84), none, .addr 5 (.t 7)⟩,
                           ⟨none, none, .store 1 (.t 84) (.t 83)⟩]))
                        (.skip)))))))))))))))))
        (.seq
         (.ops [⟨(some 86), none, .mv (.t 6)⟩,
           ⟨(some 87), none, .call 10 [(.t 86)]⟩,
           ⟨(some 85), none, .mv (.t 87)⟩,
           ⟨(some 88), none, .ext (.t 85) 0⟩,
           ⟨(some 89), none, .ext (.t 85) 1⟩,
           ⟨(some 13), none, .alloc 27 [(.str []), .nilslice, (.int .i64 0), (.int .i64 0), (.int .i64 0), (.str [])]⟩,
           ⟨none, none, .store 6 (.t 13) (.t 88)⟩,
           ⟨(some 14), none, .mv (.t 89)⟩])
         (.seq
          (.seq
           (.ops [⟨(some 90), none, .load (some 6) (.t 7)⟩,
             ⟨(some 91), none, .load (some 6) (.t 1)⟩,
             ⟨(some 92), none, .call 20 [(.t 90), (.t 91)]⟩,
             ⟨(some 93), none, .un .not (.t 92)⟩,
             ⟨(some 94), none, .mv (.t 93)⟩,
             ⟨(some 95), (some (94, false)), .mv (.t 14)⟩,
             ⟨(some 96), (some (94, false)), .bin .neq (.t 95) (.c (.int .i64 0))⟩,
             ⟨(some 97), none, .pick (.t 94) (.c (.bool true)) (.t 96)⟩,
             ⟨(some 98), none, .mv (.t 97)⟩,
             ⟨(some 99), (some (98, false)), .load (some 6) (.t 1)⟩,
             ⟨(some 100), (some (98, false)), .load (some 6) (.t 13)⟩,
             ⟨(some 101), (some (98, false)), .call 20 [(.t 99), (.t 100)]⟩,
             ⟨(some 102), (some (98, false)), .un .not (.t 101)⟩,
             ⟨(some 103), none, .pick (.t 98) (.c (.bool true)) (.t 102)⟩])
           (.cond (.t 103)
            (.seq
             (.ops [⟨(some 2), none, .mv (.c (.str []))⟩,
               ⟨(some 3), none, .mv (.c (.bool false))⟩])
             (.ret))
            (.skip)))
          (.seq
           (.ops [⟨(some 104), none, .mv (.t 6)⟩,
             ⟨(some 2), none, .mv (.t 104)⟩,
             ⟨(some 3), none, .mv (.c (.bool true))⟩])
           (.ret)))))))))⟩
theorem ok15 : FnOk Tryd.prog 15 a15 := FnOk.of Tryd.prog Tryd.func15 (by kernel_rfl)
/-- jalousie/command.Right -/
def a16 : AFn := ⟨11, [.tmp 2], .seq
   (.ops [⟨(some 1), none, .box 27 (.t 0)⟩,
     ⟨(some 2), none, .mv (.c (.bool false))⟩])
   (.seq
    (.ops [⟨(some 6), none, .load (some 6) (.t 1)⟩,
      ⟨(some 7), none, .call 15 [(.t 6)]⟩,
      ⟨(some 5), none, .mv (.t 7)⟩,
      ⟨(some 8), none, .ext (.t 5) 0⟩,
      ⟨(some 9), none, .ext (.t 5) 1⟩,
      ⟨(some 3), none, .mv (.t 8)⟩,
      ⟨(some 4), none, .mv (.t 9)⟩])
    (.seq
     (.ops [⟨(some 10), none, .mv (.t 4)⟩,
       ⟨(some 2), none, .mv (.t 10)⟩])
     (.ret)))⟩
theorem ok16 : FnOk Tryd.prog 16 a16 := FnOk.of Tryd.prog Tryd.func16 (by kernel_rfl)
/-- jalousie/jalousieref29.Line -/
def a17 : AFn := ⟨66, [.tmp 2], .seq
   (.ops [⟨(some 1), none, .box 31 (.t 0)⟩,
     ⟨(some 2), none, .mv (.c (.str []))⟩])
   (.seq
    (.ops [⟨(some 9), none, .addr 0 (.t 1)⟩,
      ⟨(some 10), none, .load none (.t 9)⟩,
      ⟨(some 11), none, .call 19 [(.t 10)]⟩,
      ⟨(some 8), none, .mv (.t 11)⟩,
      ⟨(some 12), none, .ext (.t 8) 0⟩,
      ⟨(some 13), none, .ext (.t 8) 1⟩,
      ⟨(some 3), none, .mv (.t 12)⟩,
      ⟨(some 4), none, .mv (.t 13)⟩])
    (.seq
     (.ops [⟨(some 14), none, .addr 0 (.t 1)⟩,
       ⟨(some 15), none, .load none (.t 14)⟩,
       ⟨(some 5), none, .mv (.t 15)⟩])
     (.seq
      (.ops [⟨(some 6), none, .mv (.c (.int .i64 0))⟩])
      (.seq
       (.seq
        (.ops [⟨(some 7), none, .mv (.c (.int .i64 0))⟩])
        (.block 0 (.loop (.seq
           (.seq
            (.ops [⟨(some 16), none, .mv (.t 7)⟩,
              ⟨(some 17), none, .mv (.t 3)⟩,
              ⟨(some 18), none, .lenS (.t 17)⟩,
              ⟨(some 19), none, .bin .lss (.t 16) (.t 18)⟩])
            (.cond (.t 19)
             (.skip)
             (.exit 0)))
           (.seq
            (.block 1 (.seq
              (.ops [⟨(some 22), none, .mv (.t 3)⟩,
                ⟨(some 23), none, .mv (.t 7)⟩,
                ⟨(some 24), none, .idxS (.t 22) (.t 23)⟩])
              (.block 2 (.seq
                (.seq
                 (.ops [⟨(some 31), none, .bin .eql (.t 24) (.c (.int .u8 108))⟩,
                   ⟨(some 30), none, .mv (.t 31)⟩])
                 (.cond (.t 30)
                  (.skip)
                  (.ops [⟨(some 32), none, .bin .eql (.t 24) (.c (.int .u8 110))⟩,
                    ⟨(some 30), none, .mv (.t 32)⟩])))
                (.cond (.t 30)
                 (.seq
                  (.ops [⟨(some 33), none, .mv (.t 5)⟩,
                    ⟨(some 34), none, .bin .add (.t 33) (.c (.str [32]))⟩,
                    ⟨(some 35), none, .addr 1 (.t 1)⟩,
                    ⟨(some 36), none, .load none (.t 35)⟩,
                    ⟨(some 37), none, .mv (.t 6)⟩,
                    ⟨(some 38), none, .iaddrS 1 (.t 36) (.t 37)⟩,
                    ⟨(some 39), none, .load none (.t 38)⟩,
                    ⟨(some 40), none, .call 31 [(.t 39)]⟩,
                    ⟨(some 41), none, .bin .add (.t 34) (.t 40)⟩,
                    ⟨(some 5), none, .mv (.t 41)⟩])
                  (.ops [⟨(some 42), none, .mv (.t 6)⟩,
                    ⟨(some 43), none, .bin .add (.t 42) (.c (.int .i64 1))⟩,
                    ⟨(some 6), none, .mv (.t 43)⟩]))
                 (.seq
                  (.ops [⟨(some 45), none, .bin .eql (.t 24) (.c (.int .u8 112))⟩,
                    ⟨(some 44), none, .mv (.t 45)⟩])
                  (.cond (.t 44)
                   (.draw [⟨⟨(some 46), none, .mv (.t 5)⟩, []⟩,
                     ⟨⟨(some 47), none, .bin .add (.t 46) (.c (.str [32, 112]))⟩, [0]⟩,
                     ⟨⟨(some 48), none, .addr 2 (.t 1)⟩, []⟩,
                     ⟨⟨(some 49), none, .addr 0 (.t 48)⟩, [2]⟩,
                     ⟨⟨(some 50), none, .load none (.t 49)⟩, [3]⟩,
                     ⟨⟨(some 51), none, .call 31 [(.t 50)]⟩, [4]⟩,
                     ⟨⟨(some 52), none, .bin .add (.t 47) (.t 51)⟩, [1, 5]⟩,
                     ⟨⟨(some 53), none, .bin .add (.t 52) (.c (.str [46]))⟩, [6]⟩,
                     ⟨⟨(some 54), none, .addr 2 (.t 1)⟩, []⟩,
                     ⟨⟨(some 55), none, .addr 1 (.t 54)⟩, [8]⟩,
                     ⟨⟨(some 56), none, .load none (.t 55)⟩, [9]⟩,
                     ⟨⟨(some 57), none, .call 31 [(.t 56)]⟩, [10, 5]⟩,
                     ⟨⟨(some 58), none, .bin .add (.t 53) (.t 57)⟩, [7, 11]⟩,
                     ⟨⟨(some 59), none, .bin .add (.t 58) (.c (.str [46]))⟩, [12]⟩,
                     ⟨⟨(some 60), none, .addr 2 (.t 1)⟩, []⟩,
                     ⟨⟨(some 61), none, .addr 2 (.t 60)⟩, [14]⟩,
                     ⟨⟨(some 62), none, .load none (.t 61)⟩, [15]⟩,
                     ⟨⟨(some 63), none, .call 31 [(.t 62)]⟩, [16, 11]⟩,
                     ⟨⟨(some 64), none, .bin .add (.t 59) (.t 63)⟩, [13, 17]⟩,
                     ⟨⟨(some 5), none, .mv (.t 64)⟩, [18, 17, 0, 1, 2, 3, 4, 5, 6, 7, 8, 9, 10, 11, 12, 13, 14, 15, 16, 17, 18]⟩] [0, 1, 0, 4, 12, 28, 63, 127, 0, 256, 768, 1852, 4095, 8191, 0, 16384, 49152, 118588, 262143, 524287])
                   (.ops [⟨(some 25), none, .mv (.t 5)⟩,
                     ⟨(some 26), none, .bin .add (.t 25) (.c (.str [32]))⟩,
                     ⟨(some 27), none, .addr 5 (.t 1)⟩,
                     ⟨(some 28), none, .load none (.t 27)⟩,
                     ⟨(some 29), none, .bin .add (.t 26) (.t 28)⟩,
                     ⟨(some 5), none, .mv (.t 29)⟩]))))))))
            (.ops [⟨(some 20), none, .mv (.t 7)⟩,
              ⟨(some 21), none, .bin .add (.t 20) (.c (.int .i64 1))⟩,
              ⟨(some 7), none, .mv (.t 21)⟩]))))))
       (.seq
        (.ops [⟨(some 65), none, .mv (.t 5)⟩,
          ⟨(some 2), none, .mv (.t 65)⟩])
        (.ret))))))⟩
theorem ok17 : FnOk Tryd.prog 17 a17 := FnOk.of Tryd.prog Tryd.func17 (by kernel_rfl)
/-- jalousie/command.Form -/
def a18 : AFn := ⟨12, [.tmp 2, .tmp 3], .seq
   (.ops [⟨(some 2), none, .mv (.c (.str []))⟩,
     ⟨(some 3), none, .mv (.c (.bool false))⟩])
   (.seq
    (.ops [⟨(some 5), none, .call 32 []⟩,
      ⟨(some 6), none, .mv (.t 0)⟩,
      ⟨(some 7), none, .lookup 9 (.str []) (.t 5) (.t 6) true⟩,
      ⟨(some 4), none, .mv (.t 7)⟩,
      ⟨(some 8), none, .ext (.t 4) 0⟩,
      ⟨(some 9), none, .ext (.t 4) 1⟩,
      ⟨(some 2), none, .mv (.t 8)⟩,
      ⟨(some 3), none, .mv (.t 9)⟩])
    (.seq
     (.ops [⟨(some 10), none, .mv (.t 2)⟩,
       ⟨(some 11), none, .mv (.t 3)⟩,
       ⟨(some 2), none, .mv (.t 10)⟩,
       ⟨(some 3), none, .mv (.t 11)⟩])
     (.ret)))⟩
theorem ok18 : FnOk Tryd.prog 18 a18 := FnOk.of Tryd.prog Tryd.func18 (by kernel_rfl)

end Go.Proofs.YthcpfmibcoeleaaDoor.Fns
