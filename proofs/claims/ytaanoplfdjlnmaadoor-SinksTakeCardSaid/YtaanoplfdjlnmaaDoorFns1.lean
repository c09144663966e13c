/- Functions of the translated code as the abstract machine reads them, printed by program; each is checked against the code. -/
import Derived.Test.YtaanoplfdjlnmaaDoorProg
import Derived.Test.YtaanoplfdjlnmaaDoorAmEval
namespace Go.Proofs.YtaanoplfdjlnmaaDoor.Fns
open Go Go.RowKit Am Go.Proofs.YtaanoplfdjlnmaaDoor
set_option maxRecDepth 100000
/-- jalousie/lattice.New -/
def a20 : AFn := ⟨127, [.tmp 2, .tmp 3], .seq
   (.ops [⟨(some 2), none, .mv (.c .nilptr)⟩,
     ⟨(some 3), none, .mv (.c (.int .i64 0))⟩])
   (.seq
    (.ops [⟨(some 12), none, .mv (.t 0)⟩,
      ⟨(some 13), none, .lenL (.t 12)⟩,
      ⟨(some 4), none, .mv (.t 13)⟩])
    (.seq
     (.seq
      (.ops [⟨(some 14), none, .mv (.t 4)⟩,
        ⟨(some 15), none, .bin .lss (.t 14) (.c (.int .i64 1))⟩,
        ⟨(some 16), none, .mv (.t 15)⟩,
        ⟨(some 17), (some (16, false)), .mv (.t 4)⟩,
        ⟨(some 18), (some (16, false)), .bin .gtr (.t 17) (.c (.int .i64 64))⟩,
        ⟨(some 19), none, .pick (.t 16) (.c (.bool true)) (.t 18)⟩])
      (.cond (.t 19)
       (.seq
        (.ops [⟨(some 2), none, .mv (.c .nilptr)⟩,
          ⟨(some 3), none, .mv (.c (.int .i64 3))⟩])
        (.ret))
       (.skip)))
     (.seq
      (.draw [⟨⟨(some 20), none, .mv (.t 4)⟩, []⟩,
        ⟨⟨(some 21), none, .mksl 80 1 8 [(.int .u64 0)] (.t 20) (.t 20)⟩, [0, 0]⟩,
        ⟨⟨(some 22), none, .mv (.t 4)⟩, []⟩,
        ⟨⟨(some 23), none, .mksl 80 1 8 [(.int .u64 0)] (.t 22) (.t 22)⟩, [2, 2]⟩,
        ⟨⟨(some 24), none, .build [.nilslice, .nilslice, (.int .u32 0), (.int .i32 0), (.int .u32 0), .nilslice, .nilslice] [(0, 1), (1, 1), (2, 3), (5, 1), (6, 1)] [(0, (.t 21)), (1, (.t 23))]⟩, [1, 3]⟩,
        ⟨⟨(some 25), none, .box 78 (.t 24)⟩, [4]⟩,
        ⟨⟨(some 5), none, .mv (.t 25)⟩, [5, 0, 1, 2, 3, 4, 5]⟩] [0, 1, 0, 4, 15, 31, 63])
      (.seq
       (.seq
        (.ops [⟨(some 26), none, .mv (.t 0)⟩,
          ⟨(some 27), none, .lenL (.t 26)⟩,
          ⟨(some 28), none, .mv (.c (.int .i64 0))⟩])
        (.block 0 (.loop (.seq
           (.ops [⟨(some 29), none, .bin .lss (.t 28) (.t 27)⟩])
           (.seq
            (.cond (.t 29)
             (.skip)
             (.exit 0))
            (.seq
             (.block 1 (.seq
               (.ops [⟨(some 30), none, .mv (.t 28)⟩,
                 ⟨(some 31), none, .iaddrS 1 (.t 26) (.t 28)⟩,
                 ⟨(some 32), none, .load none (.t 31)⟩,
                 ⟨(some 6), none, .mv (.t 30)⟩,
                 ⟨(some 7), none, .mv (.t 32)⟩])
               (.seq
                (.seq
                 (.ops [⟨(some 33), none, .mv (.t 7)⟩,
                   ⟨(some 34), none, .lenL (.t 33)⟩,
                   ⟨(some 35), none, .mv (.t 4)⟩,
                   ⟨(some 36), none, .bin .neq (.t 34) (.t 35)⟩])
                 (.cond (.t 36)
                  (.seq
                   (.ops [⟨(some 2), none, .mv (.c .nilptr)⟩,
                     ⟨(some 3), none, .mv (.c (.int .i64 8))⟩])
                   (.ret))
                  (.skip)))
                (.seq
                 (.ops [⟨(some 37), none, .mv (.t 7)⟩,
                   ⟨(some 38), none, .lenL (.t 37)⟩,
                   ⟨(some 39), none, .mv (.c (.int .i64 0))⟩])
                 (.block 2 (.loop (.seq
                    (.ops [⟨(some 40), none, .bin .lss (.t 39) (.t 38)⟩])
                    (.seq
                     (.cond (.t 40)
                      (.skip)
                      (.exit 2))
                     (.seq
                      (.block 3 (.seq
                        (.ops [⟨(some 41), none, .mv (.t 39)⟩,
                          ⟨(some 42), none, .iaddrS 1 (.t 37) (.t 39)⟩,
                          ⟨(some 43), none, .load none (.t 42)⟩,
                          ⟨(some 8), none, .mv (.t 41)⟩,
                          ⟨(some 9), none, .mv (.t 43)⟩])
                        (.seq
                         (.ops [⟨(some 44), none, .mv (.t 9)⟩])
                         (.cond (.t 44)
                          (.seq
                           (.draw [⟨⟨(some 45), none, .mv (.t 5)⟩, []⟩,
                             ⟨⟨(some 46), none, .nilck (.t 45)⟩, [0]⟩,
                             ⟨⟨(some 47), none, .addr 0 (.t 46)⟩, [1]⟩,
                             ⟨⟨(some 48), none, .load none (.t 47)⟩, [2]⟩,
                             ⟨⟨(some 49), none, .mv (.t 6)⟩, []⟩,
                             ⟨⟨(some 50), none, .iaddrS 1 (.t 48) (.t 49)⟩, [3, 4]⟩,
                             ⟨⟨(some 51), none, .load none (.t 50)⟩, [5]⟩,
                             ⟨⟨(some 52), none, .mv (.t 8)⟩, []⟩,
                             ⟨⟨(some 53), none, .bin .shl (.c (.int .u64 1)) (.t 52)⟩, [7]⟩,
                             ⟨⟨(some 54), none, .bin .or (.t 51) (.t 53)⟩, [6, 8]⟩,
                             ⟨⟨(some 55), none, .iaddrS 1 (.t 48) (.t 49)⟩, [3, 4, 0, 1, 2, 3, 4, 5, 6, 7, 8, 9]⟩,
                             ⟨⟨none, none, .store 1 (.t 55) (.t 54)⟩, [10, 9, 0, 1, 2, 3, 4, 5, 6, 7, 8, 9]⟩] [0, 1, 3, 7, 0, 31, 63, 0, 128, 511, 1023, 2047])
                           (.draw [⟨⟨(some 56), none, .mv (.t 5)⟩, []⟩,
                             ⟨⟨(some 57), none, .nilck (.t 56)⟩, [0]⟩,
                             ⟨⟨(some 58), none, .addr 1 (.t 57)⟩, [1]⟩,
                             ⟨⟨(some 59), none, .load none (.t 58)⟩, [2]⟩,
                             ⟨⟨(some 60), none, .mv (.t 8)⟩, []⟩,
                             ⟨⟨(some 61), none, .iaddrS 1 (.t 59) (.t 60)⟩, [3, 4]⟩,
                             ⟨⟨(some 62), none, .load none (.t 61)⟩, [5]⟩,
                             ⟨⟨(some 63), none, .mv (.t 6)⟩, []⟩,
                             ⟨⟨(some 64), none, .bin .shl (.c (.int .u64 1)) (.t 63)⟩, [7]⟩,
                             ⟨⟨(some 65), none, .bin .or (.t 62) (.t 64)⟩, [6, 8]⟩,
                             ⟨⟨(some 66), none, .iaddrS 1 (.t 59) (.t 60)⟩, [3, 4, 0, 1, 2, 3, 4, 5, 6, 7, 8, 9]⟩,
                             ⟨⟨none, none, .store 1 (.t 66) (.t 65)⟩, [10, 9, 0, 1, 2, 3, 4, 5, 6, 7, 8, 9]⟩] [0, 1, 3, 7, 0, 31, 63, 0, 128, 511, 1023, 2047]))
                          (.skip)))))
                      (.ops [⟨(some 67), none, .bin .add (.t 39) (.c (.int .i64 1))⟩,
                        ⟨(some 39), none, .mv (.t 67)⟩]))))))))))
             (.ops [⟨(some 68), none, .bin .add (.t 28) (.c (.int .i64 1))⟩,
               ⟨(some 28), none, .mv (.t 68)⟩])))))))
       (.seq
        (.seq
         (.ops [⟨(some 69), none, .mv (.t 5)⟩,
           ⟨(some 70), none, .call 24 [(.t 69)]⟩,
           ⟨(some 71), none, .un .not (.t 70)⟩])
         (.cond (.t 71)
          (.seq
           (.ops [⟨(some 2), none, .mv (.c .nilptr)⟩,
             ⟨(some 3), none, .mv (.c (.int .i64 1))⟩])
           (.ret))
          (.skip)))
        (.seq
         (.seq
          (.ops [⟨(some 72), none, .mv (.t 4)⟩,
            ⟨(some 73), none, .mv (.c (.int .i64 0))⟩])
          (.block 4 (.loop (.seq
             (.ops [⟨(some 74), none, .bin .lss (.t 73) (.t 72)⟩])
             (.seq
              (.cond (.t 74)
               (.skip)
               (.exit 4))
              (.seq
               (.block 5 (.seq
                 (.ops [⟨(some 75), none, .mv (.t 73)⟩,
                   ⟨(some 10), none, .mv (.t 75)⟩])
                 (.seq
                  (.ops [⟨(some 76), none, .mv (.t 10)⟩,
                    ⟨(some 77), none, .mv (.c (.int .i64 0))⟩])
                  (.block 6 (.loop (.seq
                     (.ops [⟨(some 78), none, .bin .lss (.t 77) (.t 76)⟩])
                     (.seq
                      (.cond (.t 78)
                       (.skip)
                       (.exit 6))
                      (.seq
                       (.block 7 (.seq
                         (.ops [⟨(some 79), none, .mv (.t 77)⟩,
                           ⟨(some 11), none, .mv (.t 79)⟩])
                         (.seq
                          (.draw [⟨⟨(some 80), none, .mv (.t 5)⟩, []⟩,
                            ⟨⟨(some 81), none, .nilck (.t 80)⟩, [0]⟩,
                            ⟨⟨(some 82), none, .addr 0 (.t 81)⟩, [1]⟩,
                            ⟨⟨(some 83), none, .load none (.t 82)⟩, [2]⟩,
                            ⟨⟨(some 84), none, .mv (.t 10)⟩, []⟩,
                            ⟨⟨(some 85), none, .iaddrS 1 (.t 83) (.t 84)⟩, [3, 4]⟩,
                            ⟨⟨(some 86), none, .load none (.t 85)⟩, [5]⟩,
                            ⟨⟨(some 87), none, .mv (.t 5)⟩, []⟩,
                            ⟨⟨(some 88), none, .nilck (.t 87)⟩, [7]⟩,
                            ⟨⟨(some 89), none, .addr 0 (.t 88)⟩, [8]⟩,
                            ⟨⟨(some 90), none, .load none (.t 89)⟩, [9]⟩,
                            ⟨⟨(some 91), none, .mv (.t 11)⟩, []⟩,
                            ⟨⟨(some 92), none, .iaddrS 1 (.t 90) (.t 91)⟩, [10, 11]⟩,
                            ⟨⟨(some 93), none, .load none (.t 92)⟩, [12]⟩,
                            ⟨⟨(some 94), none, .bin .and (.t 86) (.t 93)⟩, [6, 13]⟩,
                            ⟨⟨(some 95), none, .mv (.t 5)⟩, []⟩,
                            ⟨⟨(some 96), none, .nilck (.t 95)⟩, [15]⟩,
                            ⟨⟨(some 97), none, .addr 0 (.t 96)⟩, [16]⟩,
                            ⟨⟨(some 98), none, .load none (.t 97)⟩, [17]⟩,
                            ⟨⟨(some 99), none, .call 25 [(.t 94), (.t 98)]⟩, [14, 18]⟩,
                            ⟨⟨(some 100), none, .bin .lss (.t 99) (.c (.int .i64 0))⟩, [19]⟩,
                            ⟨⟨(some 101), none, .mv (.t 100)⟩, [20, 19]⟩,
                            ⟨⟨(some 102), (some (101, false)), .mv (.t 5)⟩, [21]⟩,
                            ⟨⟨(some 103), (some (101, false)), .nilck (.t 102)⟩, [22, 21]⟩,
                            ⟨⟨(some 104), (some (101, false)), .addr 1 (.t 103)⟩, [23, 21]⟩,
                            ⟨⟨(some 105), (some (101, false)), .load none (.t 104)⟩, [24, 21]⟩,
                            ⟨⟨(some 106), (some (101, false)), .mv (.t 10)⟩, [21]⟩,
                            ⟨⟨(some 107), (some (101, false)), .iaddrS 1 (.t 105) (.t 106)⟩, [25, 26, 21]⟩,
                            ⟨⟨(some 108), (some (101, false)), .load none (.t 107)⟩, [27, 21]⟩,
                            ⟨⟨(some 109), (some (101, false)), .mv (.t 5)⟩, [21]⟩,
                            ⟨⟨(some 110), (some (101, false)), .nilck (.t 109)⟩, [29, 21]⟩,
                            ⟨⟨(some 111), (some (101, false)), .addr 1 (.t 110)⟩, [30, 21]⟩,
                            ⟨⟨(some 112), (some (101, false)), .load none (.t 111)⟩, [31, 21]⟩,
                            ⟨⟨(some 113), (some (101, false)), .mv (.t 11)⟩, [21]⟩,
                            ⟨⟨(some 114), (some (101, false)), .iaddrS 1 (.t 112) (.t 113)⟩, [32, 33, 21]⟩,
                            ⟨⟨(some 115), (some (101, false)), .load none (.t 114)⟩, [34, 21]⟩,
                            ⟨⟨(some 116), (some (101, false)), .bin .and (.t 108) (.t 115)⟩, [28, 35, 21]⟩,
                            ⟨⟨(some 117), (some (101, false)), .mv (.t 5)⟩, [21]⟩,
                            ⟨⟨(some 118), (some (101, false)), .nilck (.t 117)⟩, [37, 21]⟩,
                            ⟨⟨(some 119), (some (101, false)), .addr 1 (.t 118)⟩, [38, 21]⟩,
                            ⟨⟨(some 120), (some (101, false)), .load none (.t 119)⟩, [39, 21]⟩,
                            ⟨⟨(some 121), (some (101, false)), .call 25 [(.t 116), (.t 120)]⟩, [36, 40, 21, 21]⟩,
                            ⟨⟨(some 122), (some (101, false)), .bin .lss (.t 121) (.c (.int .i64 0))⟩, [41, 21]⟩,
                            ⟨⟨(some 123), none, .pick (.t 101) (.c (.bool true)) (.t 122)⟩, [21, 42]⟩] [0, 1, 3, 7, 0, 31, 63, 0, 128, 384, 896, 0, 3968, 8064, 16383, 0, 32768, 98304, 229376, 524287, 1048575, 2097151, 4194303, 8388607, 16777215, 33554431, 4194303, 134217727, 268435455, 4194303, 541065215, 1614807039, 3762290687, 4194303, 16647192575, 33827061759, 68719476735, 4194303, 137443147775, 412321054719, 962076868607, 2199023255551, 4398046511103, 8796093022207])
                          (.cond (.t 123)
                           (.seq
                            (.ops [⟨(some 2), none, .mv (.c .nilptr)⟩,
                              ⟨(some 3), none, .mv (.c (.int .i64 1))⟩])
                            (.ret))
                           (.skip)))))
                       (.ops [⟨(some 124), none, .bin .add (.t 77) (.c (.int .i64 1))⟩,
                         ⟨(some 77), none, .mv (.t 124)⟩])))))))))
               (.ops [⟨(some 125), none, .bin .add (.t 73) (.c (.int .i64 1))⟩,
                 ⟨(some 73), none, .mv (.t 125)⟩])))))))
         (.seq
          (.ops [⟨(some 126), none, .mv (.t 5)⟩,
            ⟨(some 2), none, .mv (.t 126)⟩,
            ⟨(some 3), none, .mv (.c (.int .i64 0))⟩])
          (.ret))))))))⟩
theorem ok20 : FnOk Tryd.prog 20 a20 := FnOk.of Tryd.prog Tryd.func20 (by kernel_rfl)
/-- (*jalousie/sinks.Sinks).none -/
def a21 : AFn := ⟨12, [.tmp 2], .seq
   (.ops [⟨(some 2), none, .mv (.c (.bool false))⟩])
   (.seq
    (.ops [⟨(some 3), none, .mv (.t 0)⟩,
      ⟨(some 4), none, .eq false 30 (.pointer 58) (.t 3) (.c .nilptr)⟩,
      ⟨(some 5), none, .mv (.t 4)⟩,
      ⟨(some 6), (some (5, false)), .mv (.t 0)⟩,
      ⟨(some 7), (some (5, false)), .nilck (.t 6)⟩,
      ⟨(some 8), (some (5, false)), .addr 0 (.t 7)⟩,
      ⟨(some 9), (some (5, false)), .load none (.t 8)⟩,
      ⟨(some 10), (some (5, false)), .eq false 26 (.pointer 78) (.t 9) (.c .nilptr)⟩,
      ⟨(some 11), none, .pick (.t 5) (.c (.bool true)) (.t 10)⟩,
      ⟨(some 2), none, .mv (.t 11)⟩])
    (.ret))⟩
theorem ok21 : FnOk Tryd.prog 21 a21 := FnOk.of Tryd.prog Tryd.func21 (by kernel_rfl)
/-- (*jalousie/lattice.Lattice).has -/
def a22 : AFn := ⟨13, [.tmp 4], .seq
   (.ops [⟨(some 4), none, .mv (.c (.bool false))⟩])
   (.seq
    (.ops [⟨(some 5), none, .mv (.t 1)⟩,
      ⟨(some 6), none, .bin .geq (.t 5) (.c (.int .i64 0))⟩,
      ⟨(some 7), none, .mv (.t 6)⟩,
      ⟨(some 8), (some (7, true)), .mv (.t 1)⟩,
      ⟨(some 9), (some (7, true)), .mv (.t 0)⟩,
      ⟨(some 10), (some (7, true)), .call 12 [(.t 9)]⟩,
      ⟨(some 11), (some (7, true)), .bin .lss (.t 8) (.t 10)⟩,
      ⟨(some 12), none, .pick (.t 7) (.t 11) (.c (.bool false))⟩,
      ⟨(some 4), none, .mv (.t 12)⟩])
    (.ret))⟩
theorem ok22 : FnOk Tryd.prog 22 a22 := FnOk.of Tryd.prog Tryd.func22 (by kernel_rfl)
/-- (*jalousie/sinks.Sinks).is -/
def a23 : AFn := ⟨21, [.tmp 4], .seq
   (.ops [⟨(some 4), none, .mv (.c (.bool false))⟩])
   (.seq
    (.ops [⟨(some 5), none, .mv (.t 0)⟩,
      ⟨(some 6), none, .call 21 [(.t 5)]⟩,
      ⟨(some 7), none, .un .not (.t 6)⟩,
      ⟨(some 8), none, .mv (.t 7)⟩,
      ⟨(some 9), (some (8, true)), .mv (.t 1)⟩,
      ⟨(some 10), (some (8, true)), .bin .geq (.t 9) (.c (.int .i64 0))⟩,
      ⟨(some 11), none, .pick (.t 8) (.t 10) (.c (.bool false))⟩,
      ⟨(some 12), none, .mv (.t 11)⟩,
      ⟨(some 13), (some (12, true)), .mv (.t 1)⟩,
      ⟨(some 14), (some (12, true)), .mv (.t 0)⟩,
      ⟨(some 15), (some (12, true)), .nilck (.t 14)⟩,
      ⟨(some 16), (some (12, true)), .addr 1 (.t 15)⟩,
      ⟨(some 17), (some (12, true)), .load none (.t 16)⟩,
      ⟨(some 18), (some (12, true)), .lenL (.t 17)⟩,
      ⟨(some 19), (some (12, true)), .bin .lss (.t 13) (.t 18)⟩,
      ⟨(some 20), none, .pick (.t 12) (.t 19) (.c (.bool false))⟩,
      ⟨(some 4), none, .mv (.t 20)⟩])
    (.ret))⟩
theorem ok23 : FnOk Tryd.prog 23 a23 := FnOk.of Tryd.prog Tryd.func23 (by kernel_rfl)
/-- (*jalousie/lattice.Lattice).order -/
def a24 : AFn := ⟨54, [.tmp 2], .seq
   (.ops [⟨(some 2), none, .mv (.c (.bool false))⟩])
   (.seq
    (.seq
     (.ops [⟨(some 6), none, .mv (.t 0)⟩,
       ⟨(some 7), none, .nilck (.t 6)⟩,
       ⟨(some 8), none, .addr 0 (.t 7)⟩,
       ⟨(some 9), none, .load none (.t 8)⟩,
       ⟨(some 10), none, .lenL (.t 9)⟩,
       ⟨(some 11), none, .mv (.c (.int .i64 0))⟩])
     (.block 0 (.loop (.seq
        (.ops [⟨(some 12), none, .bin .lss (.t 11) (.t 10)⟩])
        (.seq
         (.cond (.t 12)
          (.skip)
          (.exit 0))
         (.seq
          (.block 1 (.seq
            (.ops [⟨(some 13), none, .mv (.t 11)⟩,
              ⟨(some 14), none, .iaddrS 1 (.t 9) (.t 11)⟩,
              ⟨(some 15), none, .load none (.t 14)⟩,
              ⟨(some 3), none, .mv (.t 13)⟩,
              ⟨(some 4), none, .mv (.t 15)⟩])
            (.seq
             (.seq
              (.draw [⟨⟨(some 16), none, .mv (.t 4)⟩, []⟩,
                ⟨⟨(some 17), none, .mv (.t 3)⟩, []⟩,
                ⟨⟨(some 18), none, .bin .shr (.t 16) (.t 17)⟩, [0, 1]⟩,
                ⟨⟨(some 19), none, .bin .and (.t 18) (.c (.int .u64 1))⟩, [2]⟩,
                ⟨⟨(some 20), none, .bin .eql (.t 19) (.c (.int .u64 0))⟩, [3]⟩,
                ⟨⟨(some 21), none, .mv (.t 20)⟩, [4]⟩,
                ⟨⟨(some 22), (some (21, false)), .mv (.t 4)⟩, [5]⟩,
                ⟨⟨(some 23), (some (21, false)), .mv (.t 0)⟩, [5]⟩,
                ⟨⟨(some 24), (some (21, false)), .nilck (.t 23)⟩, [7, 5]⟩,
                ⟨⟨(some 25), (some (21, false)), .addr 1 (.t 24)⟩, [8, 5]⟩,
                ⟨⟨(some 26), (some (21, false)), .load none (.t 25)⟩, [9, 5]⟩,
                ⟨⟨(some 27), (some (21, false)), .mv (.t 3)⟩, [5]⟩,
                ⟨⟨(some 28), (some (21, false)), .iaddrS 1 (.t 26) (.t 27)⟩, [10, 11, 5]⟩,
                ⟨⟨(some 29), (some (21, false)), .load none (.t 28)⟩, [12, 5]⟩,
                ⟨⟨(some 30), (some (21, false)), .bin .and (.t 22) (.t 29)⟩, [6, 13, 5]⟩,
                ⟨⟨(some 31), (some (21, false)), .mv (.t 3)⟩, [5]⟩,
                ⟨⟨(some 32), (some (21, false)), .bin .shl (.c (.int .u64 1)) (.t 31)⟩, [15, 5]⟩,
                ⟨⟨(some 33), (some (21, false)), .bin .neq (.t 30) (.t 32)⟩, [14, 16, 5]⟩,
                ⟨⟨(some 34), none, .pick (.t 21) (.c (.bool true)) (.t 33)⟩, [5, 17]⟩] [0, 0, 3, 7, 15, 31, 63, 63, 191, 447, 959, 63, 4031, 8127, 16383, 63, 32831, 131071, 262143])
              (.cond (.t 34)
               (.seq
                (.ops [⟨(some 2), none, .mv (.c (.bool false))⟩])
                (.ret))
               (.skip)))
             (.seq
              (.ops [⟨(some 35), none, .mv (.t 4)⟩,
                ⟨(some 5), none, .mv (.t 35)⟩])
              (.block 2 (.loop (.seq
                 (.seq
                  (.ops [⟨(some 36), none, .mv (.t 5)⟩,
                    ⟨(some 37), none, .bin .neq (.t 36) (.c (.int .u64 0))⟩])
                  (.cond (.t 37)
                   (.skip)
                   (.exit 2)))
                 (.seq
                  (.block 3 (.seq
                    (.draw [⟨⟨(some 42), none, .mv (.t 0)⟩, []⟩,
                      ⟨⟨(some 43), none, .nilck (.t 42)⟩, [0]⟩,
                      ⟨⟨(some 44), none, .addr 0 (.t 43)⟩, [1]⟩,
                      ⟨⟨(some 45), none, .load none (.t 44)⟩, [2]⟩,
                      ⟨⟨(some 46), none, .mv (.t 5)⟩, []⟩,
                      ⟨⟨(some 47), none, .call 26 [(.t 46)]⟩, [4]⟩,
                      ⟨⟨(some 48), none, .iaddrS 1 (.t 45) (.t 47)⟩, [3, 5]⟩,
                      ⟨⟨(some 49), none, .load none (.t 48)⟩, [6]⟩,
                      ⟨⟨(some 50), none, .mv (.t 4)⟩, []⟩,
                      ⟨⟨(some 51), none, .bin .andNot (.t 49) (.t 50)⟩, [7, 8]⟩,
                      ⟨⟨(some 52), none, .bin .neq (.t 51) (.c (.int .u64 0))⟩, [9]⟩] [0, 1, 3, 7, 0, 16, 63, 127, 0, 511, 1023])
                    (.cond (.t 52)
                     (.seq
                      (.ops [⟨(some 2), none, .mv (.c (.bool false))⟩])
                      (.ret))
                     (.skip))))
                  (.ops [⟨(some 38), none, .mv (.t 5)⟩,
                    ⟨(some 39), none, .mv (.t 5)⟩,
                    ⟨(some 40), none, .bin .sub (.t 39) (.c (.int .u64 1))⟩,
                    ⟨(some 41), none, .bin .and (.t 38) (.t 40)⟩,
                    ⟨(some 5), none, .mv (.t 41)⟩])))))))))
          (.ops [⟨(some 53), none, .bin .add (.t 11) (.c (.int .i64 1))⟩,
            ⟨(some 11), none, .mv (.t 53)⟩])))))))
    (.seq
     (.ops [⟨(some 2), none, .mv (.c (.bool true))⟩])
     (.ret)))⟩
theorem ok24 : FnOk Tryd.prog 24 a24 := FnOk.of Tryd.prog Tryd.func24 (by kernel_rfl)
/-- jalousie/lattice.best -/
def a25 : AFn := ⟨25, [.tmp 4], .seq
   (.ops [⟨(some 4), none, .mv (.c (.int .i64 0))⟩])
   (.seq
    (.seq
     (.ops [⟨(some 7), none, .mv (.t 0)⟩,
       ⟨(some 5), none, .mv (.t 7)⟩])
     (.block 0 (.loop (.seq
        (.seq
         (.ops [⟨(some 8), none, .mv (.t 5)⟩,
           ⟨(some 9), none, .bin .neq (.t 8) (.c (.int .u64 0))⟩])
         (.cond (.t 9)
          (.skip)
          (.exit 0)))
        (.seq
         (.block 1 (.seq
           (.ops [⟨(some 14), none, .mv (.t 5)⟩,
             ⟨(some 15), none, .call 26 [(.t 14)]⟩,
             ⟨(some 6), none, .mv (.t 15)⟩])
           (.seq
            (.ops [⟨(some 16), none, .mv (.t 1)⟩,
              ⟨(some 17), none, .mv (.t 6)⟩,
              ⟨(some 18), none, .iaddrS 1 (.t 16) (.t 17)⟩,
              ⟨(some 19), none, .load none (.t 18)⟩,
              ⟨(some 20), none, .mv (.t 0)⟩,
              ⟨(some 21), none, .bin .and (.t 19) (.t 20)⟩,
              ⟨(some 22), none, .mv (.t 0)⟩,
              ⟨(some 23), none, .bin .eql (.t 21) (.t 22)⟩])
            (.cond (.t 23)
             (.seq
              (.ops [⟨(some 24), none, .mv (.t 6)⟩,
                ⟨(some 4), none, .mv (.t 24)⟩])
              (.ret))
             (.skip)))))
         (.ops [⟨(some 10), none, .mv (.t 5)⟩,
           ⟨(some 11), none, .mv (.t 5)⟩,
           ⟨(some 12), none, .bin .sub (.t 11) (.c (.int .u64 1))⟩,
           ⟨(some 13), none, .bin .and (.t 10) (.t 12)⟩,
           ⟨(some 5), none, .mv (.t 13)⟩]))))))
    (.seq
     (.ops [⟨(some 4), none, .mv (.c (.int .i64 (-1)))⟩])
     (.ret)))⟩
theorem ok25 : FnOk Tryd.prog 25 a25 := FnOk.of Tryd.prog Tryd.func25 (by kernel_rfl)
/-- math/bits.TrailingZeros64 -/
def a26 : AFn := ⟨14, [.tmp 2], .seq
   (.ops [⟨(some 2), none, .mv (.c (.int .i64 0))⟩])
   (.seq
    (.seq
     (.ops [⟨(some 3), none, .mv (.t 0)⟩,
       ⟨(some 4), none, .bin .eql (.t 3) (.c (.int .u64 0))⟩])
     (.cond (.t 4)
      (.seq
       (.ops [⟨(some 2), none, .mv (.c (.int .i64 64))⟩])
       (.ret))
      (.skip)))
    (.seq
     (.ops [⟨(some 5), none, .mv (.t 0)⟩,
       ⟨(some 6), none, .mv (.t 0)⟩,
       ⟨(some 7), none, .un .neg (.t 6)⟩,
       ⟨(some 8), none, .bin .and (.t 5) (.t 7)⟩,
       ⟨(some 9), none, .bin .mul (.t 8) (.c (.int .u64 285870213051353865))⟩,
       ⟨(some 10), none, .bin .shr (.t 9) (.c (.int .u64 58))⟩,
       ⟨(some 11), none, .iaddrA 64 1 (.c (.ptr (.ro 0) 0)) (.t 10)⟩,
       ⟨(some 12), none, .load none (.t 11)⟩,
       ⟨(some 13), none, .convI .i64 (.t 12)⟩,
       ⟨(some 2), none, .mv (.t 13)⟩])
     (.ret)))⟩
theorem ok26 : FnOk Tryd.prog 26 a26 := FnOk.of Tryd.prog Tryd.func26 (by kernel_rfl)
/-- gosem.cut.vars -/
def a47 : AFn := ⟨1, [], .ops [⟨(some 0), none, .build [(.int .u8 0), (.int .u8 0), (.int .u8 0), (.int .u8 0), (.int .u8 0), (.int .u8 0), (.int .u8 0), (.int .u8 0), (.int .u8 0), (.int .u8 0), (.int .u8 0), (.int .u8 0), (.int .u8 0), (.int .u8 0), (.int .u8 0), (.int .u8 0), (.int .u8 0), (.int .u8 0), (.int .u8 0), (.int .u8 0), (.int .u8 0), (.int .u8 0), (.int .u8 0), (.int .u8 0), (.int .u8 0), (.int .u8 0), (.int .u8 0), (.int .u8 0), (.int .u8 0), (.int .u8 0), (.int .u8 0), (.int .u8 0), (.int .u8 0), (.int .u8 0), (.int .u8 0), (.int .u8 0), (.int .u8 0), (.int .u8 0), (.int .u8 0), (.int .u8 0), (.int .u8 0), (.int .u8 0), (.int .u8 0), (.int .u8 0), (.int .u8 0), (.int .u8 0), (.int .u8 0), (.int .u8 0), (.int .u8 0), (.int .u8 0), (.int .u8 0), (.int .u8 0), (.int .u8 0), (.int .u8 0), (.int .u8 0), (.int .u8 0), (.int .u8 0), (.int .u8 0), (.int .u8 0), (.int .u8 0), (.int .u8 0), (.int .u8 0), (.int .u8 0), (.int .u8 0)] [(0, 1), (1, 1), (2, 1), (3, 1), (4, 1), (5, 1), (6, 1), (7, 1), (8, 1), (9, 1), (10, 1), (11, 1), (12, 1), (13, 1), (14, 1), (15, 1), (16, 1), (17, 1), (18, 1), (19, 1), (20, 1), (21, 1), (22, 1), (23, 1), (24, 1), (25, 1), (26, 1), (27, 1), (28, 1), (29, 1), (30, 1), (31, 1), (32, 1), (33, 1), (34, 1), (35, 1), (36, 1), (37, 1), (38, 1), (39, 1), (40, 1), (41, 1), (42, 1), (43, 1), (44, 1), (45, 1), (46, 1), (47, 1), (48, 1), (49, 1), (50, 1), (51, 1), (52, 1), (53, 1), (54, 1), (55, 1), (56, 1), (57, 1), (58, 1), (59, 1), (60, 1), (61, 1), (62, 1), (63, 1), (64, 1), (65, 1), (66, 1), (67, 1), (68, 1), (69, 1), (70, 1), (71, 1), (72, 1), (73, 1), (74, 1), (75, 1), (76, 1), (77, 1), (78, 1), (79, 1), (80, 1), (81, 1), (82, 1), (83, 1), (84, 1), (85, 1), (86, 1), (87, 1), (88, 1), (89, 1), (90, 1), (91, 1), (92, 1), (93, 1), (94, 1), (95, 1), (96, 1), (97, 1), (98, 1), (99, 1), (100, 1), (101, 1), (102, 1), (103, 1), (104, 1), (105, 1), (106, 1), (107, 1), (108, 1), (109, 1), (110, 1), (111, 1), (112, 1), (113, 1), (114, 1), (115, 1), (116, 1), (117, 1), (118, 1), (119, 1), (120, 1), (121, 1), (122, 1), (123, 1), (124, 1), (125, 1), (126, 1), (127, 1), (128, 1)] [(0, (.c (.int .u8 0))), (1, (.c (.int .u8 1))), (2, (.c (.int .u8 56))), (3, (.c (.int .u8 2))), (4, (.c (.int .u8 57))), (5, (.c (.int .u8 49))), (6, (.c (.int .u8 28))), (7, (.c (.int .u8 3))), (8, (.c (.int .u8 61))), (9, (.c (.int .u8 58))), (10, (.c (.int .u8 42))), (11, (.c (.int .u8 50))), (12, (.c (.int .u8 38))), (13, (.c (.int .u8 29))), (14, (.c (.int .u8 17))), (15, (.c (.int .u8 4))), (16, (.c (.int .u8 62))), (17, (.c (.int .u8 47))), (18, (.c (.int .u8 59))), (19, (.c (.int .u8 36))), (20, (.c (.int .u8 45))), (21, (.c (.int .u8 43))), (22, (.c (.int .u8 51))), (23, (.c (.int .u8 22))), (24, (.c (.int .u8 53))), (25, (.c (.int .u8 39))), (26, (.c (.int .u8 33))), (27, (.c (.int .u8 30))), (28, (.c (.int .u8 24))), (29, (.c (.int .u8 18))), (30, (.c (.int .u8 12))), (31, (.c (.int .u8 5))), (32, (.c (.int .u8 63))), (33, (.c (.int .u8 55))), (34, (.c (.int .u8 48))), (35, (.c (.int .u8 27))), (36, (.c (.int .u8 60))), (37, (.c (.int .u8 41))), (38, (.c (.int .u8 37))), (39, (.c (.int .u8 16))), (40, (.c (.int .u8 46))), (41, (.c (.int .u8 35))), (42, (.c (.int .u8 44))), (43, (.c (.int .u8 21))), (44, (.c (.int .u8 52))), (45, (.c (.int .u8 32))), (46, (.c (.int .u8 23))), (47, (.c (.int .u8 11))), (48, (.c (.int .u8 54))), (49, (.c (.int .u8 26))), (50, (.c (.int .u8 40))), (51, (.c (.int .u8 15))), (52, (.c (.int .u8 34))), (53, (.c (.int .u8 20))), (54, (.c (.int .u8 31))), (55, (.c (.int .u8 10))), (56, (.c (.int .u8 25))), (57, (.c (.int .u8 14))), (58, (.c (.int .u8 19))), (59, (.c (.int .u8 9))), (60, (.c (.int .u8 13))), (61, (.c (.int .u8 8))), (62, (.c (.int .u8 7))), (63, (.c (.int .u8 6)))]⟩,
    ⟨none, none, .store 64 (.c (.ptr (.ro 0) 0)) (.t 0)⟩]⟩
theorem ok47 : FnOk Tryd.prog 47 a47 := FnOk.of Tryd.prog Tryd.func47 (by kernel_rfl)

end Go.Proofs.YtaanoplfdjlnmaaDoor.Fns
