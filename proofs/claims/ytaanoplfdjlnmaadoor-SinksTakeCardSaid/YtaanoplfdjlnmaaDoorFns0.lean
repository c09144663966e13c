/- Functions of the translated code as the abstract machine reads them, printed by program; each is checked against the code. -/
import Derived.Test.YtaanoplfdjlnmaaDoorProg
import Derived.Test.YtaanoplfdjlnmaaDoorAmEval
namespace Go.Proofs.YtaanoplfdjlnmaaDoor.Fns
open Go Go.RowKit Am Go.Proofs.YtaanoplfdjlnmaaDoor
set_option maxRecDepth 100000
/-- gosem.cut.init -/
def a2 : AFn := ⟨1, [], .ops [⟨(some 0), none, .bad⟩]⟩
theorem ok2 : FnOk Tryd.prog 2 a2 := FnOk.of Tryd.prog Tryd.func2 (by kernel_rfl)
/-- jalousie/jalousielaw24.SinksTake -/
def a3 : AFn := ⟨329, [.tmp 8], .seq
   (.ops [⟨(some 8), none, .mv (.c (.bool false))⟩])
   (.seq
    (.seq
     (.ops [⟨(some 27), none, .mv (.t 3)⟩,
       ⟨(some 28), none, .call 8 [(.t 27)]⟩,
       ⟨(some 29), none, .mv (.t 28)⟩,
       ⟨(some 30), (some (29, false)), .mv (.t 2)⟩,
       ⟨(some 31), (some (29, false)), .lenL (.t 30)⟩,
       ⟨(some 32), (some (29, false)), .bin .gtr (.t 31) (.c (.int .i64 12))⟩,
       ⟨(some 33), none, .pick (.t 29) (.c (.bool true)) (.t 32)⟩,
       ⟨(some 34), none, .mv (.t 33)⟩,
       ⟨(some 35), (some (34, false)), .mv (.t 0)⟩,
       ⟨(some 36), (some (34, false)), .bin .gtr (.t 35) (.c (.int .i64 64))⟩,
       ⟨(some 37), none, .pick (.t 34) (.c (.bool true)) (.t 36)⟩,
       ⟨(some 38), none, .mv (.t 37)⟩,
       ⟨(some 39), (some (38, false)), .mv (.t 1)⟩,
       ⟨(some 40), (some (38, false)), .bin .gtr (.t 39) (.c (.int .i64 6))⟩,
       ⟨(some 41), none, .pick (.t 38) (.c (.bool true)) (.t 40)⟩])
     (.cond (.t 41)
      (.seq
       (.ops [⟨(some 42), none, .call 9 []⟩,
         ⟨(some 8), none, .mv (.t 42)⟩])
       (.ret))
      (.skip)))
    (.seq
     (.ops [⟨(some 44), none, .mv (.t 0)⟩,
       ⟨(some 45), none, .mv (.t 1)⟩,
       ⟨(some 46), none, .call 10 [(.t 44), (.t 45)]⟩,
       ⟨(some 43), none, .mv (.t 46)⟩,
       ⟨(some 47), none, .ext (.t 43) 0⟩,
       ⟨(some 48), none, .ext (.t 43) 1⟩,
       ⟨(some 9), none, .mv (.t 47)⟩,
       ⟨(some 10), none, .mv (.t 48)⟩])
     (.seq
      (.seq
       (.ops [⟨(some 49), none, .mv (.t 10)⟩,
         ⟨(some 50), none, .bin .neq (.t 49) (.c (.int .i64 0))⟩])
       (.cond (.t 50)
        (.seq
         (.ops [⟨(some 52), none, .mv (.t 2)⟩,
           ⟨(some 53), none, .call 11 [(.c .nilptr), (.t 52)]⟩,
           ⟨(some 51), none, .mv (.t 53)⟩,
           ⟨(some 54), none, .ext (.t 51) 0⟩,
           ⟨(some 55), none, .ext (.t 51) 1⟩,
           ⟨(some 11), none, .mv (.t 54)⟩,
           ⟨(some 12), none, .mv (.t 55)⟩])
         (.seq
          (.ops [⟨(some 56), none, .mv (.t 11)⟩,
            ⟨(some 57), none, .eq false 30 (.pointer 58) (.t 56) (.c .nilptr)⟩,
            ⟨(some 58), none, .mv (.t 57)⟩,
            ⟨(some 59), (some (58, true)), .mv (.t 12)⟩,
            ⟨(some 60), (some (58, true)), .bin .eql (.t 59) (.c (.int .i64 2))⟩,
            ⟨(some 61), none, .pick (.t 58) (.t 60) (.c (.bool false))⟩,
            ⟨(some 62), none, .mv (.t 61)⟩,
            ⟨(some 63), (some (62, true)), .call 9 []⟩,
            ⟨(some 64), none, .pick (.t 62) (.t 63) (.c (.bool false))⟩,
            ⟨(some 8), none, .mv (.t 64)⟩])
          (.ret)))
        (.skip)))
      (.seq
       (.ops [⟨(some 66), none, .mv (.t 9)⟩,
         ⟨(some 67), none, .mv (.t 2)⟩,
         ⟨(some 68), none, .call 11 [(.t 66), (.t 67)]⟩,
         ⟨(some 65), none, .mv (.t 68)⟩,
         ⟨(some 69), none, .ext (.t 65) 0⟩,
         ⟨(some 70), none, .ext (.t 65) 1⟩,
         ⟨(some 13), none, .mv (.t 69)⟩,
         ⟨(some 14), none, .mv (.t 70)⟩])
       (.seq
        (.ops [⟨(some 71), none, .mv (.t 2)⟩,
          ⟨(some 72), none, .lenL (.t 71)⟩,
          ⟨(some 73), none, .bin .leq (.t 72) (.c (.int .i64 8))⟩,
          ⟨(some 15), none, .mv (.t 73)⟩])
        (.seq
         (.seq
          (.ops [⟨(some 16), none, .mv (.c (.int .i64 0))⟩])
          (.block 0 (.loop (.seq
             (.seq
              (.ops [⟨(some 74), none, .mv (.t 16)⟩,
                ⟨(some 75), none, .mv (.t 2)⟩,
                ⟨(some 76), none, .lenL (.t 75)⟩,
                ⟨(some 77), none, .bin .lss (.t 74) (.t 76)⟩])
              (.cond (.t 77)
               (.skip)
               (.exit 0)))
             (.seq
              (.block 1 (.draw [⟨⟨(some 80), none, .mv (.t 15)⟩, []⟩,
                 ⟨⟨(some 81), none, .mv (.t 80)⟩, [0]⟩,
                 ⟨⟨(some 82), (some (81, true)), .mv (.t 2)⟩, [1]⟩,
                 ⟨⟨(some 83), (some (81, true)), .mv (.t 16)⟩, [1]⟩,
                 ⟨⟨(some 84), (some (81, true)), .iaddrS 2 (.t 82) (.t 83)⟩, [2, 3, 1]⟩,
                 ⟨⟨(some 85), (some (81, true)), .addr 0 (.t 84)⟩, [4, 1]⟩,
                 ⟨⟨(some 86), (some (81, true)), .load none (.t 85)⟩, [5, 1]⟩,
                 ⟨⟨(some 87), (some (81, true)), .bin .geq (.t 86) (.c (.int .i64 0))⟩, [6, 1]⟩,
                 ⟨⟨(some 88), none, .pick (.t 81) (.t 87) (.c (.bool false))⟩, [1, 7]⟩,
                 ⟨⟨(some 89), none, .mv (.t 88)⟩, [8, 1]⟩,
                 ⟨⟨(some 90), (some (89, true)), .mv (.t 2)⟩, [9]⟩,
                 ⟨⟨(some 91), (some (89, true)), .mv (.t 16)⟩, [9]⟩,
                 ⟨⟨(some 92), (some (89, true)), .iaddrS 2 (.t 90) (.t 91)⟩, [10, 11, 9]⟩,
                 ⟨⟨(some 93), (some (89, true)), .addr 0 (.t 92)⟩, [12, 9]⟩,
                 ⟨⟨(some 94), (some (89, true)), .load none (.t 93)⟩, [13, 9]⟩,
                 ⟨⟨(some 95), (some (89, true)), .mv (.t 9)⟩, [9]⟩,
                 ⟨⟨(some 96), (some (89, true)), .call 12 [(.t 95)]⟩, [15, 9, 9]⟩,
                 ⟨⟨(some 97), (some (89, true)), .bin .lss (.t 94) (.t 96)⟩, [14, 16, 9]⟩,
                 ⟨⟨(some 98), none, .pick (.t 89) (.t 97) (.c (.bool false))⟩, [9, 17]⟩,
                 ⟨⟨(some 99), none, .mv (.t 98)⟩, [18, 16]⟩,
                 ⟨⟨(some 100), (some (99, true)), .mv (.t 2)⟩, [19]⟩,
                 ⟨⟨(some 101), (some (99, true)), .mv (.t 16)⟩, [19]⟩,
                 ⟨⟨(some 102), (some (99, true)), .iaddrS 2 (.t 100) (.t 101)⟩, [20, 21, 19]⟩,
                 ⟨⟨(some 103), (some (99, true)), .addr 1 (.t 102)⟩, [22, 19]⟩,
                 ⟨⟨(some 104), (some (99, true)), .load none (.t 103)⟩, [23, 19]⟩,
                 ⟨⟨(some 105), (some (99, true)), .bin .geq (.t 104) (.c (.int .i64 0))⟩, [24, 19]⟩,
                 ⟨⟨(some 106), none, .pick (.t 99) (.t 105) (.c (.bool false))⟩, [19, 25]⟩,
                 ⟨⟨(some 107), none, .mv (.t 106)⟩, [26, 19]⟩,
                 ⟨⟨(some 108), (some (107, true)), .mv (.t 2)⟩, [27]⟩,
                 ⟨⟨(some 109), (some (107, true)), .mv (.t 16)⟩, [27]⟩,
                 ⟨⟨(some 110), (some (107, true)), .iaddrS 2 (.t 108) (.t 109)⟩, [28, 29, 27]⟩,
                 ⟨⟨(some 111), (some (107, true)), .addr 1 (.t 110)⟩, [30, 27]⟩,
                 ⟨⟨(some 112), (some (107, true)), .load none (.t 111)⟩, [31, 27]⟩,
                 ⟨⟨(some 113), (some (107, true)), .bin .leq (.t 112) (.c (.int .i64 65536))⟩, [32, 27]⟩,
                 ⟨⟨(some 114), none, .pick (.t 107) (.t 113) (.c (.bool false))⟩, [27, 33]⟩,
                 ⟨⟨(some 15), none, .mv (.t 114)⟩, [34, 27, 0, 1, 2, 3, 4, 5, 6, 7, 8, 9, 10, 11, 12, 13, 14, 15, 16, 17, 18, 19, 20, 21, 22, 23, 24, 25, 26, 27, 28, 29, 30, 31, 32, 33, 34]⟩] [0, 1, 3, 3, 15, 31, 63, 127, 255, 511, 1023, 1023, 4095, 8191, 16383, 1023, 33791, 131071, 262143, 524287, 1048575, 1048575, 4194303, 8388607, 16777215, 33554431, 67108863, 134217727, 268435455, 268435455, 1073741823, 2147483647, 4294967295, 8589934591, 17179869183, 34359738367]))
              (.ops [⟨(some 78), none, .mv (.t 16)⟩,
                ⟨(some 79), none, .bin .add (.t 78) (.c (.int .i64 1))⟩,
                ⟨(some 16), none, .mv (.t 79)⟩]))))))
         (.seq
          (.seq
           (.ops [⟨(some 115), none, .mv (.t 15)⟩,
             ⟨(some 116), none, .un .not (.t 115)⟩])
           (.cond (.t 116)
            (.seq
             (.ops [⟨(some 117), none, .mv (.t 13)⟩,
               ⟨(some 118), none, .eq false 30 (.pointer 58) (.t 117) (.c .nilptr)⟩,
               ⟨(some 119), none, .mv (.t 118)⟩,
               ⟨(some 120), (some (119, true)), .mv (.t 14)⟩,
               ⟨(some 121), (some (119, true)), .bin .eql (.t 120) (.c (.int .i64 1))⟩,
               ⟨(some 122), none, .pick (.t 119) (.t 121) (.c (.bool false))⟩,
               ⟨(some 123), none, .mv (.t 122)⟩,
               ⟨(some 124), (some (123, true)), .call 9 []⟩,
               ⟨(some 125), none, .pick (.t 123) (.t 124) (.c (.bool false))⟩,
               ⟨(some 8), none, .mv (.t 125)⟩])
             (.ret))
            (.skip)))
          (.seq
           (.seq
            (.ops [⟨(some 126), none, .mv (.t 14)⟩,
              ⟨(some 127), none, .bin .neq (.t 126) (.c (.int .i64 0))⟩,
              ⟨(some 128), none, .mv (.t 127)⟩,
              ⟨(some 129), (some (128, false)), .mv (.t 13)⟩,
              ⟨(some 130), (some (128, false)), .eq false 30 (.pointer 58) (.t 129) (.c .nilptr)⟩,
              ⟨(some 131), none, .pick (.t 128) (.c (.bool true)) (.t 130)⟩,
              ⟨(some 132), none, .mv (.t 131)⟩,
              ⟨(some 133), (some (132, false)), .mv (.t 13)⟩,
              ⟨(some 134), (some (132, false)), .call 13 [(.t 133)]⟩,
              ⟨(some 135), (some (132, false)), .mv (.t 2)⟩,
              ⟨(some 136), (some (132, false)), .lenL (.t 135)⟩,
              ⟨(some 137), (some (132, false)), .bin .neq (.t 134) (.t 136)⟩,
              ⟨(some 138), none, .pick (.t 132) (.c (.bool true)) (.t 137)⟩])
            (.cond (.t 138)
             (.seq
              (.ops [⟨(some 8), none, .mv (.c (.bool false))⟩])
              (.ret))
             (.skip)))
           (.seq
            (.ops [⟨(some 139), none, .mv (.t 2)⟩,
              ⟨(some 140), none, .lenL (.t 139)⟩,
              ⟨(some 141), none, .mksl 9 1 16 [(.str [])] (.t 140) (.t 140)⟩,
              ⟨(some 17), none, .mv (.t 141)⟩])
            (.seq
             (.ops [⟨(some 142), none, .mkmap⟩,
               ⟨(some 18), none, .mv (.t 142)⟩])
             (.seq
              (.seq
               (.ops [⟨(some 19), none, .mv (.c (.int .i64 0))⟩])
               (.block 2 (.loop (.seq
                  (.seq
                   (.ops [⟨(some 143), none, .mv (.t 19)⟩,
                     ⟨(some 144), none, .mv (.t 3)⟩,
                     ⟨(some 145), none, .lenL (.t 144)⟩,
                     ⟨(some 146), none, .bin .lss (.t 143) (.t 145)⟩])
                   (.cond (.t 146)
                    (.skip)
                    (.exit 2)))
                  (.seq
                   (.block 3 (.seq
                     (.ops [⟨(some 149), none, .mv (.t 3)⟩,
                       ⟨(some 150), none, .mv (.t 19)⟩,
                       ⟨(some 151), none, .iaddrS 3 (.t 149) (.t 150)⟩,
                       ⟨(some 152), none, .load (some 3) (.t 151)⟩,
                       ⟨(some 20), none, .alloc 39 [(.int .i64 0), (.int .i64 0), (.str [])]⟩,
                       ⟨none, none, .store 3 (.t 20) (.t 152)⟩])
                     (.seq
                      (.ops [⟨(some 21), none, .mv (.c (.int .i64 0))⟩])
                      (.seq
                       (.block 4 (.seq
                         (.ops [⟨(some 154), none, .addr 0 (.t 20)⟩,
                           ⟨(some 155), none, .load none (.t 154)⟩,
                           ⟨(some 156), none, .bin .lss (.t 155) (.c (.int .i64 0))⟩,
                           ⟨(some 157), none, .mv (.t 156)⟩,
                           ⟨(some 158), (some (157, false)), .addr 0 (.t 20)⟩,
                           ⟨(some 159), (some (157, false)), .load none (.t 158)⟩,
                           ⟨(some 160), (some (157, false)), .mv (.t 2)⟩,
                           ⟨(some 161), (some (157, false)), .lenL (.t 160)⟩,
                           ⟨(some 162), (some (157, false)), .bin .geq (.t 159) (.t 161)⟩,
                           ⟨(some 163), none, .pick (.t 157) (.c (.bool true)) (.t 162)⟩,
                           ⟨(some 153), none, .mv (.t 163)⟩])
                         (.cond (.t 153)
                          (.ops [⟨(some 21), none, .mv (.c (.int .i64 4))⟩])
                          (.seq
                           (.draw [⟨⟨(some 165), none, .addr 1 (.t 20)⟩, []⟩,
                             ⟨⟨(some 166), none, .load none (.t 165)⟩, [0]⟩,
                             ⟨⟨(some 167), none, .bin .lss (.t 166) (.c (.int .i64 0))⟩, [1]⟩,
                             ⟨⟨(some 168), none, .mv (.t 167)⟩, [2]⟩,
                             ⟨⟨(some 169), (some (168, false)), .addr 1 (.t 20)⟩, [3]⟩,
                             ⟨⟨(some 170), (some (168, false)), .load none (.t 169)⟩, [4, 3]⟩,
                             ⟨⟨(some 171), (some (168, false)), .mv (.t 9)⟩, [3]⟩,
                             ⟨⟨(some 172), (some (168, false)), .call 12 [(.t 171)]⟩, [6, 3, 3]⟩,
                             ⟨⟨(some 173), (some (168, false)), .bin .geq (.t 170) (.t 172)⟩, [5, 7, 3]⟩,
                             ⟨⟨(some 174), none, .pick (.t 168) (.c (.bool true)) (.t 173)⟩, [3, 8]⟩,
                             ⟨⟨(some 164), none, .mv (.t 174)⟩, [9, 7]⟩] [0, 1, 3, 7, 15, 31, 15, 79, 255, 511, 1023])
                           (.cond (.t 164)
                            (.ops [⟨(some 21), none, .mv (.c (.int .i64 1))⟩])
                            (.seq
                             (.draw [⟨⟨(some 176), none, .mv (.t 9)⟩, []⟩,
                               ⟨⟨(some 177), none, .addr 1 (.t 20)⟩, []⟩,
                               ⟨⟨(some 178), none, .load none (.t 177)⟩, [1]⟩,
                               ⟨⟨(some 179), none, .mv (.t 2)⟩, []⟩,
                               ⟨⟨(some 180), none, .addr 0 (.t 20)⟩, []⟩,
                               ⟨⟨(some 181), none, .load none (.t 180)⟩, [4]⟩,
                               ⟨⟨(some 182), none, .iaddrS 2 (.t 179) (.t 181)⟩, [3, 5]⟩,
                               ⟨⟨(some 183), none, .addr 0 (.t 182)⟩, [6]⟩,
                               ⟨⟨(some 184), none, .load none (.t 183)⟩, [7]⟩,
                               ⟨⟨(some 185), none, .call 14 [(.t 176), (.t 178), (.t 184)]⟩, [0, 2, 8]⟩,
                               ⟨⟨(some 186), none, .un .not (.t 185)⟩, [9]⟩,
                               ⟨⟨(some 175), none, .mv (.t 186)⟩, [10, 9]⟩] [0, 0, 2, 0, 0, 16, 56, 120, 248, 511, 1023, 2047])
                             (.cond (.t 175)
                              (.ops [⟨(some 21), none, .mv (.c (.int .i64 7))⟩])
                              (.skip))))))))
                       (.seq
                        (.seq
                         (.ops [⟨(some 187), none, .mv (.t 13)⟩,
                           ⟨(some 188), none, .addr 0 (.t 20)⟩,
                           ⟨(some 189), none, .load none (.t 188)⟩,
                           ⟨(some 190), none, .addr 1 (.t 20)⟩,
                           ⟨(some 191), none, .load none (.t 190)⟩,
                           ⟨(some 192), none, .call 15 [(.t 187), (.t 189), (.t 191)]⟩,
                           ⟨(some 193), none, .mv (.t 21)⟩,
                           ⟨(some 194), none, .bin .neq (.t 192) (.t 193)⟩])
                         (.cond (.t 194)
                          (.seq
                           (.ops [⟨(some 8), none, .mv (.c (.bool false))⟩])
                           (.ret))
                          (.skip)))
                        (.seq
                         (.ops [⟨(some 196), none, .mv (.t 13)⟩,
                           ⟨(some 197), none, .addr 0 (.t 20)⟩,
                           ⟨(some 198), none, .load none (.t 197)⟩,
                           ⟨(some 199), none, .addr 1 (.t 20)⟩,
                           ⟨(some 200), none, .load none (.t 199)⟩,
                           ⟨(some 201), none, .addr 2 (.t 20)⟩,
                           ⟨(some 202), none, .load none (.t 201)⟩,
                           ⟨(some 203), none, .call 16 [(.t 196), (.t 198), (.t 200), (.t 202)]⟩,
                           ⟨(some 195), none, .mv (.t 203)⟩,
                           ⟨(some 204), none, .ext (.t 195) 0⟩,
                           ⟨(some 205), none, .ext (.t 195) 1⟩,
                           ⟨(some 22), none, .mv (.t 204)⟩,
                           ⟨(some 23), none, .mv (.t 205)⟩])
                         (.seq
                          (.seq
                           (.ops [⟨(some 206), none, .mv (.t 21)⟩,
                             ⟨(some 207), none, .bin .neq (.t 206) (.c (.int .i64 0))⟩])
                           (.cond (.t 207)
                            (.seq
                             (.seq
                              (.ops [⟨(some 208), none, .mv (.t 23)⟩,
                                ⟨(some 209), none, .mv (.t 21)⟩,
                                ⟨(some 210), none, .bin .neq (.t 208) (.t 209)⟩,
                                ⟨(some 211), none, .mv (.t 210)⟩,
                                ⟨(some 212), (some (211, false)), .mv (.t 22)⟩,
                                ⟨(some 213), (some (211, false)), .bin .neq (.t 212) (.c (.int .i64 0))⟩,
                                ⟨(some 214), none, .pick (.t 211) (.c (.bool true)) (.t 213)⟩,
                                ⟨(some 215), none, .mv (.t 214)⟩,
                                ⟨(some 216), (some (215, false)), .mv (.t 13)⟩,
                                ⟨(some 217), (some (215, false)), .addr 0 (.t 20)⟩,
                                ⟨(some 218), (some (215, false)), .load none (.t 217)⟩,
                                ⟨(some 219), (some (215, false)), .addr 1 (.t 20)⟩,
                                ⟨(some 220), (some (215, false)), .load none (.t 219)⟩,
                                ⟨(some 221), (some (215, false)), .call 17 [(.t 216), (.t 218), (.t 220)]⟩,
                                ⟨(some 222), (some (215, false)), .bin .neq (.t 221) (.c (.int .i64 0))⟩,
                                ⟨(some 223), none, .pick (.t 215) (.c (.bool true)) (.t 222)⟩])
                              (.cond (.t 223)
                               (.seq
                                (.ops [⟨(some 8), none, .mv (.c (.bool false))⟩])
                                (.ret))
                               (.skip)))
                             (.exit 3))
                            (.skip)))
                          (.seq
                           (.ops [⟨(some 224), none, .addr 0 (.t 20)⟩,
                             ⟨(some 225), none, .load none (.t 224)⟩,
                             ⟨(some 226), none, .addr 1 (.t 20)⟩,
                             ⟨(some 227), none, .load none (.t 226)⟩,
                             ⟨(some 228), none, .build [(.int .i64 0), (.int .i64 0)] [(0, 1), (1, 1), (2, 1), (3, 1), (4, 1)] [(0, (.t 225)), (1, (.t 227))]⟩,
                             ⟨(some 24), none, .alloc 45 [(.int .i64 0), (.int .i64 0)]⟩,
                             ⟨none, none, .store 2 (.t 24) (.t 228)⟩])
                           (.seq
                            (.draw [⟨⟨(some 229), none, .addr 2 (.t 20)⟩, []⟩,
                              ⟨⟨(some 230), none, .load none (.t 229)⟩, [0]⟩,
                              ⟨⟨(some 231), none, .lenS (.t 230)⟩, [1]⟩,
                              ⟨⟨(some 232), none, .mv (.t 2)⟩, []⟩,
                              ⟨⟨(some 233), none, .addr 0 (.t 20)⟩, []⟩,
                              ⟨⟨(some 234), none, .load none (.t 233)⟩, [4]⟩,
                              ⟨⟨(some 235), none, .iaddrS 2 (.t 232) (.t 234)⟩, [3, 5]⟩,
                              ⟨⟨(some 236), none, .addr 1 (.t 235)⟩, [6]⟩,
                              ⟨⟨(some 237), none, .load none (.t 236)⟩, [7]⟩,
                              ⟨⟨(some 238), none, .mv (.t 18)⟩, []⟩,
                              ⟨⟨(some 239), none, .load (some 2) (.t 24)⟩, []⟩,
                              ⟨⟨(some 240), none, .lookup 45 (.int .i64 0) (.t 238) (.t 239) false⟩, [9, 10]⟩,
                              ⟨⟨(some 241), none, .bin .sub (.t 237) (.t 240)⟩, [8, 11]⟩,
                              ⟨⟨(some 242), none, .minI (.t 231) [(.t 241)]⟩, [2, 12]⟩,
                              ⟨⟨(some 25), none, .mv (.t 242)⟩, [13, 0, 1, 2, 3, 4, 5, 6, 7, 8, 9, 10, 11, 12, 13]⟩] [0, 1, 3, 0, 0, 16, 56, 120, 248, 0, 0, 1536, 4088, 8191, 16383])
                            (.seq
                             (.draw [⟨⟨(some 243), none, .mv (.t 17)⟩, []⟩,
                               ⟨⟨(some 244), none, .addr 0 (.t 20)⟩, []⟩,
                               ⟨⟨(some 245), none, .load none (.t 244)⟩, [1]⟩,
                               ⟨⟨(some 246), none, .mv (.t 17)⟩, []⟩,
                               ⟨⟨(some 247), none, .addr 0 (.t 20)⟩, []⟩,
                               ⟨⟨(some 248), none, .load none (.t 247)⟩, [4]⟩,
                               ⟨⟨(some 249), none, .iaddrS 1 (.t 246) (.t 248)⟩, [3, 5]⟩,
                               ⟨⟨(some 250), none, .load none (.t 249)⟩, [6]⟩,
                               ⟨⟨(some 251), none, .addr 2 (.t 20)⟩, []⟩,
                               ⟨⟨(some 252), none, .load none (.t 251)⟩, [8]⟩,
                               ⟨⟨(some 253), none, .mv (.t 25)⟩, []⟩,
                               ⟨⟨(some 254), none, .sliceS (.t 252) none (some (.t 253))⟩, [9, 10]⟩,
                               ⟨⟨(some 255), none, .bin .add (.t 250) (.t 254)⟩, [7, 11]⟩,
                               ⟨⟨(some 256), none, .iaddrS 1 (.t 243) (.t 245)⟩, [0, 2, 0, 1, 2, 3, 4, 5, 6, 7, 8, 9, 10, 11, 12]⟩,
                               ⟨⟨none, none, .store 1 (.t 256) (.t 255)⟩, [13, 12, 0, 1, 2, 3, 4, 5, 6, 7, 8, 9, 10, 11, 12]⟩] [0, 0, 2, 0, 0, 16, 56, 120, 0, 256, 0, 1792, 4088, 8191, 16383])
                             (.seq
                              (.draw [⟨⟨(some 257), none, .mv (.t 18)⟩, []⟩,
                                ⟨⟨(some 258), none, .load (some 2) (.t 24)⟩, []⟩,
                                ⟨⟨(some 259), none, .lookup 45 (.int .i64 0) (.t 257) (.t 258) false⟩, [0, 1]⟩,
                                ⟨⟨(some 260), none, .mv (.t 25)⟩, []⟩,
                                ⟨⟨(some 261), none, .bin .add (.t 259) (.t 260)⟩, [2, 3]⟩,
                                ⟨⟨(some 262), none, .mapEntry 45 (.int .i64 0) (.t 257) (.t 258)⟩, [0, 1, 0, 1, 3]⟩,
                                ⟨⟨(some 263), none, .ext (.t 262) 1⟩, [5]⟩,
                                ⟨⟨none, none, .entryStore (.t 257) (.t 263) (.t 261)⟩, [0, 6, 4, 5, 0, 1, 2, 3, 4, 5, 6]⟩] [0, 0, 3, 0, 15, 11, 43, 127])
                              (.seq
                               (.draw [⟨⟨(some 264), none, .mv (.t 23)⟩, []⟩,
                                 ⟨⟨(some 265), none, .bin .neq (.t 264) (.c (.int .i64 0))⟩, [0]⟩,
                                 ⟨⟨(some 266), none, .mv (.t 265)⟩, [1]⟩,
                                 ⟨⟨(some 267), (some (266, false)), .mv (.t 22)⟩, [2]⟩,
                                 ⟨⟨(some 268), (some (266, false)), .mv (.t 25)⟩, [2]⟩,
                                 ⟨⟨(some 269), (some (266, false)), .bin .neq (.t 267) (.t 268)⟩, [3, 4, 2]⟩,
                                 ⟨⟨(some 270), none, .pick (.t 266) (.c (.bool true)) (.t 269)⟩, [2, 5]⟩,
                                 ⟨⟨(some 271), none, .mv (.t 270)⟩, [6, 2]⟩,
                                 ⟨⟨(some 272), (some (271, false)), .mv (.t 13)⟩, [7]⟩,
                                 ⟨⟨(some 273), (some (271, false)), .addr 0 (.t 20)⟩, [7]⟩,
                                 ⟨⟨(some 274), (some (271, false)), .load none (.t 273)⟩, [9, 7]⟩,
                                 ⟨⟨(some 275), (some (271, false)), .call 18 [(.t 272), (.t 274)]⟩, [8, 10, 7, 7]⟩,
                                 ⟨⟨(some 276), (some (271, false)), .mv (.t 17)⟩, [7]⟩,
                                 ⟨⟨(some 277), (some (271, false)), .addr 0 (.t 20)⟩, [7]⟩,
                                 ⟨⟨(some 278), (some (271, false)), .load none (.t 277)⟩, [13, 7]⟩,
                                 ⟨⟨(some 279), (some (271, false)), .iaddrS 1 (.t 276) (.t 278)⟩, [12, 14, 7]⟩,
                                 ⟨⟨(some 280), (some (271, false)), .load none (.t 279)⟩, [15, 7]⟩,
                                 ⟨⟨(some 281), (some (271, false)), .bin .neq (.t 275) (.t 280)⟩, [11, 16, 7]⟩,
                                 ⟨⟨(some 282), none, .pick (.t 271) (.c (.bool true)) (.t 281)⟩, [7, 17]⟩,
                                 ⟨⟨(some 283), none, .mv (.t 282)⟩, [18, 11]⟩,
                                 ⟨⟨(some 284), (some (283, false)), .mv (.t 13)⟩, [19]⟩,
                                 ⟨⟨(some 285), (some (283, false)), .addr 0 (.t 20)⟩, [19]⟩,
                                 ⟨⟨(some 286), (some (283, false)), .load none (.t 285)⟩, [21, 19]⟩,
                                 ⟨⟨(some 287), (some (283, false)), .addr 1 (.t 20)⟩, [19]⟩,
                                 ⟨⟨(some 288), (some (283, false)), .load none (.t 287)⟩, [23, 19]⟩,
                                 ⟨⟨(some 289), (some (283, false)), .call 17 [(.t 284), (.t 286), (.t 288)]⟩, [20, 22, 24, 19, 19]⟩,
                                 ⟨⟨(some 290), (some (283, false)), .mv (.t 2)⟩, [19]⟩,
                                 ⟨⟨(some 291), (some (283, false)), .addr 0 (.t 20)⟩, [19]⟩,
                                 ⟨⟨(some 292), (some (283, false)), .load none (.t 291)⟩, [27, 19]⟩,
                                 ⟨⟨(some 293), (some (283, false)), .iaddrS 2 (.t 290) (.t 292)⟩, [26, 28, 19]⟩,
                                 ⟨⟨(some 294), (some (283, false)), .addr 1 (.t 293)⟩, [29, 19]⟩,
                                 ⟨⟨(some 295), (some (283, false)), .load none (.t 294)⟩, [30, 19]⟩,
                                 ⟨⟨(some 296), (some (283, false)), .mv (.t 18)⟩, [19]⟩,
                                 ⟨⟨(some 297), (some (283, false)), .load (some 2) (.t 24)⟩, [19]⟩,
                                 ⟨⟨(some 298), (some (283, false)), .lookup 45 (.int .i64 0) (.t 296) (.t 297) false⟩, [32, 33, 19]⟩,
                                 ⟨⟨(some 299), (some (283, false)), .bin .sub (.t 295) (.t 298)⟩, [31, 34, 19]⟩,
                                 ⟨⟨(some 300), (some (283, false)), .bin .neq (.t 289) (.t 299)⟩, [25, 35, 19]⟩,
                                 ⟨⟨(some 301), none, .pick (.t 283) (.c (.bool true)) (.t 300)⟩, [19, 36]⟩] [0, 1, 3, 7, 7, 31, 63, 127, 255, 255, 767, 2047, 255, 255, 8447, 28927, 61695, 131071, 262143, 524287, 1048575, 1048575, 3145727, 1048575, 9437183, 33554431, 1048575, 1048575, 135266303, 470810623, 1007681535, 2081423359, 1048575, 1048575, 12885950463, 34293678079, 68719476735, 137438953471])
                               (.cond (.t 301)
                                (.seq
                                 (.ops [⟨(some 8), none, .mv (.c (.bool false))⟩])
                                 (.ret))
                                (.skip))))))))))))))
                   (.ops [⟨(some 147), none, .mv (.t 19)⟩,
                     ⟨(some 148), none, .bin .add (.t 147) (.c (.int .i64 1))⟩,
                     ⟨(some 19), none, .mv (.t 148)⟩]))))))
              (.seq
               (.seq
                (.ops [⟨(some 26), none, .mv (.c (.int .i64 0))⟩])
                (.block 5 (.loop (.seq
                   (.seq
                    (.ops [⟨(some 302), none, .mv (.t 26)⟩,
                      ⟨(some 303), none, .mv (.t 2)⟩,
                      ⟨(some 304), none, .lenL (.t 303)⟩,
                      ⟨(some 305), none, .bin .lss (.t 302) (.t 304)⟩])
                    (.cond (.t 305)
                     (.skip)
                     (.exit 5)))
                   (.seq
                    (.block 6 (.seq
                      (.draw [⟨⟨(some 308), none, .mv (.t 13)⟩, []⟩,
                        ⟨⟨(some 309), none, .mv (.t 26)⟩, []⟩,
                        ⟨⟨(some 310), none, .call 18 [(.t 308), (.t 309)]⟩, [0, 1]⟩,
                        ⟨⟨(some 311), none, .mv (.t 17)⟩, []⟩,
                        ⟨⟨(some 312), none, .mv (.t 26)⟩, []⟩,
                        ⟨⟨(some 313), none, .iaddrS 1 (.t 311) (.t 312)⟩, [3, 4]⟩,
                        ⟨⟨(some 314), none, .load none (.t 313)⟩, [5]⟩,
                        ⟨⟨(some 315), none, .bin .neq (.t 310) (.t 314)⟩, [2, 6]⟩] [0, 0, 3, 0, 0, 24, 56, 127])
                      (.cond (.t 315)
                       (.seq
                        (.ops [⟨(some 8), none, .mv (.c (.bool false))⟩])
                        (.ret))
                       (.skip))))
                    (.ops [⟨(some 306), none, .mv (.t 26)⟩,
                      ⟨(some 307), none, .bin .add (.t 306) (.c (.int .i64 1))⟩,
                      ⟨(some 26), none, .mv (.t 307)⟩]))))))
               (.seq
                (.ops [⟨(some 316), none, .mv (.t 13)⟩,
                  ⟨(some 317), none, .call 18 [(.t 316), (.c (.int .i64 (-1)))]⟩,
                  ⟨(some 318), none, .bin .eql (.t 317) (.c (.str []))⟩,
                  ⟨(some 319), none, .mv (.t 318)⟩,
                  ⟨(some 320), (some (319, true)), .mv (.t 13)⟩,
                  ⟨(some 321), (some (319, true)), .mv (.t 2)⟩,
                  ⟨(some 322), (some (319, true)), .lenL (.t 321)⟩,
                  ⟨(some 323), (some (319, true)), .call 18 [(.t 320), (.t 322)]⟩,
                  ⟨(some 324), (some (319, true)), .bin .eql (.t 323) (.c (.str []))⟩,
                  ⟨(some 325), none, .pick (.t 319) (.t 324) (.c (.bool false))⟩,
                  ⟨(some 326), none, .mv (.t 325)⟩,
                  ⟨(some 327), (some (326, true)), .call 9 []⟩,
                  ⟨(some 328), none, .pick (.t 326) (.t 327) (.c (.bool false))⟩,
                  ⟨(some 8), none, .mv (.t 328)⟩])
                (.ret))))))))))))))⟩
theorem ok3 : FnOk Tryd.prog 3 a3 := FnOk.of Tryd.prog Tryd.func3 (by kernel_rfl)
/-- jalousie/jalousielaw24.SinksNobody -/
def a4 : AFn := ⟨56, [.tmp 6], .seq
   (.ops [⟨(some 6), none, .mv (.c (.bool false))⟩])
   (.seq
    (.seq
     (.ops [⟨(some 10), none, .mv (.t 2)⟩,
       ⟨(some 11), none, .lenS (.t 10)⟩,
       ⟨(some 12), none, .bin .gtr (.t 11) (.c (.int .i64 1000))⟩])
     (.cond (.t 12)
      (.seq
       (.ops [⟨(some 13), none, .call 9 []⟩,
         ⟨(some 6), none, .mv (.t 13)⟩])
       (.ret))
      (.skip)))
    (.seq
     (.ops [⟨(some 7), none, .mv (.c .nilptr)⟩])
     (.seq
      (.ops [⟨(some 15), none, .mv (.t 7)⟩,
        ⟨(some 16), none, .mv (.t 0)⟩,
        ⟨(some 17), none, .mv (.t 1)⟩,
        ⟨(some 18), none, .mv (.t 2)⟩,
        ⟨(some 19), none, .call 16 [(.t 15), (.t 16), (.t 17), (.t 18)]⟩,
        ⟨(some 14), none, .mv (.t 19)⟩,
        ⟨(some 20), none, .ext (.t 14) 0⟩,
        ⟨(some 21), none, .ext (.t 14) 1⟩,
        ⟨(some 8), none, .mv (.t 20)⟩,
        ⟨(some 9), none, .mv (.t 21)⟩])
      (.seq
       (.ops [⟨(some 22), none, .mv (.t 8)⟩,
         ⟨(some 23), none, .bin .eql (.t 22) (.c (.int .i64 0))⟩,
         ⟨(some 24), none, .mv (.t 23)⟩,
         ⟨(some 25), (some (24, true)), .mv (.t 9)⟩,
         ⟨(some 26), (some (24, true)), .bin .eql (.t 25) (.c (.int .i64 2))⟩,
         ⟨(some 27), none, .pick (.t 24) (.t 26) (.c (.bool false))⟩,
         ⟨(some 28), none, .mv (.t 27)⟩,
         ⟨(some 29), (some (28, true)), .mv (.t 7)⟩,
         ⟨(some 30), (some (28, true)), .mv (.t 0)⟩,
         ⟨(some 31), (some (28, true)), .mv (.t 1)⟩,
         ⟨(some 32), (some (28, true)), .call 15 [(.t 29), (.t 30), (.t 31)]⟩,
         ⟨(some 33), (some (28, true)), .bin .eql (.t 32) (.c (.int .i64 2))⟩,
         ⟨(some 34), none, .pick (.t 28) (.t 33) (.c (.bool false))⟩,
         ⟨(some 35), none, .mv (.t 34)⟩,
         ⟨(some 36), (some (35, true)), .mv (.t 7)⟩,
         ⟨(some 37), (some (35, true)), .mv (.t 0)⟩,
         ⟨(some 38), (some (35, true)), .call 18 [(.t 36), (.t 37)]⟩,
         ⟨(some 39), (some (35, true)), .bin .eql (.t 38) (.c (.str []))⟩,
         ⟨(some 40), none, .pick (.t 35) (.t 39) (.c (.bool false))⟩,
         ⟨(some 41), none, .mv (.t 40)⟩,
         ⟨(some 42), (some (41, true)), .mv (.t 7)⟩,
         ⟨(some 43), (some (41, true)), .mv (.t 0)⟩,
         ⟨(some 44), (some (41, true)), .mv (.t 1)⟩,
         ⟨(some 45), (some (41, true)), .call 17 [(.t 42), (.t 43), (.t 44)]⟩,
         ⟨(some 46), (some (41, true)), .bin .eql (.t 45) (.c (.int .i64 0))⟩,
         ⟨(some 47), none, .pick (.t 41) (.t 46) (.c (.bool false))⟩,
         ⟨(some 48), none, .mv (.t 47)⟩,
         ⟨(some 49), (some (48, true)), .mv (.t 7)⟩,
         ⟨(some 50), (some (48, true)), .call 13 [(.t 49)]⟩,
         ⟨(some 51), (some (48, true)), .bin .eql (.t 50) (.c (.int .i64 0))⟩,
         ⟨(some 52), none, .pick (.t 48) (.t 51) (.c (.bool false))⟩,
         ⟨(some 53), none, .mv (.t 52)⟩,
         ⟨(some 54), (some (53, true)), .call 9 []⟩,
         ⟨(some 55), none, .pick (.t 53) (.t 54) (.c (.bool false))⟩,
         ⟨(some 6), none, .mv (.t 55)⟩])
       (.ret)))))⟩
theorem ok4 : FnOk Tryd.prog 4 a4 := FnOk.of Tryd.prog Tryd.func4 (by kernel_rfl)
/-- jalousie/jalousielaw24.SinksApart -/
def a5 : AFn := ⟨152, [.tmp 10], .seq
   (.ops [⟨(some 10), none, .mv (.c (.bool false))⟩])
   (.seq
    (.seq
     (.ops [⟨(some 22), none, .mv (.t 3)⟩,
       ⟨(some 23), none, .call 8 [(.t 22)]⟩,
       ⟨(some 24), none, .mv (.t 23)⟩,
       ⟨(some 25), (some (24, false)), .mv (.t 2)⟩,
       ⟨(some 26), (some (24, false)), .lenL (.t 25)⟩,
       ⟨(some 27), (some (24, false)), .bin .gtr (.t 26) (.c (.int .i64 12))⟩,
       ⟨(some 28), none, .pick (.t 24) (.c (.bool true)) (.t 27)⟩,
       ⟨(some 29), none, .mv (.t 28)⟩,
       ⟨(some 30), (some (29, false)), .mv (.t 0)⟩,
       ⟨(some 31), (some (29, false)), .bin .gtr (.t 30) (.c (.int .i64 64))⟩,
       ⟨(some 32), none, .pick (.t 29) (.c (.bool true)) (.t 31)⟩,
       ⟨(some 33), none, .mv (.t 32)⟩,
       ⟨(some 34), (some (33, false)), .mv (.t 1)⟩,
       ⟨(some 35), (some (33, false)), .bin .gtr (.t 34) (.c (.int .i64 6))⟩,
       ⟨(some 36), none, .pick (.t 33) (.c (.bool true)) (.t 35)⟩])
     (.cond (.t 36)
      (.seq
       (.ops [⟨(some 37), none, .call 9 []⟩,
         ⟨(some 10), none, .mv (.t 37)⟩])
       (.ret))
      (.skip)))
    (.seq
     (.ops [⟨(some 39), none, .mv (.t 0)⟩,
       ⟨(some 40), none, .mv (.t 1)⟩,
       ⟨(some 41), none, .call 10 [(.t 39), (.t 40)]⟩,
       ⟨(some 38), none, .mv (.t 41)⟩,
       ⟨(some 42), none, .ext (.t 38) 0⟩,
       ⟨(some 43), none, .ext (.t 38) 1⟩,
       ⟨(some 11), none, .mv (.t 42)⟩,
       ⟨(some 12), none, .mv (.t 43)⟩])
     (.seq
      (.seq
       (.ops [⟨(some 44), none, .mv (.t 12)⟩,
         ⟨(some 45), none, .bin .neq (.t 44) (.c (.int .i64 0))⟩])
       (.cond (.t 45)
        (.seq
         (.ops [⟨(some 46), none, .call 9 []⟩,
           ⟨(some 10), none, .mv (.t 46)⟩])
         (.ret))
        (.skip)))
      (.seq
       (.ops [⟨(some 48), none, .mv (.t 11)⟩,
         ⟨(some 49), none, .mv (.t 2)⟩,
         ⟨(some 50), none, .call 11 [(.t 48), (.t 49)]⟩,
         ⟨(some 47), none, .mv (.t 50)⟩,
         ⟨(some 51), none, .ext (.t 47) 0⟩,
         ⟨(some 52), none, .ext (.t 47) 1⟩,
         ⟨(some 13), none, .mv (.t 51)⟩,
         ⟨(some 14), none, .mv (.t 52)⟩])
       (.seq
        (.ops [⟨(some 54), none, .mv (.t 11)⟩,
          ⟨(some 55), none, .mv (.t 2)⟩,
          ⟨(some 56), none, .call 11 [(.t 54), (.t 55)]⟩,
          ⟨(some 53), none, .mv (.t 56)⟩,
          ⟨(some 57), none, .ext (.t 53) 0⟩,
          ⟨(some 58), none, .ext (.t 53) 1⟩,
          ⟨(some 15), none, .mv (.t 57)⟩,
          ⟨(some 16), none, .mv (.t 58)⟩])
        (.seq
         (.seq
          (.ops [⟨(some 59), none, .mv (.t 14)⟩,
            ⟨(some 60), none, .bin .neq (.t 59) (.c (.int .i64 0))⟩,
            ⟨(some 61), none, .mv (.t 60)⟩,
            ⟨(some 62), (some (61, false)), .mv (.t 16)⟩,
            ⟨(some 63), (some (61, false)), .bin .neq (.t 62) (.c (.int .i64 0))⟩,
            ⟨(some 64), none, .pick (.t 61) (.c (.bool true)) (.t 63)⟩])
          (.cond (.t 64)
           (.seq
            (.ops [⟨(some 65), none, .mv (.t 14)⟩,
              ⟨(some 66), none, .mv (.t 16)⟩,
              ⟨(some 67), none, .bin .eql (.t 65) (.t 66)⟩,
              ⟨(some 68), none, .mv (.t 67)⟩,
              ⟨(some 69), (some (68, true)), .call 9 []⟩,
              ⟨(some 70), none, .pick (.t 68) (.t 69) (.c (.bool false))⟩,
              ⟨(some 10), none, .mv (.t 70)⟩])
            (.ret))
           (.skip)))
         (.seq
          (.seq
           (.ops [⟨(some 17), none, .mv (.c (.int .i64 0))⟩])
           (.block 0 (.loop (.seq
              (.seq
               (.ops [⟨(some 71), none, .mv (.t 17)⟩,
                 ⟨(some 72), none, .mv (.t 3)⟩,
                 ⟨(some 73), none, .lenL (.t 72)⟩,
                 ⟨(some 74), none, .bin .lss (.t 71) (.t 73)⟩])
               (.cond (.t 74)
                (.skip)
                (.exit 0)))
              (.seq
               (.block 1 (.seq
                 (.draw [⟨⟨(some 78), none, .mv (.t 13)⟩, []⟩,
                   ⟨⟨(some 79), none, .mv (.t 3)⟩, []⟩,
                   ⟨⟨(some 80), none, .mv (.t 17)⟩, []⟩,
                   ⟨⟨(some 81), none, .iaddrS 3 (.t 79) (.t 80)⟩, [1, 2]⟩,
                   ⟨⟨(some 82), none, .addr 0 (.t 81)⟩, [3]⟩,
                   ⟨⟨(some 83), none, .load none (.t 82)⟩, [4]⟩,
                   ⟨⟨(some 84), none, .mv (.t 3)⟩, []⟩,
                   ⟨⟨(some 85), none, .mv (.t 17)⟩, []⟩,
                   ⟨⟨(some 86), none, .iaddrS 3 (.t 84) (.t 85)⟩, [6, 7]⟩,
                   ⟨⟨(some 87), none, .addr 1 (.t 86)⟩, [8]⟩,
                   ⟨⟨(some 88), none, .load none (.t 87)⟩, [9]⟩,
                   ⟨⟨(some 89), none, .mv (.t 3)⟩, []⟩,
                   ⟨⟨(some 90), none, .mv (.t 17)⟩, []⟩,
                   ⟨⟨(some 91), none, .iaddrS 3 (.t 89) (.t 90)⟩, [11, 12]⟩,
                   ⟨⟨(some 92), none, .addr 2 (.t 91)⟩, [13]⟩,
                   ⟨⟨(some 93), none, .load none (.t 92)⟩, [14]⟩,
                   ⟨⟨(some 94), none, .call 16 [(.t 78), (.t 83), (.t 88), (.t 93)]⟩, [0, 5, 10, 15]⟩,
                   ⟨⟨(some 77), none, .mv (.t 94)⟩, [16]⟩,
                   ⟨⟨(some 95), none, .ext (.t 77) 0⟩, [17]⟩,
                   ⟨⟨(some 96), none, .ext (.t 77) 1⟩, [17]⟩,
                   ⟨⟨(some 18), none, .mv (.t 95)⟩, [18, 16, 0, 1, 2, 3, 4, 5, 6, 7, 8, 9, 10, 11, 12, 13, 14, 15, 16, 17, 18]⟩,
                   ⟨⟨(some 19), none, .mv (.t 96)⟩, [19, 20, 0, 1, 2, 3, 4, 5, 6, 7, 8, 9, 10, 11, 12, 13, 14, 15, 16, 17, 18, 19, 20]⟩] [0, 0, 0, 6, 14, 30, 0, 0, 192, 448, 960, 0, 0, 6144, 14336, 30720, 65535, 131071, 262143, 262143, 524287, 2097151])
                 (.seq
                  (.seq
                   (.ops [⟨(some 97), none, .mv (.t 3)⟩,
                     ⟨(some 98), none, .mv (.t 17)⟩,
                     ⟨(some 99), none, .iaddrS 3 (.t 97) (.t 98)⟩,
                     ⟨(some 100), none, .addr 1 (.t 99)⟩,
                     ⟨(some 101), none, .load none (.t 100)⟩,
                     ⟨(some 102), none, .mv (.t 4)⟩,
                     ⟨(some 103), none, .bin .neq (.t 101) (.t 102)⟩])
                   (.cond (.t 103)
                    (.exit 1)
                    (.skip)))
                  (.seq
                   (.draw [⟨⟨(some 105), none, .mv (.t 15)⟩, []⟩,
                     ⟨⟨(some 106), none, .mv (.t 3)⟩, []⟩,
                     ⟨⟨(some 107), none, .mv (.t 17)⟩, []⟩,
                     ⟨⟨(some 108), none, .iaddrS 3 (.t 106) (.t 107)⟩, [1, 2]⟩,
                     ⟨⟨(some 109), none, .addr 0 (.t 108)⟩, [3]⟩,
                     ⟨⟨(some 110), none, .load none (.t 109)⟩, [4]⟩,
                     ⟨⟨(some 111), none, .mv (.t 3)⟩, []⟩,
                     ⟨⟨(some 112), none, .mv (.t 17)⟩, []⟩,
                     ⟨⟨(some 113), none, .iaddrS 3 (.t 111) (.t 112)⟩, [6, 7]⟩,
                     ⟨⟨(some 114), none, .addr 1 (.t 113)⟩, [8]⟩,
                     ⟨⟨(some 115), none, .load none (.t 114)⟩, [9]⟩,
                     ⟨⟨(some 116), none, .mv (.t 3)⟩, []⟩,
                     ⟨⟨(some 117), none, .mv (.t 17)⟩, []⟩,
                     ⟨⟨(some 118), none, .iaddrS 3 (.t 116) (.t 117)⟩, [11, 12]⟩,
                     ⟨⟨(some 119), none, .addr 2 (.t 118)⟩, [13]⟩,
                     ⟨⟨(some 120), none, .load none (.t 119)⟩, [14]⟩,
                     ⟨⟨(some 121), none, .call 16 [(.t 105), (.t 110), (.t 115), (.t 120)]⟩, [0, 5, 10, 15]⟩,
                     ⟨⟨(some 104), none, .mv (.t 121)⟩, [16]⟩,
                     ⟨⟨(some 122), none, .ext (.t 104) 0⟩, [17]⟩,
                     ⟨⟨(some 123), none, .ext (.t 104) 1⟩, [17]⟩,
                     ⟨⟨(some 20), none, .mv (.t 122)⟩, [18, 16, 0, 1, 2, 3, 4, 5, 6, 7, 8, 9, 10, 11, 12, 13, 14, 15, 16, 17, 18]⟩,
                     ⟨⟨(some 21), none, .mv (.t 123)⟩, [19, 20, 0, 1, 2, 3, 4, 5, 6, 7, 8, 9, 10, 11, 12, 13, 14, 15, 16, 17, 18, 19, 20]⟩] [0, 0, 0, 6, 14, 30, 0, 0, 192, 448, 960, 0, 0, 6144, 14336, 30720, 65535, 131071, 262143, 262143, 524287, 2097151])
                   (.seq
                    (.draw [⟨⟨(some 124), none, .mv (.t 18)⟩, []⟩,
                      ⟨⟨(some 125), none, .mv (.t 20)⟩, []⟩,
                      ⟨⟨(some 126), none, .bin .neq (.t 124) (.t 125)⟩, [0, 1]⟩,
                      ⟨⟨(some 127), none, .mv (.t 126)⟩, [2]⟩,
                      ⟨⟨(some 128), (some (127, false)), .mv (.t 19)⟩, [3]⟩,
                      ⟨⟨(some 129), (some (127, false)), .mv (.t 21)⟩, [3]⟩,
                      ⟨⟨(some 130), (some (127, false)), .bin .neq (.t 128) (.t 129)⟩, [4, 5, 3]⟩,
                      ⟨⟨(some 131), none, .pick (.t 127) (.c (.bool true)) (.t 130)⟩, [3, 6]⟩,
                      ⟨⟨(some 132), none, .mv (.t 131)⟩, [7, 3]⟩,
                      ⟨⟨(some 133), (some (132, false)), .mv (.t 13)⟩, [8]⟩,
                      ⟨⟨(some 134), (some (132, false)), .mv (.t 3)⟩, [8]⟩,
                      ⟨⟨(some 135), (some (132, false)), .mv (.t 17)⟩, [8]⟩,
                      ⟨⟨(some 136), (some (132, false)), .iaddrS 3 (.t 134) (.t 135)⟩, [10, 11, 8]⟩,
                      ⟨⟨(some 137), (some (132, false)), .addr 0 (.t 136)⟩, [12, 8]⟩,
                      ⟨⟨(some 138), (some (132, false)), .load none (.t 137)⟩, [13, 8]⟩,
                      ⟨⟨(some 139), (some (132, false)), .mv (.t 4)⟩, [8]⟩,
                      ⟨⟨(some 140), (some (132, false)), .call 17 [(.t 133), (.t 138), (.t 139)]⟩, [9, 14, 15, 8, 8]⟩,
                      ⟨⟨(some 141), (some (132, false)), .mv (.t 15)⟩, [8]⟩,
                      ⟨⟨(some 142), (some (132, false)), .mv (.t 3)⟩, [8]⟩,
                      ⟨⟨(some 143), (some (132, false)), .mv (.t 17)⟩, [8]⟩,
                      ⟨⟨(some 144), (some (132, false)), .iaddrS 3 (.t 142) (.t 143)⟩, [18, 19, 8]⟩,
                      ⟨⟨(some 145), (some (132, false)), .addr 0 (.t 144)⟩, [20, 8]⟩,
                      ⟨⟨(some 146), (some (132, false)), .load none (.t 145)⟩, [21, 8]⟩,
                      ⟨⟨(some 147), (some (132, false)), .mv (.t 4)⟩, [8]⟩,
                      ⟨⟨(some 148), (some (132, false)), .call 17 [(.t 141), (.t 146), (.t 147)]⟩, [17, 22, 23, 16, 8]⟩,
                      ⟨⟨(some 149), (some (132, false)), .bin .neq (.t 140) (.t 148)⟩, [16, 24, 8]⟩,
                      ⟨⟨(some 150), none, .pick (.t 132) (.c (.bool true)) (.t 149)⟩, [8, 25]⟩] [0, 0, 3, 7, 15, 15, 63, 127, 255, 511, 511, 511, 3583, 7679, 15871, 511, 65535, 511, 511, 511, 786943, 1835519, 3932671, 511, 16777215, 33554431, 67108863])
                    (.cond (.t 150)
                     (.seq
                      (.ops [⟨(some 10), none, .mv (.c (.bool false))⟩])
                      (.ret))
                     (.skip)))))))
               (.ops [⟨(some 75), none, .mv (.t 17)⟩,
                 ⟨(some 76), none, .bin .add (.t 75) (.c (.int .i64 1))⟩,
                 ⟨(some 17), none, .mv (.t 76)⟩]))))))
          (.seq
           (.ops [⟨(some 151), none, .call 9 []⟩,
             ⟨(some 10), none, .mv (.t 151)⟩])
           (.ret)))))))))⟩
theorem ok5 : FnOk Tryd.prog 5 a5 := FnOk.of Tryd.prog Tryd.func5 (by kernel_rfl)
/-- jalousie/jalousielaw24.SinksBelow -/
def a6 : AFn := ⟨150, [.tmp 10], .seq
   (.ops [⟨(some 10), none, .mv (.c (.bool false))⟩])
   (.seq
    (.seq
     (.ops [⟨(some 19), none, .mv (.t 3)⟩,
       ⟨(some 20), none, .call 8 [(.t 19)]⟩,
       ⟨(some 21), none, .mv (.t 20)⟩,
       ⟨(some 22), (some (21, false)), .mv (.t 2)⟩,
       ⟨(some 23), (some (21, false)), .lenL (.t 22)⟩,
       ⟨(some 24), (some (21, false)), .bin .gtr (.t 23) (.c (.int .i64 12))⟩,
       ⟨(some 25), none, .pick (.t 21) (.c (.bool true)) (.t 24)⟩,
       ⟨(some 26), none, .mv (.t 25)⟩,
       ⟨(some 27), (some (26, false)), .mv (.t 0)⟩,
       ⟨(some 28), (some (26, false)), .bin .gtr (.t 27) (.c (.int .i64 64))⟩,
       ⟨(some 29), none, .pick (.t 26) (.c (.bool true)) (.t 28)⟩,
       ⟨(some 30), none, .mv (.t 29)⟩,
       ⟨(some 31), (some (30, false)), .mv (.t 1)⟩,
       ⟨(some 32), (some (30, false)), .bin .gtr (.t 31) (.c (.int .i64 6))⟩,
       ⟨(some 33), none, .pick (.t 30) (.c (.bool true)) (.t 32)⟩])
     (.cond (.t 33)
      (.seq
       (.ops [⟨(some 34), none, .call 9 []⟩,
         ⟨(some 10), none, .mv (.t 34)⟩])
       (.ret))
      (.skip)))
    (.seq
     (.ops [⟨(some 36), none, .mv (.t 0)⟩,
       ⟨(some 37), none, .mv (.t 1)⟩,
       ⟨(some 38), none, .call 10 [(.t 36), (.t 37)]⟩,
       ⟨(some 35), none, .mv (.t 38)⟩,
       ⟨(some 39), none, .ext (.t 35) 0⟩,
       ⟨(some 40), none, .ext (.t 35) 1⟩,
       ⟨(some 11), none, .mv (.t 39)⟩,
       ⟨(some 12), none, .mv (.t 40)⟩])
     (.seq
      (.seq
       (.ops [⟨(some 41), none, .mv (.t 12)⟩,
         ⟨(some 42), none, .bin .neq (.t 41) (.c (.int .i64 0))⟩])
       (.cond (.t 42)
        (.seq
         (.ops [⟨(some 43), none, .call 9 []⟩,
           ⟨(some 10), none, .mv (.t 43)⟩])
         (.ret))
        (.skip)))
      (.seq
       (.ops [⟨(some 45), none, .mv (.t 11)⟩,
         ⟨(some 46), none, .mv (.t 2)⟩,
         ⟨(some 47), none, .call 11 [(.t 45), (.t 46)]⟩,
         ⟨(some 44), none, .mv (.t 47)⟩,
         ⟨(some 48), none, .ext (.t 44) 0⟩,
         ⟨(some 49), none, .ext (.t 44) 1⟩,
         ⟨(some 13), none, .mv (.t 48)⟩,
         ⟨(some 14), none, .mv (.t 49)⟩])
       (.seq
        (.ops [⟨(some 51), none, .mv (.t 11)⟩,
          ⟨(some 52), none, .mv (.t 2)⟩,
          ⟨(some 53), none, .call 11 [(.t 51), (.t 52)]⟩,
          ⟨(some 50), none, .mv (.t 53)⟩,
          ⟨(some 54), none, .ext (.t 50) 0⟩,
          ⟨(some 55), none, .ext (.t 50) 1⟩,
          ⟨(some 15), none, .mv (.t 54)⟩,
          ⟨(some 16), none, .mv (.t 55)⟩])
        (.seq
         (.seq
          (.ops [⟨(some 56), none, .mv (.t 14)⟩,
            ⟨(some 57), none, .bin .neq (.t 56) (.c (.int .i64 0))⟩,
            ⟨(some 58), none, .mv (.t 57)⟩,
            ⟨(some 59), (some (58, false)), .mv (.t 16)⟩,
            ⟨(some 60), (some (58, false)), .bin .neq (.t 59) (.c (.int .i64 0))⟩,
            ⟨(some 61), none, .pick (.t 58) (.c (.bool true)) (.t 60)⟩,
            ⟨(some 62), none, .mv (.t 61)⟩,
            ⟨(some 63), (some (62, false)), .mv (.t 4)⟩,
            ⟨(some 64), (some (62, false)), .bin .lss (.t 63) (.c (.int .i64 0))⟩,
            ⟨(some 65), none, .pick (.t 62) (.c (.bool true)) (.t 64)⟩,
            ⟨(some 66), none, .mv (.t 65)⟩,
            ⟨(some 67), (some (66, false)), .mv (.t 4)⟩,
            ⟨(some 68), (some (66, false)), .mv (.t 11)⟩,
            ⟨(some 69), (some (66, false)), .call 12 [(.t 68)]⟩,
            ⟨(some 70), (some (66, false)), .bin .geq (.t 67) (.t 69)⟩,
            ⟨(some 71), none, .pick (.t 66) (.c (.bool true)) (.t 70)⟩])
          (.cond (.t 71)
           (.seq
            (.ops [⟨(some 72), none, .mv (.t 14)⟩,
              ⟨(some 73), none, .mv (.t 16)⟩,
              ⟨(some 74), none, .bin .eql (.t 72) (.t 73)⟩,
              ⟨(some 75), none, .mv (.t 74)⟩,
              ⟨(some 76), (some (75, true)), .call 9 []⟩,
              ⟨(some 77), none, .pick (.t 75) (.t 76) (.c (.bool false))⟩,
              ⟨(some 10), none, .mv (.t 77)⟩])
            (.ret))
           (.skip)))
         (.seq
          (.seq
           (.ops [⟨(some 17), none, .mv (.c (.int .i64 0))⟩])
           (.block 0 (.loop (.seq
              (.seq
               (.ops [⟨(some 78), none, .mv (.t 17)⟩,
                 ⟨(some 79), none, .mv (.t 3)⟩,
                 ⟨(some 80), none, .lenL (.t 79)⟩,
                 ⟨(some 81), none, .bin .lss (.t 78) (.t 80)⟩])
               (.cond (.t 81)
                (.skip)
                (.exit 0)))
              (.seq
               (.block 1 (.seq
                 (.draw [⟨⟨(some 84), none, .mv (.t 13)⟩, []⟩,
                   ⟨⟨(some 85), none, .mv (.t 3)⟩, []⟩,
                   ⟨⟨(some 86), none, .mv (.t 17)⟩, []⟩,
                   ⟨⟨(some 87), none, .iaddrS 3 (.t 85) (.t 86)⟩, [1, 2]⟩,
                   ⟨⟨(some 88), none, .addr 0 (.t 87)⟩, [3]⟩,
                   ⟨⟨(some 89), none, .load none (.t 88)⟩, [4]⟩,
                   ⟨⟨(some 90), none, .mv (.t 3)⟩, []⟩,
                   ⟨⟨(some 91), none, .mv (.t 17)⟩, []⟩,
                   ⟨⟨(some 92), none, .iaddrS 3 (.t 90) (.t 91)⟩, [6, 7]⟩,
                   ⟨⟨(some 93), none, .addr 1 (.t 92)⟩, [8]⟩,
                   ⟨⟨(some 94), none, .load none (.t 93)⟩, [9]⟩,
                   ⟨⟨(some 95), none, .mv (.t 3)⟩, []⟩,
                   ⟨⟨(some 96), none, .mv (.t 17)⟩, []⟩,
                   ⟨⟨(some 97), none, .iaddrS 3 (.t 95) (.t 96)⟩, [11, 12]⟩,
                   ⟨⟨(some 98), none, .addr 2 (.t 97)⟩, [13]⟩,
                   ⟨⟨(some 99), none, .load none (.t 98)⟩, [14]⟩,
                   ⟨⟨(some 100), none, .call 16 [(.t 84), (.t 89), (.t 94), (.t 99)]⟩, [0, 5, 10, 15]⟩] [0, 0, 0, 6, 14, 30, 0, 0, 192, 448, 960, 0, 0, 6144, 14336, 30720, 65535])
                 (.seq
                  (.ops [⟨(some 101), none, .mv (.t 11)⟩,
                    ⟨(some 102), none, .mv (.t 3)⟩,
                    ⟨(some 103), none, .mv (.t 17)⟩,
                    ⟨(some 104), none, .iaddrS 3 (.t 102) (.t 103)⟩,
                    ⟨(some 105), none, .addr 1 (.t 104)⟩,
                    ⟨(some 106), none, .load none (.t 105)⟩,
                    ⟨(some 107), none, .mv (.t 4)⟩,
                    ⟨(some 108), none, .call 14 [(.t 101), (.t 106), (.t 107)]⟩])
                  (.cond (.t 108)
                   (.draw [⟨⟨(some 109), none, .mv (.t 15)⟩, []⟩,
                     ⟨⟨(some 110), none, .mv (.t 3)⟩, []⟩,
                     ⟨⟨(some 111), none, .mv (.t 17)⟩, []⟩,
                     ⟨⟨(some 112), none, .iaddrS 3 (.t 110) (.t 111)⟩, [1, 2]⟩,
                     ⟨⟨(some 113), none, .addr 0 (.t 112)⟩, [3]⟩,
                     ⟨⟨(some 114), none, .load none (.t 113)⟩, [4]⟩,
                     ⟨⟨(some 115), none, .mv (.t 3)⟩, []⟩,
                     ⟨⟨(some 116), none, .mv (.t 17)⟩, []⟩,
                     ⟨⟨(some 117), none, .iaddrS 3 (.t 115) (.t 116)⟩, [6, 7]⟩,
                     ⟨⟨(some 118), none, .addr 1 (.t 117)⟩, [8]⟩,
                     ⟨⟨(some 119), none, .load none (.t 118)⟩, [9]⟩,
                     ⟨⟨(some 120), none, .mv (.t 3)⟩, []⟩,
                     ⟨⟨(some 121), none, .mv (.t 17)⟩, []⟩,
                     ⟨⟨(some 122), none, .iaddrS 3 (.t 120) (.t 121)⟩, [11, 12]⟩,
                     ⟨⟨(some 123), none, .addr 2 (.t 122)⟩, [13]⟩,
                     ⟨⟨(some 124), none, .load none (.t 123)⟩, [14]⟩,
                     ⟨⟨(some 125), none, .call 16 [(.t 109), (.t 114), (.t 119), (.t 124)]⟩, [0, 5, 10, 15]⟩] [0, 0, 0, 6, 14, 30, 0, 0, 192, 448, 960, 0, 0, 6144, 14336, 30720, 65535])
                   (.skip)))))
               (.ops [⟨(some 82), none, .mv (.t 17)⟩,
                 ⟨(some 83), none, .bin .add (.t 82) (.c (.int .i64 1))⟩,
                 ⟨(some 17), none, .mv (.t 83)⟩]))))))
          (.seq
           (.seq
            (.ops [⟨(some 18), none, .mv (.c (.int .i64 0))⟩])
            (.block 2 (.loop (.seq
               (.seq
                (.ops [⟨(some 126), none, .mv (.t 18)⟩,
                  ⟨(some 127), none, .mv (.t 2)⟩,
                  ⟨(some 128), none, .lenL (.t 127)⟩,
                  ⟨(some 129), none, .bin .lss (.t 126) (.t 128)⟩])
                (.cond (.t 129)
                 (.skip)
                 (.exit 2)))
               (.seq
                (.block 3 (.seq
                  (.ops [⟨(some 132), none, .mv (.t 11)⟩,
                    ⟨(some 133), none, .mv (.t 2)⟩,
                    ⟨(some 134), none, .mv (.t 18)⟩,
                    ⟨(some 135), none, .iaddrS 2 (.t 133) (.t 134)⟩,
                    ⟨(some 136), none, .addr 0 (.t 135)⟩,
                    ⟨(some 137), none, .load none (.t 136)⟩,
                    ⟨(some 138), none, .mv (.t 4)⟩,
                    ⟨(some 139), none, .call 14 [(.t 132), (.t 137), (.t 138)]⟩,
                    ⟨(some 140), none, .mv (.t 139)⟩,
                    ⟨(some 141), (some (140, true)), .mv (.t 13)⟩,
                    ⟨(some 142), (some (140, true)), .mv (.t 18)⟩,
                    ⟨(some 143), (some (140, true)), .call 18 [(.t 141), (.t 142)]⟩,
                    ⟨(some 144), (some (140, true)), .mv (.t 15)⟩,
                    ⟨(some 145), (some (140, true)), .mv (.t 18)⟩,
                    ⟨(some 146), (some (140, true)), .call 18 [(.t 144), (.t 145)]⟩,
                    ⟨(some 147), (some (140, true)), .bin .neq (.t 143) (.t 146)⟩,
                    ⟨(some 148), none, .pick (.t 140) (.t 147) (.c (.bool false))⟩])
                  (.cond (.t 148)
                   (.seq
                    (.ops [⟨(some 10), none, .mv (.c (.bool false))⟩])
                    (.ret))
                   (.skip))))
                (.ops [⟨(some 130), none, .mv (.t 18)⟩,
                  ⟨(some 131), none, .bin .add (.t 130) (.c (.int .i64 1))⟩,
                  ⟨(some 18), none, .mv (.t 131)⟩]))))))
           (.seq
            (.ops [⟨(some 149), none, .call 9 []⟩,
              ⟨(some 10), none, .mv (.t 149)⟩])
            (.ret))))))))))⟩
theorem ok6 : FnOk Tryd.prog 6 a6 := FnOk.of Tryd.prog Tryd.func6 (by kernel_rfl)
/-- jalousie/jalousielaw24.SinksKnown -/
def a7 : AFn := ⟨202, [.tmp 0], .seq
   (.ops [⟨(some 0), none, .mv (.c (.bool false))⟩])
   (.seq
    (.ops [⟨(some 22), none, .call 19 []⟩,
      ⟨(some 21), none, .mv (.t 22)⟩,
      ⟨(some 23), none, .ext (.t 21) 0⟩,
      ⟨(some 24), none, .ext (.t 21) 1⟩,
      ⟨(some 1), none, .mv (.t 23)⟩,
      ⟨(some 2), none, .mv (.t 24)⟩])
    (.seq
     (.seq
      (.ops [⟨(some 25), none, .mv (.t 2)⟩,
        ⟨(some 26), none, .un .not (.t 25)⟩])
      (.cond (.t 26)
       (.seq
        (.ops [⟨(some 0), none, .mv (.c (.bool false))⟩])
        (.ret))
       (.skip)))
     (.seq
      (.ops [⟨(some 28), none, .mv (.t 1)⟩,
        ⟨(some 29), none, .build [(.int .i64 0), (.int .i64 0)] [(0, 1), (1, 1)] [(0, (.c (.int .i64 1))), (1, (.c (.int .i64 3)))]⟩,
        ⟨(some 30), none, .build [(.int .i64 0), (.int .i64 0)] [(0, 1), (1, 1)] [(1, (.c (.int .i64 9)))]⟩,
        ⟨(some 31), none, .bslice 34 2 2 [(.int .i64 0), (.int .i64 0)] [(0, (.t 29)), (1, (.t 30))]⟩,
        ⟨(some 32), none, .call 11 [(.t 28), (.t 31)]⟩,
        ⟨(some 27), none, .mv (.t 32)⟩,
        ⟨(some 33), none, .ext (.t 27) 0⟩,
        ⟨(some 34), none, .ext (.t 27) 1⟩,
        ⟨(some 3), none, .mv (.t 33)⟩,
        ⟨(some 4), none, .mv (.t 34)⟩])
      (.seq
       (.seq
        (.ops [⟨(some 35), none, .mv (.t 4)⟩,
          ⟨(some 36), none, .bin .neq (.t 35) (.c (.int .i64 0))⟩,
          ⟨(some 37), none, .mv (.t 36)⟩,
          ⟨(some 38), (some (37, false)), .mv (.t 3)⟩,
          ⟨(some 39), (some (37, false)), .eq false 30 (.pointer 58) (.t 38) (.c .nilptr)⟩,
          ⟨(some 40), none, .pick (.t 37) (.c (.bool true)) (.t 39)⟩])
        (.cond (.t 40)
         (.seq
          (.ops [⟨(some 0), none, .mv (.c (.bool false))⟩])
          (.ret))
         (.skip)))
       (.seq
        (.ops [⟨(some 42), none, .mv (.t 3)⟩,
          ⟨(some 43), none, .call 16 [(.t 42), (.c (.int .i64 0)), (.c (.int .i64 0)), (.c (.str [97, 98]))]⟩,
          ⟨(some 41), none, .mv (.t 43)⟩,
          ⟨(some 44), none, .ext (.t 41) 0⟩,
          ⟨(some 45), none, .ext (.t 41) 1⟩,
          ⟨(some 5), none, .mv (.t 44)⟩,
          ⟨(some 6), none, .mv (.t 45)⟩])
        (.seq
         (.ops [⟨(some 47), none, .mv (.t 3)⟩,
           ⟨(some 48), none, .call 16 [(.t 47), (.c (.int .i64 0)), (.c (.int .i64 1)), (.c (.str [99, 100]))]⟩,
           ⟨(some 46), none, .mv (.t 48)⟩,
           ⟨(some 49), none, .ext (.t 46) 0⟩,
           ⟨(some 50), none, .ext (.t 46) 1⟩,
           ⟨(some 7), none, .mv (.t 49)⟩,
           ⟨(some 8), none, .mv (.t 50)⟩])
         (.seq
          (.ops [⟨(some 52), none, .mv (.t 3)⟩,
            ⟨(some 53), none, .call 16 [(.t 52), (.c (.int .i64 0)), (.c (.int .i64 0)), (.c (.str [101, 102]))]⟩,
            ⟨(some 51), none, .mv (.t 53)⟩,
            ⟨(some 54), none, .ext (.t 51) 0⟩,
            ⟨(some 55), none, .ext (.t 51) 1⟩,
            ⟨(some 9), none, .mv (.t 54)⟩,
            ⟨(some 10), none, .mv (.t 55)⟩])
          (.seq
           (.ops [⟨(some 56), none, .mv (.t 5)⟩,
             ⟨(some 57), none, .bin .eql (.t 56) (.c (.int .i64 2))⟩,
             ⟨(some 58), none, .mv (.t 57)⟩,
             ⟨(some 59), (some (58, true)), .mv (.t 6)⟩,
             ⟨(some 60), (some (58, true)), .bin .eql (.t 59) (.c (.int .i64 0))⟩,
             ⟨(some 61), none, .pick (.t 58) (.t 60) (.c (.bool false))⟩,
             ⟨(some 62), none, .mv (.t 61)⟩,
             ⟨(some 63), (some (62, true)), .mv (.t 7)⟩,
             ⟨(some 64), (some (62, true)), .bin .eql (.t 63) (.c (.int .i64 2))⟩,
             ⟨(some 65), none, .pick (.t 62) (.t 64) (.c (.bool false))⟩,
             ⟨(some 66), none, .mv (.t 65)⟩,
             ⟨(some 67), (some (66, true)), .mv (.t 8)⟩,
             ⟨(some 68), (some (66, true)), .bin .eql (.t 67) (.c (.int .i64 0))⟩,
             ⟨(some 69), none, .pick (.t 66) (.t 68) (.c (.bool false))⟩,
             ⟨(some 70), none, .mv (.t 69)⟩,
             ⟨(some 71), (some (70, true)), .mv (.t 9)⟩,
             ⟨(some 72), (some (70, true)), .bin .eql (.t 71) (.c (.int .i64 1))⟩,
             ⟨(some 73), none, .pick (.t 70) (.t 72) (.c (.bool false))⟩,
             ⟨(some 74), none, .mv (.t 73)⟩,
             ⟨(some 75), (some (74, true)), .mv (.t 10)⟩,
             ⟨(some 76), (some (74, true)), .bin .eql (.t 75) (.c (.int .i64 0))⟩,
             ⟨(some 77), none, .pick (.t 74) (.t 76) (.c (.bool false))⟩,
             ⟨(some 78), none, .mv (.t 77)⟩,
             ⟨(some 79), (some (78, true)), .mv (.t 3)⟩,
             ⟨(some 80), (some (78, true)), .call 18 [(.t 79), (.c (.int .i64 0))]⟩,
             ⟨(some 81), (some (78, true)), .bin .eql (.t 80) (.c (.str [97, 98, 99, 100, 101]))⟩,
             ⟨(some 82), none, .pick (.t 78) (.t 81) (.c (.bool false))⟩,
             ⟨(some 83), none, .mv (.t 82)⟩,
             ⟨(some 84), (some (83, true)), .mv (.t 3)⟩,
             ⟨(some 85), (some (83, true)), .call 17 [(.t 84), (.c (.int .i64 0)), (.c (.int .i64 0))]⟩,
             ⟨(some 86), (some (83, true)), .bin .eql (.t 85) (.c (.int .i64 0))⟩,
             ⟨(some 87), none, .pick (.t 83) (.t 86) (.c (.bool false))⟩,
             ⟨(some 11), none, .mv (.t 87)⟩])
           (.seq
            (.ops [⟨(some 89), none, .mv (.t 3)⟩,
              ⟨(some 90), none, .call 16 [(.t 89), (.c (.int .i64 1)), (.c (.int .i64 1)), (.c (.str [120]))]⟩,
              ⟨(some 88), none, .mv (.t 90)⟩,
              ⟨(some 91), none, .ext (.t 88) 0⟩,
              ⟨(some 92), none, .ext (.t 88) 1⟩,
              ⟨(some 6), none, .mv (.t 92)⟩])
            (.seq
             (.ops [⟨(some 94), none, .mv (.t 3)⟩,
               ⟨(some 95), none, .call 16 [(.t 94), (.c (.int .i64 2)), (.c (.int .i64 0)), (.c (.str [120]))]⟩,
               ⟨(some 93), none, .mv (.t 95)⟩,
               ⟨(some 96), none, .ext (.t 93) 0⟩,
               ⟨(some 97), none, .ext (.t 93) 1⟩,
               ⟨(some 8), none, .mv (.t 97)⟩])
             (.seq
              (.ops [⟨(some 99), none, .mv (.t 3)⟩,
                ⟨(some 100), none, .call 16 [(.t 99), (.c (.int .i64 0)), (.c (.int .i64 2)), (.c (.str [120]))]⟩,
                ⟨(some 98), none, .mv (.t 100)⟩,
                ⟨(some 101), none, .ext (.t 98) 0⟩,
                ⟨(some 102), none, .ext (.t 98) 1⟩,
                ⟨(some 10), none, .mv (.t 102)⟩])
              (.seq
               (.ops [⟨(some 104), none, .mv (.t 3)⟩,
                 ⟨(some 105), none, .call 16 [(.t 104), (.c (.int .i64 (-1))), (.c (.int .i64 9)), (.c (.str [120]))]⟩,
                 ⟨(some 103), none, .mv (.t 105)⟩,
                 ⟨(some 106), none, .ext (.t 103) 0⟩,
                 ⟨(some 107), none, .ext (.t 103) 1⟩,
                 ⟨(some 12), none, .mv (.t 106)⟩,
                 ⟨(some 13), none, .mv (.t 107)⟩])
               (.seq
                (.ops [⟨(some 108), none, .mv (.t 6)⟩,
                  ⟨(some 109), none, .bin .eql (.t 108) (.c (.int .i64 7))⟩,
                  ⟨(some 110), none, .mv (.t 109)⟩,
                  ⟨(some 111), (some (110, true)), .mv (.t 8)⟩,
                  ⟨(some 112), (some (110, true)), .bin .eql (.t 111) (.c (.int .i64 4))⟩,
                  ⟨(some 113), none, .pick (.t 110) (.t 112) (.c (.bool false))⟩,
                  ⟨(some 114), none, .mv (.t 113)⟩,
                  ⟨(some 115), (some (114, true)), .mv (.t 10)⟩,
                  ⟨(some 116), (some (114, true)), .bin .eql (.t 115) (.c (.int .i64 1))⟩,
                  ⟨(some 117), none, .pick (.t 114) (.t 116) (.c (.bool false))⟩,
                  ⟨(some 118), none, .mv (.t 117)⟩,
                  ⟨(some 119), (some (118, true)), .mv (.t 13)⟩,
                  ⟨(some 120), (some (118, true)), .bin .eql (.t 119) (.c (.int .i64 4))⟩,
                  ⟨(some 121), none, .pick (.t 118) (.t 120) (.c (.bool false))⟩,
                  ⟨(some 122), none, .mv (.t 121)⟩,
                  ⟨(some 123), (some (122, true)), .mv (.t 3)⟩,
                  ⟨(some 124), (some (122, true)), .call 18 [(.t 123), (.c (.int .i64 1))]⟩,
                  ⟨(some 125), (some (122, true)), .bin .eql (.t 124) (.c (.str []))⟩,
                  ⟨(some 126), none, .pick (.t 122) (.t 125) (.c (.bool false))⟩,
                  ⟨(some 127), none, .mv (.t 126)⟩,
                  ⟨(some 128), (some (127, true)), .mv (.t 3)⟩,
                  ⟨(some 129), (some (127, true)), .call 17 [(.t 128), (.c (.int .i64 1)), (.c (.int .i64 1))]⟩,
                  ⟨(some 130), (some (127, true)), .bin .eql (.t 129) (.c (.int .i64 0))⟩,
                  ⟨(some 131), none, .pick (.t 127) (.t 130) (.c (.bool false))⟩,
                  ⟨(some 132), none, .mv (.t 131)⟩,
                  ⟨(some 133), (some (132, true)), .mv (.t 3)⟩,
                  ⟨(some 134), (some (132, true)), .call 17 [(.t 133), (.c (.int .i64 1)), (.c (.int .i64 0))]⟩,
                  ⟨(some 135), (some (132, true)), .bin .eql (.t 134) (.c (.int .i64 9))⟩,
                  ⟨(some 136), none, .pick (.t 132) (.t 135) (.c (.bool false))⟩,
                  ⟨(some 14), none, .mv (.t 136)⟩])
                (.seq
                 (.ops [⟨(some 137), none, .build [(.int .i64 0), (.int .i64 0)] [(0, 1), (1, 1)] [(0, (.c (.int .i64 2)))]⟩,
                   ⟨(some 138), none, .bslice 34 2 1 [(.int .i64 0), (.int .i64 0)] [(0, (.t 137))]⟩,
                   ⟨(some 139), none, .build [(.int .i64 0), (.int .i64 0)] [(0, 1), (1, 1)] [(0, (.c (.int .i64 (-1))))]⟩,
                   ⟨(some 140), none, .bslice 34 2 1 [(.int .i64 0), (.int .i64 0)] [(0, (.t 139))]⟩,
                   ⟨(some 141), none, .build [(.int .i64 0), (.int .i64 0)] [(0, 1), (1, 1)] [(1, (.c (.int .i64 (-1))))]⟩,
                   ⟨(some 142), none, .bslice 34 2 1 [(.int .i64 0), (.int .i64 0)] [(0, (.t 141))]⟩,
                   ⟨(some 143), none, .build [(.int .i64 0), (.int .i64 0)] [(0, 1), (1, 1)] [(1, (.c (.int .i64 65537)))]⟩,
                   ⟨(some 144), none, .bslice 34 2 1 [(.int .i64 0), (.int .i64 0)] [(0, (.t 143))]⟩,
                   ⟨(some 145), none, .mksl 34 2 16 [(.int .i64 0), (.int .i64 0)] (.c (.int .i64 9)) (.c (.int .i64 9))⟩,
                   ⟨(some 146), none, .bslice 22 1 5 [.nilslice] [(0, (.t 138)), (1, (.t 140)), (2, (.t 142)), (3, (.t 144)), (4, (.t 145))]⟩,
                   ⟨(some 15), none, .mv (.t 146)⟩])
                 (.seq
                  (.seq
                   (.ops [⟨(some 16), none, .mv (.c (.int .i64 0))⟩])
                   (.block 0 (.loop (.seq
                      (.seq
                       (.ops [⟨(some 147), none, .mv (.t 16)⟩,
                         ⟨(some 148), none, .mv (.t 15)⟩,
                         ⟨(some 149), none, .lenL (.t 148)⟩,
                         ⟨(some 150), none, .bin .lss (.t 147) (.t 149)⟩])
                       (.cond (.t 150)
                        (.skip)
                        (.exit 0)))
                      (.seq
                       (.block 1 (.seq
                         (.ops [⟨(some 154), none, .mv (.t 1)⟩,
                           ⟨(some 155), none, .mv (.t 15)⟩,
                           ⟨(some 156), none, .mv (.t 16)⟩,
                           ⟨(some 157), none, .iaddrS 1 (.t 155) (.t 156)⟩,
                           ⟨(some 158), none, .load none (.t 157)⟩,
                           ⟨(some 159), none, .call 11 [(.t 154), (.t 158)]⟩,
                           ⟨(some 153), none, .mv (.t 159)⟩,
                           ⟨(some 160), none, .ext (.t 153) 0⟩,
                           ⟨(some 161), none, .ext (.t 153) 1⟩,
                           ⟨(some 17), none, .mv (.t 160)⟩,
                           ⟨(some 18), none, .mv (.t 161)⟩])
                         (.seq
                          (.ops [⟨(some 162), none, .mv (.t 17)⟩,
                            ⟨(some 163), none, .eq true 30 (.pointer 58) (.t 162) (.c .nilptr)⟩,
                            ⟨(some 164), none, .mv (.t 163)⟩,
                            ⟨(some 165), (some (164, false)), .mv (.t 18)⟩,
                            ⟨(some 166), (some (164, false)), .bin .neq (.t 165) (.c (.int .i64 1))⟩,
                            ⟨(some 167), none, .pick (.t 164) (.c (.bool true)) (.t 166)⟩])
                          (.cond (.t 167)
                           (.seq
                            (.ops [⟨(some 0), none, .mv (.c (.bool false))⟩])
                            (.ret))
                           (.skip)))))
                       (.ops [⟨(some 151), none, .mv (.t 16)⟩,
                         ⟨(some 152), none, .bin .add (.t 151) (.c (.int .i64 1))⟩,
                         ⟨(some 16), none, .mv (.t 152)⟩]))))))
                  (.seq
                   (.ops [⟨(some 169), none, .call 11 [(.c .nilptr), (.c .nilslice)]⟩,
                     ⟨(some 168), none, .mv (.t 169)⟩,
                     ⟨(some 170), none, .ext (.t 168) 0⟩,
                     ⟨(some 171), none, .ext (.t 168) 1⟩,
                     ⟨(some 19), none, .mv (.t 170)⟩,
                     ⟨(some 4), none, .mv (.t 171)⟩])
                   (.seq
                    (.ops [⟨(some 173), none, .mv (.t 1)⟩,
                      ⟨(some 174), none, .build [(.int .i64 0), (.int .i64 0)] [(0, 1), (1, 1)] [(1, (.c (.int .i64 65536)))]⟩,
                      ⟨(some 175), none, .bslice 34 2 1 [(.int .i64 0), (.int .i64 0)] [(0, (.t 174))]⟩,
                      ⟨(some 176), none, .call 11 [(.t 173), (.t 175)]⟩,
                      ⟨(some 172), none, .mv (.t 176)⟩,
                      ⟨(some 177), none, .ext (.t 172) 0⟩,
                      ⟨(some 178), none, .ext (.t 172) 1⟩,
                      ⟨(some 20), none, .mv (.t 177)⟩,
                      ⟨(some 6), none, .mv (.t 178)⟩])
                    (.seq
                     (.ops [⟨(some 179), none, .mv (.t 11)⟩,
                       ⟨(some 180), none, .mv (.t 179)⟩,
                       ⟨(some 181), (some (180, true)), .mv (.t 14)⟩,
                       ⟨(some 182), none, .pick (.t 180) (.t 181) (.c (.bool false))⟩,
                       ⟨(some 183), none, .mv (.t 182)⟩,
                       ⟨(some 184), (some (183, true)), .mv (.t 19)⟩,
                       ⟨(some 185), (some (183, true)), .eq false 30 (.pointer 58) (.t 184) (.c .nilptr)⟩,
                       ⟨(some 186), none, .pick (.t 183) (.t 185) (.c (.bool false))⟩,
                       ⟨(some 187), none, .mv (.t 186)⟩,
                       ⟨(some 188), (some (187, true)), .mv (.t 4)⟩,
                       ⟨(some 189), (some (187, true)), .bin .eql (.t 188) (.c (.int .i64 2))⟩,
                       ⟨(some 190), none, .pick (.t 187) (.t 189) (.c (.bool false))⟩,
                       ⟨(some 191), none, .mv (.t 190)⟩,
                       ⟨(some 192), (some (191, true)), .mv (.t 6)⟩,
                       ⟨(some 193), (some (191, true)), .bin .eql (.t 192) (.c (.int .i64 0))⟩,
                       ⟨(some 194), none, .pick (.t 191) (.t 193) (.c (.bool false))⟩,
                       ⟨(some 195), none, .mv (.t 194)⟩,
                       ⟨(some 196), (some (195, true)), .mv (.t 20)⟩,
                       ⟨(some 197), (some (195, true)), .eq true 30 (.pointer 58) (.t 196) (.c .nilptr)⟩,
                       ⟨(some 198), none, .pick (.t 195) (.t 197) (.c (.bool false))⟩,
                       ⟨(some 199), none, .mv (.t 198)⟩,
                       ⟨(some 200), (some (199, true)), .call 9 []⟩,
                       ⟨(some 201), none, .pick (.t 199) (.t 200) (.c (.bool false))⟩,
                       ⟨(some 0), none, .mv (.t 201)⟩])
                     (.ret)))))))))))))))))))⟩
theorem ok7 : FnOk Tryd.prog 7 a7 := FnOk.of Tryd.prog Tryd.func7 (by kernel_rfl)
/-- jalousie/jalousielaw24.Great -/
def a8 : AFn := ⟨20, [.tmp 2], .seq
   (.ops [⟨(some 2), none, .mv (.c (.bool false))⟩])
   (.seq
    (.seq
     (.ops [⟨(some 4), none, .mv (.t 0)⟩,
       ⟨(some 5), none, .lenL (.t 4)⟩,
       ⟨(some 6), none, .bin .gtr (.t 5) (.c (.int .i64 120))⟩])
     (.cond (.t 6)
      (.seq
       (.ops [⟨(some 2), none, .mv (.c (.bool true))⟩])
       (.ret))
      (.skip)))
    (.seq
     (.seq
      (.ops [⟨(some 3), none, .mv (.c (.int .i64 0))⟩])
      (.block 0 (.loop (.seq
         (.seq
          (.ops [⟨(some 7), none, .mv (.t 3)⟩,
            ⟨(some 8), none, .mv (.t 0)⟩,
            ⟨(some 9), none, .lenL (.t 8)⟩,
            ⟨(some 10), none, .bin .lss (.t 7) (.t 9)⟩])
          (.cond (.t 10)
           (.skip)
           (.exit 0)))
         (.seq
          (.block 1 (.seq
            (.ops [⟨(some 13), none, .mv (.t 0)⟩,
              ⟨(some 14), none, .mv (.t 3)⟩,
              ⟨(some 15), none, .iaddrS 3 (.t 13) (.t 14)⟩,
              ⟨(some 16), none, .addr 2 (.t 15)⟩,
              ⟨(some 17), none, .load none (.t 16)⟩,
              ⟨(some 18), none, .lenS (.t 17)⟩,
              ⟨(some 19), none, .bin .gtr (.t 18) (.c (.int .i64 100))⟩])
            (.cond (.t 19)
             (.seq
              (.ops [⟨(some 2), none, .mv (.c (.bool true))⟩])
              (.ret))
             (.skip))))
          (.ops [⟨(some 11), none, .mv (.t 3)⟩,
            ⟨(some 12), none, .bin .add (.t 11) (.c (.int .i64 1))⟩,
            ⟨(some 3), none, .mv (.t 12)⟩]))))))
     (.seq
      (.ops [⟨(some 2), none, .mv (.c (.bool false))⟩])
      (.ret))))⟩
theorem ok8 : FnOk Tryd.prog 8 a8 := FnOk.of Tryd.prog Tryd.func8 (by kernel_rfl)
/-- jalousie/jalousielaw24.wakes -/
def a9 : AFn := ⟨87, [.tmp 0], .seq
   (.ops [⟨(some 0), none, .mv (.c (.bool false))⟩])
   (.seq
    (.ops [⟨(some 14), none, .call 19 []⟩,
      ⟨(some 13), none, .mv (.t 14)⟩,
      ⟨(some 15), none, .ext (.t 13) 0⟩,
      ⟨(some 16), none, .ext (.t 13) 1⟩,
      ⟨(some 1), none, .mv (.t 15)⟩,
      ⟨(some 2), none, .mv (.t 16)⟩])
    (.seq
     (.seq
      (.ops [⟨(some 17), none, .mv (.t 2)⟩,
        ⟨(some 18), none, .un .not (.t 17)⟩])
      (.cond (.t 18)
       (.seq
        (.ops [⟨(some 0), none, .mv (.c (.bool false))⟩])
        (.ret))
       (.skip)))
     (.seq
      (.ops [⟨(some 20), none, .mv (.t 1)⟩,
        ⟨(some 21), none, .build [(.int .i64 0), (.int .i64 0)] [(0, 1), (1, 1)] [(0, (.c (.int .i64 1))), (1, (.c (.int .i64 3)))]⟩,
        ⟨(some 22), none, .build [(.int .i64 0), (.int .i64 0)] [(0, 1), (1, 1)] [(1, (.c (.int .i64 9)))]⟩,
        ⟨(some 23), none, .bslice 34 2 2 [(.int .i64 0), (.int .i64 0)] [(0, (.t 21)), (1, (.t 22))]⟩,
        ⟨(some 24), none, .call 11 [(.t 20), (.t 23)]⟩,
        ⟨(some 19), none, .mv (.t 24)⟩,
        ⟨(some 25), none, .ext (.t 19) 0⟩,
        ⟨(some 26), none, .ext (.t 19) 1⟩,
        ⟨(some 3), none, .mv (.t 25)⟩,
        ⟨(some 4), none, .mv (.t 26)⟩])
      (.seq
       (.seq
        (.ops [⟨(some 27), none, .mv (.t 4)⟩,
          ⟨(some 28), none, .bin .neq (.t 27) (.c (.int .i64 0))⟩,
          ⟨(some 29), none, .mv (.t 28)⟩,
          ⟨(some 30), (some (29, false)), .mv (.t 3)⟩,
          ⟨(some 31), (some (29, false)), .eq false 30 (.pointer 58) (.t 30) (.c .nilptr)⟩,
          ⟨(some 32), none, .pick (.t 29) (.c (.bool true)) (.t 31)⟩])
        (.cond (.t 32)
         (.seq
          (.ops [⟨(some 0), none, .mv (.c (.bool false))⟩])
          (.ret))
         (.skip)))
       (.seq
        (.ops [⟨(some 34), none, .mv (.t 3)⟩,
          ⟨(some 35), none, .call 16 [(.t 34), (.c (.int .i64 0)), (.c (.int .i64 0)), (.c (.str [97, 98]))]⟩,
          ⟨(some 33), none, .mv (.t 35)⟩,
          ⟨(some 36), none, .ext (.t 33) 0⟩,
          ⟨(some 37), none, .ext (.t 33) 1⟩,
          ⟨(some 5), none, .mv (.t 36)⟩,
          ⟨(some 6), none, .mv (.t 37)⟩])
        (.seq
         (.ops [⟨(some 39), none, .mv (.t 3)⟩,
           ⟨(some 40), none, .call 16 [(.t 39), (.c (.int .i64 0)), (.c (.int .i64 1)), (.c (.str [99, 100]))]⟩,
           ⟨(some 38), none, .mv (.t 40)⟩,
           ⟨(some 41), none, .ext (.t 38) 0⟩,
           ⟨(some 42), none, .ext (.t 38) 1⟩,
           ⟨(some 7), none, .mv (.t 41)⟩,
           ⟨(some 8), none, .mv (.t 42)⟩])
         (.seq
          (.ops [⟨(some 44), none, .mv (.t 3)⟩,
            ⟨(some 45), none, .call 16 [(.t 44), (.c (.int .i64 0)), (.c (.int .i64 0)), (.c (.str [101, 102]))]⟩,
            ⟨(some 43), none, .mv (.t 45)⟩,
            ⟨(some 46), none, .ext (.t 43) 0⟩,
            ⟨(some 47), none, .ext (.t 43) 1⟩,
            ⟨(some 9), none, .mv (.t 46)⟩,
            ⟨(some 10), none, .mv (.t 47)⟩])
          (.seq
           (.ops [⟨(some 49), none, .mv (.t 3)⟩,
             ⟨(some 50), none, .call 16 [(.t 49), (.c (.int .i64 1)), (.c (.int .i64 1)), (.c (.str [120]))]⟩,
             ⟨(some 48), none, .mv (.t 50)⟩,
             ⟨(some 51), none, .ext (.t 48) 0⟩,
             ⟨(some 52), none, .ext (.t 48) 1⟩,
             ⟨(some 11), none, .mv (.t 51)⟩,
             ⟨(some 12), none, .mv (.t 52)⟩])
           (.seq
            (.ops [⟨(some 53), none, .mv (.t 5)⟩,
              ⟨(some 54), none, .bin .eql (.t 53) (.c (.int .i64 2))⟩,
              ⟨(some 55), none, .mv (.t 54)⟩,
              ⟨(some 56), (some (55, true)), .mv (.t 7)⟩,
              ⟨(some 57), (some (55, true)), .bin .eql (.t 56) (.c (.int .i64 2))⟩,
              ⟨(some 58), none, .pick (.t 55) (.t 57) (.c (.bool false))⟩,
              ⟨(some 59), none, .mv (.t 58)⟩,
              ⟨(some 60), (some (59, true)), .mv (.t 9)⟩,
              ⟨(some 61), (some (59, true)), .bin .eql (.t 60) (.c (.int .i64 1))⟩,
              ⟨(some 62), none, .pick (.t 59) (.t 61) (.c (.bool false))⟩,
              ⟨(some 63), none, .mv (.t 62)⟩,
              ⟨(some 64), (some (63, true)), .mv (.t 3)⟩,
              ⟨(some 65), (some (63, true)), .call 18 [(.t 64), (.c (.int .i64 0))]⟩,
              ⟨(some 66), (some (63, true)), .bin .eql (.t 65) (.c (.str [97, 98, 99, 100, 101]))⟩,
              ⟨(some 67), none, .pick (.t 63) (.t 66) (.c (.bool false))⟩,
              ⟨(some 68), none, .mv (.t 67)⟩,
              ⟨(some 69), (some (68, true)), .mv (.t 3)⟩,
              ⟨(some 70), (some (68, true)), .call 17 [(.t 69), (.c (.int .i64 0)), (.c (.int .i64 0))]⟩,
              ⟨(some 71), (some (68, true)), .bin .eql (.t 70) (.c (.int .i64 0))⟩,
              ⟨(some 72), none, .pick (.t 68) (.t 71) (.c (.bool false))⟩,
              ⟨(some 73), none, .mv (.t 72)⟩,
              ⟨(some 74), (some (73, true)), .mv (.t 3)⟩,
              ⟨(some 75), (some (73, true)), .call 17 [(.t 74), (.c (.int .i64 0)), (.c (.int .i64 1))]⟩,
              ⟨(some 76), (some (73, true)), .bin .eql (.t 75) (.c (.int .i64 1))⟩,
              ⟨(some 77), none, .pick (.t 73) (.t 76) (.c (.bool false))⟩,
              ⟨(some 78), none, .mv (.t 77)⟩,
              ⟨(some 79), (some (78, true)), .mv (.t 12)⟩,
              ⟨(some 80), (some (78, true)), .bin .eql (.t 79) (.c (.int .i64 7))⟩,
              ⟨(some 81), none, .pick (.t 78) (.t 80) (.c (.bool false))⟩,
              ⟨(some 82), none, .mv (.t 81)⟩,
              ⟨(some 83), (some (82, true)), .mv (.t 3)⟩,
              ⟨(some 84), (some (82, true)), .call 13 [(.t 83)]⟩,
              ⟨(some 85), (some (82, true)), .bin .eql (.t 84) (.c (.int .i64 2))⟩,
              ⟨(some 86), none, .pick (.t 82) (.t 85) (.c (.bool false))⟩,
              ⟨(some 0), none, .mv (.t 86)⟩])
            (.ret))))))))))⟩
theorem ok9 : FnOk Tryd.prog 9 a9 := FnOk.of Tryd.prog Tryd.func9 (by kernel_rfl)
/-- jalousie/lattice.Rank -/
def a10 : AFn := ⟨75, [.tmp 4, .tmp 5], .seq
   (.ops [⟨(some 4), none, .mv (.c .nilptr)⟩,
     ⟨(some 5), none, .mv (.c (.int .i64 0))⟩])
   (.seq
    (.seq
     (.ops [⟨(some 10), none, .mv (.t 0)⟩,
       ⟨(some 11), none, .bin .lss (.t 10) (.c (.int .i64 1))⟩,
       ⟨(some 12), none, .mv (.t 11)⟩,
       ⟨(some 13), (some (12, false)), .mv (.t 0)⟩,
       ⟨(some 14), (some (12, false)), .bin .gtr (.t 13) (.c (.int .i64 64))⟩,
       ⟨(some 15), none, .pick (.t 12) (.c (.bool true)) (.t 14)⟩,
       ⟨(some 16), none, .mv (.t 15)⟩,
       ⟨(some 17), (some (16, false)), .mv (.t 1)⟩,
       ⟨(some 18), (some (16, false)), .bin .lss (.t 17) (.c (.int .i64 0))⟩,
       ⟨(some 19), none, .pick (.t 16) (.c (.bool true)) (.t 18)⟩,
       ⟨(some 20), none, .mv (.t 19)⟩,
       ⟨(some 21), (some (20, false)), .mv (.t 1)⟩,
       ⟨(some 22), (some (20, false)), .bin .gtr (.t 21) (.c (.int .i64 6))⟩,
       ⟨(some 23), none, .pick (.t 20) (.c (.bool true)) (.t 22)⟩,
       ⟨(some 24), none, .mv (.t 23)⟩,
       ⟨(some 25), (some (24, false)), .mv (.t 0)⟩,
       ⟨(some 26), (some (24, false)), .mv (.t 1)⟩,
       ⟨(some 27), (some (24, false)), .bin .shl (.t 25) (.t 26)⟩,
       ⟨(some 28), (some (24, false)), .bin .gtr (.t 27) (.c (.int .i64 64))⟩,
       ⟨(some 29), none, .pick (.t 24) (.c (.bool true)) (.t 28)⟩])
     (.cond (.t 29)
      (.seq
       (.ops [⟨(some 4), none, .mv (.c .nilptr)⟩,
         ⟨(some 5), none, .mv (.c (.int .i64 1))⟩])
       (.ret))
      (.skip)))
    (.seq
     (.ops [⟨(some 30), none, .mv (.t 0)⟩,
       ⟨(some 31), none, .mv (.t 1)⟩,
       ⟨(some 32), none, .bin .shl (.t 30) (.t 31)⟩,
       ⟨(some 6), none, .mv (.t 32)⟩])
     (.seq
      (.ops [⟨(some 33), none, .mv (.t 6)⟩,
        ⟨(some 34), none, .mksl 54 1 24 [.nilslice] (.t 33) (.t 33)⟩,
        ⟨(some 7), none, .mv (.t 34)⟩])
      (.seq
       (.seq
        (.ops [⟨(some 35), none, .mv (.t 6)⟩,
          ⟨(some 36), none, .mv (.c (.int .i64 0))⟩])
        (.block 0 (.loop (.seq
           (.ops [⟨(some 37), none, .bin .lss (.t 36) (.t 35)⟩])
           (.seq
            (.cond (.t 37)
             (.skip)
             (.exit 0))
            (.seq
             (.block 1 (.seq
               (.ops [⟨(some 38), none, .mv (.t 36)⟩,
                 ⟨(some 8), none, .mv (.t 38)⟩])
               (.seq
                (.ops [⟨(some 39), none, .mv (.t 6)⟩,
                  ⟨(some 40), none, .mv (.c (.int .i64 0))⟩])
                (.block 2 (.loop (.seq
                   (.ops [⟨(some 41), none, .bin .lss (.t 40) (.t 39)⟩])
                   (.seq
                    (.cond (.t 41)
                     (.skip)
                     (.exit 2))
                    (.seq
                     (.block 3 (.seq
                       (.ops [⟨(some 42), none, .mv (.t 40)⟩,
                         ⟨(some 9), none, .mv (.t 42)⟩])
                       (.draw [⟨⟨(some 43), none, .mv (.t 7)⟩, []⟩,
                         ⟨⟨(some 44), none, .mv (.t 8)⟩, []⟩,
                         ⟨⟨(some 45), none, .mv (.t 7)⟩, []⟩,
                         ⟨⟨(some 46), none, .mv (.t 8)⟩, []⟩,
                         ⟨⟨(some 47), none, .iaddrS 1 (.t 45) (.t 46)⟩, [2, 3]⟩,
                         ⟨⟨(some 48), none, .load none (.t 47)⟩, [4]⟩,
                         ⟨⟨(some 49), none, .mv (.t 8)⟩, []⟩,
                         ⟨⟨(some 50), none, .mv (.t 0)⟩, []⟩,
                         ⟨⟨(some 51), none, .bin .rem (.t 49) (.t 50)⟩, [6, 7]⟩,
                         ⟨⟨(some 52), none, .mv (.t 9)⟩, []⟩,
                         ⟨⟨(some 53), none, .mv (.t 0)⟩, []⟩,
                         ⟨⟨(some 54), none, .bin .rem (.t 52) (.t 53)⟩, [9, 10]⟩,
                         ⟨⟨(some 55), none, .bin .leq (.t 51) (.t 54)⟩, [8, 11]⟩,
                         ⟨⟨(some 56), none, .mv (.t 55)⟩, [12]⟩,
                         ⟨⟨(some 57), (some (56, true)), .mv (.t 8)⟩, [13]⟩,
                         ⟨⟨(some 58), (some (56, true)), .mv (.t 0)⟩, [13]⟩,
                         ⟨⟨(some 59), (some (56, true)), .bin .quo (.t 57) (.t 58)⟩, [14, 15, 13]⟩,
                         ⟨⟨(some 60), (some (56, true)), .mv (.t 9)⟩, [13]⟩,
                         ⟨⟨(some 61), (some (56, true)), .mv (.t 0)⟩, [13]⟩,
                         ⟨⟨(some 62), (some (56, true)), .bin .quo (.t 60) (.t 61)⟩, [17, 18, 13]⟩,
                         ⟨⟨(some 63), (some (56, true)), .bin .andNot (.t 59) (.t 62)⟩, [16, 19, 13]⟩,
                         ⟨⟨(some 64), (some (56, true)), .bin .eql (.t 63) (.c (.int .i64 0))⟩, [20, 13]⟩,
                         ⟨⟨(some 65), none, .pick (.t 56) (.t 64) (.c (.bool false))⟩, [13, 21]⟩,
                         ⟨⟨(some 66), none, .bslice 4 1 1 [(.bool false)] [(0, (.t 65))]⟩, [22]⟩,
                         ⟨⟨(some 67), none, .append 4 1 1 (.t 48) (.t 66)⟩, [5, 23, 13]⟩,
                         ⟨⟨(some 68), none, .iaddrS 1 (.t 43) (.t 44)⟩, [0, 1, 0, 1, 2, 3, 4, 5, 6, 7, 8, 9, 10, 11, 12, 13, 14, 15, 16, 17, 18, 19, 20, 21, 22, 23, 24]⟩,
                         ⟨⟨none, none, .store 1 (.t 68) (.t 67)⟩, [25, 24, 24, 0, 1, 2, 3, 4, 5, 6, 7, 8, 9, 10, 11, 12, 13, 14, 15, 16, 17, 18, 19, 20, 21, 22, 23, 24]⟩] [0, 0, 0, 0, 12, 28, 0, 0, 192, 0, 0, 1536, 4032, 8128, 16320, 16320, 65472, 16320, 16320, 409536, 1048512, 2097088, 4194240, 8388544, 16777212, 33554431, 67108863])))
                     (.ops [⟨(some 69), none, .bin .add (.t 40) (.c (.int .i64 1))⟩,
                       ⟨(some 40), none, .mv (.t 69)⟩])))))))))
             (.ops [⟨(some 70), none, .bin .add (.t 36) (.c (.int .i64 1))⟩,
               ⟨(some 36), none, .mv (.t 70)⟩])))))))
       (.seq
        (.ops [⟨(some 71), none, .mv (.t 7)⟩,
          ⟨(some 72), none, .call 20 [(.t 71)]⟩,
          ⟨(some 73), none, .ext (.t 72) 0⟩,
          ⟨(some 74), none, .ext (.t 72) 1⟩,
          ⟨(some 4), none, .mv (.t 73)⟩,
          ⟨(some 5), none, .mv (.t 74)⟩])
        (.ret))))))⟩
theorem ok10 : FnOk Tryd.prog 10 a10 := FnOk.of Tryd.prog Tryd.func10 (by kernel_rfl)
/-- jalousie/sinks.New -/
def a11 : AFn := ⟨57, [.tmp 4, .tmp 5], .seq
   (.ops [⟨(some 4), none, .mv (.c .nilptr)⟩,
     ⟨(some 5), none, .mv (.c (.int .i64 0))⟩])
   (.seq
    (.seq
     (.ops [⟨(some 9), none, .mv (.t 0)⟩,
       ⟨(some 10), none, .eq false 26 (.pointer 78) (.t 9) (.c .nilptr)⟩])
     (.cond (.t 10)
      (.seq
       (.ops [⟨(some 4), none, .mv (.c .nilptr)⟩,
         ⟨(some 5), none, .mv (.c (.int .i64 2))⟩])
       (.ret))
      (.skip)))
    (.seq
     (.seq
      (.ops [⟨(some 11), none, .mv (.t 1)⟩,
        ⟨(some 12), none, .lenL (.t 11)⟩,
        ⟨(some 13), none, .bin .gtr (.t 12) (.c (.int .i64 8))⟩])
      (.cond (.t 13)
       (.seq
        (.ops [⟨(some 4), none, .mv (.c .nilptr)⟩,
          ⟨(some 5), none, .mv (.c (.int .i64 1))⟩])
        (.ret))
       (.skip)))
     (.seq
      (.ops [⟨(some 14), none, .mv (.t 0)⟩,
        ⟨(some 15), none, .build [.nilptr, .nilslice] [(0, 1), (1, 1)] [(0, (.t 14))]⟩,
        ⟨(some 16), none, .box 58 (.t 15)⟩,
        ⟨(some 6), none, .mv (.t 16)⟩])
      (.seq
       (.seq
        (.ops [⟨(some 17), none, .mv (.t 1)⟩,
          ⟨(some 18), none, .lenL (.t 17)⟩,
          ⟨(some 19), none, .mv (.c (.int .i64 0))⟩])
        (.block 0 (.loop (.seq
           (.ops [⟨(some 20), none, .bin .lss (.t 19) (.t 18)⟩])
           (.seq
            (.cond (.t 20)
             (.skip)
             (.exit 0))
            (.seq
             (.block 1 (.seq
               (.ops [⟨(some 21), none, .iaddrS 2 (.t 17) (.t 19)⟩,
                 ⟨(some 22), none, .load (some 2) (.t 21)⟩,
                 ⟨(some 8), none, .alloc 34 [(.int .i64 0), (.int .i64 0)]⟩,
                 ⟨none, none, .store 2 (.t 8) (.t 22)⟩])
               (.seq
                (.seq
                 (.draw [⟨⟨(some 23), none, .addr 0 (.t 8)⟩, []⟩,
                   ⟨⟨(some 24), none, .load none (.t 23)⟩, [0]⟩,
                   ⟨⟨(some 25), none, .bin .lss (.t 24) (.c (.int .i64 0))⟩, [1]⟩,
                   ⟨⟨(some 26), none, .mv (.t 25)⟩, [2]⟩,
                   ⟨⟨(some 27), (some (26, false)), .addr 0 (.t 8)⟩, [3]⟩,
                   ⟨⟨(some 28), (some (26, false)), .load none (.t 27)⟩, [4, 3]⟩,
                   ⟨⟨(some 29), (some (26, false)), .mv (.t 0)⟩, [3]⟩,
                   ⟨⟨(some 30), (some (26, false)), .call 12 [(.t 29)]⟩, [6, 3, 3]⟩,
                   ⟨⟨(some 31), (some (26, false)), .bin .geq (.t 28) (.t 30)⟩, [5, 7, 3]⟩,
                   ⟨⟨(some 32), none, .pick (.t 26) (.c (.bool true)) (.t 31)⟩, [3, 8]⟩,
                   ⟨⟨(some 33), none, .mv (.t 32)⟩, [9, 7]⟩,
                   ⟨⟨(some 34), (some (33, false)), .addr 1 (.t 8)⟩, [10]⟩,
                   ⟨⟨(some 35), (some (33, false)), .load none (.t 34)⟩, [11, 10]⟩,
                   ⟨⟨(some 36), (some (33, false)), .bin .lss (.t 35) (.c (.int .i64 0))⟩, [12, 10]⟩,
                   ⟨⟨(some 37), none, .pick (.t 33) (.c (.bool true)) (.t 36)⟩, [10, 13]⟩,
                   ⟨⟨(some 38), none, .mv (.t 37)⟩, [14, 10]⟩,
                   ⟨⟨(some 39), (some (38, false)), .addr 1 (.t 8)⟩, [15]⟩,
                   ⟨⟨(some 40), (some (38, false)), .load none (.t 39)⟩, [16, 15]⟩,
                   ⟨⟨(some 41), (some (38, false)), .bin .gtr (.t 40) (.c (.int .i64 65536))⟩, [17, 15]⟩,
                   ⟨⟨(some 42), none, .pick (.t 38) (.c (.bool true)) (.t 41)⟩, [15, 18]⟩] [0, 1, 3, 7, 15, 31, 15, 79, 255, 511, 1023, 2047, 4095, 8191, 16383, 32767, 65535, 131071, 262143, 524287])
                 (.cond (.t 42)
                  (.seq
                   (.ops [⟨(some 4), none, .mv (.c .nilptr)⟩,
                     ⟨(some 5), none, .mv (.c (.int .i64 1))⟩])
                   (.ret))
                  (.skip)))
                (.draw [⟨⟨(some 43), none, .mv (.t 6)⟩, []⟩,
                  ⟨⟨(some 44), none, .mv (.t 6)⟩, []⟩,
                  ⟨⟨(some 45), none, .nilck (.t 44)⟩, [1]⟩,
                  ⟨⟨(some 46), none, .addr 1 (.t 45)⟩, [2]⟩,
                  ⟨⟨(some 47), none, .load none (.t 46)⟩, [3]⟩,
                  ⟨⟨(some 48), none, .load (some 2) (.t 8)⟩, []⟩,
                  ⟨⟨(some 49), none, .mkmap⟩, []⟩,
                  ⟨⟨(some 50), none, .build [(.int .i64 0), (.int .i64 0), .nilslice, .nilmap] [(0, 2), (2, 1), (3, 1)] [(0, (.t 48)), (2, (.t 49))]⟩, [5, 6]⟩,
                  ⟨⟨(some 51), none, .bslice 62 4 1 [(.int .i64 0), (.int .i64 0), .nilslice, .nilmap] [(0, (.t 50))]⟩, [7]⟩,
                  ⟨⟨(some 52), none, .append 62 4 48 (.t 47) (.t 51)⟩, [4, 8]⟩,
                  ⟨⟨(some 53), none, .nilck (.t 43)⟩, [0, 0, 1, 2, 3, 4, 5, 6, 7, 8, 9]⟩,
                  ⟨⟨(some 54), none, .addr 1 (.t 53)⟩, [10, 0, 1, 2, 3, 4, 5, 6, 7, 8, 9]⟩,
                  ⟨⟨none, none, .store 1 (.t 54) (.t 52)⟩, [11, 9, 9, 0, 1, 2, 3, 4, 5, 6, 7, 8, 9]⟩] [0, 0, 2, 6, 14, 0, 0, 96, 224, 510, 1023, 2047, 4095]))))
             (.ops [⟨(some 55), none, .bin .add (.t 19) (.c (.int .i64 1))⟩,
               ⟨(some 19), none, .mv (.t 55)⟩])))))))
       (.seq
        (.ops [⟨(some 56), none, .mv (.t 6)⟩,
          ⟨(some 4), none, .mv (.t 56)⟩,
          ⟨(some 5), none, .mv (.c (.int .i64 0))⟩])
        (.ret))))))⟩
theorem ok11 : FnOk Tryd.prog 11 a11 := FnOk.of Tryd.prog Tryd.func11 (by kernel_rfl)
/-- (*jalousie/lattice.Lattice).Len -/
def a12 : AFn := ⟨10, [.tmp 2], .seq
   (.ops [⟨(some 2), none, .mv (.c (.int .i64 0))⟩])
   (.seq
    (.seq
     (.ops [⟨(some 3), none, .mv (.t 0)⟩,
       ⟨(some 4), none, .eq false 26 (.pointer 78) (.t 3) (.c .nilptr)⟩])
     (.cond (.t 4)
      (.seq
       (.ops [⟨(some 2), none, .mv (.c (.int .i64 0))⟩])
       (.ret))
      (.skip)))
    (.seq
     (.ops [⟨(some 5), none, .mv (.t 0)⟩,
       ⟨(some 6), none, .nilck (.t 5)⟩,
       ⟨(some 7), none, .addr 0 (.t 6)⟩,
       ⟨(some 8), none, .load none (.t 7)⟩,
       ⟨(some 9), none, .lenL (.t 8)⟩,
       ⟨(some 2), none, .mv (.t 9)⟩])
     (.ret)))⟩
theorem ok12 : FnOk Tryd.prog 12 a12 := FnOk.of Tryd.prog Tryd.func12 (by kernel_rfl)
/-- (*jalousie/sinks.Sinks).Len -/
def a13 : AFn := ⟨10, [.tmp 2], .seq
   (.ops [⟨(some 2), none, .mv (.c (.int .i64 0))⟩])
   (.seq
    (.seq
     (.ops [⟨(some 3), none, .mv (.t 0)⟩,
       ⟨(some 4), none, .call 21 [(.t 3)]⟩])
     (.cond (.t 4)
      (.seq
       (.ops [⟨(some 2), none, .mv (.c (.int .i64 0))⟩])
       (.ret))
      (.skip)))
    (.seq
     (.ops [⟨(some 5), none, .mv (.t 0)⟩,
       ⟨(some 6), none, .nilck (.t 5)⟩,
       ⟨(some 7), none, .addr 1 (.t 6)⟩,
       ⟨(some 8), none, .load none (.t 7)⟩,
       ⟨(some 9), none, .lenL (.t 8)⟩,
       ⟨(some 2), none, .mv (.t 9)⟩])
     (.ret)))⟩
theorem ok13 : FnOk Tryd.prog 13 a13 := FnOk.of Tryd.prog Tryd.func13 (by kernel_rfl)
/-- (*jalousie/lattice.Lattice).Below -/
def a14 : AFn := ⟨28, [.tmp 6], .seq
   (.ops [⟨(some 6), none, .mv (.c (.bool false))⟩])
   (.seq
    (.ops [⟨(some 7), none, .mv (.t 0)⟩,
      ⟨(some 8), none, .mv (.t 1)⟩,
      ⟨(some 9), none, .call 22 [(.t 7), (.t 8)]⟩,
      ⟨(some 10), none, .mv (.t 9)⟩,
      ⟨(some 11), (some (10, true)), .mv (.t 0)⟩,
      ⟨(some 12), (some (10, true)), .mv (.t 2)⟩,
      ⟨(some 13), (some (10, true)), .call 22 [(.t 11), (.t 12)]⟩,
      ⟨(some 14), none, .pick (.t 10) (.t 13) (.c (.bool false))⟩,
      ⟨(some 15), none, .mv (.t 14)⟩,
      ⟨(some 16), (some (15, true)), .mv (.t 0)⟩,
      ⟨(some 17), (some (15, true)), .nilck (.t 16)⟩,
      ⟨(some 18), (some (15, true)), .addr 0 (.t 17)⟩,
      ⟨(some 19), (some (15, true)), .load none (.t 18)⟩,
      ⟨(some 20), (some (15, true)), .mv (.t 1)⟩,
      ⟨(some 21), (some (15, true)), .iaddrS 1 (.t 19) (.t 20)⟩,
      ⟨(some 22), (some (15, true)), .load none (.t 21)⟩,
      ⟨(some 23), (some (15, true)), .mv (.t 2)⟩,
      ⟨(some 24), (some (15, true)), .bin .shr (.t 22) (.t 23)⟩,
      ⟨(some 25), (some (15, true)), .bin .and (.t 24) (.c (.int .u64 1))⟩,
      ⟨(some 26), (some (15, true)), .bin .eql (.t 25) (.c (.int .u64 1))⟩,
      ⟨(some 27), none, .pick (.t 15) (.t 26) (.c (.bool false))⟩,
      ⟨(some 6), none, .mv (.t 27)⟩])
    (.ret))⟩
theorem ok14 : FnOk Tryd.prog 14 a14 := FnOk.of Tryd.prog Tryd.func14 (by kernel_rfl)
/-- (*jalousie/sinks.Sinks).May -/
def a15 : AFn := ⟨44, [.tmp 6], .seq
   (.ops [⟨(some 6), none, .mv (.c (.int .i64 0))⟩])
   (.seq
    (.block 0 (.seq
      (.ops [⟨(some 8), none, .mv (.t 0)⟩,
        ⟨(some 9), none, .call 21 [(.t 8)]⟩,
        ⟨(some 7), none, .mv (.t 9)⟩])
      (.cond (.t 7)
       (.seq
        (.ops [⟨(some 6), none, .mv (.c (.int .i64 2))⟩])
        (.ret))
       (.seq
        (.ops [⟨(some 11), none, .mv (.t 0)⟩,
          ⟨(some 12), none, .mv (.t 1)⟩,
          ⟨(some 13), none, .call 23 [(.t 11), (.t 12)]⟩,
          ⟨(some 14), none, .un .not (.t 13)⟩,
          ⟨(some 10), none, .mv (.t 14)⟩])
        (.cond (.t 10)
         (.seq
          (.ops [⟨(some 6), none, .mv (.c (.int .i64 4))⟩])
          (.ret))
         (.seq
          (.ops [⟨(some 16), none, .mv (.t 2)⟩,
            ⟨(some 17), none, .bin .lss (.t 16) (.c (.int .i64 0))⟩,
            ⟨(some 18), none, .mv (.t 17)⟩,
            ⟨(some 19), (some (18, false)), .mv (.t 2)⟩,
            ⟨(some 20), (some (18, false)), .mv (.t 0)⟩,
            ⟨(some 21), (some (18, false)), .nilck (.t 20)⟩,
            ⟨(some 22), (some (18, false)), .addr 0 (.t 21)⟩,
            ⟨(some 23), (some (18, false)), .load none (.t 22)⟩,
            ⟨(some 24), (some (18, false)), .call 12 [(.t 23)]⟩,
            ⟨(some 25), (some (18, false)), .bin .geq (.t 19) (.t 24)⟩,
            ⟨(some 26), none, .pick (.t 18) (.c (.bool true)) (.t 25)⟩,
            ⟨(some 15), none, .mv (.t 26)⟩])
          (.cond (.t 15)
           (.seq
            (.ops [⟨(some 6), none, .mv (.c (.int .i64 1))⟩])
            (.ret))
           (.seq
            (.draw [⟨⟨(some 28), none, .mv (.t 0)⟩, []⟩,
              ⟨⟨(some 29), none, .nilck (.t 28)⟩, [0]⟩,
              ⟨⟨(some 30), none, .addr 0 (.t 29)⟩, [1]⟩,
              ⟨⟨(some 31), none, .load none (.t 30)⟩, [2]⟩,
              ⟨⟨(some 32), none, .mv (.t 2)⟩, []⟩,
              ⟨⟨(some 33), none, .mv (.t 0)⟩, []⟩,
              ⟨⟨(some 34), none, .nilck (.t 33)⟩, [5]⟩,
              ⟨⟨(some 35), none, .addr 1 (.t 34)⟩, [6]⟩,
              ⟨⟨(some 36), none, .load none (.t 35)⟩, [7]⟩,
              ⟨⟨(some 37), none, .mv (.t 1)⟩, []⟩,
              ⟨⟨(some 38), none, .iaddrS 4 (.t 36) (.t 37)⟩, [8, 9]⟩,
              ⟨⟨(some 39), none, .addr 0 (.t 38)⟩, [10]⟩,
              ⟨⟨(some 40), none, .addr 0 (.t 39)⟩, [11]⟩,
              ⟨⟨(some 41), none, .load none (.t 40)⟩, [12]⟩,
              ⟨⟨(some 42), none, .call 14 [(.t 31), (.t 32), (.t 41)]⟩, [3, 4, 13]⟩,
              ⟨⟨(some 43), none, .un .not (.t 42)⟩, [14]⟩,
              ⟨⟨(some 27), none, .mv (.t 43)⟩, [15, 14]⟩] [0, 1, 3, 7, 0, 0, 32, 96, 224, 0, 992, 2016, 4064, 8160, 16383, 32767, 65535])
            (.cond (.t 27)
             (.seq
              (.ops [⟨(some 6), none, .mv (.c (.int .i64 7))⟩])
              (.ret))
             (.skip))))))))))
    (.seq
     (.ops [⟨(some 6), none, .mv (.c (.int .i64 0))⟩])
     (.ret)))⟩
theorem ok15 : FnOk Tryd.prog 15 a15 := FnOk.of Tryd.prog Tryd.func15 (by kernel_rfl)
/-- (*jalousie/sinks.Sinks).Write -/
def a16 : AFn := ⟨52, [.tmp 8, .tmp 9], .seq
   (.ops [⟨(some 8), none, .mv (.c (.int .i64 0))⟩,
     ⟨(some 9), none, .mv (.c (.int .i64 0))⟩])
   (.seq
    (.seq
     (.ops [⟨(some 12), none, .mv (.t 0)⟩,
       ⟨(some 13), none, .mv (.t 1)⟩,
       ⟨(some 14), none, .mv (.t 2)⟩,
       ⟨(some 15), none, .call 15 [(.t 12), (.t 13), (.t 14)]⟩,
       ⟨(some 10), none, .mv (.t 15)⟩])
     (.seq
      (.ops [⟨(some 16), none, .mv (.t 10)⟩,
        ⟨(some 17), none, .bin .neq (.t 16) (.c (.int .i64 0))⟩])
      (.cond (.t 17)
       (.seq
        (.ops [⟨(some 18), none, .mv (.t 10)⟩,
          ⟨(some 8), none, .mv (.c (.int .i64 0))⟩,
          ⟨(some 9), none, .mv (.t 18)⟩])
        (.ret))
       (.skip))))
    (.seq
     (.ops [⟨(some 19), none, .mv (.t 3)⟩,
       ⟨(some 20), none, .lenS (.t 19)⟩,
       ⟨(some 21), none, .mv (.t 0)⟩,
       ⟨(some 22), none, .mv (.t 1)⟩,
       ⟨(some 23), none, .mv (.t 2)⟩,
       ⟨(some 24), none, .call 17 [(.t 21), (.t 22), (.t 23)]⟩,
       ⟨(some 25), none, .minI (.t 20) [(.t 24)]⟩,
       ⟨(some 8), none, .mv (.t 25)⟩])
     (.seq
      (.ops [⟨(some 26), none, .mv (.t 0)⟩,
        ⟨(some 27), none, .nilck (.t 26)⟩,
        ⟨(some 28), none, .addr 1 (.t 27)⟩,
        ⟨(some 29), none, .load none (.t 28)⟩,
        ⟨(some 30), none, .mv (.t 1)⟩,
        ⟨(some 31), none, .iaddrS 4 (.t 29) (.t 30)⟩,
        ⟨(some 11), none, .mv (.t 31)⟩])
      (.seq
       (.draw [⟨⟨(some 32), none, .mv (.t 11)⟩, []⟩,
         ⟨⟨(some 33), none, .mv (.t 11)⟩, []⟩,
         ⟨⟨(some 34), none, .nilck (.t 33)⟩, [1]⟩,
         ⟨⟨(some 35), none, .addr 2 (.t 34)⟩, [2]⟩,
         ⟨⟨(some 36), none, .load none (.t 35)⟩, [3]⟩,
         ⟨⟨(some 37), none, .mv (.t 3)⟩, []⟩,
         ⟨⟨(some 38), none, .mv (.t 8)⟩, []⟩,
         ⟨⟨(some 39), none, .sliceS (.t 37) none (some (.t 38))⟩, [5, 6]⟩,
         ⟨⟨(some 40), none, .append 5 1 1 (.t 36) (.t 39)⟩, [4, 7]⟩,
         ⟨⟨(some 41), none, .nilck (.t 32)⟩, [0, 0, 1, 2, 3, 4, 5, 6, 7, 8]⟩,
         ⟨⟨(some 42), none, .addr 2 (.t 41)⟩, [9, 0, 1, 2, 3, 4, 5, 6, 7, 8]⟩,
         ⟨⟨none, none, .store 1 (.t 42) (.t 40)⟩, [10, 8, 8, 0, 1, 2, 3, 4, 5, 6, 7, 8]⟩] [0, 0, 2, 6, 14, 0, 0, 96, 254, 511, 1023, 2047])
       (.seq
        (.ops [⟨(some 43), none, .mv (.t 11)⟩,
          ⟨(some 44), none, .nilck (.t 43)⟩,
          ⟨(some 45), none, .addr 3 (.t 44)⟩,
          ⟨(some 46), none, .load none (.t 45)⟩,
          ⟨(some 47), none, .mv (.t 2)⟩,
          ⟨(some 48), none, .lookup 3 (.int .i64 0) (.t 46) (.t 47) false⟩,
          ⟨(some 49), none, .mv (.t 8)⟩,
          ⟨(some 50), none, .bin .add (.t 48) (.t 49)⟩,
          ⟨none, none, .mapUpd 3 (.t 46) (.t 47) (.t 50)⟩])
        (.seq
         (.ops [⟨(some 51), none, .mv (.t 8)⟩,
           ⟨(some 8), none, .mv (.t 51)⟩,
           ⟨(some 9), none, .mv (.c (.int .i64 0))⟩])
         (.ret)))))))⟩
theorem ok16 : FnOk Tryd.prog 16 a16 := FnOk.of Tryd.prog Tryd.func16 (by kernel_rfl)
/-- (*jalousie/sinks.Sinks).Left -/
def a17 : AFn := ⟨32, [.tmp 6], .seq
   (.ops [⟨(some 6), none, .mv (.c (.int .i64 0))⟩])
   (.seq
    (.seq
     (.ops [⟨(some 7), none, .mv (.t 0)⟩,
       ⟨(some 8), none, .mv (.t 1)⟩,
       ⟨(some 9), none, .mv (.t 2)⟩,
       ⟨(some 10), none, .call 15 [(.t 7), (.t 8), (.t 9)]⟩,
       ⟨(some 11), none, .bin .neq (.t 10) (.c (.int .i64 0))⟩])
     (.cond (.t 11)
      (.seq
       (.ops [⟨(some 6), none, .mv (.c (.int .i64 0))⟩])
       (.ret))
      (.skip)))
    (.seq
     (.draw [⟨⟨(some 12), none, .mv (.t 0)⟩, []⟩,
       ⟨⟨(some 13), none, .nilck (.t 12)⟩, [0]⟩,
       ⟨⟨(some 14), none, .addr 1 (.t 13)⟩, [1]⟩,
       ⟨⟨(some 15), none, .load none (.t 14)⟩, [2]⟩,
       ⟨⟨(some 16), none, .mv (.t 1)⟩, []⟩,
       ⟨⟨(some 17), none, .iaddrS 4 (.t 15) (.t 16)⟩, [3, 4]⟩,
       ⟨⟨(some 18), none, .addr 0 (.t 17)⟩, [5]⟩,
       ⟨⟨(some 19), none, .addr 1 (.t 18)⟩, [6]⟩,
       ⟨⟨(some 20), none, .load none (.t 19)⟩, [7]⟩,
       ⟨⟨(some 21), none, .mv (.t 0)⟩, []⟩,
       ⟨⟨(some 22), none, .nilck (.t 21)⟩, [9]⟩,
       ⟨⟨(some 23), none, .addr 1 (.t 22)⟩, [10]⟩,
       ⟨⟨(some 24), none, .load none (.t 23)⟩, [11]⟩,
       ⟨⟨(some 25), none, .mv (.t 1)⟩, []⟩,
       ⟨⟨(some 26), none, .iaddrS 4 (.t 24) (.t 25)⟩, [12, 13]⟩,
       ⟨⟨(some 27), none, .addr 3 (.t 26)⟩, [14]⟩,
       ⟨⟨(some 28), none, .load none (.t 27)⟩, [15]⟩,
       ⟨⟨(some 29), none, .mv (.t 2)⟩, []⟩,
       ⟨⟨(some 30), none, .lookup 3 (.int .i64 0) (.t 28) (.t 29) false⟩, [16, 17]⟩,
       ⟨⟨(some 31), none, .bin .sub (.t 20) (.t 30)⟩, [8, 18]⟩,
       ⟨⟨(some 6), none, .mv (.t 31)⟩, [19, 0, 1, 2, 3, 4, 5, 6, 7, 8, 9, 10, 11, 12, 13, 14, 15, 16, 17, 18, 19]⟩] [0, 1, 3, 7, 0, 31, 63, 127, 255, 0, 512, 1536, 3584, 0, 15872, 32256, 65024, 0, 261632, 524287, 1048575])
     (.ret)))⟩
theorem ok17 : FnOk Tryd.prog 17 a17 := FnOk.of Tryd.prog Tryd.func17 (by kernel_rfl)
/-- (*jalousie/sinks.Sinks).Content -/
def a18 : AFn := ⟨18, [.tmp 4], .seq
   (.ops [⟨(some 4), none, .mv (.c (.str []))⟩])
   (.seq
    (.seq
     (.ops [⟨(some 5), none, .mv (.t 0)⟩,
       ⟨(some 6), none, .mv (.t 1)⟩,
       ⟨(some 7), none, .call 23 [(.t 5), (.t 6)]⟩,
       ⟨(some 8), none, .un .not (.t 7)⟩])
     (.cond (.t 8)
      (.seq
       (.ops [⟨(some 4), none, .mv (.c (.str []))⟩])
       (.ret))
      (.skip)))
    (.seq
     (.ops [⟨(some 9), none, .mv (.t 0)⟩,
       ⟨(some 10), none, .nilck (.t 9)⟩,
       ⟨(some 11), none, .addr 1 (.t 10)⟩,
       ⟨(some 12), none, .load none (.t 11)⟩,
       ⟨(some 13), none, .mv (.t 1)⟩,
       ⟨(some 14), none, .iaddrS 4 (.t 12) (.t 13)⟩,
       ⟨(some 15), none, .addr 2 (.t 14)⟩,
       ⟨(some 16), none, .load none (.t 15)⟩,
       ⟨(some 17), none, .strOf (.t 16)⟩,
       ⟨(some 4), none, .mv (.t 17)⟩])
     (.ret)))⟩
theorem ok18 : FnOk Tryd.prog 18 a18 := FnOk.of Tryd.prog Tryd.func18 (by kernel_rfl)
/-- jalousie/jalousielaw24.two -/
def a19 : AFn := ⟨15, [.tmp 0, .tmp 1], .seq
   (.ops [⟨(some 0), none, .mv (.c .nilptr)⟩,
     ⟨(some 1), none, .mv (.c (.bool false))⟩])
   (.seq
    (.ops [⟨(some 5), none, .call 10 [(.c (.int .i64 2)), (.c (.int .i64 0))]⟩,
      ⟨(some 4), none, .mv (.t 5)⟩,
      ⟨(some 6), none, .ext (.t 4) 0⟩,
      ⟨(some 7), none, .ext (.t 4) 1⟩,
      ⟨(some 2), none, .mv (.t 6)⟩,
      ⟨(some 3), none, .mv (.t 7)⟩])
    (.seq
     (.ops [⟨(some 8), none, .mv (.t 2)⟩,
       ⟨(some 9), none, .mv (.t 3)⟩,
       ⟨(some 10), none, .bin .eql (.t 9) (.c (.int .i64 0))⟩,
       ⟨(some 11), none, .mv (.t 10)⟩,
       ⟨(some 12), (some (11, true)), .mv (.t 2)⟩,
       ⟨(some 13), (some (11, true)), .eq true 26 (.pointer 78) (.t 12) (.c .nilptr)⟩,
       ⟨(some 14), none, .pick (.t 11) (.t 13) (.c (.bool false))⟩,
       ⟨(some 0), none, .mv (.t 8)⟩,
       ⟨(some 1), none, .mv (.t 14)⟩])
     (.ret)))⟩
theorem ok19 : FnOk Tryd.prog 19 a19 := FnOk.of Tryd.prog Tryd.func19 (by kernel_rfl)

end Go.Proofs.YtaanoplfdjlnmaaDoor.Fns
