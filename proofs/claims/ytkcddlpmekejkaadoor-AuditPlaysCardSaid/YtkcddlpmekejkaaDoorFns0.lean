/- Functions of the translated code as the abstract machine reads them, printed by program; each is checked against the code. -/
import Derived.Test.YtkcddlpmekejkaaDoorProg
import Derived.Test.YtkcddlpmekejkaaDoorAmEval
namespace Go.Proofs.YtkcddlpmekejkaaDoor.Fns
open Go Go.RowKit Am Go.Proofs.YtkcddlpmekejkaaDoor
set_option maxRecDepth 100000
/-- gosem.cut.init -/
def a2 : AFn := ⟨1, [], .ops [⟨(some 0), none, .bad⟩]⟩
theorem ok2 : FnOk Tryd.prog 2 a2 := FnOk.of Tryd.prog Tryd.func2 (by kernel_rfl)
/-- jalousie/jalousielaw02.AuditPlays -/
def a3 : AFn := ⟨166, [.tmp 6], .seq
   (.ops [⟨(some 6), none, .mv (.c (.bool false))⟩])
   (.seq
    (.seq
     (.ops [⟨(some 21), none, .call 7 []⟩,
       ⟨(some 22), none, .un .not (.t 21)⟩])
     (.cond (.t 22)
      (.seq
       (.ops [⟨(some 6), none, .mv (.c (.bool false))⟩])
       (.ret))
      (.skip)))
    (.seq
     (.seq
      (.ops [⟨(some 23), none, .mv (.t 0)⟩,
        ⟨(some 24), none, .mv (.t 1)⟩,
        ⟨(some 25), none, .call 8 [(.t 23), (.t 24)]⟩,
        ⟨(some 26), none, .mv (.t 25)⟩,
        ⟨(some 27), (some (26, false)), .mv (.t 0)⟩,
        ⟨(some 28), (some (26, false)), .call 9 [(.t 27)]⟩,
        ⟨(some 29), (some (26, false)), .bin .neq (.t 28) (.c (.int .i64 0))⟩,
        ⟨(some 30), none, .pick (.t 26) (.c (.bool true)) (.t 29)⟩])
      (.cond (.t 30)
       (.seq
        (.ops [⟨(some 6), none, .mv (.c (.bool true))⟩])
        (.ret))
       (.skip)))
     (.seq
      (.ops [⟨(some 32), none, .mv (.t 0)⟩,
        ⟨(some 33), none, .call 10 [(.t 32)]⟩,
        ⟨(some 31), none, .mv (.t 33)⟩,
        ⟨(some 34), none, .ext (.t 31) 0⟩,
        ⟨(some 35), none, .ext (.t 31) 1⟩,
        ⟨(some 7), none, .mv (.t 34)⟩,
        ⟨(some 8), none, .mv (.t 35)⟩])
      (.seq
       (.ops [⟨(some 37), none, .mv (.t 7)⟩,
         ⟨(some 38), none, .call 11 [(.t 37)]⟩,
         ⟨(some 36), none, .mv (.t 38)⟩,
         ⟨(some 39), none, .ext (.t 36) 0⟩,
         ⟨(some 40), none, .ext (.t 36) 1⟩,
         ⟨(some 9), none, .mv (.t 39)⟩,
         ⟨(some 10), none, .mv (.t 40)⟩])
       (.seq
        (.seq
         (.ops [⟨(some 41), none, .mv (.t 8)⟩,
           ⟨(some 42), none, .bin .neq (.t 41) (.c (.int .i64 0))⟩,
           ⟨(some 43), none, .mv (.t 42)⟩,
           ⟨(some 44), (some (43, false)), .mv (.t 10)⟩,
           ⟨(some 45), (some (43, false)), .bin .neq (.t 44) (.c (.int .i64 0))⟩,
           ⟨(some 46), none, .pick (.t 43) (.c (.bool true)) (.t 45)⟩,
           ⟨(some 47), none, .mv (.t 46)⟩,
           ⟨(some 48), (some (47, false)), .mv (.t 9)⟩,
           ⟨(some 49), (some (47, false)), .eq false 31 (.pointer 53) (.t 48) (.c .nilptr)⟩,
           ⟨(some 50), none, .pick (.t 47) (.c (.bool true)) (.t 49)⟩])
         (.cond (.t 50)
          (.seq
           (.ops [⟨(some 6), none, .mv (.c (.bool false))⟩])
           (.ret))
          (.skip)))
        (.seq
         (.ops [⟨(some 51), none, .mv (.t 0)⟩,
           ⟨(some 52), none, .build [.nilslice, .nilslice] [(0, 1), (1, 1)] [(0, (.t 51))]⟩,
           ⟨(some 53), none, .box 37 (.t 52)⟩,
           ⟨(some 11), none, .mv (.t 53)⟩])
         (.seq
          (.seq
           (.ops [⟨(some 12), none, .mv (.c (.int .i64 0))⟩])
           (.block 0 (.loop (.seq
              (.seq
               (.ops [⟨(some 54), none, .mv (.t 12)⟩,
                 ⟨(some 55), none, .mv (.t 1)⟩,
                 ⟨(some 56), none, .lenL (.t 55)⟩,
                 ⟨(some 57), none, .bin .lss (.t 54) (.t 56)⟩])
               (.cond (.t 57)
                (.skip)
                (.exit 0)))
              (.seq
               (.block 1 (.seq
                 (.draw [⟨⟨(some 60), none, .mv (.t 9)⟩, []⟩,
                   ⟨⟨(some 61), none, .mv (.t 1)⟩, []⟩,
                   ⟨⟨(some 62), none, .mv (.t 12)⟩, []⟩,
                   ⟨⟨(some 63), none, .iaddrS 4 (.t 61) (.t 62)⟩, [1, 2]⟩,
                   ⟨⟨(some 64), none, .load (some 4) (.t 63)⟩, [3]⟩,
                   ⟨⟨(some 65), none, .call 12 [(.t 60), (.t 64)]⟩, [0, 4]⟩,
                   ⟨⟨(some 66), none, .mv (.t 11)⟩, []⟩,
                   ⟨⟨(some 67), none, .mv (.t 1)⟩, []⟩,
                   ⟨⟨(some 68), none, .mv (.t 12)⟩, []⟩,
                   ⟨⟨(some 69), none, .iaddrS 4 (.t 67) (.t 68)⟩, [7, 8]⟩,
                   ⟨⟨(some 70), none, .load (some 4) (.t 69)⟩, [9]⟩,
                   ⟨⟨(some 71), none, .call 13 [(.t 66), (.t 70)]⟩, [6, 10, 5]⟩,
                   ⟨⟨(some 72), none, .bin .neq (.t 65) (.t 71)⟩, [5, 11]⟩,
                   ⟨⟨(some 73), none, .mv (.t 72)⟩, [12, 11]⟩,
                   ⟨⟨(some 74), (some (73, false)), .mv (.t 9)⟩, [13]⟩,
                   ⟨⟨(some 75), (some (73, false)), .mv (.t 1)⟩, [13]⟩,
                   ⟨⟨(some 76), (some (73, false)), .mv (.t 12)⟩, [13]⟩,
                   ⟨⟨(some 77), (some (73, false)), .iaddrS 4 (.t 75) (.t 76)⟩, [15, 16, 13]⟩,
                   ⟨⟨(some 78), (some (73, false)), .addr 0 (.t 77)⟩, [17, 13]⟩,
                   ⟨⟨(some 79), (some (73, false)), .load none (.t 78)⟩, [18, 13]⟩,
                   ⟨⟨(some 80), (some (73, false)), .call 14 [(.t 74), (.t 79)]⟩, [14, 19, 13, 13]⟩,
                   ⟨⟨(some 81), (some (73, false)), .mv (.t 11)⟩, [13]⟩,
                   ⟨⟨(some 82), (some (73, false)), .mv (.t 1)⟩, [13]⟩,
                   ⟨⟨(some 83), (some (73, false)), .mv (.t 12)⟩, [13]⟩,
                   ⟨⟨(some 84), (some (73, false)), .iaddrS 4 (.t 82) (.t 83)⟩, [22, 23, 13]⟩,
                   ⟨⟨(some 85), (some (73, false)), .addr 0 (.t 84)⟩, [24, 13]⟩,
                   ⟨⟨(some 86), (some (73, false)), .load none (.t 85)⟩, [25, 13]⟩,
                   ⟨⟨(some 87), (some (73, false)), .call 15 [(.t 81), (.t 86)]⟩, [21, 26, 20, 13]⟩,
                   ⟨⟨(some 88), (some (73, false)), .bin .neq (.t 80) (.t 87)⟩, [20, 27, 13]⟩,
                   ⟨⟨(some 89), none, .pick (.t 73) (.c (.bool true)) (.t 88)⟩, [13, 28]⟩,
                   ⟨⟨(some 90), none, .mv (.t 89)⟩, [29, 27]⟩,
                   ⟨⟨(some 91), (some (90, false)), .mv (.t 9)⟩, [30]⟩,
                   ⟨⟨(some 92), (some (90, false)), .call 16 [(.t 91)]⟩, [31, 30, 30]⟩,
                   ⟨⟨(some 93), (some (90, false)), .mv (.t 11)⟩, [30]⟩,
                   ⟨⟨(some 94), (some (90, false)), .nilck (.t 93)⟩, [33, 30]⟩,
                   ⟨⟨(some 95), (some (90, false)), .addr 1 (.t 94)⟩, [34, 30]⟩,
                   ⟨⟨(some 96), (some (90, false)), .load none (.t 95)⟩, [35, 30]⟩,
                   ⟨⟨(some 97), (some (90, false)), .lenL (.t 96)⟩, [36, 30]⟩,
                   ⟨⟨(some 98), (some (90, false)), .bin .neq (.t 92) (.t 97)⟩, [32, 37, 30]⟩,
                   ⟨⟨(some 99), none, .pick (.t 90) (.c (.bool true)) (.t 98)⟩, [30, 38]⟩] [0, 0, 0, 6, 14, 31, 0, 0, 0, 384, 896, 2047, 4095, 8191, 16383, 16383, 16383, 114687, 245759, 507903, 1048575, 16383, 16383, 16383, 12599295, 29376511, 62930943, 134217727, 268435455, 536870911, 1073741823, 2147483647, 4294967295, 2147483647, 10737418239, 27917287423, 62277025791, 130996502527, 274877906943, 549755813887])
                 (.cond (.t 99)
                  (.seq
                   (.ops [⟨(some 6), none, .mv (.c (.bool false))⟩])
                   (.ret))
                  (.skip))))
               (.ops [⟨(some 58), none, .mv (.t 12)⟩,
                 ⟨(some 59), none, .bin .add (.t 58) (.c (.int .i64 1))⟩,
                 ⟨(some 12), none, .mv (.t 59)⟩]))))))
          (.seq
           (.ops [⟨(some 13), none, .mv (.c .nilslice)⟩])
           (.seq
            (.seq
             (.ops [⟨(some 14), none, .mv (.c (.int .i64 0))⟩])
             (.block 2 (.loop (.seq
                (.seq
                 (.ops [⟨(some 100), none, .mv (.t 14)⟩,
                   ⟨(some 101), none, .mv (.t 9)⟩,
                   ⟨(some 102), none, .call 16 [(.t 101)]⟩,
                   ⟨(some 103), none, .bin .lss (.t 100) (.t 102)⟩,
                   ⟨(some 104), none, .mv (.t 103)⟩,
                   ⟨(some 105), (some (104, true)), .mv (.t 14)⟩,
                   ⟨(some 106), (some (104, true)), .bin .lss (.t 105) (.c (.int .i64 200))⟩,
                   ⟨(some 107), none, .pick (.t 104) (.t 106) (.c (.bool false))⟩])
                 (.cond (.t 107)
                  (.skip)
                  (.exit 2)))
                (.seq
                 (.block 3 (.seq
                   (.ops [⟨(some 111), none, .mv (.t 9)⟩,
                     ⟨(some 112), none, .mv (.t 14)⟩,
                     ⟨(some 113), none, .call 17 [(.t 111), (.t 112)]⟩,
                     ⟨(some 110), none, .mv (.t 113)⟩,
                     ⟨(some 114), none, .ext (.t 110) 0⟩,
                     ⟨(some 115), none, .ext (.t 110) 1⟩,
                     ⟨(some 15), none, .alloc 40 [(.int .i64 0), (.int .i64 0), (.int .i64 0), (.str [])]⟩,
                     ⟨none, none, .store 4 (.t 15) (.t 114)⟩,
                     ⟨(some 16), none, .mv (.t 115)⟩])
                   (.seq
                    (.seq
                     (.ops [⟨(some 116), none, .mv (.t 16)⟩,
                       ⟨(some 117), none, .un .not (.t 116)⟩])
                     (.cond (.t 117)
                      (.seq
                       (.ops [⟨(some 6), none, .mv (.c (.bool false))⟩])
                       (.ret))
                      (.skip)))
                    (.ops [⟨(some 118), none, .mv (.t 13)⟩,
                      ⟨(some 119), none, .load (some 4) (.t 15)⟩,
                      ⟨(some 120), none, .bslice 40 4 1 [(.int .i64 0), (.int .i64 0), (.int .i64 0), (.str [])] [(0, (.t 119))]⟩,
                      ⟨(some 121), none, .append 40 4 40 (.t 118) (.t 120)⟩,
                      ⟨(some 13), none, .mv (.t 121)⟩]))))
                 (.ops [⟨(some 108), none, .mv (.t 14)⟩,
                   ⟨(some 109), none, .bin .add (.t 108) (.c (.int .i64 1))⟩,
                   ⟨(some 14), none, .mv (.t 109)⟩]))))))
            (.seq
             (.ops [⟨(some 123), none, .mv (.t 9)⟩,
               ⟨(some 124), none, .mv (.t 9)⟩,
               ⟨(some 125), none, .call 16 [(.t 124)]⟩,
               ⟨(some 126), none, .call 17 [(.t 123), (.t 125)]⟩,
               ⟨(some 122), none, .mv (.t 126)⟩,
               ⟨(some 127), none, .ext (.t 122) 0⟩,
               ⟨(some 128), none, .ext (.t 122) 1⟩,
               ⟨(some 17), none, .alloc 40 [(.int .i64 0), (.int .i64 0), (.int .i64 0), (.str [])]⟩,
               ⟨none, none, .store 4 (.t 17) (.t 127)⟩,
               ⟨(some 18), none, .mv (.t 128)⟩])
             (.seq
              (.ops [⟨(some 130), none, .mv (.t 9)⟩,
                ⟨(some 131), none, .call 17 [(.t 130), (.c (.int .i64 (-1)))]⟩,
                ⟨(some 129), none, .mv (.t 131)⟩,
                ⟨(some 132), none, .ext (.t 129) 0⟩,
                ⟨(some 133), none, .ext (.t 129) 1⟩,
                ⟨(some 19), none, .alloc 40 [(.int .i64 0), (.int .i64 0), (.int .i64 0), (.str [])]⟩,
                ⟨none, none, .store 4 (.t 19) (.t 132)⟩,
                ⟨(some 20), none, .mv (.t 133)⟩])
              (.seq
               (.ops [⟨(some 134), none, .mv (.t 13)⟩,
                 ⟨(some 135), none, .mv (.t 11)⟩,
                 ⟨(some 136), none, .nilck (.t 135)⟩,
                 ⟨(some 137), none, .addr 1 (.t 136)⟩,
                 ⟨(some 138), none, .load none (.t 137)⟩,
                 ⟨(some 139), none, .call 18 [(.t 134), (.t 138)]⟩,
                 ⟨(some 140), none, .mv (.t 139)⟩,
                 ⟨(some 141), (some (140, true)), .mv (.t 9)⟩,
                 ⟨(some 142), (some (140, true)), .mv (.t 2)⟩,
                 ⟨(some 143), (some (140, true)), .call 19 [(.t 141), (.t 142)]⟩,
                 ⟨(some 144), (some (140, true)), .mv (.t 11)⟩,
                 ⟨(some 145), (some (140, true)), .mv (.t 2)⟩,
                 ⟨(some 146), (some (140, true)), .call 20 [(.t 144), (.t 145)]⟩,
                 ⟨(some 147), (some (140, true)), .call 18 [(.t 143), (.t 146)]⟩,
                 ⟨(some 148), none, .pick (.t 140) (.t 147) (.c (.bool false))⟩,
                 ⟨(some 149), none, .mv (.t 148)⟩,
                 ⟨(some 150), (some (149, true)), .mv (.t 18)⟩,
                 ⟨(some 151), (some (149, true)), .un .not (.t 150)⟩,
                 ⟨(some 152), none, .pick (.t 149) (.t 151) (.c (.bool false))⟩,
                 ⟨(some 153), none, .mv (.t 152)⟩,
                 ⟨(some 154), (some (153, true)), .mv (.t 20)⟩,
                 ⟨(some 155), (some (153, true)), .un .not (.t 154)⟩,
                 ⟨(some 156), none, .pick (.t 153) (.t 155) (.c (.bool false))⟩,
                 ⟨(some 157), none, .mv (.t 156)⟩,
                 ⟨(some 158), (some (157, true)), .mv (.t 9)⟩,
                 ⟨(some 159), (some (157, true)), .mv (.t 2)⟩,
                 ⟨(some 160), (some (157, true)), .call 14 [(.t 158), (.t 159)]⟩,
                 ⟨(some 161), (some (157, true)), .mv (.t 11)⟩,
                 ⟨(some 162), (some (157, true)), .mv (.t 2)⟩,
                 ⟨(some 163), (some (157, true)), .call 15 [(.t 161), (.t 162)]⟩,
                 ⟨(some 164), (some (157, true)), .bin .eql (.t 160) (.t 163)⟩,
                 ⟨(some 165), none, .pick (.t 157) (.t 164) (.c (.bool false))⟩,
                 ⟨(some 6), none, .mv (.t 165)⟩])
               (.ret)))))))))))))⟩
theorem ok3 : FnOk Tryd.prog 3 a3 := FnOk.of Tryd.prog Tryd.func3 (by kernel_rfl)
/-- jalousie/jalousielaw02.AuditNobody -/
def a4 : AFn := ⟨95, [.tmp 4], .seq
   (.ops [⟨(some 2), none, .box 40 (.t 0)⟩,
     ⟨(some 4), none, .mv (.c (.bool false))⟩])
   (.seq
    (.seq
     (.ops [⟨(some 13), none, .call 7 []⟩,
       ⟨(some 14), none, .un .not (.t 13)⟩])
     (.cond (.t 14)
      (.seq
       (.ops [⟨(some 4), none, .mv (.c (.bool false))⟩])
       (.ret))
      (.skip)))
    (.seq
     (.seq
      (.ops [⟨(some 15), none, .addr 3 (.t 2)⟩,
        ⟨(some 16), none, .load none (.t 15)⟩,
        ⟨(some 17), none, .lenS (.t 16)⟩,
        ⟨(some 18), none, .bin .gtr (.t 17) (.c (.int .i64 5000))⟩])
      (.cond (.t 18)
       (.seq
        (.ops [⟨(some 4), none, .mv (.c (.bool true))⟩])
        (.ret))
       (.skip)))
     (.seq
      (.ops [⟨(some 5), none, .mv (.c .nilptr)⟩])
      (.seq
       (.ops [⟨(some 19), none, .build [.nilptr, .nilslice, .nilslice] [(0, 1), (1, 1), (2, 1)] []⟩,
         ⟨(some 20), none, .box 53 (.t 19)⟩,
         ⟨(some 6), none, .mv (.t 20)⟩])
       (.seq
        (.ops [⟨(some 22), none, .mv (.t 5)⟩,
          ⟨(some 23), none, .mv (.t 1)⟩,
          ⟨(some 24), none, .call 17 [(.t 22), (.t 23)]⟩,
          ⟨(some 21), none, .mv (.t 24)⟩,
          ⟨(some 25), none, .ext (.t 21) 0⟩,
          ⟨(some 26), none, .ext (.t 21) 1⟩,
          ⟨(some 7), none, .alloc 40 [(.int .i64 0), (.int .i64 0), (.int .i64 0), (.str [])]⟩,
          ⟨none, none, .store 4 (.t 7) (.t 25)⟩,
          ⟨(some 8), none, .mv (.t 26)⟩])
        (.seq
         (.ops [⟨(some 28), none, .mv (.t 6)⟩,
           ⟨(some 29), none, .mv (.t 1)⟩,
           ⟨(some 30), none, .call 17 [(.t 28), (.t 29)]⟩,
           ⟨(some 27), none, .mv (.t 30)⟩,
           ⟨(some 31), none, .ext (.t 27) 0⟩,
           ⟨(some 32), none, .ext (.t 27) 1⟩,
           ⟨(some 9), none, .alloc 40 [(.int .i64 0), (.int .i64 0), (.int .i64 0), (.str [])]⟩,
           ⟨none, none, .store 4 (.t 9) (.t 31)⟩,
           ⟨(some 10), none, .mv (.t 32)⟩])
         (.seq
          (.ops [⟨(some 34), none, .call 11 [(.c .nilptr)]⟩,
            ⟨(some 33), none, .mv (.t 34)⟩,
            ⟨(some 35), none, .ext (.t 33) 0⟩,
            ⟨(some 36), none, .ext (.t 33) 1⟩,
            ⟨(some 11), none, .mv (.t 35)⟩,
            ⟨(some 12), none, .mv (.t 36)⟩])
          (.seq
           (.ops [⟨(some 37), none, .mv (.t 5)⟩,
             ⟨(some 38), none, .load (some 4) (.t 2)⟩,
             ⟨(some 39), none, .call 12 [(.t 37), (.t 38)]⟩,
             ⟨(some 40), none, .bin .eql (.t 39) (.c (.int .i64 2))⟩,
             ⟨(some 41), none, .mv (.t 40)⟩,
             ⟨(some 42), (some (41, true)), .mv (.t 5)⟩,
             ⟨(some 43), (some (41, true)), .mv (.t 1)⟩,
             ⟨(some 44), (some (41, true)), .call 14 [(.t 42), (.t 43)]⟩,
             ⟨(some 45), (some (41, true)), .bin .eql (.t 44) (.c (.int .i64 0))⟩,
             ⟨(some 46), none, .pick (.t 41) (.t 45) (.c (.bool false))⟩,
             ⟨(some 47), none, .mv (.t 46)⟩,
             ⟨(some 48), (some (47, true)), .mv (.t 5)⟩,
             ⟨(some 49), (some (47, true)), .call 16 [(.t 48)]⟩,
             ⟨(some 50), (some (47, true)), .bin .eql (.t 49) (.c (.int .i64 0))⟩,
             ⟨(some 51), none, .pick (.t 47) (.t 50) (.c (.bool false))⟩,
             ⟨(some 52), none, .mv (.t 51)⟩,
             ⟨(some 53), (some (52, true)), .mv (.t 8)⟩,
             ⟨(some 54), (some (52, true)), .un .not (.t 53)⟩,
             ⟨(some 55), none, .pick (.t 52) (.t 54) (.c (.bool false))⟩,
             ⟨(some 56), none, .mv (.t 55)⟩,
             ⟨(some 57), (some (56, true)), .mv (.t 5)⟩,
             ⟨(some 58), (some (56, true)), .mv (.t 1)⟩,
             ⟨(some 59), (some (56, true)), .call 19 [(.t 57), (.t 58)]⟩,
             ⟨(some 60), (some (56, true)), .lenL (.t 59)⟩,
             ⟨(some 61), (some (56, true)), .bin .eql (.t 60) (.c (.int .i64 0))⟩,
             ⟨(some 62), none, .pick (.t 56) (.t 61) (.c (.bool false))⟩,
             ⟨(some 63), none, .mv (.t 62)⟩,
             ⟨(some 64), (some (63, true)), .mv (.t 6)⟩,
             ⟨(some 65), (some (63, true)), .load (some 4) (.t 2)⟩,
             ⟨(some 66), (some (63, true)), .call 12 [(.t 64), (.t 65)]⟩,
             ⟨(some 67), (some (63, true)), .bin .eql (.t 66) (.c (.int .i64 2))⟩,
             ⟨(some 68), none, .pick (.t 63) (.t 67) (.c (.bool false))⟩,
             ⟨(some 69), none, .mv (.t 68)⟩,
             ⟨(some 70), (some (69, true)), .mv (.t 6)⟩,
             ⟨(some 71), (some (69, true)), .mv (.t 1)⟩,
             ⟨(some 72), (some (69, true)), .call 14 [(.t 70), (.t 71)]⟩,
             ⟨(some 73), (some (69, true)), .bin .eql (.t 72) (.c (.int .i64 0))⟩,
             ⟨(some 74), none, .pick (.t 69) (.t 73) (.c (.bool false))⟩,
             ⟨(some 75), none, .mv (.t 74)⟩,
             ⟨(some 76), (some (75, true)), .mv (.t 6)⟩,
             ⟨(some 77), (some (75, true)), .call 16 [(.t 76)]⟩,
             ⟨(some 78), (some (75, true)), .bin .eql (.t 77) (.c (.int .i64 0))⟩,
             ⟨(some 79), none, .pick (.t 75) (.t 78) (.c (.bool false))⟩,
             ⟨(some 80), none, .mv (.t 79)⟩,
             ⟨(some 81), (some (80, true)), .mv (.t 10)⟩,
             ⟨(some 82), (some (80, true)), .un .not (.t 81)⟩,
             ⟨(some 83), none, .pick (.t 80) (.t 82) (.c (.bool false))⟩,
             ⟨(some 84), none, .mv (.t 83)⟩,
             ⟨(some 85), (some (84, true)), .mv (.t 6)⟩,
             ⟨(some 86), (some (84, true)), .mv (.t 1)⟩,
             ⟨(some 87), (some (84, true)), .call 19 [(.t 85), (.t 86)]⟩,
             ⟨(some 88), (some (84, true)), .lenL (.t 87)⟩,
             ⟨(some 89), (some (84, true)), .bin .eql (.t 88) (.c (.int .i64 0))⟩,
             ⟨(some 90), none, .pick (.t 84) (.t 89) (.c (.bool false))⟩,
             ⟨(some 91), none, .mv (.t 90)⟩,
             ⟨(some 92), (some (91, true)), .mv (.t 12)⟩,
             ⟨(some 93), (some (91, true)), .bin .eql (.t 92) (.c (.int .i64 2))⟩,
             ⟨(some 94), none, .pick (.t 91) (.t 93) (.c (.bool false))⟩,
             ⟨(some 4), none, .mv (.t 94)⟩])
           (.ret)))))))))⟩
theorem ok4 : FnOk Tryd.prog 4 a4 := FnOk.of Tryd.prog Tryd.func4 (by kernel_rfl)
/-- jalousie/jalousielaw02.AuditApart -/
def a5 : AFn := ⟨183, [.tmp 8], .seq
   (.ops [⟨(some 8), none, .mv (.c (.bool false))⟩])
   (.seq
    (.seq
     (.ops [⟨(some 25), none, .call 7 []⟩,
       ⟨(some 26), none, .un .not (.t 25)⟩])
     (.cond (.t 26)
      (.seq
       (.ops [⟨(some 8), none, .mv (.c (.bool false))⟩])
       (.ret))
      (.skip)))
    (.seq
     (.seq
      (.ops [⟨(some 27), none, .mv (.t 2)⟩,
        ⟨(some 28), none, .call 8 [(.c .nilslice), (.t 27)]⟩])
      (.cond (.t 28)
       (.seq
        (.ops [⟨(some 8), none, .mv (.c (.bool true))⟩])
        (.ret))
       (.skip)))
     (.seq
      (.ops [⟨(some 30), none, .mv (.t 0)⟩,
        ⟨(some 31), none, .bin .rem (.t 30) (.c (.int .u8 4))⟩,
        ⟨(some 32), none, .convI .i64 (.t 31)⟩,
        ⟨(some 33), none, .bin .add (.c (.int .i64 1)) (.t 32)⟩,
        ⟨(some 34), none, .mv (.t 1)⟩,
        ⟨(some 35), none, .bin .rem (.t 34) (.c (.int .u8 3))⟩,
        ⟨(some 36), none, .convI .i64 (.t 35)⟩,
        ⟨(some 37), none, .call 21 [(.t 33), (.t 36)]⟩,
        ⟨(some 29), none, .mv (.t 37)⟩,
        ⟨(some 38), none, .ext (.t 29) 0⟩,
        ⟨(some 39), none, .ext (.t 29) 1⟩,
        ⟨(some 9), none, .mv (.t 38)⟩,
        ⟨(some 10), none, .mv (.t 39)⟩])
      (.seq
       (.seq
        (.ops [⟨(some 40), none, .mv (.t 10)⟩,
          ⟨(some 41), none, .bin .neq (.t 40) (.c (.int .i64 0))⟩])
        (.cond (.t 41)
         (.seq
          (.ops [⟨(some 8), none, .mv (.c (.bool false))⟩])
          (.ret))
         (.skip)))
       (.seq
        (.ops [⟨(some 43), none, .mv (.t 9)⟩,
          ⟨(some 44), none, .call 11 [(.t 43)]⟩,
          ⟨(some 42), none, .mv (.t 44)⟩,
          ⟨(some 45), none, .ext (.t 42) 0⟩,
          ⟨(some 46), none, .ext (.t 42) 1⟩,
          ⟨(some 11), none, .mv (.t 45)⟩,
          ⟨(some 12), none, .mv (.t 46)⟩])
        (.seq
         (.ops [⟨(some 48), none, .mv (.t 9)⟩,
           ⟨(some 49), none, .call 11 [(.t 48)]⟩,
           ⟨(some 47), none, .mv (.t 49)⟩,
           ⟨(some 50), none, .ext (.t 47) 0⟩,
           ⟨(some 51), none, .ext (.t 47) 1⟩,
           ⟨(some 13), none, .mv (.t 50)⟩,
           ⟨(some 14), none, .mv (.t 51)⟩])
         (.seq
          (.seq
           (.ops [⟨(some 52), none, .mv (.t 12)⟩,
             ⟨(some 53), none, .bin .neq (.t 52) (.c (.int .i64 0))⟩,
             ⟨(some 54), none, .mv (.t 53)⟩,
             ⟨(some 55), (some (54, false)), .mv (.t 14)⟩,
             ⟨(some 56), (some (54, false)), .bin .neq (.t 55) (.c (.int .i64 0))⟩,
             ⟨(some 57), none, .pick (.t 54) (.c (.bool true)) (.t 56)⟩])
           (.cond (.t 57)
            (.seq
             (.ops [⟨(some 8), none, .mv (.c (.bool false))⟩])
             (.ret))
            (.skip)))
          (.seq
           (.seq
            (.ops [⟨(some 15), none, .mv (.c (.int .i64 0))⟩])
            (.block 0 (.loop (.seq
               (.seq
                (.ops [⟨(some 58), none, .mv (.t 15)⟩,
                  ⟨(some 59), none, .mv (.t 2)⟩,
                  ⟨(some 60), none, .lenL (.t 59)⟩,
                  ⟨(some 61), none, .bin .lss (.t 58) (.t 60)⟩])
                (.cond (.t 61)
                 (.skip)
                 (.exit 0)))
               (.seq
                (.block 1 (.seq
                  (.ops [⟨(some 64), none, .mv (.t 11)⟩,
                    ⟨(some 65), none, .call 16 [(.t 64)]⟩,
                    ⟨(some 16), none, .mv (.t 65)⟩])
                  (.seq
                   (.ops [⟨(some 67), none, .mv (.t 11)⟩,
                     ⟨(some 68), none, .call 17 [(.t 67), (.c (.int .i64 0))]⟩,
                     ⟨(some 66), none, .mv (.t 68)⟩,
                     ⟨(some 69), none, .ext (.t 66) 0⟩,
                     ⟨(some 70), none, .ext (.t 66) 1⟩,
                     ⟨(some 17), none, .alloc 40 [(.int .i64 0), (.int .i64 0), (.int .i64 0), (.str [])]⟩,
                     ⟨none, none, .store 4 (.t 17) (.t 69)⟩,
                     ⟨(some 18), none, .mv (.t 70)⟩])
                   (.seq
                    (.ops [⟨(some 71), none, .mv (.t 11)⟩,
                      ⟨(some 72), none, .mv (.t 2)⟩,
                      ⟨(some 73), none, .mv (.t 15)⟩,
                      ⟨(some 74), none, .iaddrS 4 (.t 72) (.t 73)⟩,
                      ⟨(some 75), none, .load (some 4) (.t 74)⟩,
                      ⟨(some 76), none, .call 12 [(.t 71), (.t 75)]⟩,
                      ⟨(some 19), none, .mv (.t 76)⟩])
                    (.seq
                     (.seq
                      (.ops [⟨(some 77), none, .mv (.t 19)⟩,
                        ⟨(some 78), none, .bin .eql (.t 77) (.c (.int .i64 0))⟩,
                        ⟨(some 79), none, .mv (.t 11)⟩,
                        ⟨(some 80), none, .call 16 [(.t 79)]⟩,
                        ⟨(some 81), none, .mv (.t 16)⟩,
                        ⟨(some 82), none, .bin .add (.t 81) (.c (.int .i64 1))⟩,
                        ⟨(some 83), none, .bin .eql (.t 80) (.t 82)⟩,
                        ⟨(some 84), none, .eq true 4 .bool (.t 78) (.t 83)⟩,
                        ⟨(some 85), none, .mv (.t 84)⟩,
                        ⟨(some 86), (some (85, false)), .mv (.t 11)⟩,
                        ⟨(some 87), (some (85, false)), .call 16 [(.t 86)]⟩,
                        ⟨(some 88), (some (85, false)), .mv (.t 16)⟩,
                        ⟨(some 89), (some (85, false)), .bin .add (.t 88) (.c (.int .i64 1))⟩,
                        ⟨(some 90), (some (85, false)), .bin .gtr (.t 87) (.t 89)⟩,
                        ⟨(some 91), none, .pick (.t 85) (.c (.bool true)) (.t 90)⟩])
                      (.cond (.t 91)
                       (.seq
                        (.ops [⟨(some 8), none, .mv (.c (.bool false))⟩])
                        (.ret))
                       (.skip)))
                     (.seq
                      (.seq
                       (.ops [⟨(some 93), none, .mv (.t 11)⟩,
                         ⟨(some 94), none, .call 17 [(.t 93), (.c (.int .i64 0))]⟩,
                         ⟨(some 92), none, .mv (.t 94)⟩,
                         ⟨(some 95), none, .ext (.t 92) 0⟩,
                         ⟨(some 96), none, .ext (.t 92) 1⟩,
                         ⟨(some 20), none, .alloc 40 [(.int .i64 0), (.int .i64 0), (.int .i64 0), (.str [])]⟩,
                         ⟨none, none, .store 4 (.t 20) (.t 95)⟩,
                         ⟨(some 21), none, .mv (.t 96)⟩])
                       (.seq
                        (.ops [⟨(some 97), none, .mv (.t 18)⟩,
                          ⟨(some 98), none, .mv (.t 97)⟩,
                          ⟨(some 99), (some (98, true)), .mv (.t 21)⟩,
                          ⟨(some 100), (some (98, true)), .un .not (.t 99)⟩,
                          ⟨(some 101), (some (98, true)), .mv (.t 100)⟩,
                          ⟨(some 102), (some (101, false)), .load (some 4) (.t 17)⟩,
                          ⟨(some 103), (some (101, false)), .load (some 4) (.t 20)⟩,
                          ⟨(some 104), (some (101, false)), .eq true 40 (.struct #[⟨"By", 3, 0, false, "", "", 0⟩, ⟨"From", 3, 1, false, "", "", 8⟩, ⟨"To", 3, 2, false, "", "", 16⟩, ⟨"Bytes", 9, 3, false, "", "", 24⟩]) (.t 102) (.t 103)⟩,
                          ⟨(some 105), (some (98, true)), .pick (.t 101) (.c (.bool true)) (.t 104)⟩,
                          ⟨(some 106), none, .pick (.t 98) (.t 105) (.c (.bool false))⟩])
                        (.cond (.t 106)
                         (.seq
                          (.ops [⟨(some 8), none, .mv (.c (.bool false))⟩])
                          (.ret))
                         (.skip))))
                      (.seq
                       (.ops [⟨(some 107), none, .mv (.t 9)⟩,
                         ⟨(some 108), none, .mv (.t 2)⟩,
                         ⟨(some 109), none, .mv (.t 15)⟩,
                         ⟨(some 110), none, .iaddrS 4 (.t 108) (.t 109)⟩,
                         ⟨(some 111), none, .addr 0 (.t 110)⟩,
                         ⟨(some 112), none, .load none (.t 111)⟩,
                         ⟨(some 113), none, .mv (.t 3)⟩,
                         ⟨(some 114), none, .call 22 [(.t 107), (.t 112), (.t 113)]⟩,
                         ⟨(some 115), none, .mv (.t 114)⟩,
                         ⟨(some 116), (some (115, true)), .mv (.t 13)⟩,
                         ⟨(some 117), (some (115, true)), .mv (.t 2)⟩,
                         ⟨(some 118), (some (115, true)), .mv (.t 15)⟩,
                         ⟨(some 119), (some (115, true)), .iaddrS 4 (.t 117) (.t 118)⟩,
                         ⟨(some 120), (some (115, true)), .load (some 4) (.t 119)⟩,
                         ⟨(some 121), (some (115, true)), .call 12 [(.t 116), (.t 120)]⟩,
                         ⟨(some 122), (some (115, true)), .mv (.t 19)⟩,
                         ⟨(some 123), (some (115, true)), .bin .neq (.t 121) (.t 122)⟩,
                         ⟨(some 124), none, .pick (.t 115) (.t 123) (.c (.bool false))⟩])
                       (.cond (.t 124)
                        (.seq
                         (.ops [⟨(some 8), none, .mv (.c (.bool false))⟩])
                         (.ret))
                        (.skip)))))))))
                (.ops [⟨(some 62), none, .mv (.t 15)⟩,
                  ⟨(some 63), none, .bin .add (.t 62) (.c (.int .i64 1))⟩,
                  ⟨(some 15), none, .mv (.t 63)⟩]))))))
           (.seq
            (.ops [⟨(some 125), none, .mv (.t 11)⟩,
              ⟨(some 126), none, .mv (.t 3)⟩,
              ⟨(some 127), none, .call 19 [(.t 125), (.t 126)]⟩,
              ⟨(some 128), none, .mv (.t 13)⟩,
              ⟨(some 129), none, .mv (.t 3)⟩,
              ⟨(some 130), none, .call 19 [(.t 128), (.t 129)]⟩,
              ⟨(some 22), none, .mv (.t 127)⟩,
              ⟨(some 23), none, .mv (.t 130)⟩])
            (.seq
             (.seq
              (.ops [⟨(some 131), none, .mv (.t 22)⟩,
                ⟨(some 132), none, .lenL (.t 131)⟩,
                ⟨(some 133), none, .mv (.t 23)⟩,
                ⟨(some 134), none, .lenL (.t 133)⟩,
                ⟨(some 135), none, .bin .neq (.t 132) (.t 134)⟩,
                ⟨(some 136), none, .mv (.t 135)⟩,
                ⟨(some 137), (some (136, false)), .mv (.t 23)⟩,
                ⟨(some 138), (some (136, false)), .lenL (.t 137)⟩,
                ⟨(some 139), (some (136, false)), .mv (.t 13)⟩,
                ⟨(some 140), (some (136, false)), .call 16 [(.t 139)]⟩,
                ⟨(some 141), (some (136, false)), .bin .neq (.t 138) (.t 140)⟩,
                ⟨(some 142), none, .pick (.t 136) (.c (.bool true)) (.t 141)⟩])
              (.cond (.t 142)
               (.seq
                (.ops [⟨(some 8), none, .mv (.c (.bool false))⟩])
                (.ret))
               (.skip)))
             (.seq
              (.seq
               (.ops [⟨(some 24), none, .mv (.c (.int .i64 0))⟩])
               (.block 2 (.loop (.seq
                  (.seq
                   (.ops [⟨(some 143), none, .mv (.t 24)⟩,
                     ⟨(some 144), none, .mv (.t 22)⟩,
                     ⟨(some 145), none, .lenL (.t 144)⟩,
                     ⟨(some 146), none, .bin .lss (.t 143) (.t 145)⟩])
                   (.cond (.t 146)
                    (.skip)
                    (.exit 2)))
                  (.seq
                   (.block 3 (.seq
                     (.draw [⟨⟨(some 149), none, .mv (.t 22)⟩, []⟩,
                       ⟨⟨(some 150), none, .mv (.t 24)⟩, []⟩,
                       ⟨⟨(some 151), none, .iaddrS 4 (.t 149) (.t 150)⟩, [0, 1]⟩,
                       ⟨⟨(some 152), none, .load (some 4) (.t 151)⟩, [2]⟩,
                       ⟨⟨(some 153), none, .mv (.t 23)⟩, []⟩,
                       ⟨⟨(some 154), none, .mv (.t 24)⟩, []⟩,
                       ⟨⟨(some 155), none, .iaddrS 4 (.t 153) (.t 154)⟩, [4, 5]⟩,
                       ⟨⟨(some 156), none, .load (some 4) (.t 155)⟩, [6]⟩,
                       ⟨⟨(some 157), none, .eq true 40 (.struct #[⟨"By", 3, 0, false, "", "", 0⟩, ⟨"From", 3, 1, false, "", "", 8⟩, ⟨"To", 3, 2, false, "", "", 16⟩, ⟨"Bytes", 9, 3, false, "", "", 24⟩]) (.t 152) (.t 156)⟩, [3, 7]⟩,
                       ⟨⟨(some 158), none, .mv (.t 157)⟩, [8]⟩,
                       ⟨⟨(some 159), (some (158, false)), .mv (.t 9)⟩, [9]⟩,
                       ⟨⟨(some 160), (some (158, false)), .mv (.t 22)⟩, [9]⟩,
                       ⟨⟨(some 161), (some (158, false)), .mv (.t 24)⟩, [9]⟩,
                       ⟨⟨(some 162), (some (158, false)), .iaddrS 4 (.t 160) (.t 161)⟩, [11, 12, 9]⟩,
                       ⟨⟨(some 163), (some (158, false)), .addr 0 (.t 162)⟩, [13, 9]⟩,
                       ⟨⟨(some 164), (some (158, false)), .load none (.t 163)⟩, [14, 9]⟩,
                       ⟨⟨(some 165), (some (158, false)), .mv (.t 3)⟩, [9]⟩,
                       ⟨⟨(some 166), (some (158, false)), .call 22 [(.t 159), (.t 164), (.t 165)]⟩, [10, 15, 16, 9, 9]⟩,
                       ⟨⟨(some 167), (some (158, false)), .un .not (.t 166)⟩, [17, 9]⟩,
                       ⟨⟨(some 168), none, .pick (.t 158) (.c (.bool true)) (.t 167)⟩, [9, 18]⟩,
                       ⟨⟨(some 169), none, .mv (.t 168)⟩, [19, 17]⟩,
                       ⟨⟨(some 170), (some (169, false)), .mv (.t 9)⟩, [20]⟩,
                       ⟨⟨(some 171), (some (169, false)), .mv (.t 22)⟩, [20]⟩,
                       ⟨⟨(some 172), (some (169, false)), .mv (.t 24)⟩, [20]⟩,
                       ⟨⟨(some 173), (some (169, false)), .iaddrS 4 (.t 171) (.t 172)⟩, [22, 23, 20]⟩,
                       ⟨⟨(some 174), (some (169, false)), .addr 1 (.t 173)⟩, [24, 20]⟩,
                       ⟨⟨(some 175), (some (169, false)), .load none (.t 174)⟩, [25, 20]⟩,
                       ⟨⟨(some 176), (some (169, false)), .mv (.t 22)⟩, [20]⟩,
                       ⟨⟨(some 177), (some (169, false)), .mv (.t 24)⟩, [20]⟩,
                       ⟨⟨(some 178), (some (169, false)), .iaddrS 4 (.t 176) (.t 177)⟩, [27, 28, 20]⟩,
                       ⟨⟨(some 179), (some (169, false)), .addr 2 (.t 178)⟩, [29, 20]⟩,
                       ⟨⟨(some 180), (some (169, false)), .load none (.t 179)⟩, [30, 20]⟩,
                       ⟨⟨(some 181), (some (169, false)), .call 22 [(.t 170), (.t 175), (.t 180)]⟩, [21, 26, 31, 20, 20]⟩,
                       ⟨⟨(some 182), none, .pick (.t 169) (.c (.bool true)) (.t 181)⟩, [20, 32]⟩] [0, 0, 3, 7, 0, 0, 48, 112, 255, 511, 1023, 1023, 1023, 7167, 15359, 31743, 1023, 131071, 262143, 524287, 1048575, 2097151, 2097151, 2097151, 14680063, 31457279, 65011711, 2097151, 2097151, 404750335, 941621247, 2015363071, 4294967295, 8589934591])
                     (.cond (.t 182)
                      (.seq
                       (.ops [⟨(some 8), none, .mv (.c (.bool false))⟩])
                       (.ret))
                      (.skip))))
                   (.ops [⟨(some 147), none, .mv (.t 24)⟩,
                     ⟨(some 148), none, .bin .add (.t 147) (.c (.int .i64 1))⟩,
                     ⟨(some 24), none, .mv (.t 148)⟩]))))))
              (.seq
               (.ops [⟨(some 8), none, .mv (.c (.bool true))⟩])
               (.ret)))))))))))))⟩
theorem ok5 : FnOk Tryd.prog 5 a5 := FnOk.of Tryd.prog Tryd.func5 (by kernel_rfl)
/-- jalousie/jalousielaw02.AuditKnown -/
def a6 : AFn := ⟨95, [.tmp 0], .seq
   (.ops [⟨(some 0), none, .mv (.c (.bool false))⟩])
   (.seq
    (.ops [⟨(some 12), none, .call 23 [(.c (.int .i64 3))]⟩,
      ⟨(some 13), none, .call 11 [(.t 12)]⟩,
      ⟨(some 11), none, .mv (.t 13)⟩,
      ⟨(some 14), none, .ext (.t 11) 0⟩,
      ⟨(some 15), none, .ext (.t 11) 1⟩,
      ⟨(some 1), none, .mv (.t 14)⟩,
      ⟨(some 2), none, .mv (.t 15)⟩])
    (.seq
     (.seq
      (.ops [⟨(some 16), none, .mv (.t 2)⟩,
        ⟨(some 17), none, .bin .neq (.t 16) (.c (.int .i64 0))⟩,
        ⟨(some 18), none, .mv (.t 17)⟩,
        ⟨(some 19), (some (18, false)), .mv (.t 1)⟩,
        ⟨(some 20), (some (18, false)), .eq false 31 (.pointer 53) (.t 19) (.c .nilptr)⟩,
        ⟨(some 21), none, .pick (.t 18) (.c (.bool true)) (.t 20)⟩])
      (.cond (.t 21)
       (.seq
        (.ops [⟨(some 0), none, .mv (.c (.bool false))⟩])
        (.ret))
       (.skip)))
     (.seq
      (.ops [⟨(some 22), none, .mv (.t 1)⟩,
        ⟨(some 23), none, .build [(.int .i64 0), (.int .i64 0), (.int .i64 0), (.str [])] [(0, 1), (1, 1), (2, 1), (3, 1)] [(0, (.c (.int .i64 2))), (1, (.c (.int .i64 0))), (2, (.c (.int .i64 1)))]⟩,
        ⟨(some 24), none, .call 12 [(.t 22), (.t 23)]⟩,
        ⟨(some 3), none, .mv (.t 24)⟩])
      (.seq
       (.ops [⟨(some 25), none, .mv (.t 1)⟩,
         ⟨(some 26), none, .build [(.int .i64 0), (.int .i64 0), (.int .i64 0), (.str [])] [(0, 1), (1, 1), (2, 1), (3, 1)] [(0, (.c (.int .i64 1))), (1, (.c (.int .i64 1))), (2, (.c (.int .i64 0))), (3, (.c (.str [121])))]⟩,
         ⟨(some 27), none, .call 12 [(.t 25), (.t 26)]⟩,
         ⟨(some 4), none, .mv (.t 27)⟩])
       (.seq
        (.ops [⟨(some 28), none, .mv (.t 1)⟩,
          ⟨(some 29), none, .build [(.int .i64 0), (.int .i64 0), (.int .i64 0), (.str [])] [(0, 1), (1, 1), (2, 1), (3, 1)] [(0, (.c (.int .i64 3))), (1, (.c (.int .i64 1))), (2, (.c (.int .i64 0)))]⟩,
          ⟨(some 30), none, .call 12 [(.t 28), (.t 29)]⟩,
          ⟨(some 5), none, .mv (.t 30)⟩])
        (.seq
         (.ops [⟨(some 31), none, .mv (.t 1)⟩,
           ⟨(some 32), none, .call 24 [(.c (.str [120])), (.c (.int .i64 4097))]⟩,
           ⟨(some 33), none, .build [(.int .i64 0), (.int .i64 0), (.int .i64 0), (.str [])] [(0, 1), (1, 1), (2, 1), (3, 1)] [(0, (.c (.int .i64 2))), (1, (.c (.int .i64 1))), (2, (.c (.int .i64 0))), (3, (.t 32))]⟩,
           ⟨(some 34), none, .call 12 [(.t 31), (.t 33)]⟩,
           ⟨(some 6), none, .mv (.t 34)⟩])
         (.seq
          (.ops [⟨(some 35), none, .mv (.t 1)⟩,
            ⟨(some 36), none, .call 24 [(.c (.str [120])), (.c (.int .i64 4096))]⟩,
            ⟨(some 37), none, .build [(.int .i64 0), (.int .i64 0), (.int .i64 0), (.str [])] [(0, 1), (1, 1), (2, 1), (3, 1)] [(0, (.c (.int .i64 2))), (1, (.c (.int .i64 1))), (2, (.c (.int .i64 0))), (3, (.t 36))]⟩,
            ⟨(some 38), none, .call 12 [(.t 35), (.t 37)]⟩,
            ⟨(some 7), none, .mv (.t 38)⟩])
          (.seq
           (.seq
            (.ops [⟨(some 8), none, .mv (.c (.int .i64 0))⟩])
            (.block 0 (.loop (.seq
               (.seq
                (.ops [⟨(some 39), none, .mv (.t 8)⟩,
                  ⟨(some 40), none, .bin .lss (.t 39) (.c (.int .i64 15))⟩])
                (.cond (.t 40)
                 (.skip)
                 (.exit 0)))
               (.seq
                (.block 1 (.seq
                  (.ops [⟨(some 43), none, .mv (.t 1)⟩,
                    ⟨(some 44), none, .build [(.int .i64 0), (.int .i64 0), (.int .i64 0), (.str [])] [(0, 1), (1, 1), (2, 1), (3, 1)] [(0, (.c (.int .i64 2))), (1, (.c (.int .i64 2))), (2, (.c (.int .i64 1)))]⟩,
                    ⟨(some 45), none, .call 12 [(.t 43), (.t 44)]⟩,
                    ⟨(some 46), none, .bin .neq (.t 45) (.c (.int .i64 0))⟩])
                  (.cond (.t 46)
                   (.seq
                    (.ops [⟨(some 0), none, .mv (.c (.bool false))⟩])
                    (.ret))
                   (.skip))))
                (.ops [⟨(some 41), none, .mv (.t 8)⟩,
                  ⟨(some 42), none, .bin .add (.t 41) (.c (.int .i64 1))⟩,
                  ⟨(some 8), none, .mv (.t 42)⟩]))))))
           (.seq
            (.ops [⟨(some 47), none, .mv (.t 1)⟩,
              ⟨(some 48), none, .build [(.int .i64 0), (.int .i64 0), (.int .i64 0), (.str [])] [(0, 1), (1, 1), (2, 1), (3, 1)] [(0, (.c (.int .i64 2))), (1, (.c (.int .i64 2))), (2, (.c (.int .i64 1)))]⟩,
              ⟨(some 49), none, .call 12 [(.t 47), (.t 48)]⟩,
              ⟨(some 9), none, .mv (.t 49)⟩])
            (.seq
             (.ops [⟨(some 50), none, .mv (.t 1)⟩,
               ⟨(some 51), none, .build [(.int .i64 0), (.int .i64 0), (.int .i64 0), (.str [])] [(0, 1), (1, 1), (2, 1), (3, 1)] [(0, (.c (.int .i64 1))), (1, (.c (.int .i64 1))), (2, (.c (.int .i64 0)))]⟩,
               ⟨(some 52), none, .call 12 [(.t 50), (.t 51)]⟩,
               ⟨(some 10), none, .mv (.t 52)⟩])
             (.seq
              (.ops [⟨(some 53), none, .mv (.c (.bool true))⟩,
                ⟨(some 54), (some (53, true)), .call 7 []⟩,
                ⟨(some 55), none, .pick (.t 53) (.t 54) (.c (.bool false))⟩,
                ⟨(some 56), none, .mv (.t 55)⟩,
                ⟨(some 57), (some (56, true)), .mv (.t 3)⟩,
                ⟨(some 58), (some (56, true)), .bin .eql (.t 57) (.c (.int .i64 7))⟩,
                ⟨(some 59), none, .pick (.t 56) (.t 58) (.c (.bool false))⟩,
                ⟨(some 60), none, .mv (.t 59)⟩,
                ⟨(some 61), (some (60, true)), .mv (.t 4)⟩,
                ⟨(some 62), (some (60, true)), .bin .eql (.t 61) (.c (.int .i64 0))⟩,
                ⟨(some 63), none, .pick (.t 60) (.t 62) (.c (.bool false))⟩,
                ⟨(some 64), none, .mv (.t 63)⟩,
                ⟨(some 65), (some (64, true)), .mv (.t 5)⟩,
                ⟨(some 66), (some (64, true)), .bin .eql (.t 65) (.c (.int .i64 1))⟩,
                ⟨(some 67), none, .pick (.t 64) (.t 66) (.c (.bool false))⟩,
                ⟨(some 68), none, .mv (.t 67)⟩,
                ⟨(some 69), (some (68, true)), .mv (.t 6)⟩,
                ⟨(some 70), (some (68, true)), .bin .eql (.t 69) (.c (.int .i64 3))⟩,
                ⟨(some 71), none, .pick (.t 68) (.t 70) (.c (.bool false))⟩,
                ⟨(some 72), none, .mv (.t 71)⟩,
                ⟨(some 73), (some (72, true)), .mv (.t 7)⟩,
                ⟨(some 74), (some (72, true)), .bin .eql (.t 73) (.c (.int .i64 0))⟩,
                ⟨(some 75), none, .pick (.t 72) (.t 74) (.c (.bool false))⟩,
                ⟨(some 76), none, .mv (.t 75)⟩,
                ⟨(some 77), (some (76, true)), .mv (.t 9)⟩,
                ⟨(some 78), (some (76, true)), .bin .eql (.t 77) (.c (.int .i64 6))⟩,
                ⟨(some 79), none, .pick (.t 76) (.t 78) (.c (.bool false))⟩,
                ⟨(some 80), none, .mv (.t 79)⟩,
                ⟨(some 81), (some (80, true)), .mv (.t 10)⟩,
                ⟨(some 82), (some (80, true)), .bin .eql (.t 81) (.c (.int .i64 0))⟩,
                ⟨(some 83), none, .pick (.t 80) (.t 82) (.c (.bool false))⟩,
                ⟨(some 84), none, .mv (.t 83)⟩,
                ⟨(some 85), (some (84, true)), .mv (.t 1)⟩,
                ⟨(some 86), (some (84, true)), .call 16 [(.t 85)]⟩,
                ⟨(some 87), (some (84, true)), .bin .eql (.t 86) (.c (.int .i64 18))⟩,
                ⟨(some 88), none, .pick (.t 84) (.t 87) (.c (.bool false))⟩,
                ⟨(some 89), none, .mv (.t 88)⟩,
                ⟨(some 90), (some (89, true)), .mv (.t 1)⟩,
                ⟨(some 91), (some (89, true)), .call 19 [(.t 90), (.c (.int .i64 1))]⟩,
                ⟨(some 92), (some (89, true)), .lenL (.t 91)⟩,
                ⟨(some 93), (some (89, true)), .bin .eql (.t 92) (.c (.int .i64 2))⟩,
                ⟨(some 94), none, .pick (.t 89) (.t 93) (.c (.bool false))⟩,
                ⟨(some 0), none, .mv (.t 94)⟩])
              (.ret))))))))))))⟩
theorem ok6 : FnOk Tryd.prog 6 a6 := FnOk.of Tryd.prog Tryd.func6 (by kernel_rfl)
/-- jalousie/jalousielaw02.awake -/
def a7 : AFn := ⟨65, [.tmp 0], .seq
   (.ops [⟨(some 0), none, .mv (.c (.bool false))⟩])
   (.seq
    (.ops [⟨(some 8), none, .call 23 [(.c (.int .i64 3))]⟩,
      ⟨(some 9), none, .call 11 [(.t 8)]⟩,
      ⟨(some 7), none, .mv (.t 9)⟩,
      ⟨(some 10), none, .ext (.t 7) 0⟩,
      ⟨(some 11), none, .ext (.t 7) 1⟩,
      ⟨(some 1), none, .mv (.t 10)⟩,
      ⟨(some 2), none, .mv (.t 11)⟩])
    (.seq
     (.seq
      (.ops [⟨(some 12), none, .mv (.t 2)⟩,
        ⟨(some 13), none, .bin .neq (.t 12) (.c (.int .i64 0))⟩,
        ⟨(some 14), none, .mv (.t 13)⟩,
        ⟨(some 15), (some (14, false)), .mv (.t 1)⟩,
        ⟨(some 16), (some (14, false)), .eq false 31 (.pointer 53) (.t 15) (.c .nilptr)⟩,
        ⟨(some 17), none, .pick (.t 14) (.c (.bool true)) (.t 16)⟩])
      (.cond (.t 17)
       (.seq
        (.ops [⟨(some 0), none, .mv (.c (.bool false))⟩])
        (.ret))
       (.skip)))
     (.seq
      (.ops [⟨(some 18), none, .mv (.t 1)⟩,
        ⟨(some 19), none, .build [(.int .i64 0), (.int .i64 0), (.int .i64 0), (.str [])] [(0, 1), (1, 1), (2, 1), (3, 1)] [(0, (.c (.int .i64 2))), (1, (.c (.int .i64 1))), (3, (.c (.str [97, 98, 99])))]⟩,
        ⟨(some 20), none, .call 12 [(.t 18), (.t 19)]⟩,
        ⟨(some 3), none, .mv (.t 20)⟩])
      (.seq
       (.ops [⟨(some 21), none, .mv (.t 1)⟩,
         ⟨(some 22), none, .build [(.int .i64 0), (.int .i64 0), (.int .i64 0), (.str [])] [(0, 1), (1, 1), (2, 1), (3, 1)] [(0, (.c (.int .i64 1))), (1, (.c (.int .i64 2))), (3, (.c (.str [120])))]⟩,
         ⟨(some 23), none, .call 12 [(.t 21), (.t 22)]⟩,
         ⟨(some 4), none, .mv (.t 23)⟩])
       (.seq
        (.ops [⟨(some 25), none, .mv (.t 1)⟩,
          ⟨(some 26), none, .call 17 [(.t 25), (.c (.int .i64 0))]⟩,
          ⟨(some 24), none, .mv (.t 26)⟩,
          ⟨(some 27), none, .ext (.t 24) 0⟩,
          ⟨(some 28), none, .ext (.t 24) 1⟩,
          ⟨(some 5), none, .alloc 40 [(.int .i64 0), (.int .i64 0), (.int .i64 0), (.str [])]⟩,
          ⟨none, none, .store 4 (.t 5) (.t 27)⟩,
          ⟨(some 6), none, .mv (.t 28)⟩])
        (.seq
         (.ops [⟨(some 29), none, .mv (.t 3)⟩,
           ⟨(some 30), none, .bin .eql (.t 29) (.c (.int .i64 0))⟩,
           ⟨(some 31), none, .mv (.t 30)⟩,
           ⟨(some 32), (some (31, true)), .mv (.t 4)⟩,
           ⟨(some 33), (some (31, true)), .bin .eql (.t 32) (.c (.int .i64 7))⟩,
           ⟨(some 34), none, .pick (.t 31) (.t 33) (.c (.bool false))⟩,
           ⟨(some 35), none, .mv (.t 34)⟩,
           ⟨(some 36), (some (35, true)), .mv (.t 1)⟩,
           ⟨(some 37), (some (35, true)), .call 16 [(.t 36)]⟩,
           ⟨(some 38), (some (35, true)), .bin .eql (.t 37) (.c (.int .i64 1))⟩,
           ⟨(some 39), none, .pick (.t 35) (.t 38) (.c (.bool false))⟩,
           ⟨(some 40), none, .mv (.t 39)⟩,
           ⟨(some 41), (some (40, true)), .mv (.t 1)⟩,
           ⟨(some 42), (some (40, true)), .call 14 [(.t 41), (.c (.int .i64 2))]⟩,
           ⟨(some 43), (some (40, true)), .bin .eql (.t 42) (.c (.int .i64 15))⟩,
           ⟨(some 44), none, .pick (.t 40) (.t 43) (.c (.bool false))⟩,
           ⟨(some 45), none, .mv (.t 44)⟩,
           ⟨(some 46), (some (45, true)), .mv (.t 6)⟩,
           ⟨(some 47), none, .pick (.t 45) (.t 46) (.c (.bool false))⟩,
           ⟨(some 48), none, .mv (.t 47)⟩,
           ⟨(some 49), (some (48, true)), .addr 3 (.t 5)⟩,
           ⟨(some 50), (some (48, true)), .load none (.t 49)⟩,
           ⟨(some 51), (some (48, true)), .bin .eql (.t 50) (.c (.str [97, 98, 99]))⟩,
           ⟨(some 52), none, .pick (.t 48) (.t 51) (.c (.bool false))⟩,
           ⟨(some 53), none, .mv (.t 52)⟩,
           ⟨(some 54), (some (53, true)), .mv (.t 1)⟩,
           ⟨(some 55), (some (53, true)), .call 19 [(.t 54), (.c (.int .i64 2))]⟩,
           ⟨(some 56), (some (53, true)), .lenL (.t 55)⟩,
           ⟨(some 57), (some (53, true)), .bin .eql (.t 56) (.c (.int .i64 1))⟩,
           ⟨(some 58), none, .pick (.t 53) (.t 57) (.c (.bool false))⟩,
           ⟨(some 59), none, .mv (.t 58)⟩,
           ⟨(some 60), (some (59, true)), .mv (.t 1)⟩,
           ⟨(some 61), (some (59, true)), .call 19 [(.t 60), (.c (.int .i64 1))]⟩,
           ⟨(some 62), (some (59, true)), .lenL (.t 61)⟩,
           ⟨(some 63), (some (59, true)), .bin .eql (.t 62) (.c (.int .i64 0))⟩,
           ⟨(some 64), none, .pick (.t 59) (.t 63) (.c (.bool false))⟩,
           ⟨(some 0), none, .mv (.t 64)⟩])
         (.ret)))))))⟩
theorem ok7 : FnOk Tryd.prog 7 a7 := FnOk.of Tryd.prog Tryd.func7 (by kernel_rfl)
/-- jalousie/jalousielaw02.Great -/
def a8 : AFn := ⟨55, [.tmp 4], .seq
   (.ops [⟨(some 4), none, .mv (.c (.bool false))⟩])
   (.seq
    (.ops [⟨(some 5), none, .mv (.c (.int .i64 0))⟩])
    (.seq
     (.seq
      (.ops [⟨(some 6), none, .mv (.c (.int .i64 0))⟩])
      (.block 0 (.loop (.seq
         (.seq
          (.ops [⟨(some 8), none, .mv (.t 6)⟩,
            ⟨(some 9), none, .mv (.t 1)⟩,
            ⟨(some 10), none, .lenL (.t 9)⟩,
            ⟨(some 11), none, .bin .lss (.t 8) (.t 10)⟩,
            ⟨(some 12), none, .mv (.t 11)⟩,
            ⟨(some 13), (some (12, true)), .mv (.t 6)⟩,
            ⟨(some 14), (some (12, true)), .bin .leq (.t 13) (.c (.int .i64 100))⟩,
            ⟨(some 15), none, .pick (.t 12) (.t 14) (.c (.bool false))⟩])
          (.cond (.t 15)
           (.skip)
           (.exit 0)))
         (.seq
          (.block 1 (.ops [⟨(some 18), none, .mv (.t 5)⟩,
             ⟨(some 19), none, .mv (.t 1)⟩,
             ⟨(some 20), none, .mv (.t 6)⟩,
             ⟨(some 21), none, .iaddrS 4 (.t 19) (.t 20)⟩,
             ⟨(some 22), none, .addr 3 (.t 21)⟩,
             ⟨(some 23), none, .load none (.t 22)⟩,
             ⟨(some 24), none, .lenS (.t 23)⟩,
             ⟨(some 25), none, .minI (.t 24) [(.c (.int .i64 50001))]⟩,
             ⟨(some 26), none, .bin .add (.t 18) (.t 25)⟩,
             ⟨(some 5), none, .mv (.t 26)⟩]))
          (.ops [⟨(some 16), none, .mv (.t 6)⟩,
            ⟨(some 17), none, .bin .add (.t 16) (.c (.int .i64 1))⟩,
            ⟨(some 6), none, .mv (.t 17)⟩]))))))
     (.seq
      (.seq
       (.ops [⟨(some 7), none, .mv (.c (.int .i64 0))⟩])
       (.block 2 (.loop (.seq
          (.seq
           (.ops [⟨(some 27), none, .mv (.t 7)⟩,
             ⟨(some 28), none, .mv (.t 0)⟩,
             ⟨(some 29), none, .lenL (.t 28)⟩,
             ⟨(some 30), none, .bin .lss (.t 27) (.t 29)⟩,
             ⟨(some 31), none, .mv (.t 30)⟩,
             ⟨(some 32), (some (31, true)), .mv (.t 7)⟩,
             ⟨(some 33), (some (31, true)), .bin .leq (.t 32) (.c (.int .i64 20))⟩,
             ⟨(some 34), none, .pick (.t 31) (.t 33) (.c (.bool false))⟩])
           (.cond (.t 34)
            (.skip)
            (.exit 2)))
          (.seq
           (.block 3 (.seq
             (.ops [⟨(some 37), none, .mv (.t 0)⟩,
               ⟨(some 38), none, .mv (.t 7)⟩,
               ⟨(some 39), none, .iaddrS 1 (.t 37) (.t 38)⟩,
               ⟨(some 40), none, .load none (.t 39)⟩,
               ⟨(some 41), none, .lenL (.t 40)⟩,
               ⟨(some 42), none, .bin .gtr (.t 41) (.c (.int .i64 20))⟩])
             (.cond (.t 42)
              (.seq
               (.ops [⟨(some 4), none, .mv (.c (.bool true))⟩])
               (.ret))
              (.skip))))
           (.ops [⟨(some 35), none, .mv (.t 7)⟩,
             ⟨(some 36), none, .bin .add (.t 35) (.c (.int .i64 1))⟩,
             ⟨(some 7), none, .mv (.t 36)⟩]))))))
      (.seq
       (.ops [⟨(some 43), none, .mv (.t 0)⟩,
         ⟨(some 44), none, .lenL (.t 43)⟩,
         ⟨(some 45), none, .bin .gtr (.t 44) (.c (.int .i64 20))⟩,
         ⟨(some 46), none, .mv (.t 45)⟩,
         ⟨(some 47), (some (46, false)), .mv (.t 1)⟩,
         ⟨(some 48), (some (46, false)), .lenL (.t 47)⟩,
         ⟨(some 49), (some (46, false)), .bin .gtr (.t 48) (.c (.int .i64 100))⟩,
         ⟨(some 50), none, .pick (.t 46) (.c (.bool true)) (.t 49)⟩,
         ⟨(some 51), none, .mv (.t 50)⟩,
         ⟨(some 52), (some (51, false)), .mv (.t 5)⟩,
         ⟨(some 53), (some (51, false)), .bin .gtr (.t 52) (.c (.int .i64 50000))⟩,
         ⟨(some 54), none, .pick (.t 51) (.c (.bool true)) (.t 53)⟩,
         ⟨(some 4), none, .mv (.t 54)⟩])
       (.ret)))))⟩
theorem ok8 : FnOk Tryd.prog 8 a8 := FnOk.of Tryd.prog Tryd.func8 (by kernel_rfl)
/-- jalousie/jalousieref01.New -/
def a9 : AFn := ⟨122, [.tmp 2], .seq
   (.ops [⟨(some 2), none, .mv (.c (.int .i64 0))⟩])
   (.seq
    (.ops [⟨(some 10), none, .mv (.t 0)⟩,
      ⟨(some 11), none, .lenL (.t 10)⟩,
      ⟨(some 3), none, .mv (.t 11)⟩])
    (.seq
     (.seq
      (.ops [⟨(some 12), none, .mv (.t 3)⟩,
        ⟨(some 13), none, .bin .lss (.t 12) (.c (.int .i64 1))⟩,
        ⟨(some 14), none, .mv (.t 13)⟩,
        ⟨(some 15), (some (14, false)), .mv (.t 3)⟩,
        ⟨(some 16), (some (14, false)), .bin .gtr (.t 15) (.c (.int .i64 64))⟩,
        ⟨(some 17), none, .pick (.t 14) (.c (.bool true)) (.t 16)⟩])
      (.cond (.t 17)
       (.seq
        (.ops [⟨(some 2), none, .mv (.c (.int .i64 3))⟩])
        (.ret))
       (.skip)))
     (.seq
      (.seq
       (.ops [⟨(some 4), none, .mv (.c (.int .i64 0))⟩])
       (.block 0 (.loop (.seq
          (.seq
           (.ops [⟨(some 18), none, .mv (.t 4)⟩,
             ⟨(some 19), none, .mv (.t 3)⟩,
             ⟨(some 20), none, .bin .lss (.t 18) (.t 19)⟩])
           (.cond (.t 20)
            (.skip)
            (.exit 0)))
          (.seq
           (.block 1 (.seq
             (.ops [⟨(some 23), none, .mv (.t 0)⟩,
               ⟨(some 24), none, .mv (.t 4)⟩,
               ⟨(some 25), none, .iaddrS 1 (.t 23) (.t 24)⟩,
               ⟨(some 26), none, .load none (.t 25)⟩,
               ⟨(some 27), none, .lenL (.t 26)⟩,
               ⟨(some 28), none, .mv (.t 3)⟩,
               ⟨(some 29), none, .bin .neq (.t 27) (.t 28)⟩])
             (.cond (.t 29)
              (.seq
               (.ops [⟨(some 2), none, .mv (.c (.int .i64 8))⟩])
               (.ret))
              (.skip))))
           (.ops [⟨(some 21), none, .mv (.t 4)⟩,
             ⟨(some 22), none, .bin .add (.t 21) (.c (.int .i64 1))⟩,
             ⟨(some 4), none, .mv (.t 22)⟩]))))))
      (.seq
       (.seq
        (.ops [⟨(some 5), none, .mv (.c (.int .i64 0))⟩])
        (.block 2 (.loop (.seq
           (.seq
            (.ops [⟨(some 30), none, .mv (.t 5)⟩,
              ⟨(some 31), none, .mv (.t 3)⟩,
              ⟨(some 32), none, .bin .lss (.t 30) (.t 31)⟩])
            (.cond (.t 32)
             (.skip)
             (.exit 2)))
           (.seq
            (.block 3 (.seq
              (.seq
               (.ops [⟨(some 35), none, .mv (.t 0)⟩,
                 ⟨(some 36), none, .mv (.t 5)⟩,
                 ⟨(some 37), none, .iaddrS 1 (.t 35) (.t 36)⟩,
                 ⟨(some 38), none, .load none (.t 37)⟩,
                 ⟨(some 39), none, .mv (.t 5)⟩,
                 ⟨(some 40), none, .iaddrS 1 (.t 38) (.t 39)⟩,
                 ⟨(some 41), none, .load none (.t 40)⟩,
                 ⟨(some 42), none, .un .not (.t 41)⟩])
               (.cond (.t 42)
                (.seq
                 (.ops [⟨(some 2), none, .mv (.c (.int .i64 1))⟩])
                 (.ret))
                (.skip)))
              (.seq
               (.ops [⟨(some 6), none, .mv (.c (.int .i64 0))⟩])
               (.block 4 (.loop (.seq
                  (.seq
                   (.ops [⟨(some 43), none, .mv (.t 6)⟩,
                     ⟨(some 44), none, .mv (.t 3)⟩,
                     ⟨(some 45), none, .bin .lss (.t 43) (.t 44)⟩])
                   (.cond (.t 45)
                    (.skip)
                    (.exit 4)))
                  (.seq
                   (.block 5 (.seq
                     (.seq
                      (.ops [⟨(some 48), none, .mv (.t 5)⟩,
                        ⟨(some 49), none, .mv (.t 6)⟩,
                        ⟨(some 50), none, .bin .neq (.t 48) (.t 49)⟩,
                        ⟨(some 51), none, .mv (.t 50)⟩,
                        ⟨(some 52), (some (51, true)), .mv (.t 0)⟩,
                        ⟨(some 53), (some (51, true)), .mv (.t 5)⟩,
                        ⟨(some 54), (some (51, true)), .iaddrS 1 (.t 52) (.t 53)⟩,
                        ⟨(some 55), (some (51, true)), .load none (.t 54)⟩,
                        ⟨(some 56), (some (51, true)), .mv (.t 6)⟩,
                        ⟨(some 57), (some (51, true)), .iaddrS 1 (.t 55) (.t 56)⟩,
                        ⟨(some 58), (some (51, true)), .load none (.t 57)⟩,
                        ⟨(some 59), none, .pick (.t 51) (.t 58) (.c (.bool false))⟩,
                        ⟨(some 60), none, .mv (.t 59)⟩,
                        ⟨(some 61), (some (60, true)), .mv (.t 0)⟩,
                        ⟨(some 62), (some (60, true)), .mv (.t 6)⟩,
                        ⟨(some 63), (some (60, true)), .iaddrS 1 (.t 61) (.t 62)⟩,
                        ⟨(some 64), (some (60, true)), .load none (.t 63)⟩,
                        ⟨(some 65), (some (60, true)), .mv (.t 5)⟩,
                        ⟨(some 66), (some (60, true)), .iaddrS 1 (.t 64) (.t 65)⟩,
                        ⟨(some 67), (some (60, true)), .load none (.t 66)⟩,
                        ⟨(some 68), none, .pick (.t 60) (.t 67) (.c (.bool false))⟩])
                      (.cond (.t 68)
                       (.seq
                        (.ops [⟨(some 2), none, .mv (.c (.int .i64 1))⟩])
                        (.ret))
                       (.skip)))
                     (.seq
                      (.ops [⟨(some 7), none, .mv (.c (.int .i64 0))⟩])
                      (.block 6 (.loop (.seq
                         (.seq
                          (.ops [⟨(some 69), none, .mv (.t 7)⟩,
                            ⟨(some 70), none, .mv (.t 3)⟩,
                            ⟨(some 71), none, .bin .lss (.t 69) (.t 70)⟩])
                          (.cond (.t 71)
                           (.skip)
                           (.exit 6)))
                         (.seq
                          (.block 7 (.seq
                            (.ops [⟨(some 74), none, .mv (.t 0)⟩,
                              ⟨(some 75), none, .mv (.t 5)⟩,
                              ⟨(some 76), none, .iaddrS 1 (.t 74) (.t 75)⟩,
                              ⟨(some 77), none, .load none (.t 76)⟩,
                              ⟨(some 78), none, .mv (.t 6)⟩,
                              ⟨(some 79), none, .iaddrS 1 (.t 77) (.t 78)⟩,
                              ⟨(some 80), none, .load none (.t 79)⟩,
                              ⟨(some 81), none, .mv (.t 80)⟩,
                              ⟨(some 82), (some (81, true)), .mv (.t 0)⟩,
                              ⟨(some 83), (some (81, true)), .mv (.t 6)⟩,
                              ⟨(some 84), (some (81, true)), .iaddrS 1 (.t 82) (.t 83)⟩,
                              ⟨(some 85), (some (81, true)), .load none (.t 84)⟩,
                              ⟨(some 86), (some (81, true)), .mv (.t 7)⟩,
                              ⟨(some 87), (some (81, true)), .iaddrS 1 (.t 85) (.t 86)⟩,
                              ⟨(some 88), (some (81, true)), .load none (.t 87)⟩,
                              ⟨(some 89), none, .pick (.t 81) (.t 88) (.c (.bool false))⟩,
                              ⟨(some 90), none, .mv (.t 89)⟩,
                              ⟨(some 91), (some (90, true)), .mv (.t 0)⟩,
                              ⟨(some 92), (some (90, true)), .mv (.t 5)⟩,
                              ⟨(some 93), (some (90, true)), .iaddrS 1 (.t 91) (.t 92)⟩,
                              ⟨(some 94), (some (90, true)), .load none (.t 93)⟩,
                              ⟨(some 95), (some (90, true)), .mv (.t 7)⟩,
                              ⟨(some 96), (some (90, true)), .iaddrS 1 (.t 94) (.t 95)⟩,
                              ⟨(some 97), (some (90, true)), .load none (.t 96)⟩,
                              ⟨(some 98), (some (90, true)), .un .not (.t 97)⟩,
                              ⟨(some 99), none, .pick (.t 90) (.t 98) (.c (.bool false))⟩])
                            (.cond (.t 99)
                             (.seq
                              (.ops [⟨(some 2), none, .mv (.c (.int .i64 1))⟩])
                              (.ret))
                             (.skip))))
                          (.ops [⟨(some 72), none, .mv (.t 7)⟩,
                            ⟨(some 73), none, .bin .add (.t 72) (.c (.int .i64 1))⟩,
                            ⟨(some 7), none, .mv (.t 73)⟩]))))))))
                   (.ops [⟨(some 46), none, .mv (.t 6)⟩,
                     ⟨(some 47), none, .bin .add (.t 46) (.c (.int .i64 1))⟩,
                     ⟨(some 6), none, .mv (.t 47)⟩]))))))))
            (.ops [⟨(some 33), none, .mv (.t 5)⟩,
              ⟨(some 34), none, .bin .add (.t 33) (.c (.int .i64 1))⟩,
              ⟨(some 5), none, .mv (.t 34)⟩]))))))
       (.seq
        (.seq
         (.ops [⟨(some 8), none, .mv (.c (.int .i64 0))⟩])
         (.block 8 (.loop (.seq
            (.seq
             (.ops [⟨(some 100), none, .mv (.t 8)⟩,
               ⟨(some 101), none, .mv (.t 3)⟩,
               ⟨(some 102), none, .bin .lss (.t 100) (.t 101)⟩])
             (.cond (.t 102)
              (.skip)
              (.exit 8)))
            (.seq
             (.block 9 (.seq
               (.ops [⟨(some 9), none, .mv (.c (.int .i64 0))⟩])
               (.block 10 (.loop (.seq
                  (.seq
                   (.ops [⟨(some 105), none, .mv (.t 9)⟩,
                     ⟨(some 106), none, .mv (.t 3)⟩,
                     ⟨(some 107), none, .bin .lss (.t 105) (.t 106)⟩])
                   (.cond (.t 107)
                    (.skip)
                    (.exit 10)))
                  (.seq
                   (.block 11 (.seq
                     (.ops [⟨(some 110), none, .mv (.t 0)⟩,
                       ⟨(some 111), none, .mv (.t 8)⟩,
                       ⟨(some 112), none, .mv (.t 9)⟩,
                       ⟨(some 113), none, .call 25 [(.t 110), (.t 111), (.t 112)]⟩,
                       ⟨(some 114), none, .bin .lss (.t 113) (.c (.int .i64 0))⟩,
                       ⟨(some 115), none, .mv (.t 114)⟩,
                       ⟨(some 116), (some (115, false)), .mv (.t 0)⟩,
                       ⟨(some 117), (some (115, false)), .mv (.t 8)⟩,
                       ⟨(some 118), (some (115, false)), .mv (.t 9)⟩,
                       ⟨(some 119), (some (115, false)), .call 26 [(.t 116), (.t 117), (.t 118)]⟩,
                       ⟨(some 120), (some (115, false)), .bin .lss (.t 119) (.c (.int .i64 0))⟩,
                       ⟨(some 121), none, .pick (.t 115) (.c (.bool true)) (.t 120)⟩])
                     (.cond (.t 121)
                      (.seq
                       (.ops [⟨(some 2), none, .mv (.c (.int .i64 1))⟩])
                       (.ret))
                      (.skip))))
                   (.ops [⟨(some 108), none, .mv (.t 9)⟩,
                     ⟨(some 109), none, .bin .add (.t 108) (.c (.int .i64 1))⟩,
                     ⟨(some 9), none, .mv (.t 109)⟩])))))))
             (.ops [⟨(some 103), none, .mv (.t 8)⟩,
               ⟨(some 104), none, .bin .add (.t 103) (.c (.int .i64 1))⟩,
               ⟨(some 8), none, .mv (.t 104)⟩]))))))
        (.seq
         (.ops [⟨(some 2), none, .mv (.c (.int .i64 0))⟩])
         (.ret)))))))⟩
theorem ok9 : FnOk Tryd.prog 9 a9 := FnOk.of Tryd.prog Tryd.func9 (by kernel_rfl)
/-- jalousie/lattice.New -/
def a10 : AFn := ⟨127, [.tmp 2, .tmp 3], .seq
   (.ops [⟨(some 2), none, .mv (.c .nilptr)⟩,
     ⟨(some 3), none, .mv (.c (.int .i64 0))⟩])
   (.seq
    (.ops [⟨(some 12), none, .mv (.t 0)⟩,
      ⟨(some 13), none, .lenL (.t 12)⟩,
      ⟨(some 4), none, .mv (.t 13)⟩])
    (.seq
     (.seq
      (.ops [⟨(some 14), none, .mv (.t 4)⟩,
        ⟨(some 15), none, .bin .lss (.t 14) (.c (.int .i64 1))⟩,
        ⟨(some 16), none, .mv (.t 15)⟩,
        ⟨(some 17), (some (16, false)), .mv (.t 4)⟩,
        ⟨(some 18), (some (16, false)), .bin .gtr (.t 17) (.c (.int .i64 64))⟩,
        ⟨(some 19), none, .pick (.t 16) (.c (.bool true)) (.t 18)⟩])
      (.cond (.t 19)
       (.seq
        (.ops [⟨(some 2), none, .mv (.c .nilptr)⟩,
          ⟨(some 3), none, .mv (.c (.int .i64 3))⟩])
        (.ret))
       (.skip)))
     (.seq
      (.draw [⟨⟨(some 20), none, .mv (.t 4)⟩, []⟩,
        ⟨⟨(some 21), none, .mksl 78 1 8 [(.int .u64 0)] (.t 20) (.t 20)⟩, [0, 0]⟩,
        ⟨⟨(some 22), none, .mv (.t 4)⟩, []⟩,
        ⟨⟨(some 23), none, .mksl 78 1 8 [(.int .u64 0)] (.t 22) (.t 22)⟩, [2, 2]⟩,
        ⟨⟨(some 24), none, .build [.nilslice, .nilslice, (.int .u32 0), (.int .i32 0), (.int .u32 0), .nilslice, .nilslice] [(0, 1), (1, 1), (2, 3), (5, 1), (6, 1)] [(0, (.t 21)), (1, (.t 23))]⟩, [1, 3]⟩,
        ⟨⟨(some 25), none, .box 77 (.t 24)⟩, [4]⟩,
        ⟨⟨(some 5), none, .mv (.t 25)⟩, [5, 0, 1, 2, 3, 4, 5]⟩] [0, 1, 0, 4, 15, 31, 63])
      (.seq
       (.seq
        (.ops [⟨(some 26), none, .mv (.t 0)⟩,
          ⟨(some 27), none, .lenL (.t 26)⟩,
          ⟨(some 28), none, .mv (.c (.int .i64 0))⟩])
        (.block 0 (.loop (.seq
           (.ops [⟨(some 29), none, .bin .lss (.t 28) (.t 27)⟩])
           (.seq
            (.cond (.t 29)
             (.skip)
             (.exit 0))
            (.seq
             (.block 1 (.seq
               (.ops [⟨(some 30), none, .mv (.t 28)⟩,
                 ⟨(some 31), none, .iaddrS 1 (.t 26) (.t 28)⟩,
                 ⟨(some 32), none, .load none (.t 31)⟩,
                 ⟨(some 6), none, .mv (.t 30)⟩,
                 ⟨(some 7), none, .mv (.t 32)⟩])
               (.seq
                (.seq
                 (.ops [⟨(some 33), none, .mv (.t 7)⟩,
                   ⟨(some 34), none, .lenL (.t 33)⟩,
                   ⟨(some 35), none, .mv (.t 4)⟩,
                   ⟨(some 36), none, .bin .neq (.t 34) (.t 35)⟩])
                 (.cond (.t 36)
                  (.seq
                   (.ops [⟨(some 2), none, .mv (.c .nilptr)⟩,
                     ⟨(some 3), none, .mv (.c (.int .i64 8))⟩])
                   (.ret))
                  (.skip)))
                (.seq
                 (.ops [⟨(some 37), none, .mv (.t 7)⟩,
                   ⟨(some 38), none, .lenL (.t 37)⟩,
                   ⟨(some 39), none, .mv (.c (.int .i64 0))⟩])
                 (.block 2 (.loop (.seq
                    (.ops [⟨(some 40), none, .bin .lss (.t 39) (.t 38)⟩])
                    (.seq
                     (.cond (.t 40)
                      (.skip)
                      (.exit 2))
                     (.seq
                      (.block 3 (.seq
                        (.ops [⟨(some 41), none, .mv (.t 39)⟩,
                          ⟨(some 42), none, .iaddrS 1 (.t 37) (.t 39)⟩,
                          ⟨(some 43), none, .load none (.t 42)⟩,
                          ⟨(some 8), none, .mv (.t 41)⟩,
                          ⟨(some 9), none, .mv (.t 43)⟩])
                        (.seq
                         (.ops [⟨(some 44), none, .mv (.t 9)⟩])
                         (.cond (.t 44)
                          (.seq
                           (.draw [⟨⟨(some 45), none, .mv (.t 5)⟩, []⟩,
                             ⟨⟨(some 46), none, .nilck (.t 45)⟩, [0]⟩,
                             ⟨⟨(some 47), none, .addr 0 (.t 46)⟩, [1]⟩,
                             ⟨⟨(some 48), none, .load none (.t 47)⟩, [2]⟩,
                             ⟨⟨(some 49), none, .mv (.t 6)⟩, []⟩,
                             ⟨⟨(some 50), none, .iaddrS 1 (.t 48) (.t 49)⟩, [3, 4]⟩,
                             ⟨⟨(some 51), none, .load none (.t 50)⟩, [5]⟩,
                             ⟨⟨(some 52), none, .mv (.t 8)⟩, []⟩,
                             ⟨⟨(some 53), none, .bin .shl (.c (.int .u64 1)) (.t 52)⟩, [7]⟩,
                             ⟨⟨(some 54), none, .bin .or (.t 51) (.t 53)⟩, [6, 8]⟩,
                             ⟨⟨(some 55), none, .iaddrS 1 (.t 48) (.t 49)⟩, [3, 4, 0, 1, 2, 3, 4, 5, 6, 7, 8, 9]⟩,
                             ⟨⟨none, none, .store 1 (.t 55) (.t 54)⟩, [10, 9, 0, 1, 2, 3, 4, 5, 6, 7, 8, 9]⟩] [0, 1, 3, 7, 0, 31, 63, 0, 128, 511, 1023, 2047])
                           (.draw [⟨⟨(some 56), none, .mv (.t 5)⟩, []⟩,
                             ⟨⟨(some 57), none, .nilck (.t 56)⟩, [0]⟩,
                             ⟨⟨(some 58), none, .addr 1 (.t 57)⟩, [1]⟩,
                             ⟨⟨(some 59), none, .load none (.t 58)⟩, [2]⟩,
                             ⟨⟨(some 60), none, .mv (.t 8)⟩, []⟩,
                             ⟨⟨(some 61), none, .iaddrS 1 (.t 59) (.t 60)⟩, [3, 4]⟩,
                             ⟨⟨(some 62), none, .load none (.t 61)⟩, [5]⟩,
                             ⟨⟨(some 63), none, .mv (.t 6)⟩, []⟩,
                             ⟨⟨(some 64), none, .bin .shl (.c (.int .u64 1)) (.t 63)⟩, [7]⟩,
                             ⟨⟨(some 65), none, .bin .or (.t 62) (.t 64)⟩, [6, 8]⟩,
                             ⟨⟨(some 66), none, .iaddrS 1 (.t 59) (.t 60)⟩, [3, 4, 0, 1, 2, 3, 4, 5, 6, 7, 8, 9]⟩,
                             ⟨⟨none, none, .store 1 (.t 66) (.t 65)⟩, [10, 9, 0, 1, 2, 3, 4, 5, 6, 7, 8, 9]⟩] [0, 1, 3, 7, 0, 31, 63, 0, 128, 511, 1023, 2047]))
                          (.skip)))))
                      (.ops [⟨(some 67), none, .bin .add (.t 39) (.c (.int .i64 1))⟩,
                        ⟨(some 39), none, .mv (.t 67)⟩]))))))))))
             (.ops [⟨(some 68), none, .bin .add (.t 28) (.c (.int .i64 1))⟩,
               ⟨(some 28), none, .mv (.t 68)⟩])))))))
       (.seq
        (.seq
         (.ops [⟨(some 69), none, .mv (.t 5)⟩,
           ⟨(some 70), none, .call 27 [(.t 69)]⟩,
           ⟨(some 71), none, .un .not (.t 70)⟩])
         (.cond (.t 71)
          (.seq
           (.ops [⟨(some 2), none, .mv (.c .nilptr)⟩,
             ⟨(some 3), none, .mv (.c (.int .i64 1))⟩])
           (.ret))
          (.skip)))
        (.seq
         (.seq
          (.ops [⟨(some 72), none, .mv (.t 4)⟩,
            ⟨(some 73), none, .mv (.c (.int .i64 0))⟩])
          (.block 4 (.loop (.seq
             (.ops [⟨(some 74), none, .bin .lss (.t 73) (.t 72)⟩])
             (.seq
              (.cond (.t 74)
               (.skip)
               (.exit 4))
              (.seq
               (.block 5 (.seq
                 (.ops [⟨(some 75), none, .mv (.t 73)⟩,
                   ⟨(some 10), none, .mv (.t 75)⟩])
                 (.seq
                  (.ops [⟨(some 76), none, .mv (.t 10)⟩,
                    ⟨(some 77), none, .mv (.c (.int .i64 0))⟩])
                  (.block 6 (.loop (.seq
                     (.ops [⟨(some 78), none, .bin .lss (.t 77) (.t 76)⟩])
                     (.seq
                      (.cond (.t 78)
                       (.skip)
                       (.exit 6))
                      (.seq
                       (.block 7 (.seq
                         (.ops [⟨(some 79), none, .mv (.t 77)⟩,
                           ⟨(some 11), none, .mv (.t 79)⟩])
                         (.seq
                          (.draw [⟨⟨(some 80), none, .mv (.t 5)⟩, []⟩,
                            ⟨⟨(some 81), none, .nilck (.t 80)⟩, [0]⟩,
                            ⟨⟨(some 82), none, .addr 0 (.t 81)⟩, [1]⟩,
                            ⟨⟨(some 83), none, .load none (.t 82)⟩, [2]⟩,
                            ⟨⟨(some 84), none, .mv (.t 10)⟩, []⟩,
                            ⟨⟨(some 85), none, .iaddrS 1 (.t 83) (.t 84)⟩, [3, 4]⟩,
                            ⟨⟨(some 86), none, .load none (.t 85)⟩, [5]⟩,
                            ⟨⟨(some 87), none, .mv (.t 5)⟩, []⟩,
                            ⟨⟨(some 88), none, .nilck (.t 87)⟩, [7]⟩,
                            ⟨⟨(some 89), none, .addr 0 (.t 88)⟩, [8]⟩,
                            ⟨⟨(some 90), none, .load none (.t 89)⟩, [9]⟩,
                            ⟨⟨(some 91), none, .mv (.t 11)⟩, []⟩,
                            ⟨⟨(some 92), none, .iaddrS 1 (.t 90) (.t 91)⟩, [10, 11]⟩,
                            ⟨⟨(some 93), none, .load none (.t 92)⟩, [12]⟩,
                            ⟨⟨(some 94), none, .bin .and (.t 86) (.t 93)⟩, [6, 13]⟩,
                            ⟨⟨(some 95), none, .mv (.t 5)⟩, []⟩,
                            ⟨⟨(some 96), none, .nilck (.t 95)⟩, [15]⟩,
                            ⟨⟨(some 97), none, .addr 0 (.t 96)⟩, [16]⟩,
                            ⟨⟨(some 98), none, .load none (.t 97)⟩, [17]⟩,
                            ⟨⟨(some 99), none, .call 28 [(.t 94), (.t 98)]⟩, [14, 18]⟩,
                            ⟨⟨(some 100), none, .bin .lss (.t 99) (.c (.int .i64 0))⟩, [19]⟩,
                            ⟨⟨(some 101), none, .mv (.t 100)⟩, [20, 19]⟩,
                            ⟨⟨(some 102), (some (101, false)), .mv (.t 5)⟩, [21]⟩,
                            ⟨⟨(some 103), (some (101, false)), .nilck (.t 102)⟩, [22, 21]⟩,
                            ⟨⟨(some 104), (some (101, false)), .addr 1 (.t 103)⟩, [23, 21]⟩,
                            ⟨⟨(some 105), (some (101, false)), .load none (.t 104)⟩, [24, 21]⟩,
                            ⟨⟨(some 106), (some (101, false)), .mv (.t 10)⟩, [21]⟩,
                            ⟨⟨(some 107), (some (101, false)), .iaddrS 1 (.t 105) (.t 106)⟩, [25, 26, 21]⟩,
                            ⟨⟨(some 108), (some (101, false)), .load none (.t 107)⟩, [27, 21]⟩,
                            ⟨⟨(some 109), (some (101, false)), .mv (.t 5)⟩, [21]⟩,
                            ⟨⟨(some 110), (some (101, false)), .nilck (.t 109)⟩, [29, 21]⟩,
                            ⟨⟨(some 111), (some (101, false)), .addr 1 (.t 110)⟩, [30, 21]⟩,
                            ⟨⟨(some 112), (some (101, false)), .load none (.t 111)⟩, [31, 21]⟩,
                            ⟨⟨(some 113), (some (101, false)), .mv (.t 11)⟩, [21]⟩,
                            ⟨⟨(some 114), (some (101, false)), .iaddrS 1 (.t 112) (.t 113)⟩, [32, 33, 21]⟩,
                            ⟨⟨(some 115), (some (101, false)), .load none (.t 114)⟩, [34, 21]⟩,
                            ⟨⟨(some 116), (some (101, false)), .bin .and (.t 108) (.t 115)⟩, [28, 35, 21]⟩,
                            ⟨⟨(some 117), (some (101, false)), .mv (.t 5)⟩, [21]⟩,
                            ⟨⟨(some 118), (some (101, false)), .nilck (.t 117)⟩, [37, 21]⟩,
                            ⟨⟨(some 119), (some (101, false)), .addr 1 (.t 118)⟩, [38, 21]⟩,
                            ⟨⟨(some 120), (some (101, false)), .load none (.t 119)⟩, [39, 21]⟩,
                            ⟨⟨(some 121), (some (101, false)), .call 28 [(.t 116), (.t 120)]⟩, [36, 40, 21, 21]⟩,
                            ⟨⟨(some 122), (some (101, false)), .bin .lss (.t 121) (.c (.int .i64 0))⟩, [41, 21]⟩,
                            ⟨⟨(some 123), none, .pick (.t 101) (.c (.bool true)) (.t 122)⟩, [21, 42]⟩] [0, 1, 3, 7, 0, 31, 63, 0, 128, 384, 896, 0, 3968, 8064, 16383, 0, 32768, 98304, 229376, 524287, 1048575, 2097151, 4194303, 8388607, 16777215, 33554431, 4194303, 134217727, 268435455, 4194303, 541065215, 1614807039, 3762290687, 4194303, 16647192575, 33827061759, 68719476735, 4194303, 137443147775, 412321054719, 962076868607, 2199023255551, 4398046511103, 8796093022207])
                          (.cond (.t 123)
                           (.seq
                            (.ops [⟨(some 2), none, .mv (.c .nilptr)⟩,
                              ⟨(some 3), none, .mv (.c (.int .i64 1))⟩])
                            (.ret))
                           (.skip)))))
                       (.ops [⟨(some 124), none, .bin .add (.t 77) (.c (.int .i64 1))⟩,
                         ⟨(some 77), none, .mv (.t 124)⟩])))))))))
               (.ops [⟨(some 125), none, .bin .add (.t 73) (.c (.int .i64 1))⟩,
                 ⟨(some 73), none, .mv (.t 125)⟩])))))))
         (.seq
          (.ops [⟨(some 126), none, .mv (.t 5)⟩,
            ⟨(some 2), none, .mv (.t 126)⟩,
            ⟨(some 3), none, .mv (.c (.int .i64 0))⟩])
          (.ret))))))))⟩
theorem ok10 : FnOk Tryd.prog 10 a10 := FnOk.of Tryd.prog Tryd.func10 (by kernel_rfl)
/-- jalousie/audit.New -/
def a11 : AFn := ⟨13, [.tmp 2, .tmp 3], .seq
   (.ops [⟨(some 2), none, .mv (.c .nilptr)⟩,
     ⟨(some 3), none, .mv (.c (.int .i64 0))⟩])
   (.seq
    (.seq
     (.ops [⟨(some 4), none, .mv (.t 0)⟩,
       ⟨(some 5), none, .call 29 [(.t 4)]⟩,
       ⟨(some 6), none, .bin .eql (.t 5) (.c (.int .i64 0))⟩])
     (.cond (.t 6)
      (.seq
       (.ops [⟨(some 2), none, .mv (.c .nilptr)⟩,
         ⟨(some 3), none, .mv (.c (.int .i64 2))⟩])
       (.ret))
      (.skip)))
    (.seq
     (.ops [⟨(some 7), none, .mv (.t 0)⟩,
       ⟨(some 8), none, .mv (.t 0)⟩,
       ⟨(some 9), none, .call 29 [(.t 8)]⟩,
       ⟨(some 10), none, .mksl 3 1 8 [(.int .i64 0)] (.t 9) (.t 9)⟩,
       ⟨(some 11), none, .build [.nilptr, .nilslice, .nilslice] [(0, 1), (1, 1), (2, 1)] [(0, (.t 7)), (2, (.t 10))]⟩,
       ⟨(some 12), none, .box 53 (.t 11)⟩,
       ⟨(some 2), none, .mv (.t 12)⟩,
       ⟨(some 3), none, .mv (.c (.int .i64 0))⟩])
     (.ret)))⟩
theorem ok11 : FnOk Tryd.prog 11 a11 := FnOk.of Tryd.prog Tryd.func11 (by kernel_rfl)
/-- (*jalousie/audit.Log).Put -/
def a12 : AFn := ⟨91, [.tmp 4], .seq
   (.ops [⟨(some 3), none, .box 40 (.t 1)⟩,
     ⟨(some 4), none, .mv (.c (.int .i64 0))⟩])
   (.seq
    (.block 0 (.seq
      (.ops [⟨(some 6), none, .mv (.t 0)⟩,
        ⟨(some 7), none, .eq false 31 (.pointer 53) (.t 6) (.c .nilptr)⟩,
        ⟨(some 8), none, .mv (.t 7)⟩,
        ⟨(some 9), (some (8, false)), .mv (.t 0)⟩,
        ⟨(some 10), (some (8, false)), .nilck (.t 9)⟩,
        ⟨(some 11), (some (8, false)), .addr 0 (.t 10)⟩,
        ⟨(some 12), (some (8, false)), .load none (.t 11)⟩,
        ⟨(some 13), (some (8, false)), .eq false 27 (.pointer 77) (.t 12) (.c .nilptr)⟩,
        ⟨(some 14), none, .pick (.t 8) (.c (.bool true)) (.t 13)⟩,
        ⟨(some 5), none, .mv (.t 14)⟩])
      (.cond (.t 5)
       (.seq
        (.ops [⟨(some 4), none, .mv (.c (.int .i64 2))⟩])
        (.ret))
       (.seq
        (.ops [⟨(some 16), none, .mv (.t 0)⟩,
          ⟨(some 17), none, .addr 0 (.t 3)⟩,
          ⟨(some 18), none, .load none (.t 17)⟩,
          ⟨(some 19), none, .addr 1 (.t 3)⟩,
          ⟨(some 20), none, .load none (.t 19)⟩,
          ⟨(some 21), none, .addr 2 (.t 3)⟩,
          ⟨(some 22), none, .load none (.t 21)⟩,
          ⟨(some 23), none, .bslice 3 1 3 [(.int .i64 0)] [(0, (.t 18)), (1, (.t 20)), (2, (.t 22))]⟩,
          ⟨(some 24), none, .call 30 [(.t 16), (.t 23)]⟩,
          ⟨(some 25), none, .un .not (.t 24)⟩,
          ⟨(some 15), none, .mv (.t 25)⟩])
        (.cond (.t 15)
         (.seq
          (.ops [⟨(some 4), none, .mv (.c (.int .i64 1))⟩])
          (.ret))
         (.seq
          (.draw [⟨⟨(some 27), none, .mv (.t 0)⟩, []⟩,
            ⟨⟨(some 28), none, .nilck (.t 27)⟩, [0]⟩,
            ⟨⟨(some 29), none, .addr 0 (.t 28)⟩, [1]⟩,
            ⟨⟨(some 30), none, .load none (.t 29)⟩, [2]⟩,
            ⟨⟨(some 31), none, .addr 1 (.t 3)⟩, []⟩,
            ⟨⟨(some 32), none, .load none (.t 31)⟩, [4]⟩,
            ⟨⟨(some 33), none, .addr 0 (.t 3)⟩, []⟩,
            ⟨⟨(some 34), none, .load none (.t 33)⟩, [6]⟩,
            ⟨⟨(some 35), none, .call 22 [(.t 30), (.t 32), (.t 34)]⟩, [3, 5, 7]⟩,
            ⟨⟨(some 36), none, .un .not (.t 35)⟩, [8]⟩,
            ⟨⟨(some 37), none, .mv (.t 36)⟩, [9, 8]⟩,
            ⟨⟨(some 38), (some (37, false)), .mv (.t 0)⟩, [10]⟩,
            ⟨⟨(some 39), (some (37, false)), .nilck (.t 38)⟩, [11, 10]⟩,
            ⟨⟨(some 40), (some (37, false)), .addr 0 (.t 39)⟩, [12, 10]⟩,
            ⟨⟨(some 41), (some (37, false)), .load none (.t 40)⟩, [13, 10]⟩,
            ⟨⟨(some 42), (some (37, false)), .addr 2 (.t 3)⟩, [10]⟩,
            ⟨⟨(some 43), (some (37, false)), .load none (.t 42)⟩, [15, 10]⟩,
            ⟨⟨(some 44), (some (37, false)), .addr 0 (.t 3)⟩, [10]⟩,
            ⟨⟨(some 45), (some (37, false)), .load none (.t 44)⟩, [17, 10]⟩,
            ⟨⟨(some 46), (some (37, false)), .call 22 [(.t 41), (.t 43), (.t 45)]⟩, [14, 16, 18, 10, 10]⟩,
            ⟨⟨(some 47), (some (37, false)), .un .not (.t 46)⟩, [19, 10]⟩,
            ⟨⟨(some 48), none, .pick (.t 37) (.c (.bool true)) (.t 47)⟩, [10, 20]⟩,
            ⟨⟨(some 49), none, .mv (.t 48)⟩, [21, 19]⟩,
            ⟨⟨(some 50), (some (49, false)), .mv (.t 0)⟩, [22]⟩,
            ⟨⟨(some 51), (some (49, false)), .nilck (.t 50)⟩, [23, 22]⟩,
            ⟨⟨(some 52), (some (49, false)), .addr 0 (.t 51)⟩, [24, 22]⟩,
            ⟨⟨(some 53), (some (49, false)), .load none (.t 52)⟩, [25, 22]⟩,
            ⟨⟨(some 54), (some (49, false)), .addr 1 (.t 3)⟩, [22]⟩,
            ⟨⟨(some 55), (some (49, false)), .load none (.t 54)⟩, [27, 22]⟩,
            ⟨⟨(some 56), (some (49, false)), .addr 2 (.t 3)⟩, [22]⟩,
            ⟨⟨(some 57), (some (49, false)), .load none (.t 56)⟩, [29, 22]⟩,
            ⟨⟨(some 58), (some (49, false)), .call 22 [(.t 53), (.t 55), (.t 57)]⟩, [26, 28, 30, 22, 22]⟩,
            ⟨⟨(some 59), none, .pick (.t 49) (.c (.bool true)) (.t 58)⟩, [22, 31]⟩,
            ⟨⟨(some 26), none, .mv (.t 59)⟩, [32, 31]⟩] [0, 1, 3, 7, 0, 16, 0, 64, 255, 511, 1023, 2047, 4095, 8191, 16383, 2047, 34815, 2047, 133119, 524287, 1048575, 2097151, 4194303, 8388607, 16777215, 33554431, 67108863, 8388607, 142606335, 8388607, 545259519, 2147483647, 4294967295, 8589934591])
          (.cond (.t 26)
           (.seq
            (.ops [⟨(some 4), none, .mv (.c (.int .i64 7))⟩])
            (.ret))
           (.seq
            (.ops [⟨(some 61), none, .addr 3 (.t 3)⟩,
              ⟨(some 62), none, .load none (.t 61)⟩,
              ⟨(some 63), none, .lenS (.t 62)⟩,
              ⟨(some 64), none, .bin .gtr (.t 63) (.c (.int .i64 4096))⟩,
              ⟨(some 60), none, .mv (.t 64)⟩])
            (.cond (.t 60)
             (.seq
              (.ops [⟨(some 4), none, .mv (.c (.int .i64 3))⟩])
              (.ret))
             (.seq
              (.ops [⟨(some 66), none, .mv (.t 0)⟩,
                ⟨(some 67), none, .addr 0 (.t 3)⟩,
                ⟨(some 68), none, .load none (.t 67)⟩,
                ⟨(some 69), none, .call 14 [(.t 66), (.t 68)]⟩,
                ⟨(some 70), none, .bin .eql (.t 69) (.c (.int .i64 0))⟩,
                ⟨(some 65), none, .mv (.t 70)⟩])
              (.cond (.t 65)
               (.seq
                (.ops [⟨(some 4), none, .mv (.c (.int .i64 6))⟩])
                (.ret))
               (.skip))))))))))))
    (.seq
     (.draw [⟨⟨(some 71), none, .mv (.t 0)⟩, []⟩,
       ⟨⟨(some 72), none, .nilck (.t 71)⟩, [0]⟩,
       ⟨⟨(some 73), none, .addr 2 (.t 72)⟩, [1]⟩,
       ⟨⟨(some 74), none, .load none (.t 73)⟩, [2]⟩,
       ⟨⟨(some 75), none, .addr 0 (.t 3)⟩, []⟩,
       ⟨⟨(some 76), none, .load none (.t 75)⟩, [4]⟩,
       ⟨⟨(some 77), none, .iaddrS 1 (.t 74) (.t 76)⟩, [3, 5]⟩,
       ⟨⟨(some 78), none, .load none (.t 77)⟩, [6]⟩,
       ⟨⟨(some 79), none, .bin .add (.t 78) (.c (.int .i64 1))⟩, [7]⟩,
       ⟨⟨(some 80), none, .iaddrS 1 (.t 74) (.t 76)⟩, [3, 5, 0, 1, 2, 3, 4, 5, 6, 7, 8]⟩,
       ⟨⟨none, none, .store 1 (.t 80) (.t 79)⟩, [9, 8, 0, 1, 2, 3, 4, 5, 6, 7, 8]⟩] [0, 1, 3, 7, 0, 16, 63, 127, 255, 511, 1023])
     (.seq
      (.draw [⟨⟨(some 81), none, .mv (.t 0)⟩, []⟩,
        ⟨⟨(some 82), none, .mv (.t 0)⟩, []⟩,
        ⟨⟨(some 83), none, .nilck (.t 82)⟩, [1]⟩,
        ⟨⟨(some 84), none, .addr 1 (.t 83)⟩, [2]⟩,
        ⟨⟨(some 85), none, .load none (.t 84)⟩, [3]⟩,
        ⟨⟨(some 86), none, .load (some 4) (.t 3)⟩, []⟩,
        ⟨⟨(some 87), none, .bslice 40 4 1 [(.int .i64 0), (.int .i64 0), (.int .i64 0), (.str [])] [(0, (.t 86))]⟩, [5]⟩,
        ⟨⟨(some 88), none, .append 40 4 40 (.t 85) (.t 87)⟩, [4, 6]⟩,
        ⟨⟨(some 89), none, .nilck (.t 81)⟩, [0, 0, 1, 2, 3, 4, 5, 6, 7]⟩,
        ⟨⟨(some 90), none, .addr 1 (.t 89)⟩, [8, 0, 1, 2, 3, 4, 5, 6, 7]⟩,
        ⟨⟨none, none, .store 1 (.t 90) (.t 88)⟩, [9, 7, 7, 0, 1, 2, 3, 4, 5, 6, 7]⟩] [0, 0, 2, 6, 14, 0, 32, 126, 255, 511, 1023])
      (.seq
       (.ops [⟨(some 4), none, .mv (.c (.int .i64 0))⟩])
       (.ret)))))⟩
theorem ok12 : FnOk Tryd.prog 12 a12 := FnOk.of Tryd.prog Tryd.func12 (by kernel_rfl)
/-- (*jalousie/jalousieref02.Log).Put -/
def a13 : AFn := ⟨76, [.tmp 4], .seq
   (.ops [⟨(some 3), none, .box 42 (.t 1)⟩,
     ⟨(some 4), none, .mv (.c (.int .i64 0))⟩])
   (.seq
    (.seq
     (.ops [⟨(some 5), none, .mv (.t 0)⟩,
       ⟨(some 6), none, .addr 0 (.t 3)⟩,
       ⟨(some 7), none, .load none (.t 6)⟩,
       ⟨(some 8), none, .call 31 [(.t 5), (.t 7)]⟩,
       ⟨(some 9), none, .un .not (.t 8)⟩,
       ⟨(some 10), none, .mv (.t 9)⟩,
       ⟨(some 11), (some (10, false)), .mv (.t 0)⟩,
       ⟨(some 12), (some (10, false)), .addr 1 (.t 3)⟩,
       ⟨(some 13), (some (10, false)), .load none (.t 12)⟩,
       ⟨(some 14), (some (10, false)), .call 31 [(.t 11), (.t 13)]⟩,
       ⟨(some 15), (some (10, false)), .un .not (.t 14)⟩,
       ⟨(some 16), none, .pick (.t 10) (.c (.bool true)) (.t 15)⟩,
       ⟨(some 17), none, .mv (.t 16)⟩,
       ⟨(some 18), (some (17, false)), .mv (.t 0)⟩,
       ⟨(some 19), (some (17, false)), .addr 2 (.t 3)⟩,
       ⟨(some 20), (some (17, false)), .load none (.t 19)⟩,
       ⟨(some 21), (some (17, false)), .call 31 [(.t 18), (.t 20)]⟩,
       ⟨(some 22), (some (17, false)), .un .not (.t 21)⟩,
       ⟨(some 23), none, .pick (.t 17) (.c (.bool true)) (.t 22)⟩])
     (.cond (.t 23)
      (.seq
       (.ops [⟨(some 4), none, .mv (.c (.int .i64 1))⟩])
       (.ret))
      (.skip)))
    (.seq
     (.seq
      (.draw [⟨⟨(some 24), none, .mv (.t 0)⟩, []⟩,
        ⟨⟨(some 25), none, .nilck (.t 24)⟩, [0]⟩,
        ⟨⟨(some 26), none, .addr 0 (.t 25)⟩, [1]⟩,
        ⟨⟨(some 27), none, .load none (.t 26)⟩, [2]⟩,
        ⟨⟨(some 28), none, .addr 1 (.t 3)⟩, []⟩,
        ⟨⟨(some 29), none, .load none (.t 28)⟩, [4]⟩,
        ⟨⟨(some 30), none, .addr 0 (.t 3)⟩, []⟩,
        ⟨⟨(some 31), none, .load none (.t 30)⟩, [6]⟩,
        ⟨⟨(some 32), none, .call 32 [(.t 27), (.t 29), (.t 31)]⟩, [3, 5, 7]⟩,
        ⟨⟨(some 33), none, .un .not (.t 32)⟩, [8]⟩,
        ⟨⟨(some 34), none, .mv (.t 33)⟩, [9, 8]⟩,
        ⟨⟨(some 35), (some (34, false)), .mv (.t 0)⟩, [10]⟩,
        ⟨⟨(some 36), (some (34, false)), .nilck (.t 35)⟩, [11, 10]⟩,
        ⟨⟨(some 37), (some (34, false)), .addr 0 (.t 36)⟩, [12, 10]⟩,
        ⟨⟨(some 38), (some (34, false)), .load none (.t 37)⟩, [13, 10]⟩,
        ⟨⟨(some 39), (some (34, false)), .addr 2 (.t 3)⟩, [10]⟩,
        ⟨⟨(some 40), (some (34, false)), .load none (.t 39)⟩, [15, 10]⟩,
        ⟨⟨(some 41), (some (34, false)), .addr 0 (.t 3)⟩, [10]⟩,
        ⟨⟨(some 42), (some (34, false)), .load none (.t 41)⟩, [17, 10]⟩,
        ⟨⟨(some 43), (some (34, false)), .call 32 [(.t 38), (.t 40), (.t 42)]⟩, [14, 16, 18, 10, 10]⟩,
        ⟨⟨(some 44), (some (34, false)), .un .not (.t 43)⟩, [19, 10]⟩,
        ⟨⟨(some 45), none, .pick (.t 34) (.c (.bool true)) (.t 44)⟩, [10, 20]⟩,
        ⟨⟨(some 46), none, .mv (.t 45)⟩, [21, 19]⟩,
        ⟨⟨(some 47), (some (46, false)), .mv (.t 0)⟩, [22]⟩,
        ⟨⟨(some 48), (some (46, false)), .nilck (.t 47)⟩, [23, 22]⟩,
        ⟨⟨(some 49), (some (46, false)), .addr 0 (.t 48)⟩, [24, 22]⟩,
        ⟨⟨(some 50), (some (46, false)), .load none (.t 49)⟩, [25, 22]⟩,
        ⟨⟨(some 51), (some (46, false)), .addr 1 (.t 3)⟩, [22]⟩,
        ⟨⟨(some 52), (some (46, false)), .load none (.t 51)⟩, [27, 22]⟩,
        ⟨⟨(some 53), (some (46, false)), .addr 2 (.t 3)⟩, [22]⟩,
        ⟨⟨(some 54), (some (46, false)), .load none (.t 53)⟩, [29, 22]⟩,
        ⟨⟨(some 55), (some (46, false)), .call 32 [(.t 50), (.t 52), (.t 54)]⟩, [26, 28, 30, 22, 22]⟩,
        ⟨⟨(some 56), none, .pick (.t 46) (.c (.bool true)) (.t 55)⟩, [22, 31]⟩] [0, 1, 3, 7, 0, 16, 0, 64, 255, 511, 1023, 2047, 4095, 8191, 16383, 2047, 34815, 2047, 133119, 524287, 1048575, 2097151, 4194303, 8388607, 16777215, 33554431, 67108863, 8388607, 142606335, 8388607, 545259519, 2147483647, 4294967295])
      (.cond (.t 56)
       (.seq
        (.ops [⟨(some 4), none, .mv (.c (.int .i64 7))⟩])
        (.ret))
       (.skip)))
     (.seq
      (.seq
       (.ops [⟨(some 57), none, .addr 3 (.t 3)⟩,
         ⟨(some 58), none, .load none (.t 57)⟩,
         ⟨(some 59), none, .lenS (.t 58)⟩,
         ⟨(some 60), none, .bin .gtr (.t 59) (.c (.int .i64 4096))⟩])
       (.cond (.t 60)
        (.seq
         (.ops [⟨(some 4), none, .mv (.c (.int .i64 3))⟩])
         (.ret))
        (.skip)))
      (.seq
       (.seq
        (.ops [⟨(some 61), none, .mv (.t 0)⟩,
          ⟨(some 62), none, .addr 0 (.t 3)⟩,
          ⟨(some 63), none, .load none (.t 62)⟩,
          ⟨(some 64), none, .call 15 [(.t 61), (.t 63)]⟩,
          ⟨(some 65), none, .bin .eql (.t 64) (.c (.int .i64 0))⟩])
        (.cond (.t 65)
         (.seq
          (.ops [⟨(some 4), none, .mv (.c (.int .i64 6))⟩])
          (.ret))
         (.skip)))
       (.seq
        (.draw [⟨⟨(some 66), none, .mv (.t 0)⟩, []⟩,
          ⟨⟨(some 67), none, .mv (.t 0)⟩, []⟩,
          ⟨⟨(some 68), none, .nilck (.t 67)⟩, [1]⟩,
          ⟨⟨(some 69), none, .addr 1 (.t 68)⟩, [2]⟩,
          ⟨⟨(some 70), none, .load none (.t 69)⟩, [3]⟩,
          ⟨⟨(some 71), none, .load (some 4) (.t 3)⟩, []⟩,
          ⟨⟨(some 72), none, .bslice 42 4 1 [(.int .i64 0), (.int .i64 0), (.int .i64 0), (.str [])] [(0, (.t 71))]⟩, [5]⟩,
          ⟨⟨(some 73), none, .append 42 4 40 (.t 70) (.t 72)⟩, [4, 6]⟩,
          ⟨⟨(some 74), none, .nilck (.t 66)⟩, [0, 0, 1, 2, 3, 4, 5, 6, 7]⟩,
          ⟨⟨(some 75), none, .addr 1 (.t 74)⟩, [8, 0, 1, 2, 3, 4, 5, 6, 7]⟩,
          ⟨⟨none, none, .store 1 (.t 75) (.t 73)⟩, [9, 7, 7, 0, 1, 2, 3, 4, 5, 6, 7]⟩] [0, 0, 2, 6, 14, 0, 32, 126, 255, 511, 1023])
        (.seq
         (.ops [⟨(some 4), none, .mv (.c (.int .i64 0))⟩])
         (.ret)))))))⟩
theorem ok13 : FnOk Tryd.prog 13 a13 := FnOk.of Tryd.prog Tryd.func13 (by kernel_rfl)
/-- (*jalousie/audit.Log).Room -/
def a14 : AFn := ⟨28, [.tmp 4], .seq
   (.ops [⟨(some 4), none, .mv (.c (.int .i64 0))⟩])
   (.seq
    (.seq
     (.ops [⟨(some 5), none, .mv (.t 0)⟩,
       ⟨(some 6), none, .eq false 31 (.pointer 53) (.t 5) (.c .nilptr)⟩,
       ⟨(some 7), none, .mv (.t 6)⟩,
       ⟨(some 8), (some (7, false)), .mv (.t 1)⟩,
       ⟨(some 9), (some (7, false)), .bin .lss (.t 8) (.c (.int .i64 0))⟩,
       ⟨(some 10), none, .pick (.t 7) (.c (.bool true)) (.t 9)⟩,
       ⟨(some 11), none, .mv (.t 10)⟩,
       ⟨(some 12), (some (11, false)), .mv (.t 1)⟩,
       ⟨(some 13), (some (11, false)), .mv (.t 0)⟩,
       ⟨(some 14), (some (11, false)), .nilck (.t 13)⟩,
       ⟨(some 15), (some (11, false)), .addr 2 (.t 14)⟩,
       ⟨(some 16), (some (11, false)), .load none (.t 15)⟩,
       ⟨(some 17), (some (11, false)), .lenL (.t 16)⟩,
       ⟨(some 18), (some (11, false)), .bin .geq (.t 12) (.t 17)⟩,
       ⟨(some 19), none, .pick (.t 11) (.c (.bool true)) (.t 18)⟩])
     (.cond (.t 19)
      (.seq
       (.ops [⟨(some 4), none, .mv (.c (.int .i64 0))⟩])
       (.ret))
      (.skip)))
    (.seq
     (.ops [⟨(some 20), none, .mv (.t 0)⟩,
       ⟨(some 21), none, .nilck (.t 20)⟩,
       ⟨(some 22), none, .addr 2 (.t 21)⟩,
       ⟨(some 23), none, .load none (.t 22)⟩,
       ⟨(some 24), none, .mv (.t 1)⟩,
       ⟨(some 25), none, .iaddrS 1 (.t 23) (.t 24)⟩,
       ⟨(some 26), none, .load none (.t 25)⟩,
       ⟨(some 27), none, .bin .sub (.c (.int .i64 16)) (.t 26)⟩,
       ⟨(some 4), none, .mv (.t 27)⟩])
     (.ret)))⟩
theorem ok14 : FnOk Tryd.prog 14 a14 := FnOk.of Tryd.prog Tryd.func14 (by kernel_rfl)
/-- (*jalousie/jalousieref02.Log).Room -/
def a15 : AFn := ⟨33, [.tmp 4], .seq
   (.ops [⟨(some 4), none, .mv (.c (.int .i64 0))⟩])
   (.seq
    (.seq
     (.ops [⟨(some 7), none, .mv (.t 0)⟩,
       ⟨(some 8), none, .mv (.t 1)⟩,
       ⟨(some 9), none, .call 31 [(.t 7), (.t 8)]⟩,
       ⟨(some 10), none, .un .not (.t 9)⟩])
     (.cond (.t 10)
      (.seq
       (.ops [⟨(some 4), none, .mv (.c (.int .i64 0))⟩])
       (.ret))
      (.skip)))
    (.seq
     (.ops [⟨(some 5), none, .mv (.c (.int .i64 16))⟩])
     (.seq
      (.seq
       (.ops [⟨(some 6), none, .mv (.c (.int .i64 0))⟩])
       (.block 0 (.loop (.seq
          (.seq
           (.ops [⟨(some 11), none, .mv (.t 6)⟩,
             ⟨(some 12), none, .mv (.t 0)⟩,
             ⟨(some 13), none, .nilck (.t 12)⟩,
             ⟨(some 14), none, .addr 1 (.t 13)⟩,
             ⟨(some 15), none, .load none (.t 14)⟩,
             ⟨(some 16), none, .lenL (.t 15)⟩,
             ⟨(some 17), none, .bin .lss (.t 11) (.t 16)⟩])
           (.cond (.t 17)
            (.skip)
            (.exit 0)))
          (.seq
           (.block 1 (.seq
             (.ops [⟨(some 20), none, .mv (.t 0)⟩,
               ⟨(some 21), none, .nilck (.t 20)⟩,
               ⟨(some 22), none, .addr 1 (.t 21)⟩,
               ⟨(some 23), none, .load none (.t 22)⟩,
               ⟨(some 24), none, .mv (.t 6)⟩,
               ⟨(some 25), none, .iaddrS 4 (.t 23) (.t 24)⟩,
               ⟨(some 26), none, .addr 0 (.t 25)⟩,
               ⟨(some 27), none, .load none (.t 26)⟩,
               ⟨(some 28), none, .mv (.t 1)⟩,
               ⟨(some 29), none, .bin .eql (.t 27) (.t 28)⟩])
             (.cond (.t 29)
              (.ops [⟨(some 30), none, .mv (.t 5)⟩,
                ⟨(some 31), none, .bin .sub (.t 30) (.c (.int .i64 1))⟩,
                ⟨(some 5), none, .mv (.t 31)⟩])
              (.skip))))
           (.ops [⟨(some 18), none, .mv (.t 6)⟩,
             ⟨(some 19), none, .bin .add (.t 18) (.c (.int .i64 1))⟩,
             ⟨(some 6), none, .mv (.t 19)⟩]))))))
      (.seq
       (.ops [⟨(some 32), none, .mv (.t 5)⟩,
         ⟨(some 4), none, .mv (.t 32)⟩])
       (.ret)))))⟩
theorem ok15 : FnOk Tryd.prog 15 a15 := FnOk.of Tryd.prog Tryd.func15 (by kernel_rfl)
/-- (*jalousie/audit.Log).Len -/
def a16 : AFn := ⟨10, [.tmp 2], .seq
   (.ops [⟨(some 2), none, .mv (.c (.int .i64 0))⟩])
   (.seq
    (.seq
     (.ops [⟨(some 3), none, .mv (.t 0)⟩,
       ⟨(some 4), none, .eq false 31 (.pointer 53) (.t 3) (.c .nilptr)⟩])
     (.cond (.t 4)
      (.seq
       (.ops [⟨(some 2), none, .mv (.c (.int .i64 0))⟩])
       (.ret))
      (.skip)))
    (.seq
     (.ops [⟨(some 5), none, .mv (.t 0)⟩,
       ⟨(some 6), none, .nilck (.t 5)⟩,
       ⟨(some 7), none, .addr 1 (.t 6)⟩,
       ⟨(some 8), none, .load none (.t 7)⟩,
       ⟨(some 9), none, .lenL (.t 8)⟩,
       ⟨(some 2), none, .mv (.t 9)⟩])
     (.ret)))⟩
theorem ok16 : FnOk Tryd.prog 16 a16 := FnOk.of Tryd.prog Tryd.func16 (by kernel_rfl)
/-- (*jalousie/audit.Log).At -/
def a17 : AFn := ⟨22, [.cell 4 (some 4), .tmp 5], .seq
   (.ops [⟨(some 4), none, .alloc 40 [(.int .i64 0), (.int .i64 0), (.int .i64 0), (.str [])]⟩,
     ⟨(some 5), none, .mv (.c (.bool false))⟩])
   (.seq
    (.seq
     (.ops [⟨(some 6), none, .mv (.t 1)⟩,
       ⟨(some 7), none, .bin .lss (.t 6) (.c (.int .i64 0))⟩,
       ⟨(some 8), none, .mv (.t 7)⟩,
       ⟨(some 9), (some (8, false)), .mv (.t 1)⟩,
       ⟨(some 10), (some (8, false)), .mv (.t 0)⟩,
       ⟨(some 11), (some (8, false)), .call 16 [(.t 10)]⟩,
       ⟨(some 12), (some (8, false)), .bin .geq (.t 9) (.t 11)⟩,
       ⟨(some 13), none, .pick (.t 8) (.c (.bool true)) (.t 12)⟩])
     (.cond (.t 13)
      (.seq
       (.ops [⟨(some 14), none, .build [(.int .i64 0), (.int .i64 0), (.int .i64 0), (.str [])] [(0, 1), (1, 1), (2, 1), (3, 1)] []⟩,
         ⟨none, none, .store 4 (.t 4) (.t 14)⟩,
         ⟨(some 5), none, .mv (.c (.bool false))⟩])
       (.ret))
      (.skip)))
    (.seq
     (.ops [⟨(some 15), none, .mv (.t 0)⟩,
       ⟨(some 16), none, .nilck (.t 15)⟩,
       ⟨(some 17), none, .addr 1 (.t 16)⟩,
       ⟨(some 18), none, .load none (.t 17)⟩,
       ⟨(some 19), none, .mv (.t 1)⟩,
       ⟨(some 20), none, .iaddrS 4 (.t 18) (.t 19)⟩,
       ⟨(some 21), none, .load (some 4) (.t 20)⟩,
       ⟨none, none, .store 4 (.t 4) (.t 21)⟩,
       ⟨(some 5), none, .mv (.c (.bool true))⟩])
     (.ret)))⟩
theorem ok17 : FnOk Tryd.prog 17 a17 := FnOk.of Tryd.prog Tryd.func17 (by kernel_rfl)
/-- jalousie/jalousielaw02.same -/
def a18 : AFn := ⟨26, [.tmp 4], .seq
   (.ops [⟨(some 4), none, .mv (.c (.bool false))⟩])
   (.seq
    (.seq
     (.ops [⟨(some 6), none, .mv (.t 0)⟩,
       ⟨(some 7), none, .lenL (.t 6)⟩,
       ⟨(some 8), none, .mv (.t 1)⟩,
       ⟨(some 9), none, .lenL (.t 8)⟩,
       ⟨(some 10), none, .bin .neq (.t 7) (.t 9)⟩])
     (.cond (.t 10)
      (.seq
       (.ops [⟨(some 4), none, .mv (.c (.bool false))⟩])
       (.ret))
      (.skip)))
    (.seq
     (.seq
      (.ops [⟨(some 5), none, .mv (.c (.int .i64 0))⟩])
      (.block 0 (.loop (.seq
         (.seq
          (.ops [⟨(some 11), none, .mv (.t 5)⟩,
            ⟨(some 12), none, .mv (.t 0)⟩,
            ⟨(some 13), none, .lenL (.t 12)⟩,
            ⟨(some 14), none, .bin .lss (.t 11) (.t 13)⟩])
          (.cond (.t 14)
           (.skip)
           (.exit 0)))
         (.seq
          (.block 1 (.seq
            (.draw [⟨⟨(some 17), none, .mv (.t 0)⟩, []⟩,
              ⟨⟨(some 18), none, .mv (.t 5)⟩, []⟩,
              ⟨⟨(some 19), none, .iaddrS 4 (.t 17) (.t 18)⟩, [0, 1]⟩,
              ⟨⟨(some 20), none, .load (some 4) (.t 19)⟩, [2]⟩,
              ⟨⟨(some 21), none, .mv (.t 1)⟩, []⟩,
              ⟨⟨(some 22), none, .mv (.t 5)⟩, []⟩,
              ⟨⟨(some 23), none, .iaddrS 4 (.t 21) (.t 22)⟩, [4, 5]⟩,
              ⟨⟨(some 24), none, .load (some 4) (.t 23)⟩, [6]⟩,
              ⟨⟨(some 25), none, .eq true 42 (.struct #[⟨"By", 3, 0, false, "", "", 0⟩, ⟨"From", 3, 1, false, "", "", 8⟩, ⟨"To", 3, 2, false, "", "", 16⟩, ⟨"Bytes", 9, 3, false, "", "", 24⟩]) (.t 20) (.t 24)⟩, [3, 7]⟩] [0, 0, 3, 7, 0, 0, 48, 112, 255])
            (.cond (.t 25)
             (.seq
              (.ops [⟨(some 4), none, .mv (.c (.bool false))⟩])
              (.ret))
             (.skip))))
          (.ops [⟨(some 15), none, .mv (.t 5)⟩,
            ⟨(some 16), none, .bin .add (.t 15) (.c (.int .i64 1))⟩,
            ⟨(some 5), none, .mv (.t 16)⟩]))))))
     (.seq
      (.ops [⟨(some 4), none, .mv (.c (.bool true))⟩])
      (.ret))))⟩
theorem ok18 : FnOk Tryd.prog 18 a18 := FnOk.of Tryd.prog Tryd.func18 (by kernel_rfl)
/-- (*jalousie/audit.Log).Seen -/
def a19 : AFn := ⟨38, [.tmp 4], .seq
   (.ops [⟨(some 4), none, .mv (.c .nilslice)⟩])
   (.seq
    (.ops [⟨(some 5), none, .mv (.c .nilslice)⟩])
    (.seq
     (.seq
      (.ops [⟨(some 7), none, .mv (.t 0)⟩,
        ⟨(some 8), none, .call 16 [(.t 7)]⟩,
        ⟨(some 9), none, .mv (.c (.int .i64 0))⟩])
      (.block 0 (.loop (.seq
         (.ops [⟨(some 10), none, .bin .lss (.t 9) (.t 8)⟩])
         (.seq
          (.cond (.t 10)
           (.skip)
           (.exit 0))
          (.seq
           (.block 1 (.seq
             (.ops [⟨(some 11), none, .mv (.t 9)⟩,
               ⟨(some 6), none, .mv (.t 11)⟩])
             (.seq
              (.draw [⟨⟨(some 12), none, .mv (.t 0)⟩, []⟩,
                ⟨⟨(some 13), none, .nilck (.t 12)⟩, [0]⟩,
                ⟨⟨(some 14), none, .addr 0 (.t 13)⟩, [1]⟩,
                ⟨⟨(some 15), none, .load none (.t 14)⟩, [2]⟩,
                ⟨⟨(some 16), none, .mv (.t 0)⟩, []⟩,
                ⟨⟨(some 17), none, .nilck (.t 16)⟩, [4]⟩,
                ⟨⟨(some 18), none, .addr 1 (.t 17)⟩, [5]⟩,
                ⟨⟨(some 19), none, .load none (.t 18)⟩, [6]⟩,
                ⟨⟨(some 20), none, .mv (.t 6)⟩, []⟩,
                ⟨⟨(some 21), none, .iaddrS 4 (.t 19) (.t 20)⟩, [7, 8]⟩,
                ⟨⟨(some 22), none, .addr 0 (.t 21)⟩, [9]⟩,
                ⟨⟨(some 23), none, .load none (.t 22)⟩, [10]⟩,
                ⟨⟨(some 24), none, .mv (.t 1)⟩, []⟩,
                ⟨⟨(some 25), none, .call 22 [(.t 15), (.t 23), (.t 24)]⟩, [3, 11, 12]⟩] [0, 1, 3, 7, 0, 16, 48, 112, 0, 496, 1008, 2032, 0, 8191])
              (.cond (.t 25)
               (.ops [⟨(some 26), none, .mv (.t 5)⟩,
                 ⟨(some 27), none, .mv (.t 0)⟩,
                 ⟨(some 28), none, .nilck (.t 27)⟩,
                 ⟨(some 29), none, .addr 1 (.t 28)⟩,
                 ⟨(some 30), none, .load none (.t 29)⟩,
                 ⟨(some 31), none, .mv (.t 6)⟩,
                 ⟨(some 32), none, .iaddrS 4 (.t 30) (.t 31)⟩,
                 ⟨(some 33), none, .load (some 4) (.t 32)⟩,
                 ⟨(some 34), none, .bslice 40 4 1 [(.int .i64 0), (.int .i64 0), (.int .i64 0), (.str [])] [(0, (.t 33))]⟩,
                 ⟨(some 35), none, .append 40 4 40 (.t 26) (.t 34)⟩,
                 ⟨(some 5), none, .mv (.t 35)⟩])
               (.skip)))))
           (.ops [⟨(some 36), none, .bin .add (.t 9) (.c (.int .i64 1))⟩,
             ⟨(some 9), none, .mv (.t 36)⟩])))))))
     (.seq
      (.ops [⟨(some 37), none, .mv (.t 5)⟩,
        ⟨(some 4), none, .mv (.t 37)⟩])
      (.ret))))⟩
theorem ok19 : FnOk Tryd.prog 19 a19 := FnOk.of Tryd.prog Tryd.func19 (by kernel_rfl)
/-- (*jalousie/jalousieref02.Log).Seen -/
def a20 : AFn := ⟨41, [.tmp 4], .seq
   (.ops [⟨(some 4), none, .mv (.c .nilslice)⟩])
   (.seq
    (.ops [⟨(some 5), none, .mv (.c .nilslice)⟩])
    (.seq
     (.seq
      (.ops [⟨(some 6), none, .mv (.c (.int .i64 0))⟩])
      (.block 0 (.loop (.seq
         (.seq
          (.ops [⟨(some 7), none, .mv (.t 6)⟩,
            ⟨(some 8), none, .mv (.t 0)⟩,
            ⟨(some 9), none, .nilck (.t 8)⟩,
            ⟨(some 10), none, .addr 1 (.t 9)⟩,
            ⟨(some 11), none, .load none (.t 10)⟩,
            ⟨(some 12), none, .lenL (.t 11)⟩,
            ⟨(some 13), none, .bin .lss (.t 7) (.t 12)⟩])
          (.cond (.t 13)
           (.skip)
           (.exit 0)))
         (.seq
          (.block 1 (.seq
            (.draw [⟨⟨(some 16), none, .mv (.t 0)⟩, []⟩,
              ⟨⟨(some 17), none, .nilck (.t 16)⟩, [0]⟩,
              ⟨⟨(some 18), none, .addr 0 (.t 17)⟩, [1]⟩,
              ⟨⟨(some 19), none, .load none (.t 18)⟩, [2]⟩,
              ⟨⟨(some 20), none, .mv (.t 0)⟩, []⟩,
              ⟨⟨(some 21), none, .nilck (.t 20)⟩, [4]⟩,
              ⟨⟨(some 22), none, .addr 1 (.t 21)⟩, [5]⟩,
              ⟨⟨(some 23), none, .load none (.t 22)⟩, [6]⟩,
              ⟨⟨(some 24), none, .mv (.t 6)⟩, []⟩,
              ⟨⟨(some 25), none, .iaddrS 4 (.t 23) (.t 24)⟩, [7, 8]⟩,
              ⟨⟨(some 26), none, .addr 0 (.t 25)⟩, [9]⟩,
              ⟨⟨(some 27), none, .load none (.t 26)⟩, [10]⟩,
              ⟨⟨(some 28), none, .mv (.t 1)⟩, []⟩,
              ⟨⟨(some 29), none, .call 32 [(.t 19), (.t 27), (.t 28)]⟩, [3, 11, 12]⟩] [0, 1, 3, 7, 0, 16, 48, 112, 0, 496, 1008, 2032, 0, 8191])
            (.cond (.t 29)
             (.ops [⟨(some 30), none, .mv (.t 5)⟩,
               ⟨(some 31), none, .mv (.t 0)⟩,
               ⟨(some 32), none, .nilck (.t 31)⟩,
               ⟨(some 33), none, .addr 1 (.t 32)⟩,
               ⟨(some 34), none, .load none (.t 33)⟩,
               ⟨(some 35), none, .mv (.t 6)⟩,
               ⟨(some 36), none, .iaddrS 4 (.t 34) (.t 35)⟩,
               ⟨(some 37), none, .load (some 4) (.t 36)⟩,
               ⟨(some 38), none, .bslice 42 4 1 [(.int .i64 0), (.int .i64 0), (.int .i64 0), (.str [])] [(0, (.t 37))]⟩,
               ⟨(some 39), none, .append 42 4 40 (.t 30) (.t 38)⟩,
               ⟨(some 5), none, .mv (.t 39)⟩])
             (.skip))))
          (.ops [⟨(some 14), none, .mv (.t 6)⟩,
            ⟨(some 15), none, .bin .add (.t 14) (.c (.int .i64 1))⟩,
            ⟨(some 6), none, .mv (.t 15)⟩]))))))
     (.seq
      (.ops [⟨(some 40), none, .mv (.t 5)⟩,
        ⟨(some 4), none, .mv (.t 40)⟩])
      (.ret))))⟩
theorem ok20 : FnOk Tryd.prog 20 a20 := FnOk.of Tryd.prog Tryd.func20 (by kernel_rfl)
/-- jalousie/lattice.Rank -/
def a21 : AFn := ⟨75, [.tmp 4, .tmp 5], .seq
   (.ops [⟨(some 4), none, .mv (.c .nilptr)⟩,
     ⟨(some 5), none, .mv (.c (.int .i64 0))⟩])
   (.seq
    (.seq
     (.ops [⟨(some 10), none, .mv (.t 0)⟩,
       ⟨(some 11), none, .bin .lss (.t 10) (.c (.int .i64 1))⟩,
       ⟨(some 12), none, .mv (.t 11)⟩,
       ⟨(some 13), (some (12, false)), .mv (.t 0)⟩,
       ⟨(some 14), (some (12, false)), .bin .gtr (.t 13) (.c (.int .i64 64))⟩,
       ⟨(some 15), none, .pick (.t 12) (.c (.bool true)) (.t 14)⟩,
       ⟨(some 16), none, .mv (.t 15)⟩,
       ⟨(some 17), (some (16, false)), .mv (.t 1)⟩,
       ⟨(some 18), (some (16, false)), .bin .lss (.t 17) (.c (.int .i64 0))⟩,
       ⟨(some 19), none, .pick (.t 16) (.c (.bool true)) (.t 18)⟩,
       ⟨(some 20), none, .mv (.t 19)⟩,
       ⟨(some 21), (some (20, false)), .mv (.t 1)⟩,
       ⟨(some 22), (some (20, false)), .bin .gtr (.t 21) (.c (.int .i64 6))⟩,
       ⟨(some 23), none, .pick (.t 20) (.c (.bool true)) (.t 22)⟩,
       ⟨(some 24), none, .mv (.t 23)⟩,
       ⟨(some 25), (some (24, false)), .mv (.t 0)⟩,
       ⟨(some 26), (some (24, false)), .mv (.t 1)⟩,
       ⟨(some 27), (some (24, false)), .bin .shl (.t 25) (.t 26)⟩,
       ⟨(some 28), (some (24, false)), .bin .gtr (.t 27) (.c (.int .i64 64))⟩,
       ⟨(some 29), none, .pick (.t 24) (.c (.bool true)) (.t 28)⟩])
     (.cond (.t 29)
      (.seq
       (.ops [⟨(some 4), none, .mv (.c .nilptr)⟩,
         ⟨(some 5), none, .mv (.c (.int .i64 1))⟩])
       (.ret))
      (.skip)))
    (.seq
     (.ops [⟨(some 30), none, .mv (.t 0)⟩,
       ⟨(some 31), none, .mv (.t 1)⟩,
       ⟨(some 32), none, .bin .shl (.t 30) (.t 31)⟩,
       ⟨(some 6), none, .mv (.t 32)⟩])
     (.seq
      (.ops [⟨(some 33), none, .mv (.t 6)⟩,
        ⟨(some 34), none, .mksl 60 1 24 [.nilslice] (.t 33) (.t 33)⟩,
        ⟨(some 7), none, .mv (.t 34)⟩])
      (.seq
       (.seq
        (.ops [⟨(some 35), none, .mv (.t 6)⟩,
          ⟨(some 36), none, .mv (.c (.int .i64 0))⟩])
        (.block 0 (.loop (.seq
           (.ops [⟨(some 37), none, .bin .lss (.t 36) (.t 35)⟩])
           (.seq
            (.cond (.t 37)
             (.skip)
             (.exit 0))
            (.seq
             (.block 1 (.seq
               (.ops [⟨(some 38), none, .mv (.t 36)⟩,
                 ⟨(some 8), none, .mv (.t 38)⟩])
               (.seq
                (.ops [⟨(some 39), none, .mv (.t 6)⟩,
                  ⟨(some 40), none, .mv (.c (.int .i64 0))⟩])
                (.block 2 (.loop (.seq
                   (.ops [⟨(some 41), none, .bin .lss (.t 40) (.t 39)⟩])
                   (.seq
                    (.cond (.t 41)
                     (.skip)
                     (.exit 2))
                    (.seq
                     (.block 3 (.seq
                       (.ops [⟨(some 42), none, .mv (.t 40)⟩,
                         ⟨(some 9), none, .mv (.t 42)⟩])
                       (.draw [⟨⟨(some 43), none, .mv (.t 7)⟩, []⟩,
                         ⟨⟨(some 44), none, .mv (.t 8)⟩, []⟩,
                         ⟨⟨(some 45), none, .mv (.t 7)⟩, []⟩,
                         ⟨⟨(some 46), none, .mv (.t 8)⟩, []⟩,
                         ⟨⟨(some 47), none, .iaddrS 1 (.t 45) (.t 46)⟩, [2, 3]⟩,
                         ⟨⟨(some 48), none, .load none (.t 47)⟩, [4]⟩,
                         ⟨⟨(some 49), none, .mv (.t 8)⟩, []⟩,
                         ⟨⟨(some 50), none, .mv (.t 0)⟩, []⟩,
                         ⟨⟨(some 51), none, .bin .rem (.t 49) (.t 50)⟩, [6, 7]⟩,
                         ⟨⟨(some 52), none, .mv (.t 9)⟩, []⟩,
                         ⟨⟨(some 53), none, .mv (.t 0)⟩, []⟩,
                         ⟨⟨(some 54), none, .bin .rem (.t 52) (.t 53)⟩, [9, 10]⟩,
                         ⟨⟨(some 55), none, .bin .leq (.t 51) (.t 54)⟩, [8, 11]⟩,
                         ⟨⟨(some 56), none, .mv (.t 55)⟩, [12]⟩,
                         ⟨⟨(some 57), (some (56, true)), .mv (.t 8)⟩, [13]⟩,
                         ⟨⟨(some 58), (some (56, true)), .mv (.t 0)⟩, [13]⟩,
                         ⟨⟨(some 59), (some (56, true)), .bin .quo (.t 57) (.t 58)⟩, [14, 15, 13]⟩,
                         ⟨⟨(some 60), (some (56, true)), .mv (.t 9)⟩, [13]⟩,
                         ⟨⟨(some 61), (some (56, true)), .mv (.t 0)⟩, [13]⟩,
                         ⟨⟨(some 62), (some (56, true)), .bin .quo (.t 60) (.t 61)⟩, [17, 18, 13]⟩,
                         ⟨⟨(some 63), (some (56, true)), .bin .andNot (.t 59) (.t 62)⟩, [16, 19, 13]⟩,
                         ⟨⟨(some 64), (some (56, true)), .bin .eql (.t 63) (.c (.int .i64 0))⟩, [20, 13]⟩,
                         ⟨⟨(some 65), none, .pick (.t 56) (.t 64) (.c (.bool false))⟩, [13, 21]⟩,
                         ⟨⟨(some 66), none, .bslice 4 1 1 [(.bool false)] [(0, (.t 65))]⟩, [22]⟩,
                         ⟨⟨(some 67), none, .append 4 1 1 (.t 48) (.t 66)⟩, [5, 23, 13]⟩,
                         ⟨⟨(some 68), none, .iaddrS 1 (.t 43) (.t 44)⟩, [0, 1, 0, 1, 2, 3, 4, 5, 6, 7, 8, 9, 10, 11, 12, 13, 14, 15, 16, 17, 18, 19, 20, 21, 22, 23, 24]⟩,
                         ⟨⟨none, none, .store 1 (.t 68) (.t 67)⟩, [25, 24, 24, 0, 1, 2, 3, 4, 5, 6, 7, 8, 9, 10, 11, 12, 13, 14, 15, 16, 17, 18, 19, 20, 21, 22, 23, 24]⟩] [0, 0, 0, 0, 12, 28, 0, 0, 192, 0, 0, 1536, 4032, 8128, 16320, 16320, 65472, 16320, 16320, 409536, 1048512, 2097088, 4194240, 8388544, 16777212, 33554431, 67108863])))
                     (.ops [⟨(some 69), none, .bin .add (.t 40) (.c (.int .i64 1))⟩,
                       ⟨(some 40), none, .mv (.t 69)⟩])))))))))
             (.ops [⟨(some 70), none, .bin .add (.t 36) (.c (.int .i64 1))⟩,
               ⟨(some 36), none, .mv (.t 70)⟩])))))))
       (.seq
        (.ops [⟨(some 71), none, .mv (.t 7)⟩,
          ⟨(some 72), none, .call 10 [(.t 71)]⟩,
          ⟨(some 73), none, .ext (.t 72) 0⟩,
          ⟨(some 74), none, .ext (.t 72) 1⟩,
          ⟨(some 4), none, .mv (.t 73)⟩,
          ⟨(some 5), none, .mv (.t 74)⟩])
        (.ret))))))⟩
theorem ok21 : FnOk Tryd.prog 21 a21 := FnOk.of Tryd.prog Tryd.func21 (by kernel_rfl)
/-- (*jalousie/lattice.Lattice).Below -/
def a22 : AFn := ⟨28, [.tmp 6], .seq
   (.ops [⟨(some 6), none, .mv (.c (.bool false))⟩])
   (.seq
    (.ops [⟨(some 7), none, .mv (.t 0)⟩,
      ⟨(some 8), none, .mv (.t 1)⟩,
      ⟨(some 9), none, .call 33 [(.t 7), (.t 8)]⟩,
      ⟨(some 10), none, .mv (.t 9)⟩,
      ⟨(some 11), (some (10, true)), .mv (.t 0)⟩,
      ⟨(some 12), (some (10, true)), .mv (.t 2)⟩,
      ⟨(some 13), (some (10, true)), .call 33 [(.t 11), (.t 12)]⟩,
      ⟨(some 14), none, .pick (.t 10) (.t 13) (.c (.bool false))⟩,
      ⟨(some 15), none, .mv (.t 14)⟩,
      ⟨(some 16), (some (15, true)), .mv (.t 0)⟩,
      ⟨(some 17), (some (15, true)), .nilck (.t 16)⟩,
      ⟨(some 18), (some (15, true)), .addr 0 (.t 17)⟩,
      ⟨(some 19), (some (15, true)), .load none (.t 18)⟩,
      ⟨(some 20), (some (15, true)), .mv (.t 1)⟩,
      ⟨(some 21), (some (15, true)), .iaddrS 1 (.t 19) (.t 20)⟩,
      ⟨(some 22), (some (15, true)), .load none (.t 21)⟩,
      ⟨(some 23), (some (15, true)), .mv (.t 2)⟩,
      ⟨(some 24), (some (15, true)), .bin .shr (.t 22) (.t 23)⟩,
      ⟨(some 25), (some (15, true)), .bin .and (.t 24) (.c (.int .u64 1))⟩,
      ⟨(some 26), (some (15, true)), .bin .eql (.t 25) (.c (.int .u64 1))⟩,
      ⟨(some 27), none, .pick (.t 15) (.t 26) (.c (.bool false))⟩,
      ⟨(some 6), none, .mv (.t 27)⟩])
    (.ret))⟩
theorem ok22 : FnOk Tryd.prog 22 a22 := FnOk.of Tryd.prog Tryd.func22 (by kernel_rfl)
/-- jalousie/jalousielaw02.chain -/
def a23 : AFn := ⟨11, [.tmp 2], .seq
   (.ops [⟨(some 2), none, .mv (.c .nilptr)⟩])
   (.seq
    (.ops [⟨(some 6), none, .mv (.t 0)⟩,
      ⟨(some 7), none, .call 21 [(.t 6), (.c (.int .i64 0))]⟩,
      ⟨(some 5), none, .mv (.t 7)⟩,
      ⟨(some 8), none, .ext (.t 5) 0⟩,
      ⟨(some 9), none, .ext (.t 5) 1⟩,
      ⟨(some 3), none, .mv (.t 8)⟩,
      ⟨(some 4), none, .mv (.t 9)⟩])
    (.seq
     (.ops [⟨(some 10), none, .mv (.t 3)⟩,
       ⟨(some 2), none, .mv (.t 10)⟩])
     (.ret)))⟩
theorem ok23 : FnOk Tryd.prog 23 a23 := FnOk.of Tryd.prog Tryd.func23 (by kernel_rfl)

end Go.Proofs.YtkcddlpmekejkaaDoor.Fns
