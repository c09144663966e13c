/- Functions of the translated code as the abstract machine reads them, printed by program; each is checked against the code. -/
import Derived.Test.YtklnhappoldlnaaProg
import Derived.Test.YtklnhappoldlnaaAmEval
namespace Go.Proofs.Ytklnhappoldlnaa.Fns
open Go Go.RowKit Am Go.Proofs.Ytklnhappoldlnaa
set_option maxRecDepth 100000
/-- gosem.cut.init -/
def a2 : AFn := ⟨1, [], .ops [⟨(some 0), none, .bad⟩]⟩
theorem ok2 : FnOk Try.prog 2 a2 := FnOk.of Try.prog Try.func2 (by kernel_rfl)
/-- jalousie/jalousielaw03.QuotaKnown -/
def a3 : AFn := ⟨93, [.tmp 0], .seq
   (.ops [⟨(some 0), none, .mv (.c (.bool false))⟩])
   (.seq
    (.ops [⟨(some 15), none, .call 7 [(.c (.int .i64 1099511627776))]⟩,
      ⟨(some 14), none, .mv (.t 15)⟩,
      ⟨(some 16), none, .ext (.t 14) 0⟩,
      ⟨(some 17), none, .ext (.t 14) 1⟩,
      ⟨(some 1), none, .mv (.t 16)⟩,
      ⟨(some 2), none, .mv (.t 17)⟩])
    (.seq
     (.ops [⟨(some 18), none, .build [(.int .i64 0), (.int .i64 0), (.int .i64 0)] [(0, 1), (1, 1), (2, 1)] [(0, (.c (.int .i64 1))), (1, (.c (.int .i64 0))), (2, (.c (.int .i64 2)))]⟩,
       ⟨(some 3), none, .alloc 27 [(.int .i64 0), (.int .i64 0), (.int .i64 0)]⟩,
       ⟨none, none, .store 3 (.t 3) (.t 18)⟩])
     (.seq
      (.ops [⟨(some 19), none, .mv (.t 1)⟩,
        ⟨(some 20), none, .load (some 3) (.t 3)⟩,
        ⟨(some 21), none, .call 8 [(.t 19), (.t 20), (.c (.int .i64 1099511627776))]⟩,
        ⟨(some 4), none, .mv (.t 21)⟩])
      (.seq
       (.ops [⟨(some 22), none, .mv (.t 1)⟩,
         ⟨(some 23), none, .load (some 3) (.t 3)⟩,
         ⟨(some 24), none, .call 8 [(.t 22), (.t 23), (.c (.int .i64 1))]⟩,
         ⟨(some 5), none, .mv (.t 24)⟩])
       (.seq
        (.ops [⟨(some 25), none, .mv (.t 1)⟩,
          ⟨(some 26), none, .load (some 3) (.t 3)⟩,
          ⟨(some 27), none, .call 8 [(.t 25), (.t 26), (.c (.int .i64 0))]⟩,
          ⟨(some 6), none, .mv (.t 27)⟩])
        (.seq
         (.ops [⟨(some 28), none, .mv (.t 1)⟩,
           ⟨(some 29), none, .build [(.int .i64 0), (.int .i64 0), (.int .i64 0)] [(0, 1), (1, 1), (2, 1)] [(0, (.c (.int .i64 1))), (1, (.c (.int .i64 1))), (2, (.c (.int .i64 2)))]⟩,
           ⟨(some 30), none, .call 8 [(.t 28), (.t 29), (.c (.int .i64 1))]⟩,
           ⟨(some 7), none, .mv (.t 30)⟩])
         (.seq
          (.ops [⟨(some 32), none, .call 9 [(.c (.int .i64 1099511627777))]⟩,
            ⟨(some 31), none, .mv (.t 32)⟩,
            ⟨(some 33), none, .ext (.t 31) 0⟩,
            ⟨(some 34), none, .ext (.t 31) 1⟩,
            ⟨(some 8), none, .mv (.t 33)⟩,
            ⟨(some 9), none, .mv (.t 34)⟩])
          (.seq
           (.ops [⟨(some 36), none, .call 9 [(.c (.int .i64 (-1)))]⟩,
             ⟨(some 35), none, .mv (.t 36)⟩,
             ⟨(some 37), none, .ext (.t 35) 0⟩,
             ⟨(some 38), none, .ext (.t 35) 1⟩,
             ⟨(some 10), none, .mv (.t 37)⟩,
             ⟨(some 11), none, .mv (.t 38)⟩])
           (.seq
            (.ops [⟨(some 40), none, .call 9 [(.c (.int .i64 0))]⟩,
              ⟨(some 39), none, .mv (.t 40)⟩,
              ⟨(some 41), none, .ext (.t 39) 0⟩,
              ⟨(some 42), none, .ext (.t 39) 1⟩,
              ⟨(some 12), none, .mv (.t 41)⟩,
              ⟨(some 13), none, .mv (.t 42)⟩])
            (.seq
             (.ops [⟨(some 43), none, .call 10 []⟩,
               ⟨(some 44), none, .mv (.t 43)⟩,
               ⟨(some 45), (some (44, true)), .mv (.t 2)⟩,
               ⟨(some 46), (some (44, true)), .bin .eql (.t 45) (.c (.int .i64 0))⟩,
               ⟨(some 47), none, .pick (.t 44) (.t 46) (.c (.bool false))⟩,
               ⟨(some 48), none, .mv (.t 47)⟩,
               ⟨(some 49), (some (48, true)), .mv (.t 4)⟩,
               ⟨(some 50), none, .pick (.t 48) (.t 49) (.c (.bool false))⟩,
               ⟨(some 51), none, .mv (.t 50)⟩,
               ⟨(some 52), (some (51, true)), .mv (.t 5)⟩,
               ⟨(some 53), (some (51, true)), .un .not (.t 52)⟩,
               ⟨(some 54), none, .pick (.t 51) (.t 53) (.c (.bool false))⟩,
               ⟨(some 55), none, .mv (.t 54)⟩,
               ⟨(some 56), (some (55, true)), .mv (.t 6)⟩,
               ⟨(some 57), none, .pick (.t 55) (.t 56) (.c (.bool false))⟩,
               ⟨(some 58), none, .mv (.t 57)⟩,
               ⟨(some 59), (some (58, true)), .mv (.t 7)⟩,
               ⟨(some 60), none, .pick (.t 58) (.t 59) (.c (.bool false))⟩,
               ⟨(some 61), none, .mv (.t 60)⟩,
               ⟨(some 62), (some (61, true)), .mv (.t 1)⟩,
               ⟨(some 63), (some (61, true)), .call 11 [(.t 62)]⟩,
               ⟨(some 64), (some (61, true)), .bin .eql (.t 63) (.c (.int .i64 2))⟩,
               ⟨(some 65), none, .pick (.t 61) (.t 64) (.c (.bool false))⟩,
               ⟨(some 66), none, .mv (.t 65)⟩,
               ⟨(some 67), (some (66, true)), .mv (.t 9)⟩,
               ⟨(some 68), (some (66, true)), .bin .eql (.t 67) (.c (.int .i64 1))⟩,
               ⟨(some 69), none, .pick (.t 66) (.t 68) (.c (.bool false))⟩,
               ⟨(some 70), none, .mv (.t 69)⟩,
               ⟨(some 71), (some (70, true)), .mv (.t 11)⟩,
               ⟨(some 72), (some (70, true)), .bin .eql (.t 71) (.c (.int .i64 1))⟩,
               ⟨(some 73), none, .pick (.t 70) (.t 72) (.c (.bool false))⟩,
               ⟨(some 74), none, .mv (.t 73)⟩,
               ⟨(some 75), (some (74, true)), .mv (.t 13)⟩,
               ⟨(some 76), (some (74, true)), .bin .eql (.t 75) (.c (.int .i64 0))⟩,
               ⟨(some 77), none, .pick (.t 74) (.t 76) (.c (.bool false))⟩,
               ⟨(some 78), none, .mv (.t 77)⟩,
               ⟨(some 79), (some (78, true)), .mv (.t 12)⟩,
               ⟨(some 80), (some (78, true)), .call 12 [(.t 79), (.c (.int .i64 1)), (.c (.int .i64 0))]⟩,
               ⟨(some 81), none, .pick (.t 78) (.t 80) (.c (.bool false))⟩,
               ⟨(some 82), none, .mv (.t 81)⟩,
               ⟨(some 83), (some (82, true)), .mv (.t 12)⟩,
               ⟨(some 84), (some (82, true)), .call 12 [(.t 83), (.c (.int .i64 1)), (.c (.int .i64 1))]⟩,
               ⟨(some 85), (some (82, true)), .un .not (.t 84)⟩,
               ⟨(some 86), none, .pick (.t 82) (.t 85) (.c (.bool false))⟩,
               ⟨(some 87), none, .mv (.t 86)⟩,
               ⟨(some 88), (some (87, true)), .mv (.t 1)⟩,
               ⟨(some 89), (some (87, true)), .load (some 3) (.t 3)⟩,
               ⟨(some 90), (some (87, true)), .call 8 [(.t 88), (.t 89), (.c (.int .i64 (-1)))]⟩,
               ⟨(some 91), (some (87, true)), .un .not (.t 90)⟩,
               ⟨(some 92), none, .pick (.t 87) (.t 91) (.c (.bool false))⟩,
               ⟨(some 0), none, .mv (.t 92)⟩])
             (.ret)))))))))))⟩
theorem ok3 : FnOk Try.prog 3 a3 := FnOk.of Try.prog Try.func3 (by kernel_rfl)
/-- jalousie/jalousielaw03.QuotaPlays -/
def a4 : AFn := ⟨106, [.tmp 4], .seq
   (.ops [⟨(some 4), none, .mv (.c (.bool false))⟩])
   (.seq
    (.seq
     (.ops [⟨(some 9), none, .call 10 []⟩,
       ⟨(some 10), none, .un .not (.t 9)⟩])
     (.cond (.t 10)
      (.seq
       (.ops [⟨(some 4), none, .mv (.c (.bool false))⟩])
       (.ret))
      (.skip)))
    (.seq
     (.seq
      (.ops [⟨(some 11), none, .mv (.t 1)⟩,
        ⟨(some 12), none, .call 13 [(.t 11)]⟩])
      (.cond (.t 12)
       (.seq
        (.ops [⟨(some 4), none, .mv (.c (.bool true))⟩])
        (.ret))
       (.skip)))
     (.seq
      (.ops [⟨(some 14), none, .mv (.t 0)⟩,
        ⟨(some 15), none, .call 14 [(.t 14)]⟩,
        ⟨(some 13), none, .mv (.t 15)⟩,
        ⟨(some 16), none, .ext (.t 13) 0⟩,
        ⟨(some 17), none, .ext (.t 13) 1⟩,
        ⟨(some 5), none, .mv (.t 16)⟩,
        ⟨(some 6), none, .mv (.t 17)⟩])
      (.seq
       (.seq
        (.ops [⟨(some 18), none, .mv (.t 0)⟩,
          ⟨(some 19), none, .bin .lss (.t 18) (.c (.int .i64 0))⟩,
          ⟨(some 20), none, .mv (.t 19)⟩,
          ⟨(some 21), (some (20, false)), .mv (.t 0)⟩,
          ⟨(some 22), (some (20, false)), .bin .gtr (.t 21) (.c (.int .i64 1099511627776))⟩,
          ⟨(some 23), none, .pick (.t 20) (.c (.bool true)) (.t 22)⟩])
        (.cond (.t 23)
         (.seq
          (.ops [⟨(some 24), none, .mv (.t 6)⟩,
            ⟨(some 25), none, .bin .eql (.t 24) (.c (.int .i64 1))⟩,
            ⟨(some 26), none, .mv (.t 25)⟩,
            ⟨(some 27), (some (26, true)), .mv (.t 5)⟩,
            ⟨(some 28), (some (26, true)), .eq false 37 (.pointer 51) (.t 27) (.c .nilptr)⟩,
            ⟨(some 29), none, .pick (.t 26) (.t 28) (.c (.bool false))⟩,
            ⟨(some 4), none, .mv (.t 29)⟩])
          (.ret))
         (.skip)))
       (.seq
        (.seq
         (.ops [⟨(some 30), none, .mv (.t 6)⟩,
           ⟨(some 31), none, .bin .neq (.t 30) (.c (.int .i64 0))⟩,
           ⟨(some 32), none, .mv (.t 31)⟩,
           ⟨(some 33), (some (32, false)), .mv (.t 5)⟩,
           ⟨(some 34), (some (32, false)), .eq false 37 (.pointer 51) (.t 33) (.c .nilptr)⟩,
           ⟨(some 35), none, .pick (.t 32) (.c (.bool true)) (.t 34)⟩])
         (.cond (.t 35)
          (.seq
           (.ops [⟨(some 4), none, .mv (.c (.bool false))⟩])
           (.ret))
          (.skip)))
        (.seq
         (.ops [⟨(some 36), none, .mv (.t 0)⟩,
           ⟨(some 37), none, .build [(.int .i64 0), .nilslice] [(0, 1), (1, 1)] [(0, (.t 36))]⟩,
           ⟨(some 38), none, .box 43 (.t 37)⟩,
           ⟨(some 7), none, .mv (.t 38)⟩])
         (.seq
          (.seq
           (.ops [⟨(some 8), none, .mv (.c (.int .i64 0))⟩])
           (.block 0 (.loop (.seq
              (.seq
               (.ops [⟨(some 39), none, .mv (.t 8)⟩,
                 ⟨(some 40), none, .mv (.t 1)⟩,
                 ⟨(some 41), none, .lenL (.t 40)⟩,
                 ⟨(some 42), none, .bin .lss (.t 39) (.t 41)⟩])
               (.cond (.t 42)
                (.skip)
                (.exit 0)))
              (.seq
               (.block 1 (.seq
                 (.seq
                  (.ops [⟨(some 45), none, .mv (.t 1)⟩,
                    ⟨(some 46), none, .mv (.t 8)⟩,
                    ⟨(some 47), none, .iaddrS 3 (.t 45) (.t 46)⟩,
                    ⟨(some 48), none, .addr 0 (.t 47)⟩,
                    ⟨(some 49), none, .load none (.t 48)⟩])
                  (.block 2 (.seq
                    (.ops [⟨(some 51), none, .bin .eql (.t 49) (.c (.int .i64 0))⟩,
                      ⟨(some 50), none, .mv (.t 51)⟩])
                    (.cond (.t 50)
                     (.seq
                      (.draw [⟨⟨(some 52), none, .mv (.t 5)⟩, []⟩,
                        ⟨⟨(some 53), none, .mv (.t 1)⟩, []⟩,
                        ⟨⟨(some 54), none, .mv (.t 8)⟩, []⟩,
                        ⟨⟨(some 55), none, .iaddrS 3 (.t 53) (.t 54)⟩, [1, 2]⟩,
                        ⟨⟨(some 56), none, .addr 2 (.t 55)⟩, [3]⟩,
                        ⟨⟨(some 57), none, .load none (.t 56)⟩, [4]⟩,
                        ⟨⟨(some 58), none, .mv (.t 1)⟩, []⟩,
                        ⟨⟨(some 59), none, .mv (.t 8)⟩, []⟩,
                        ⟨⟨(some 60), none, .iaddrS 3 (.t 58) (.t 59)⟩, [6, 7]⟩,
                        ⟨⟨(some 61), none, .addr 1 (.t 60)⟩, [8]⟩,
                        ⟨⟨(some 62), none, .load none (.t 61)⟩, [9]⟩,
                        ⟨⟨(some 63), none, .call 15 [(.t 52), (.t 57), (.t 62)]⟩, [0, 5, 10]⟩,
                        ⟨⟨(some 64), none, .mv (.t 7)⟩, []⟩,
                        ⟨⟨(some 65), none, .mv (.t 1)⟩, []⟩,
                        ⟨⟨(some 66), none, .mv (.t 8)⟩, []⟩,
                        ⟨⟨(some 67), none, .iaddrS 3 (.t 65) (.t 66)⟩, [13, 14]⟩,
                        ⟨⟨(some 68), none, .addr 2 (.t 67)⟩, [15]⟩,
                        ⟨⟨(some 69), none, .load none (.t 68)⟩, [16]⟩,
                        ⟨⟨(some 70), none, .mv (.t 1)⟩, []⟩,
                        ⟨⟨(some 71), none, .mv (.t 8)⟩, []⟩,
                        ⟨⟨(some 72), none, .iaddrS 3 (.t 70) (.t 71)⟩, [18, 19]⟩,
                        ⟨⟨(some 73), none, .addr 1 (.t 72)⟩, [20]⟩,
                        ⟨⟨(some 74), none, .load none (.t 73)⟩, [21]⟩,
                        ⟨⟨(some 75), none, .call 16 [(.t 64), (.t 69), (.t 74)]⟩, [12, 17, 22, 11]⟩,
                        ⟨⟨(some 76), none, .eq true 4 .bool (.t 63) (.t 75)⟩, [11, 23]⟩] [0, 0, 0, 6, 14, 30, 0, 0, 192, 448, 960, 2047, 0, 0, 0, 24576, 57344, 122880, 0, 0, 786432, 1835008, 3932160, 8388607, 16777215])
                      (.cond (.t 76)
                       (.seq
                        (.ops [⟨(some 4), none, .mv (.c (.bool false))⟩])
                        (.ret))
                       (.skip)))
                     (.seq
                      (.ops [⟨(some 78), none, .bin .eql (.t 49) (.c (.int .i64 1))⟩,
                        ⟨(some 77), none, .mv (.t 78)⟩])
                      (.cond (.t 77)
                       (.seq
                        (.ops [⟨(some 79), none, .mv (.t 5)⟩,
                          ⟨(some 80), none, .call 17 [(.t 79)]⟩])
                        (.ops [⟨(some 81), none, .mv (.t 7)⟩,
                          ⟨(some 82), none, .nilck (.t 81)⟩,
                          ⟨(some 83), none, .addr 1 (.t 82)⟩,
                          ⟨none, none, .store 1 (.t 83) (.c .nilslice)⟩]))
                       (.skip)))))))
                 (.seq
                  (.draw [⟨⟨(some 84), none, .mv (.t 5)⟩, []⟩,
                    ⟨⟨(some 85), none, .mv (.t 1)⟩, []⟩,
                    ⟨⟨(some 86), none, .mv (.t 8)⟩, []⟩,
                    ⟨⟨(some 87), none, .iaddrS 3 (.t 85) (.t 86)⟩, [1, 2]⟩,
                    ⟨⟨(some 88), none, .addr 2 (.t 87)⟩, [3]⟩,
                    ⟨⟨(some 89), none, .load none (.t 88)⟩, [4]⟩,
                    ⟨⟨(some 90), none, .call 18 [(.t 84), (.t 89)]⟩, [0, 5]⟩,
                    ⟨⟨(some 91), none, .mv (.t 7)⟩, []⟩,
                    ⟨⟨(some 92), none, .mv (.t 1)⟩, []⟩,
                    ⟨⟨(some 93), none, .mv (.t 8)⟩, []⟩,
                    ⟨⟨(some 94), none, .iaddrS 3 (.t 92) (.t 93)⟩, [8, 9]⟩,
                    ⟨⟨(some 95), none, .addr 2 (.t 94)⟩, [10]⟩,
                    ⟨⟨(some 96), none, .load none (.t 95)⟩, [11]⟩,
                    ⟨⟨(some 97), none, .call 19 [(.t 91), (.t 96)]⟩, [7, 12, 6]⟩,
                    ⟨⟨(some 98), none, .bin .neq (.t 90) (.t 97)⟩, [6, 13]⟩,
                    ⟨⟨(some 99), none, .mv (.t 98)⟩, [14, 13]⟩,
                    ⟨⟨(some 100), (some (99, false)), .mv (.t 5)⟩, [15]⟩,
                    ⟨⟨(some 101), (some (99, false)), .call 20 [(.t 100)]⟩, [16, 15, 15]⟩,
                    ⟨⟨(some 102), (some (99, false)), .mv (.t 7)⟩, [15]⟩,
                    ⟨⟨(some 103), (some (99, false)), .call 21 [(.t 102)]⟩, [18, 17, 15]⟩,
                    ⟨⟨(some 104), (some (99, false)), .bin .neq (.t 101) (.t 103)⟩, [17, 19, 15]⟩,
                    ⟨⟨(some 105), none, .pick (.t 99) (.c (.bool true)) (.t 104)⟩, [15, 20]⟩] [0, 0, 0, 6, 14, 30, 63, 0, 0, 0, 768, 1792, 3840, 8191, 16383, 32767, 65535, 131071, 65535, 524287, 1048575, 2097151])
                  (.cond (.t 105)
                   (.seq
                    (.ops [⟨(some 4), none, .mv (.c (.bool false))⟩])
                    (.ret))
                   (.skip)))))
               (.ops [⟨(some 43), none, .mv (.t 8)⟩,
                 ⟨(some 44), none, .bin .add (.t 43) (.c (.int .i64 1))⟩,
                 ⟨(some 8), none, .mv (.t 44)⟩]))))))
          (.seq
           (.ops [⟨(some 4), none, .mv (.c (.bool true))⟩])
           (.ret)))))))))⟩
theorem ok4 : FnOk Try.prog 4 a4 := FnOk.of Try.prog Try.func4 (by kernel_rfl)
/-- jalousie/jalousielaw03.QuotaNobody -/
def a5 : AFn := ⟨53, [.tmp 4], .seq
   (.ops [⟨(some 4), none, .mv (.c (.bool false))⟩])
   (.seq
    (.seq
     (.ops [⟨(some 7), none, .call 10 []⟩,
       ⟨(some 8), none, .un .not (.t 7)⟩])
     (.cond (.t 8)
      (.seq
       (.ops [⟨(some 4), none, .mv (.c (.bool false))⟩])
       (.ret))
      (.skip)))
    (.seq
     (.ops [⟨(some 5), none, .mv (.c .nilptr)⟩])
     (.seq
      (.ops [⟨(some 9), none, .build [(.int .i64 0), .nilmap] [(0, 1), (1, 1)] []⟩,
        ⟨(some 10), none, .box 51 (.t 9)⟩,
        ⟨(some 6), none, .mv (.t 10)⟩])
      (.seq
       (.ops [⟨(some 11), none, .mv (.t 5)⟩,
         ⟨(some 12), none, .call 17 [(.t 11)]⟩])
       (.seq
        (.ops [⟨(some 13), none, .mv (.t 6)⟩,
          ⟨(some 14), none, .call 17 [(.t 13)]⟩])
        (.seq
         (.ops [⟨(some 15), none, .mv (.t 5)⟩,
           ⟨(some 16), none, .mv (.t 0)⟩,
           ⟨(some 17), none, .mv (.t 1)⟩,
           ⟨(some 18), none, .call 15 [(.t 15), (.t 16), (.t 17)]⟩,
           ⟨(some 19), none, .mv (.t 1)⟩,
           ⟨(some 20), none, .bin .eql (.t 19) (.c (.int .i64 0))⟩,
           ⟨(some 21), none, .eq false 4 .bool (.t 18) (.t 20)⟩,
           ⟨(some 22), none, .mv (.t 21)⟩,
           ⟨(some 23), (some (22, true)), .mv (.t 6)⟩,
           ⟨(some 24), (some (22, true)), .mv (.t 0)⟩,
           ⟨(some 25), (some (22, true)), .mv (.t 1)⟩,
           ⟨(some 26), (some (22, true)), .call 15 [(.t 23), (.t 24), (.t 25)]⟩,
           ⟨(some 27), (some (22, true)), .mv (.t 1)⟩,
           ⟨(some 28), (some (22, true)), .bin .eql (.t 27) (.c (.int .i64 0))⟩,
           ⟨(some 29), (some (22, true)), .eq false 4 .bool (.t 26) (.t 28)⟩,
           ⟨(some 30), none, .pick (.t 22) (.t 29) (.c (.bool false))⟩,
           ⟨(some 31), none, .mv (.t 30)⟩,
           ⟨(some 32), (some (31, true)), .mv (.t 5)⟩,
           ⟨(some 33), (some (31, true)), .mv (.t 0)⟩,
           ⟨(some 34), (some (31, true)), .call 18 [(.t 32), (.t 33)]⟩,
           ⟨(some 35), (some (31, true)), .bin .eql (.t 34) (.c (.int .i64 0))⟩,
           ⟨(some 36), none, .pick (.t 31) (.t 35) (.c (.bool false))⟩,
           ⟨(some 37), none, .mv (.t 36)⟩,
           ⟨(some 38), (some (37, true)), .mv (.t 6)⟩,
           ⟨(some 39), (some (37, true)), .mv (.t 0)⟩,
           ⟨(some 40), (some (37, true)), .call 18 [(.t 38), (.t 39)]⟩,
           ⟨(some 41), (some (37, true)), .bin .eql (.t 40) (.c (.int .i64 0))⟩,
           ⟨(some 42), none, .pick (.t 37) (.t 41) (.c (.bool false))⟩,
           ⟨(some 43), none, .mv (.t 42)⟩,
           ⟨(some 44), (some (43, true)), .mv (.t 5)⟩,
           ⟨(some 45), (some (43, true)), .call 20 [(.t 44)]⟩,
           ⟨(some 46), (some (43, true)), .bin .eql (.t 45) (.c (.int .i64 0))⟩,
           ⟨(some 47), none, .pick (.t 43) (.t 46) (.c (.bool false))⟩,
           ⟨(some 48), none, .mv (.t 47)⟩,
           ⟨(some 49), (some (48, true)), .mv (.t 6)⟩,
           ⟨(some 50), (some (48, true)), .call 20 [(.t 49)]⟩,
           ⟨(some 51), (some (48, true)), .bin .eql (.t 50) (.c (.int .i64 0))⟩,
           ⟨(some 52), none, .pick (.t 48) (.t 51) (.c (.bool false))⟩,
           ⟨(some 4), none, .mv (.t 52)⟩])
         (.ret)))))))⟩
theorem ok5 : FnOk Try.prog 5 a5 := FnOk.of Try.prog Try.func5 (by kernel_rfl)
/-- jalousie/jalousielaw03.QuotaApart -/
def a6 : AFn := ⟨117, [.tmp 6], .seq
   (.ops [⟨(some 6), none, .mv (.c (.bool false))⟩])
   (.seq
    (.seq
     (.ops [⟨(some 15), none, .call 10 []⟩,
       ⟨(some 16), none, .un .not (.t 15)⟩])
     (.cond (.t 16)
      (.seq
       (.ops [⟨(some 6), none, .mv (.c (.bool false))⟩])
       (.ret))
      (.skip)))
    (.seq
     (.seq
      (.ops [⟨(some 17), none, .mv (.t 1)⟩,
        ⟨(some 18), none, .call 13 [(.t 17)]⟩,
        ⟨(some 19), none, .mv (.t 18)⟩,
        ⟨(some 20), (some (19, false)), .mv (.t 2)⟩,
        ⟨(some 21), (some (19, false)), .lenS (.t 20)⟩,
        ⟨(some 22), (some (19, false)), .bin .gtr (.t 21) (.c (.int .i64 2000))⟩,
        ⟨(some 23), none, .pick (.t 19) (.c (.bool true)) (.t 22)⟩])
      (.cond (.t 23)
       (.seq
        (.ops [⟨(some 6), none, .mv (.c (.bool true))⟩])
        (.ret))
       (.skip)))
     (.seq
      (.ops [⟨(some 25), none, .mv (.t 0)⟩,
        ⟨(some 26), none, .call 14 [(.t 25)]⟩,
        ⟨(some 24), none, .mv (.t 26)⟩,
        ⟨(some 27), none, .ext (.t 24) 0⟩,
        ⟨(some 28), none, .ext (.t 24) 1⟩,
        ⟨(some 7), none, .mv (.t 27)⟩,
        ⟨(some 8), none, .mv (.t 28)⟩])
      (.seq
       (.ops [⟨(some 30), none, .mv (.t 0)⟩,
         ⟨(some 31), none, .call 14 [(.t 30)]⟩,
         ⟨(some 29), none, .mv (.t 31)⟩,
         ⟨(some 32), none, .ext (.t 29) 0⟩,
         ⟨(some 33), none, .ext (.t 29) 1⟩,
         ⟨(some 9), none, .mv (.t 32)⟩,
         ⟨(some 10), none, .mv (.t 33)⟩])
       (.seq
        (.seq
         (.ops [⟨(some 34), none, .mv (.t 8)⟩,
           ⟨(some 35), none, .mv (.t 10)⟩,
           ⟨(some 36), none, .bin .neq (.t 34) (.t 35)⟩])
         (.cond (.t 36)
          (.seq
           (.ops [⟨(some 6), none, .mv (.c (.bool false))⟩])
           (.ret))
          (.skip)))
        (.seq
         (.seq
          (.ops [⟨(some 37), none, .mv (.t 8)⟩,
            ⟨(some 38), none, .bin .neq (.t 37) (.c (.int .i64 0))⟩])
          (.cond (.t 38)
           (.seq
            (.ops [⟨(some 39), none, .mv (.t 7)⟩,
              ⟨(some 40), none, .eq false 37 (.pointer 51) (.t 39) (.c .nilptr)⟩,
              ⟨(some 41), none, .mv (.t 40)⟩,
              ⟨(some 42), (some (41, true)), .mv (.t 9)⟩,
              ⟨(some 43), (some (41, true)), .eq false 37 (.pointer 51) (.t 42) (.c .nilptr)⟩,
              ⟨(some 44), none, .pick (.t 41) (.t 43) (.c (.bool false))⟩,
              ⟨(some 6), none, .mv (.t 44)⟩])
            (.ret))
           (.skip)))
         (.seq
          (.ops [⟨(some 11), none, .mv (.c (.int .i64 0))⟩])
          (.seq
           (.seq
            (.ops [⟨(some 12), none, .mv (.c (.int .i64 0))⟩])
            (.block 0 (.loop (.seq
               (.seq
                (.ops [⟨(some 45), none, .mv (.t 12)⟩,
                  ⟨(some 46), none, .mv (.t 1)⟩,
                  ⟨(some 47), none, .lenL (.t 46)⟩,
                  ⟨(some 48), none, .bin .lss (.t 45) (.t 47)⟩])
                (.cond (.t 48)
                 (.skip)
                 (.exit 0)))
               (.seq
                (.block 1 (.seq
                  (.ops [⟨(some 51), none, .mv (.t 1)⟩,
                    ⟨(some 52), none, .mv (.t 12)⟩,
                    ⟨(some 53), none, .iaddrS 3 (.t 51) (.t 52)⟩,
                    ⟨(some 54), none, .load (some 3) (.t 53)⟩,
                    ⟨(some 13), none, .alloc 45 [(.int .i64 0), (.int .i64 0), (.str [])]⟩,
                    ⟨none, none, .store 3 (.t 13) (.t 54)⟩])
                  (.seq
                   (.seq
                    (.ops [⟨(some 55), none, .addr 0 (.t 13)⟩,
                      ⟨(some 56), none, .load none (.t 55)⟩,
                      ⟨(some 57), none, .bin .eql (.t 56) (.c (.int .i64 1))⟩])
                    (.cond (.t 57)
                     (.seq
                      (.ops [⟨(some 58), none, .mv (.t 7)⟩,
                        ⟨(some 59), none, .call 17 [(.t 58)]⟩])
                      (.seq
                       (.ops [⟨(some 60), none, .mv (.t 9)⟩,
                         ⟨(some 61), none, .call 17 [(.t 60)]⟩])
                       (.seq
                        (.ops [⟨(some 11), none, .mv (.c (.int .i64 0))⟩])
                        (.exit 1))))
                     (.skip)))
                   (.seq
                    (.seq
                     (.ops [⟨(some 62), none, .addr 0 (.t 13)⟩,
                       ⟨(some 63), none, .load none (.t 62)⟩,
                       ⟨(some 64), none, .bin .neq (.t 63) (.c (.int .i64 0))⟩])
                     (.cond (.t 64)
                      (.exit 1)
                      (.skip)))
                    (.seq
                     (.ops [⟨(some 65), none, .mv (.t 7)⟩,
                       ⟨(some 66), none, .addr 2 (.t 13)⟩,
                       ⟨(some 67), none, .load none (.t 66)⟩,
                       ⟨(some 68), none, .addr 1 (.t 13)⟩,
                       ⟨(some 69), none, .load none (.t 68)⟩,
                       ⟨(some 70), none, .call 15 [(.t 65), (.t 67), (.t 69)]⟩,
                       ⟨(some 14), none, .mv (.t 70)⟩])
                     (.seq
                      (.seq
                       (.ops [⟨(some 71), none, .addr 2 (.t 13)⟩,
                         ⟨(some 72), none, .load none (.t 71)⟩,
                         ⟨(some 73), none, .mv (.t 2)⟩,
                         ⟨(some 74), none, .bin .neq (.t 72) (.t 73)⟩])
                       (.cond (.t 74)
                        (.exit 1)
                        (.skip)))
                      (.seq
                       (.seq
                        (.ops [⟨(some 75), none, .mv (.t 9)⟩,
                          ⟨(some 76), none, .addr 2 (.t 13)⟩,
                          ⟨(some 77), none, .load none (.t 76)⟩,
                          ⟨(some 78), none, .addr 1 (.t 13)⟩,
                          ⟨(some 79), none, .load none (.t 78)⟩,
                          ⟨(some 80), none, .call 15 [(.t 75), (.t 77), (.t 79)]⟩,
                          ⟨(some 81), none, .mv (.t 14)⟩,
                          ⟨(some 82), none, .eq true 4 .bool (.t 80) (.t 81)⟩,
                          ⟨(some 83), none, .mv (.t 82)⟩,
                          ⟨(some 84), (some (83, false)), .mv (.t 14)⟩,
                          ⟨(some 85), (some (83, false)), .addr 1 (.t 13)⟩,
                          ⟨(some 86), (some (83, false)), .load none (.t 85)⟩,
                          ⟨(some 87), (some (83, false)), .bin .geq (.t 86) (.c (.int .i64 0))⟩,
                          ⟨(some 88), (some (83, false)), .mv (.t 87)⟩,
                          ⟨(some 89), (some (88, true)), .addr 1 (.t 13)⟩,
                          ⟨(some 90), (some (88, true)), .load none (.t 89)⟩,
                          ⟨(some 91), (some (88, true)), .mv (.t 0)⟩,
                          ⟨(some 92), (some (88, true)), .mv (.t 11)⟩,
                          ⟨(some 93), (some (88, true)), .bin .sub (.t 91) (.t 92)⟩,
                          ⟨(some 94), (some (88, true)), .bin .leq (.t 90) (.t 93)⟩,
                          ⟨(some 95), (some (83, false)), .pick (.t 88) (.t 94) (.c (.bool false))⟩,
                          ⟨(some 96), (some (83, false)), .eq true 4 .bool (.t 84) (.t 95)⟩,
                          ⟨(some 97), none, .pick (.t 83) (.c (.bool true)) (.t 96)⟩])
                        (.cond (.t 97)
                         (.seq
                          (.ops [⟨(some 6), none, .mv (.c (.bool false))⟩])
                          (.ret))
                         (.skip)))
                       (.seq
                        (.seq
                         (.ops [⟨(some 98), none, .mv (.t 14)⟩])
                         (.cond (.t 98)
                          (.ops [⟨(some 99), none, .mv (.t 11)⟩,
                            ⟨(some 100), none, .addr 1 (.t 13)⟩,
                            ⟨(some 101), none, .load none (.t 100)⟩,
                            ⟨(some 102), none, .bin .add (.t 99) (.t 101)⟩,
                            ⟨(some 11), none, .mv (.t 102)⟩])
                          (.skip)))
                        (.seq
                         (.ops [⟨(some 103), none, .mv (.t 7)⟩,
                           ⟨(some 104), none, .mv (.t 2)⟩,
                           ⟨(some 105), none, .call 18 [(.t 103), (.t 104)]⟩,
                           ⟨(some 106), none, .mv (.t 0)⟩,
                           ⟨(some 107), none, .mv (.t 11)⟩,
                           ⟨(some 108), none, .bin .sub (.t 106) (.t 107)⟩,
                           ⟨(some 109), none, .bin .neq (.t 105) (.t 108)⟩])
                         (.cond (.t 109)
                          (.seq
                           (.ops [⟨(some 6), none, .mv (.c (.bool false))⟩])
                           (.ret))
                          (.skip)))))))))))
                (.ops [⟨(some 49), none, .mv (.t 12)⟩,
                  ⟨(some 50), none, .bin .add (.t 49) (.c (.int .i64 1))⟩,
                  ⟨(some 12), none, .mv (.t 50)⟩]))))))
           (.seq
            (.ops [⟨(some 110), none, .mv (.t 7)⟩,
              ⟨(some 111), none, .mv (.t 2)⟩,
              ⟨(some 112), none, .call 18 [(.t 110), (.t 111)]⟩,
              ⟨(some 113), none, .mv (.t 9)⟩,
              ⟨(some 114), none, .mv (.t 2)⟩,
              ⟨(some 115), none, .call 18 [(.t 113), (.t 114)]⟩,
              ⟨(some 116), none, .bin .eql (.t 112) (.t 115)⟩,
              ⟨(some 6), none, .mv (.t 116)⟩])
            (.ret))))))))))⟩
theorem ok6 : FnOk Try.prog 6 a6 := FnOk.of Try.prog Try.func6 (by kernel_rfl)
/-- jalousie/quota.New[jalousie/api.Pane] -/
def a7 : AFn := ⟨14, [.tmp 2, .tmp 3], .seq
   (.ops [⟨(some 2), none, .mv (.c .nilptr)⟩,
     ⟨(some 3), none, .mv (.c (.int .i64 0))⟩])
   (.seq
    (.seq
     (.ops [⟨(some 4), none, .mv (.t 0)⟩,
       ⟨(some 5), none, .bin .lss (.t 4) (.c (.int .i64 0))⟩,
       ⟨(some 6), none, .mv (.t 5)⟩,
       ⟨(some 7), (some (6, false)), .mv (.t 0)⟩,
       ⟨(some 8), (some (6, false)), .bin .gtr (.t 7) (.c (.int .i64 1099511627776))⟩,
       ⟨(some 9), none, .pick (.t 6) (.c (.bool true)) (.t 8)⟩])
     (.cond (.t 9)
      (.seq
       (.ops [⟨(some 2), none, .mv (.c .nilptr)⟩,
         ⟨(some 3), none, .mv (.c (.int .i64 1))⟩])
       (.ret))
      (.skip)))
    (.seq
     (.ops [⟨(some 10), none, .mv (.t 0)⟩,
       ⟨(some 11), none, .mkmap⟩,
       ⟨(some 12), none, .build [(.int .i64 0), .nilmap] [(0, 1), (1, 1)] [(0, (.t 10)), (1, (.t 11))]⟩,
       ⟨(some 13), none, .box 55 (.t 12)⟩,
       ⟨(some 2), none, .mv (.t 13)⟩,
       ⟨(some 3), none, .mv (.c (.int .i64 0))⟩])
     (.ret)))⟩
theorem ok7 : FnOk Try.prog 7 a7 := FnOk.of Try.prog Try.func7 (by kernel_rfl)
/-- (*jalousie/quota.Quota[jalousie/api.Pane]).Take -/
def a8 : AFn := ⟨40, [.tmp 6], .seq
   (.ops [⟨(some 4), none, .box 27 (.t 1)⟩,
     ⟨(some 6), none, .mv (.c (.bool false))⟩])
   (.seq
    (.seq
     (.ops [⟨(some 7), none, .mv (.t 2)⟩,
       ⟨(some 8), none, .bin .lss (.t 7) (.c (.int .i64 0))⟩,
       ⟨(some 9), none, .mv (.t 8)⟩,
       ⟨(some 10), (some (9, false)), .mv (.t 2)⟩,
       ⟨(some 11), (some (9, false)), .mv (.t 0)⟩,
       ⟨(some 12), (some (9, false)), .load (some 3) (.t 4)⟩,
       ⟨(some 13), (some (9, false)), .call 22 [(.t 11), (.t 12)]⟩,
       ⟨(some 14), (some (9, false)), .bin .gtr (.t 10) (.t 13)⟩,
       ⟨(some 15), none, .pick (.t 9) (.c (.bool true)) (.t 14)⟩])
     (.cond (.t 15)
      (.seq
       (.ops [⟨(some 6), none, .mv (.c (.bool false))⟩])
       (.ret))
      (.skip)))
    (.seq
     (.seq
      (.ops [⟨(some 16), none, .mv (.t 2)⟩,
        ⟨(some 17), none, .bin .gtr (.t 16) (.c (.int .i64 0))⟩])
      (.cond (.t 17)
       (.seq
        (.seq
         (.draw [⟨⟨(some 18), none, .mv (.t 0)⟩, []⟩,
           ⟨⟨(some 19), none, .nilck (.t 18)⟩, [0]⟩,
           ⟨⟨(some 20), none, .addr 1 (.t 19)⟩, [1]⟩,
           ⟨⟨(some 21), none, .load none (.t 20)⟩, [2]⟩,
           ⟨⟨(some 22), none, .load (some 3) (.t 4)⟩, []⟩,
           ⟨⟨(some 23), none, .lookup 27 .nilptr (.t 21) (.t 22) false⟩, [3, 4]⟩,
           ⟨⟨(some 24), none, .eq false 57 (.pointer 62) (.t 23) (.c .nilptr)⟩, [5]⟩] [0, 1, 3, 7, 0, 31, 63])
         (.cond (.t 24)
          (.draw [⟨⟨(some 25), none, .mv (.t 0)⟩, []⟩,
            ⟨⟨(some 26), none, .nilck (.t 25)⟩, [0]⟩,
            ⟨⟨(some 27), none, .addr 1 (.t 26)⟩, [1]⟩,
            ⟨⟨(some 28), none, .load none (.t 27)⟩, [2]⟩,
            ⟨⟨(some 29), none, .load (some 3) (.t 4)⟩, []⟩,
            ⟨⟨(some 30), none, .build [(.int .i64 0)] [(0, 0), (0, 0), (0, 1)] []⟩, []⟩,
            ⟨⟨(some 31), none, .box 62 (.t 30)⟩, [5]⟩,
            ⟨⟨none, none, .mapUpd 27 (.t 28) (.t 29) (.t 31)⟩, [3, 4, 6, 0, 1, 2, 3, 4, 5, 6]⟩] [0, 1, 3, 7, 0, 0, 32, 127])
          (.skip)))
        (.draw [⟨⟨(some 32), none, .mv (.t 0)⟩, []⟩,
          ⟨⟨(some 33), none, .nilck (.t 32)⟩, [0]⟩,
          ⟨⟨(some 34), none, .addr 1 (.t 33)⟩, [1]⟩,
          ⟨⟨(some 35), none, .load none (.t 34)⟩, [2]⟩,
          ⟨⟨(some 36), none, .load (some 3) (.t 4)⟩, []⟩,
          ⟨⟨(some 37), none, .lookup 27 .nilptr (.t 35) (.t 36) false⟩, [3, 4]⟩,
          ⟨⟨(some 38), none, .mv (.t 2)⟩, []⟩,
          ⟨⟨(some 39), none, .call 23 [(.t 37), (.t 38)]⟩, [5, 6]⟩] [0, 1, 3, 7, 0, 31, 0, 127]))
       (.skip)))
     (.seq
      (.ops [⟨(some 6), none, .mv (.c (.bool true))⟩])
      (.ret))))⟩
theorem ok8 : FnOk Try.prog 8 a8 := FnOk.of Try.prog Try.func8 (by kernel_rfl)
/-- jalousie/quota.New[int] -/
def a9 : AFn := ⟨14, [.tmp 2, .tmp 3], .seq
   (.ops [⟨(some 2), none, .mv (.c .nilptr)⟩,
     ⟨(some 3), none, .mv (.c (.int .i64 0))⟩])
   (.seq
    (.seq
     (.ops [⟨(some 4), none, .mv (.t 0)⟩,
       ⟨(some 5), none, .bin .lss (.t 4) (.c (.int .i64 0))⟩,
       ⟨(some 6), none, .mv (.t 5)⟩,
       ⟨(some 7), (some (6, false)), .mv (.t 0)⟩,
       ⟨(some 8), (some (6, false)), .bin .gtr (.t 7) (.c (.int .i64 1099511627776))⟩,
       ⟨(some 9), none, .pick (.t 6) (.c (.bool true)) (.t 8)⟩])
     (.cond (.t 9)
      (.seq
       (.ops [⟨(some 2), none, .mv (.c .nilptr)⟩,
         ⟨(some 3), none, .mv (.c (.int .i64 1))⟩])
       (.ret))
      (.skip)))
    (.seq
     (.ops [⟨(some 10), none, .mv (.t 0)⟩,
       ⟨(some 11), none, .mkmap⟩,
       ⟨(some 12), none, .build [(.int .i64 0), .nilmap] [(0, 1), (1, 1)] [(0, (.t 10)), (1, (.t 11))]⟩,
       ⟨(some 13), none, .box 66 (.t 12)⟩,
       ⟨(some 2), none, .mv (.t 13)⟩,
       ⟨(some 3), none, .mv (.c (.int .i64 0))⟩])
     (.ret)))⟩
theorem ok9 : FnOk Try.prog 9 a9 := FnOk.of Try.prog Try.func9 (by kernel_rfl)
/-- jalousie/jalousielaw03.awake -/
def a10 : AFn := ⟨51, [.tmp 0], .seq
   (.ops [⟨(some 0), none, .mv (.c (.bool false))⟩])
   (.seq
    (.ops [⟨(some 9), none, .call 14 [(.c (.int .i64 5))]⟩,
      ⟨(some 8), none, .mv (.t 9)⟩,
      ⟨(some 10), none, .ext (.t 8) 0⟩,
      ⟨(some 11), none, .ext (.t 8) 1⟩,
      ⟨(some 1), none, .mv (.t 10)⟩,
      ⟨(some 2), none, .mv (.t 11)⟩])
    (.seq
     (.seq
      (.ops [⟨(some 12), none, .mv (.t 2)⟩,
        ⟨(some 13), none, .bin .neq (.t 12) (.c (.int .i64 0))⟩,
        ⟨(some 14), none, .mv (.t 13)⟩,
        ⟨(some 15), (some (14, false)), .mv (.t 1)⟩,
        ⟨(some 16), (some (14, false)), .eq false 37 (.pointer 51) (.t 15) (.c .nilptr)⟩,
        ⟨(some 17), none, .pick (.t 14) (.c (.bool true)) (.t 16)⟩])
      (.cond (.t 17)
       (.seq
        (.ops [⟨(some 0), none, .mv (.c (.bool false))⟩])
        (.ret))
       (.skip)))
     (.seq
      (.ops [⟨(some 18), none, .mv (.t 1)⟩,
        ⟨(some 19), none, .call 15 [(.t 18), (.c (.str [97])), (.c (.int .i64 3))]⟩,
        ⟨(some 3), none, .mv (.t 19)⟩])
      (.seq
       (.ops [⟨(some 20), none, .mv (.t 1)⟩,
         ⟨(some 21), none, .call 15 [(.t 20), (.c (.str [97])), (.c (.int .i64 3))]⟩,
         ⟨(some 4), none, .mv (.t 21)⟩])
       (.seq
        (.ops [⟨(some 22), none, .mv (.t 1)⟩,
          ⟨(some 23), none, .call 15 [(.t 22), (.c (.str [98])), (.c (.int .i64 5))]⟩,
          ⟨(some 5), none, .mv (.t 23)⟩])
        (.seq
         (.ops [⟨(some 24), none, .mv (.t 1)⟩,
           ⟨(some 25), none, .call 18 [(.t 24), (.c (.str [97]))]⟩,
           ⟨(some 26), none, .mv (.t 1)⟩,
           ⟨(some 27), none, .call 20 [(.t 26)]⟩,
           ⟨(some 6), none, .mv (.t 25)⟩,
           ⟨(some 7), none, .mv (.t 27)⟩])
         (.seq
          (.ops [⟨(some 28), none, .mv (.t 1)⟩,
            ⟨(some 29), none, .call 17 [(.t 28)]⟩])
          (.seq
           (.ops [⟨(some 30), none, .mv (.t 3)⟩,
             ⟨(some 31), none, .mv (.t 30)⟩,
             ⟨(some 32), (some (31, true)), .mv (.t 4)⟩,
             ⟨(some 33), (some (31, true)), .un .not (.t 32)⟩,
             ⟨(some 34), none, .pick (.t 31) (.t 33) (.c (.bool false))⟩,
             ⟨(some 35), none, .mv (.t 34)⟩,
             ⟨(some 36), (some (35, true)), .mv (.t 5)⟩,
             ⟨(some 37), none, .pick (.t 35) (.t 36) (.c (.bool false))⟩,
             ⟨(some 38), none, .mv (.t 37)⟩,
             ⟨(some 39), (some (38, true)), .mv (.t 6)⟩,
             ⟨(some 40), (some (38, true)), .bin .eql (.t 39) (.c (.int .i64 2))⟩,
             ⟨(some 41), none, .pick (.t 38) (.t 40) (.c (.bool false))⟩,
             ⟨(some 42), none, .mv (.t 41)⟩,
             ⟨(some 43), (some (42, true)), .mv (.t 7)⟩,
             ⟨(some 44), (some (42, true)), .bin .eql (.t 43) (.c (.int .i64 2))⟩,
             ⟨(some 45), none, .pick (.t 42) (.t 44) (.c (.bool false))⟩,
             ⟨(some 46), none, .mv (.t 45)⟩,
             ⟨(some 47), (some (46, true)), .mv (.t 1)⟩,
             ⟨(some 48), (some (46, true)), .call 18 [(.t 47), (.c (.str [97]))]⟩,
             ⟨(some 49), (some (46, true)), .bin .eql (.t 48) (.c (.int .i64 5))⟩,
             ⟨(some 50), none, .pick (.t 46) (.t 49) (.c (.bool false))⟩,
             ⟨(some 0), none, .mv (.t 50)⟩])
           (.ret)))))))))⟩
theorem ok10 : FnOk Try.prog 10 a10 := FnOk.of Try.prog Try.func10 (by kernel_rfl)
/-- (*jalousie/quota.Quota[jalousie/api.Pane]).Keys -/
def a11 : AFn := ⟨10, [.tmp 2], .seq
   (.ops [⟨(some 2), none, .mv (.c (.int .i64 0))⟩])
   (.seq
    (.seq
     (.ops [⟨(some 3), none, .mv (.t 0)⟩,
       ⟨(some 4), none, .eq false 22 (.pointer 55) (.t 3) (.c .nilptr)⟩])
     (.cond (.t 4)
      (.seq
       (.ops [⟨(some 2), none, .mv (.c (.int .i64 0))⟩])
       (.ret))
      (.skip)))
    (.seq
     (.ops [⟨(some 5), none, .mv (.t 0)⟩,
       ⟨(some 6), none, .nilck (.t 5)⟩,
       ⟨(some 7), none, .addr 1 (.t 6)⟩,
       ⟨(some 8), none, .load none (.t 7)⟩,
       ⟨(some 9), none, .lenM (.t 8)⟩,
       ⟨(some 2), none, .mv (.t 9)⟩])
     (.ret)))⟩
theorem ok11 : FnOk Try.prog 11 a11 := FnOk.of Try.prog Try.func11 (by kernel_rfl)
/-- (*jalousie/quota.Quota[int]).Take -/
def a12 : AFn := ⟨40, [.tmp 6], .seq
   (.ops [⟨(some 6), none, .mv (.c (.bool false))⟩])
   (.seq
    (.seq
     (.ops [⟨(some 7), none, .mv (.t 2)⟩,
       ⟨(some 8), none, .bin .lss (.t 7) (.c (.int .i64 0))⟩,
       ⟨(some 9), none, .mv (.t 8)⟩,
       ⟨(some 10), (some (9, false)), .mv (.t 2)⟩,
       ⟨(some 11), (some (9, false)), .mv (.t 0)⟩,
       ⟨(some 12), (some (9, false)), .mv (.t 1)⟩,
       ⟨(some 13), (some (9, false)), .call 24 [(.t 11), (.t 12)]⟩,
       ⟨(some 14), (some (9, false)), .bin .gtr (.t 10) (.t 13)⟩,
       ⟨(some 15), none, .pick (.t 9) (.c (.bool true)) (.t 14)⟩])
     (.cond (.t 15)
      (.seq
       (.ops [⟨(some 6), none, .mv (.c (.bool false))⟩])
       (.ret))
      (.skip)))
    (.seq
     (.seq
      (.ops [⟨(some 16), none, .mv (.t 2)⟩,
        ⟨(some 17), none, .bin .gtr (.t 16) (.c (.int .i64 0))⟩])
      (.cond (.t 17)
       (.seq
        (.seq
         (.ops [⟨(some 18), none, .mv (.t 0)⟩,
           ⟨(some 19), none, .nilck (.t 18)⟩,
           ⟨(some 20), none, .addr 1 (.t 19)⟩,
           ⟨(some 21), none, .load none (.t 20)⟩,
           ⟨(some 22), none, .mv (.t 1)⟩,
           ⟨(some 23), none, .lookup 3 .nilptr (.t 21) (.t 22) false⟩,
           ⟨(some 24), none, .eq false 57 (.pointer 62) (.t 23) (.c .nilptr)⟩])
         (.cond (.t 24)
          (.ops [⟨(some 25), none, .mv (.t 0)⟩,
            ⟨(some 26), none, .nilck (.t 25)⟩,
            ⟨(some 27), none, .addr 1 (.t 26)⟩,
            ⟨(some 28), none, .load none (.t 27)⟩,
            ⟨(some 29), none, .mv (.t 1)⟩,
            ⟨(some 30), none, .build [(.int .i64 0)] [(0, 0), (0, 0), (0, 1)] []⟩,
            ⟨(some 31), none, .box 62 (.t 30)⟩,
            ⟨none, none, .mapUpd 3 (.t 28) (.t 29) (.t 31)⟩])
          (.skip)))
        (.ops [⟨(some 32), none, .mv (.t 0)⟩,
          ⟨(some 33), none, .nilck (.t 32)⟩,
          ⟨(some 34), none, .addr 1 (.t 33)⟩,
          ⟨(some 35), none, .load none (.t 34)⟩,
          ⟨(some 36), none, .mv (.t 1)⟩,
          ⟨(some 37), none, .lookup 3 .nilptr (.t 35) (.t 36) false⟩,
          ⟨(some 38), none, .mv (.t 2)⟩,
          ⟨(some 39), none, .call 23 [(.t 37), (.t 38)]⟩]))
       (.skip)))
     (.seq
      (.ops [⟨(some 6), none, .mv (.c (.bool true))⟩])
      (.ret))))⟩
theorem ok12 : FnOk Try.prog 12 a12 := FnOk.of Try.prog Try.func12 (by kernel_rfl)
/-- jalousie/jalousielaw03.Great -/
def a13 : AFn := ⟨31, [.tmp 2], .seq
   (.ops [⟨(some 2), none, .mv (.c (.bool false))⟩])
   (.seq
    (.ops [⟨(some 3), none, .mv (.c (.int .i64 0))⟩])
    (.seq
     (.seq
      (.ops [⟨(some 4), none, .mv (.c (.int .i64 0))⟩])
      (.block 0 (.loop (.seq
         (.seq
          (.ops [⟨(some 5), none, .mv (.t 4)⟩,
            ⟨(some 6), none, .mv (.t 0)⟩,
            ⟨(some 7), none, .lenL (.t 6)⟩,
            ⟨(some 8), none, .bin .lss (.t 5) (.t 7)⟩,
            ⟨(some 9), none, .mv (.t 8)⟩,
            ⟨(some 10), (some (9, true)), .mv (.t 4)⟩,
            ⟨(some 11), (some (9, true)), .bin .leq (.t 10) (.c (.int .i64 300))⟩,
            ⟨(some 12), none, .pick (.t 9) (.t 11) (.c (.bool false))⟩])
          (.cond (.t 12)
           (.skip)
           (.exit 0)))
         (.seq
          (.block 1 (.ops [⟨(some 15), none, .mv (.t 3)⟩,
             ⟨(some 16), none, .mv (.t 0)⟩,
             ⟨(some 17), none, .mv (.t 4)⟩,
             ⟨(some 18), none, .iaddrS 3 (.t 16) (.t 17)⟩,
             ⟨(some 19), none, .addr 2 (.t 18)⟩,
             ⟨(some 20), none, .load none (.t 19)⟩,
             ⟨(some 21), none, .lenS (.t 20)⟩,
             ⟨(some 22), none, .minI (.t 21) [(.c (.int .i64 20001))]⟩,
             ⟨(some 23), none, .bin .add (.t 15) (.t 22)⟩,
             ⟨(some 3), none, .mv (.t 23)⟩]))
          (.ops [⟨(some 13), none, .mv (.t 4)⟩,
            ⟨(some 14), none, .bin .add (.t 13) (.c (.int .i64 1))⟩,
            ⟨(some 4), none, .mv (.t 14)⟩]))))))
     (.seq
      (.ops [⟨(some 24), none, .mv (.t 0)⟩,
        ⟨(some 25), none, .lenL (.t 24)⟩,
        ⟨(some 26), none, .bin .gtr (.t 25) (.c (.int .i64 300))⟩,
        ⟨(some 27), none, .mv (.t 26)⟩,
        ⟨(some 28), (some (27, false)), .mv (.t 3)⟩,
        ⟨(some 29), (some (27, false)), .bin .gtr (.t 28) (.c (.int .i64 20000))⟩,
        ⟨(some 30), none, .pick (.t 27) (.c (.bool true)) (.t 29)⟩,
        ⟨(some 2), none, .mv (.t 30)⟩])
      (.ret))))⟩
theorem ok13 : FnOk Try.prog 13 a13 := FnOk.of Try.prog Try.func13 (by kernel_rfl)
/-- jalousie/quota.New[string] -/
def a14 : AFn := ⟨14, [.tmp 2, .tmp 3], .seq
   (.ops [⟨(some 2), none, .mv (.c .nilptr)⟩,
     ⟨(some 3), none, .mv (.c (.int .i64 0))⟩])
   (.seq
    (.seq
     (.ops [⟨(some 4), none, .mv (.t 0)⟩,
       ⟨(some 5), none, .bin .lss (.t 4) (.c (.int .i64 0))⟩,
       ⟨(some 6), none, .mv (.t 5)⟩,
       ⟨(some 7), (some (6, false)), .mv (.t 0)⟩,
       ⟨(some 8), (some (6, false)), .bin .gtr (.t 7) (.c (.int .i64 1099511627776))⟩,
       ⟨(some 9), none, .pick (.t 6) (.c (.bool true)) (.t 8)⟩])
     (.cond (.t 9)
      (.seq
       (.ops [⟨(some 2), none, .mv (.c .nilptr)⟩,
         ⟨(some 3), none, .mv (.c (.int .i64 1))⟩])
       (.ret))
      (.skip)))
    (.seq
     (.ops [⟨(some 10), none, .mv (.t 0)⟩,
       ⟨(some 11), none, .mkmap⟩,
       ⟨(some 12), none, .build [(.int .i64 0), .nilmap] [(0, 1), (1, 1)] [(0, (.t 10)), (1, (.t 11))]⟩,
       ⟨(some 13), none, .box 51 (.t 12)⟩,
       ⟨(some 2), none, .mv (.t 13)⟩,
       ⟨(some 3), none, .mv (.c (.int .i64 0))⟩])
     (.ret)))⟩
theorem ok14 : FnOk Try.prog 14 a14 := FnOk.of Try.prog Try.func14 (by kernel_rfl)
/-- (*jalousie/quota.Quota[string]).Take -/
def a15 : AFn := ⟨40, [.tmp 6], .seq
   (.ops [⟨(some 6), none, .mv (.c (.bool false))⟩])
   (.seq
    (.seq
     (.ops [⟨(some 7), none, .mv (.t 2)⟩,
       ⟨(some 8), none, .bin .lss (.t 7) (.c (.int .i64 0))⟩,
       ⟨(some 9), none, .mv (.t 8)⟩,
       ⟨(some 10), (some (9, false)), .mv (.t 2)⟩,
       ⟨(some 11), (some (9, false)), .mv (.t 0)⟩,
       ⟨(some 12), (some (9, false)), .mv (.t 1)⟩,
       ⟨(some 13), (some (9, false)), .call 18 [(.t 11), (.t 12)]⟩,
       ⟨(some 14), (some (9, false)), .bin .gtr (.t 10) (.t 13)⟩,
       ⟨(some 15), none, .pick (.t 9) (.c (.bool true)) (.t 14)⟩])
     (.cond (.t 15)
      (.seq
       (.ops [⟨(some 6), none, .mv (.c (.bool false))⟩])
       (.ret))
      (.skip)))
    (.seq
     (.seq
      (.ops [⟨(some 16), none, .mv (.t 2)⟩,
        ⟨(some 17), none, .bin .gtr (.t 16) (.c (.int .i64 0))⟩])
      (.cond (.t 17)
       (.seq
        (.seq
         (.ops [⟨(some 18), none, .mv (.t 0)⟩,
           ⟨(some 19), none, .nilck (.t 18)⟩,
           ⟨(some 20), none, .addr 1 (.t 19)⟩,
           ⟨(some 21), none, .load none (.t 20)⟩,
           ⟨(some 22), none, .mv (.t 1)⟩,
           ⟨(some 23), none, .lookup 9 .nilptr (.t 21) (.t 22) false⟩,
           ⟨(some 24), none, .eq false 57 (.pointer 62) (.t 23) (.c .nilptr)⟩])
         (.cond (.t 24)
          (.ops [⟨(some 25), none, .mv (.t 0)⟩,
            ⟨(some 26), none, .nilck (.t 25)⟩,
            ⟨(some 27), none, .addr 1 (.t 26)⟩,
            ⟨(some 28), none, .load none (.t 27)⟩,
            ⟨(some 29), none, .mv (.t 1)⟩,
            ⟨(some 30), none, .build [(.int .i64 0)] [(0, 0), (0, 0), (0, 1)] []⟩,
            ⟨(some 31), none, .box 62 (.t 30)⟩,
            ⟨none, none, .mapUpd 9 (.t 28) (.t 29) (.t 31)⟩])
          (.skip)))
        (.ops [⟨(some 32), none, .mv (.t 0)⟩,
          ⟨(some 33), none, .nilck (.t 32)⟩,
          ⟨(some 34), none, .addr 1 (.t 33)⟩,
          ⟨(some 35), none, .load none (.t 34)⟩,
          ⟨(some 36), none, .mv (.t 1)⟩,
          ⟨(some 37), none, .lookup 9 .nilptr (.t 35) (.t 36) false⟩,
          ⟨(some 38), none, .mv (.t 2)⟩,
          ⟨(some 39), none, .call 23 [(.t 37), (.t 38)]⟩]))
       (.skip)))
     (.seq
      (.ops [⟨(some 6), none, .mv (.c (.bool true))⟩])
      (.ret))))⟩
theorem ok15 : FnOk Try.prog 15 a15 := FnOk.of Try.prog Try.func15 (by kernel_rfl)
/-- (*jalousie/jalousieref03.Quota).Take -/
def a16 : AFn := ⟨28, [.tmp 6], .seq
   (.ops [⟨(some 6), none, .mv (.c (.bool false))⟩])
   (.seq
    (.seq
     (.ops [⟨(some 7), none, .mv (.t 2)⟩,
       ⟨(some 8), none, .bin .lss (.t 7) (.c (.int .i64 0))⟩,
       ⟨(some 9), none, .mv (.t 8)⟩,
       ⟨(some 10), (some (9, false)), .mv (.t 2)⟩,
       ⟨(some 11), (some (9, false)), .mv (.t 0)⟩,
       ⟨(some 12), (some (9, false)), .mv (.t 1)⟩,
       ⟨(some 13), (some (9, false)), .call 19 [(.t 11), (.t 12)]⟩,
       ⟨(some 14), (some (9, false)), .bin .gtr (.t 10) (.t 13)⟩,
       ⟨(some 15), none, .pick (.t 9) (.c (.bool true)) (.t 14)⟩])
     (.cond (.t 15)
      (.seq
       (.ops [⟨(some 6), none, .mv (.c (.bool false))⟩])
       (.ret))
      (.skip)))
    (.seq
     (.ops [⟨(some 16), none, .mv (.t 0)⟩,
       ⟨(some 17), none, .mv (.t 0)⟩,
       ⟨(some 18), none, .nilck (.t 17)⟩,
       ⟨(some 19), none, .addr 1 (.t 18)⟩,
       ⟨(some 20), none, .load none (.t 19)⟩,
       ⟨(some 21), none, .mv (.t 1)⟩,
       ⟨(some 22), none, .mv (.t 2)⟩,
       ⟨(some 23), none, .build [(.str []), (.int .i64 0)] [(0, 1), (1, 1)] [(0, (.t 21)), (1, (.t 22))]⟩,
       ⟨(some 24), none, .bslice 69 2 1 [(.str []), (.int .i64 0)] [(0, (.t 23))]⟩,
       ⟨(some 25), none, .append 69 2 24 (.t 20) (.t 24)⟩,
       ⟨(some 26), none, .nilck (.t 16)⟩,
       ⟨(some 27), none, .addr 1 (.t 26)⟩,
       ⟨none, none, .store 1 (.t 27) (.t 25)⟩])
     (.seq
      (.ops [⟨(some 6), none, .mv (.c (.bool true))⟩])
      (.ret))))⟩
theorem ok16 : FnOk Try.prog 16 a16 := FnOk.of Try.prog Try.func16 (by kernel_rfl)
/-- (*jalousie/quota.Quota[string]).Tick -/
def a17 : AFn := ⟨8, [], .seq
   (.ops [⟨(some 2), none, .mv (.t 0)⟩,
     ⟨(some 3), none, .eq true 37 (.pointer 51) (.t 2) (.c .nilptr)⟩])
   (.cond (.t 3)
    (.ops [⟨(some 4), none, .mv (.t 0)⟩,
      ⟨(some 5), none, .nilck (.t 4)⟩,
      ⟨(some 6), none, .addr 1 (.t 5)⟩,
      ⟨(some 7), none, .load none (.t 6)⟩,
      ⟨none, none, .mapClear (.t 7)⟩])
    (.skip))⟩
theorem ok17 : FnOk Try.prog 17 a17 := FnOk.of Try.prog Try.func17 (by kernel_rfl)
/-- (*jalousie/quota.Quota[string]).Left -/
def a18 : AFn := ⟨26, [.tmp 4], .seq
   (.ops [⟨(some 4), none, .mv (.c (.int .i64 0))⟩])
   (.seq
    (.seq
     (.ops [⟨(some 7), none, .mv (.t 0)⟩,
       ⟨(some 8), none, .eq false 37 (.pointer 51) (.t 7) (.c .nilptr)⟩])
     (.cond (.t 8)
      (.seq
       (.ops [⟨(some 4), none, .mv (.c (.int .i64 0))⟩])
       (.ret))
      (.skip)))
    (.seq
     (.ops [⟨(some 9), none, .mv (.t 0)⟩,
       ⟨(some 10), none, .nilck (.t 9)⟩,
       ⟨(some 11), none, .addr 0 (.t 10)⟩,
       ⟨(some 12), none, .load none (.t 11)⟩,
       ⟨(some 5), none, .mv (.t 12)⟩])
     (.seq
      (.seq
       (.ops [⟨(some 13), none, .mv (.t 0)⟩,
         ⟨(some 14), none, .nilck (.t 13)⟩,
         ⟨(some 15), none, .addr 1 (.t 14)⟩,
         ⟨(some 16), none, .load none (.t 15)⟩,
         ⟨(some 17), none, .mv (.t 1)⟩,
         ⟨(some 18), none, .lookup 9 .nilptr (.t 16) (.t 17) false⟩,
         ⟨(some 6), none, .mv (.t 18)⟩])
       (.seq
        (.ops [⟨(some 19), none, .mv (.t 6)⟩,
          ⟨(some 20), none, .eq true 57 (.pointer 62) (.t 19) (.c .nilptr)⟩])
        (.cond (.t 20)
         (.ops [⟨(some 21), none, .mv (.t 5)⟩,
           ⟨(some 22), none, .mv (.t 6)⟩,
           ⟨(some 23), none, .call 25 [(.t 22)]⟩,
           ⟨(some 24), none, .bin .sub (.t 21) (.t 23)⟩,
           ⟨(some 5), none, .mv (.t 24)⟩])
         (.skip))))
      (.seq
       (.ops [⟨(some 25), none, .mv (.t 5)⟩,
         ⟨(some 4), none, .mv (.t 25)⟩])
       (.ret)))))⟩
theorem ok18 : FnOk Try.prog 18 a18 := FnOk.of Try.prog Try.func18 (by kernel_rfl)
/-- (*jalousie/jalousieref03.Quota).Left -/
def a19 : AFn := ⟨41, [.tmp 4], .seq
   (.ops [⟨(some 4), none, .mv (.c (.int .i64 0))⟩])
   (.seq
    (.ops [⟨(some 7), none, .mv (.t 0)⟩,
      ⟨(some 8), none, .nilck (.t 7)⟩,
      ⟨(some 9), none, .addr 0 (.t 8)⟩,
      ⟨(some 10), none, .load none (.t 9)⟩,
      ⟨(some 5), none, .mv (.t 10)⟩])
    (.seq
     (.seq
      (.ops [⟨(some 6), none, .mv (.c (.int .i64 0))⟩])
      (.block 0 (.loop (.seq
         (.seq
          (.ops [⟨(some 11), none, .mv (.t 6)⟩,
            ⟨(some 12), none, .mv (.t 0)⟩,
            ⟨(some 13), none, .nilck (.t 12)⟩,
            ⟨(some 14), none, .addr 1 (.t 13)⟩,
            ⟨(some 15), none, .load none (.t 14)⟩,
            ⟨(some 16), none, .lenL (.t 15)⟩,
            ⟨(some 17), none, .bin .lss (.t 11) (.t 16)⟩])
          (.cond (.t 17)
           (.skip)
           (.exit 0)))
         (.seq
          (.block 1 (.seq
            (.ops [⟨(some 20), none, .mv (.t 0)⟩,
              ⟨(some 21), none, .nilck (.t 20)⟩,
              ⟨(some 22), none, .addr 1 (.t 21)⟩,
              ⟨(some 23), none, .load none (.t 22)⟩,
              ⟨(some 24), none, .mv (.t 6)⟩,
              ⟨(some 25), none, .iaddrS 2 (.t 23) (.t 24)⟩,
              ⟨(some 26), none, .addr 0 (.t 25)⟩,
              ⟨(some 27), none, .load none (.t 26)⟩,
              ⟨(some 28), none, .mv (.t 1)⟩,
              ⟨(some 29), none, .bin .eql (.t 27) (.t 28)⟩])
            (.cond (.t 29)
             (.ops [⟨(some 30), none, .mv (.t 5)⟩,
               ⟨(some 31), none, .mv (.t 0)⟩,
               ⟨(some 32), none, .nilck (.t 31)⟩,
               ⟨(some 33), none, .addr 1 (.t 32)⟩,
               ⟨(some 34), none, .load none (.t 33)⟩,
               ⟨(some 35), none, .mv (.t 6)⟩,
               ⟨(some 36), none, .iaddrS 2 (.t 34) (.t 35)⟩,
               ⟨(some 37), none, .addr 1 (.t 36)⟩,
               ⟨(some 38), none, .load none (.t 37)⟩,
               ⟨(some 39), none, .bin .sub (.t 30) (.t 38)⟩,
               ⟨(some 5), none, .mv (.t 39)⟩])
             (.skip))))
          (.ops [⟨(some 18), none, .mv (.t 6)⟩,
            ⟨(some 19), none, .bin .add (.t 18) (.c (.int .i64 1))⟩,
            ⟨(some 6), none, .mv (.t 19)⟩]))))))
     (.seq
      (.ops [⟨(some 40), none, .mv (.t 5)⟩,
        ⟨(some 4), none, .mv (.t 40)⟩])
      (.ret))))⟩
theorem ok19 : FnOk Try.prog 19 a19 := FnOk.of Try.prog Try.func19 (by kernel_rfl)
/-- (*jalousie/quota.Quota[string]).Keys -/
def a20 : AFn := ⟨10, [.tmp 2], .seq
   (.ops [⟨(some 2), none, .mv (.c (.int .i64 0))⟩])
   (.seq
    (.seq
     (.ops [⟨(some 3), none, .mv (.t 0)⟩,
       ⟨(some 4), none, .eq false 37 (.pointer 51) (.t 3) (.c .nilptr)⟩])
     (.cond (.t 4)
      (.seq
       (.ops [⟨(some 2), none, .mv (.c (.int .i64 0))⟩])
       (.ret))
      (.skip)))
    (.seq
     (.ops [⟨(some 5), none, .mv (.t 0)⟩,
       ⟨(some 6), none, .nilck (.t 5)⟩,
       ⟨(some 7), none, .addr 1 (.t 6)⟩,
       ⟨(some 8), none, .load none (.t 7)⟩,
       ⟨(some 9), none, .lenM (.t 8)⟩,
       ⟨(some 2), none, .mv (.t 9)⟩])
     (.ret)))⟩
theorem ok20 : FnOk Try.prog 20 a20 := FnOk.of Try.prog Try.func20 (by kernel_rfl)
/-- (*jalousie/jalousieref03.Quota).Keys -/
def a21 : AFn := ⟨62, [.tmp 2], .seq
   (.ops [⟨(some 2), none, .mv (.c (.int .i64 0))⟩])
   (.seq
    (.ops [⟨(some 3), none, .mv (.c (.int .i64 0))⟩])
    (.seq
     (.seq
      (.ops [⟨(some 4), none, .mv (.c (.int .i64 0))⟩])
      (.block 0 (.loop (.seq
         (.seq
          (.ops [⟨(some 7), none, .mv (.t 4)⟩,
            ⟨(some 8), none, .mv (.t 0)⟩,
            ⟨(some 9), none, .nilck (.t 8)⟩,
            ⟨(some 10), none, .addr 1 (.t 9)⟩,
            ⟨(some 11), none, .load none (.t 10)⟩,
            ⟨(some 12), none, .lenL (.t 11)⟩,
            ⟨(some 13), none, .bin .lss (.t 7) (.t 12)⟩])
          (.cond (.t 13)
           (.skip)
           (.exit 0)))
         (.seq
          (.block 1 (.seq
            (.ops [⟨(some 16), none, .mv (.t 0)⟩,
              ⟨(some 17), none, .nilck (.t 16)⟩,
              ⟨(some 18), none, .addr 1 (.t 17)⟩,
              ⟨(some 19), none, .load none (.t 18)⟩,
              ⟨(some 20), none, .mv (.t 4)⟩,
              ⟨(some 21), none, .iaddrS 2 (.t 19) (.t 20)⟩,
              ⟨(some 22), none, .addr 1 (.t 21)⟩,
              ⟨(some 23), none, .load none (.t 22)⟩,
              ⟨(some 24), none, .bin .gtr (.t 23) (.c (.int .i64 0))⟩,
              ⟨(some 5), none, .mv (.t 24)⟩])
            (.seq
             (.seq
              (.ops [⟨(some 6), none, .mv (.c (.int .i64 0))⟩])
              (.block 2 (.loop (.seq
                 (.seq
                  (.ops [⟨(some 25), none, .mv (.t 6)⟩,
                    ⟨(some 26), none, .mv (.t 4)⟩,
                    ⟨(some 27), none, .bin .lss (.t 25) (.t 26)⟩])
                  (.cond (.t 27)
                   (.skip)
                   (.exit 2)))
                 (.seq
                  (.block 3 (.seq
                    (.draw [⟨⟨(some 30), none, .mv (.t 0)⟩, []⟩,
                      ⟨⟨(some 31), none, .nilck (.t 30)⟩, [0]⟩,
                      ⟨⟨(some 32), none, .addr 1 (.t 31)⟩, [1]⟩,
                      ⟨⟨(some 33), none, .load none (.t 32)⟩, [2]⟩,
                      ⟨⟨(some 34), none, .mv (.t 6)⟩, []⟩,
                      ⟨⟨(some 35), none, .iaddrS 2 (.t 33) (.t 34)⟩, [3, 4]⟩,
                      ⟨⟨(some 36), none, .addr 0 (.t 35)⟩, [5]⟩,
                      ⟨⟨(some 37), none, .load none (.t 36)⟩, [6]⟩,
                      ⟨⟨(some 38), none, .mv (.t 0)⟩, []⟩,
                      ⟨⟨(some 39), none, .nilck (.t 38)⟩, [8]⟩,
                      ⟨⟨(some 40), none, .addr 1 (.t 39)⟩, [9]⟩,
                      ⟨⟨(some 41), none, .load none (.t 40)⟩, [10]⟩,
                      ⟨⟨(some 42), none, .mv (.t 4)⟩, []⟩,
                      ⟨⟨(some 43), none, .iaddrS 2 (.t 41) (.t 42)⟩, [11, 12]⟩,
                      ⟨⟨(some 44), none, .addr 0 (.t 43)⟩, [13]⟩,
                      ⟨⟨(some 45), none, .load none (.t 44)⟩, [14]⟩,
                      ⟨⟨(some 46), none, .bin .eql (.t 37) (.t 45)⟩, [7, 15]⟩,
                      ⟨⟨(some 47), none, .mv (.t 46)⟩, [16]⟩,
                      ⟨⟨(some 48), (some (47, true)), .mv (.t 0)⟩, [17]⟩,
                      ⟨⟨(some 49), (some (47, true)), .nilck (.t 48)⟩, [18, 17]⟩,
                      ⟨⟨(some 50), (some (47, true)), .addr 1 (.t 49)⟩, [19, 17]⟩,
                      ⟨⟨(some 51), (some (47, true)), .load none (.t 50)⟩, [20, 17]⟩,
                      ⟨⟨(some 52), (some (47, true)), .mv (.t 6)⟩, [17]⟩,
                      ⟨⟨(some 53), (some (47, true)), .iaddrS 2 (.t 51) (.t 52)⟩, [21, 22, 17]⟩,
                      ⟨⟨(some 54), (some (47, true)), .addr 1 (.t 53)⟩, [23, 17]⟩,
                      ⟨⟨(some 55), (some (47, true)), .load none (.t 54)⟩, [24, 17]⟩,
                      ⟨⟨(some 56), (some (47, true)), .bin .gtr (.t 55) (.c (.int .i64 0))⟩, [25, 17]⟩,
                      ⟨⟨(some 57), none, .pick (.t 47) (.t 56) (.c (.bool false))⟩, [17, 26]⟩] [0, 1, 3, 7, 0, 31, 63, 127, 0, 256, 768, 1792, 0, 7936, 16128, 32512, 65535, 131071, 262143, 524287, 1048575, 2097151, 262143, 8388607, 16777215, 33554431, 67108863, 134217727])
                    (.cond (.t 57)
                     (.ops [⟨(some 5), none, .mv (.c (.bool false))⟩])
                     (.skip))))
                  (.ops [⟨(some 28), none, .mv (.t 6)⟩,
                    ⟨(some 29), none, .bin .add (.t 28) (.c (.int .i64 1))⟩,
                    ⟨(some 6), none, .mv (.t 29)⟩]))))))
             (.seq
              (.ops [⟨(some 58), none, .mv (.t 5)⟩])
              (.cond (.t 58)
               (.ops [⟨(some 59), none, .mv (.t 3)⟩,
                 ⟨(some 60), none, .bin .add (.t 59) (.c (.int .i64 1))⟩,
                 ⟨(some 3), none, .mv (.t 60)⟩])
               (.skip))))))
          (.ops [⟨(some 14), none, .mv (.t 4)⟩,
            ⟨(some 15), none, .bin .add (.t 14) (.c (.int .i64 1))⟩,
            ⟨(some 4), none, .mv (.t 15)⟩]))))))
     (.seq
      (.ops [⟨(some 61), none, .mv (.t 3)⟩,
        ⟨(some 2), none, .mv (.t 61)⟩])
      (.ret))))⟩
theorem ok21 : FnOk Try.prog 21 a21 := FnOk.of Try.prog Try.func21 (by kernel_rfl)
/-- (*jalousie/quota.Quota[jalousie/api.Pane]).Left -/
def a22 : AFn := ⟨26, [.tmp 4], .seq
   (.ops [⟨(some 3), none, .box 27 (.t 1)⟩,
     ⟨(some 4), none, .mv (.c (.int .i64 0))⟩])
   (.seq
    (.seq
     (.ops [⟨(some 7), none, .mv (.t 0)⟩,
       ⟨(some 8), none, .eq false 22 (.pointer 55) (.t 7) (.c .nilptr)⟩])
     (.cond (.t 8)
      (.seq
       (.ops [⟨(some 4), none, .mv (.c (.int .i64 0))⟩])
       (.ret))
      (.skip)))
    (.seq
     (.ops [⟨(some 9), none, .mv (.t 0)⟩,
       ⟨(some 10), none, .nilck (.t 9)⟩,
       ⟨(some 11), none, .addr 0 (.t 10)⟩,
       ⟨(some 12), none, .load none (.t 11)⟩,
       ⟨(some 5), none, .mv (.t 12)⟩])
     (.seq
      (.seq
       (.draw [⟨⟨(some 13), none, .mv (.t 0)⟩, []⟩,
         ⟨⟨(some 14), none, .nilck (.t 13)⟩, [0]⟩,
         ⟨⟨(some 15), none, .addr 1 (.t 14)⟩, [1]⟩,
         ⟨⟨(some 16), none, .load none (.t 15)⟩, [2]⟩,
         ⟨⟨(some 17), none, .load (some 3) (.t 3)⟩, []⟩,
         ⟨⟨(some 18), none, .lookup 27 .nilptr (.t 16) (.t 17) false⟩, [3, 4]⟩,
         ⟨⟨(some 6), none, .mv (.t 18)⟩, [5, 0, 1, 2, 3, 4, 5]⟩] [0, 1, 3, 7, 0, 31, 63])
       (.seq
        (.ops [⟨(some 19), none, .mv (.t 6)⟩,
          ⟨(some 20), none, .eq true 57 (.pointer 62) (.t 19) (.c .nilptr)⟩])
        (.cond (.t 20)
         (.ops [⟨(some 21), none, .mv (.t 5)⟩,
           ⟨(some 22), none, .mv (.t 6)⟩,
           ⟨(some 23), none, .call 25 [(.t 22)]⟩,
           ⟨(some 24), none, .bin .sub (.t 21) (.t 23)⟩,
           ⟨(some 5), none, .mv (.t 24)⟩])
         (.skip))))
      (.seq
       (.ops [⟨(some 25), none, .mv (.t 5)⟩,
         ⟨(some 4), none, .mv (.t 25)⟩])
       (.ret)))))⟩
theorem ok22 : FnOk Try.prog 22 a22 := FnOk.of Try.prog Try.func22 (by kernel_rfl)
/-- (*sync/atomic.Int64).Add -/
def a23 : AFn := ⟨10, [.tmp 4], .seq
   (.ops [⟨(some 4), none, .mv (.c (.int .i64 0))⟩])
   (.seq
    (.ops [⟨(some 5), none, .mv (.t 0)⟩,
      ⟨(some 6), none, .nilck (.t 5)⟩,
      ⟨(some 7), none, .addr 0 (.t 6)⟩,
      ⟨(some 8), none, .mv (.t 1)⟩,
      ⟨(some 9), none, .atom (.add .i64) [(.t 7), (.t 8)]⟩,
      ⟨(some 4), none, .mv (.t 9)⟩])
    (.ret))⟩
theorem ok23 : FnOk Try.prog 23 a23 := FnOk.of Try.prog Try.func23 (by kernel_rfl)
/-- (*jalousie/quota.Quota[int]).Left -/
def a24 : AFn := ⟨26, [.tmp 4], .seq
   (.ops [⟨(some 4), none, .mv (.c (.int .i64 0))⟩])
   (.seq
    (.seq
     (.ops [⟨(some 7), none, .mv (.t 0)⟩,
       ⟨(some 8), none, .eq false 29 (.pointer 66) (.t 7) (.c .nilptr)⟩])
     (.cond (.t 8)
      (.seq
       (.ops [⟨(some 4), none, .mv (.c (.int .i64 0))⟩])
       (.ret))
      (.skip)))
    (.seq
     (.ops [⟨(some 9), none, .mv (.t 0)⟩,
       ⟨(some 10), none, .nilck (.t 9)⟩,
       ⟨(some 11), none, .addr 0 (.t 10)⟩,
       ⟨(some 12), none, .load none (.t 11)⟩,
       ⟨(some 5), none, .mv (.t 12)⟩])
     (.seq
      (.seq
       (.ops [⟨(some 13), none, .mv (.t 0)⟩,
         ⟨(some 14), none, .nilck (.t 13)⟩,
         ⟨(some 15), none, .addr 1 (.t 14)⟩,
         ⟨(some 16), none, .load none (.t 15)⟩,
         ⟨(some 17), none, .mv (.t 1)⟩,
         ⟨(some 18), none, .lookup 3 .nilptr (.t 16) (.t 17) false⟩,
         ⟨(some 6), none, .mv (.t 18)⟩])
       (.seq
        (.ops [⟨(some 19), none, .mv (.t 6)⟩,
          ⟨(some 20), none, .eq true 57 (.pointer 62) (.t 19) (.c .nilptr)⟩])
        (.cond (.t 20)
         (.ops [⟨(some 21), none, .mv (.t 5)⟩,
           ⟨(some 22), none, .mv (.t 6)⟩,
           ⟨(some 23), none, .call 25 [(.t 22)]⟩,
           ⟨(some 24), none, .bin .sub (.t 21) (.t 23)⟩,
           ⟨(some 5), none, .mv (.t 24)⟩])
         (.skip))))
      (.seq
       (.ops [⟨(some 25), none, .mv (.t 5)⟩,
         ⟨(some 4), none, .mv (.t 25)⟩])
       (.ret)))))⟩
theorem ok24 : FnOk Try.prog 24 a24 := FnOk.of Try.prog Try.func24 (by kernel_rfl)
/-- (*sync/atomic.Int64).Load -/
def a25 : AFn := ⟨7, [.tmp 2], .seq
   (.ops [⟨(some 2), none, .mv (.c (.int .i64 0))⟩])
   (.seq
    (.ops [⟨(some 3), none, .mv (.t 0)⟩,
      ⟨(some 4), none, .nilck (.t 3)⟩,
      ⟨(some 5), none, .addr 0 (.t 4)⟩,
      ⟨(some 6), none, .atom (.load .i64) [(.t 5)]⟩,
      ⟨(some 2), none, .mv (.t 6)⟩])
    (.ret))⟩
theorem ok25 : FnOk Try.prog 25 a25 := FnOk.of Try.prog Try.func25 (by kernel_rfl)

end Go.Proofs.Ytklnhappoldlnaa.Fns
