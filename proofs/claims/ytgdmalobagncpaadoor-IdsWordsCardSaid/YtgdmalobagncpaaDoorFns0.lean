/- Functions of the translated code as the abstract machine reads them, printed by program; each is checked against the code. -/
import Derived.Test.YtgdmalobagncpaaDoorProg
import Derived.Test.YtgdmalobagncpaaDoorAmEval
namespace Go.Proofs.YtgdmalobagncpaaDoor.Fns
open Go Go.RowKit Am Go.Proofs.YtgdmalobagncpaaDoor
set_option maxRecDepth 100000
/-- gosem.cut.init -/
def a2 : AFn := ⟨1, [], .ops [⟨(some 0), none, .bad⟩]⟩
theorem ok2 : FnOk Tryd.prog 2 a2 := FnOk.of Tryd.prog Tryd.func2 (by kernel_rfl)
/-- jalousie/jalousielaw04.IdsKnown -/
def a3 : AFn := ⟨98, [.tmp 0], .seq
   (.ops [⟨(some 0), none, .mv (.c (.bool false))⟩])
   (.seq
    (.ops [⟨(some 20), none, .call 9 [(.c (.str [112, 50, 46, 48, 46, 48, 55]))]⟩,
      ⟨(some 19), none, .mv (.t 20)⟩,
      ⟨(some 21), none, .ext (.t 19) 0⟩,
      ⟨(some 22), none, .ext (.t 19) 1⟩,
      ⟨(some 1), none, .alloc 23 [(.int .i64 0), (.int .i64 0), (.int .i64 0)]⟩,
      ⟨none, none, .store 3 (.t 1) (.t 21)⟩,
      ⟨(some 2), none, .mv (.t 22)⟩])
    (.seq
     (.ops [⟨(some 24), none, .call 9 [(.c (.str [112, 50, 46, 48]))]⟩,
       ⟨(some 23), none, .mv (.t 24)⟩,
       ⟨(some 25), none, .ext (.t 23) 0⟩,
       ⟨(some 26), none, .ext (.t 23) 1⟩,
       ⟨(some 3), none, .alloc 23 [(.int .i64 0), (.int .i64 0), (.int .i64 0)]⟩,
       ⟨none, none, .store 3 (.t 3) (.t 25)⟩,
       ⟨(some 4), none, .mv (.t 26)⟩])
     (.seq
      (.ops [⟨(some 28), none, .call 9 [(.c (.str [112, 50, 46, 48, 46, 55, 46, 49]))]⟩,
        ⟨(some 27), none, .mv (.t 28)⟩,
        ⟨(some 29), none, .ext (.t 27) 0⟩,
        ⟨(some 30), none, .ext (.t 27) 1⟩,
        ⟨(some 5), none, .alloc 23 [(.int .i64 0), (.int .i64 0), (.int .i64 0)]⟩,
        ⟨none, none, .store 3 (.t 5) (.t 29)⟩,
        ⟨(some 6), none, .mv (.t 30)⟩])
      (.seq
       (.ops [⟨(some 32), none, .call 9 [(.c (.str [112, 50, 49, 52, 55, 52, 56, 51, 54, 52, 55, 46, 48, 46, 48]))]⟩,
         ⟨(some 31), none, .mv (.t 32)⟩,
         ⟨(some 33), none, .ext (.t 31) 0⟩,
         ⟨(some 34), none, .ext (.t 31) 1⟩,
         ⟨(some 7), none, .alloc 23 [(.int .i64 0), (.int .i64 0), (.int .i64 0)]⟩,
         ⟨none, none, .store 3 (.t 7) (.t 33)⟩,
         ⟨(some 8), none, .mv (.t 34)⟩])
       (.seq
        (.ops [⟨(some 36), none, .call 9 [(.c (.str [112, 50, 49, 52, 55, 52, 56, 51, 54, 52, 56, 46, 48, 46, 48]))]⟩,
          ⟨(some 35), none, .mv (.t 36)⟩,
          ⟨(some 37), none, .ext (.t 35) 0⟩,
          ⟨(some 38), none, .ext (.t 35) 1⟩,
          ⟨(some 9), none, .alloc 23 [(.int .i64 0), (.int .i64 0), (.int .i64 0)]⟩,
          ⟨none, none, .store 3 (.t 9) (.t 37)⟩,
          ⟨(some 10), none, .mv (.t 38)⟩])
        (.seq
         (.ops [⟨(some 40), none, .build [(.int .i64 0), (.int .i64 0), (.int .i64 0)] [(0, 1), (1, 1), (2, 1)] [(2, (.c (.int .i64 2147483648)))]⟩,
           ⟨(some 41), none, .call 10 [(.t 40)]⟩,
           ⟨(some 39), none, .mv (.t 41)⟩,
           ⟨(some 42), none, .ext (.t 39) 0⟩,
           ⟨(some 43), none, .ext (.t 39) 1⟩,
           ⟨(some 11), none, .mv (.t 42)⟩,
           ⟨(some 12), none, .mv (.t 43)⟩])
         (.seq
          (.ops [⟨(some 45), none, .build [(.int .i64 0), (.int .i64 0), (.int .i64 0)] [(0, 1), (1, 1), (2, 1)] [(1, (.c (.int .i64 (-1))))]⟩,
            ⟨(some 46), none, .call 10 [(.t 45)]⟩,
            ⟨(some 44), none, .mv (.t 46)⟩,
            ⟨(some 47), none, .ext (.t 44) 0⟩,
            ⟨(some 48), none, .ext (.t 44) 1⟩,
            ⟨(some 13), none, .mv (.t 47)⟩,
            ⟨(some 14), none, .mv (.t 48)⟩])
          (.seq
           (.ops [⟨(some 50), none, .call 9 [(.c (.str [112, 43, 49, 46, 48, 46, 48]))]⟩,
             ⟨(some 49), none, .mv (.t 50)⟩,
             ⟨(some 51), none, .ext (.t 49) 0⟩,
             ⟨(some 52), none, .ext (.t 49) 1⟩,
             ⟨(some 15), none, .alloc 23 [(.int .i64 0), (.int .i64 0), (.int .i64 0)]⟩,
             ⟨none, none, .store 3 (.t 15) (.t 51)⟩,
             ⟨(some 16), none, .mv (.t 52)⟩])
           (.seq
            (.ops [⟨(some 54), none, .call 9 [(.c (.str [113, 49, 46, 48, 46, 48]))]⟩,
              ⟨(some 53), none, .mv (.t 54)⟩,
              ⟨(some 55), none, .ext (.t 53) 0⟩,
              ⟨(some 56), none, .ext (.t 53) 1⟩,
              ⟨(some 17), none, .alloc 23 [(.int .i64 0), (.int .i64 0), (.int .i64 0)]⟩,
              ⟨none, none, .store 3 (.t 17) (.t 55)⟩,
              ⟨(some 18), none, .mv (.t 56)⟩])
            (.seq
             (.ops [⟨(some 57), none, .call 11 []⟩,
               ⟨(some 58), none, .mv (.t 57)⟩,
               ⟨(some 59), (some (58, true)), .mv (.t 2)⟩,
               ⟨(some 60), (some (58, true)), .un .not (.t 59)⟩,
               ⟨(some 61), none, .pick (.t 58) (.t 60) (.c (.bool false))⟩,
               ⟨(some 62), none, .mv (.t 61)⟩,
               ⟨(some 63), (some (62, true)), .mv (.t 4)⟩,
               ⟨(some 64), (some (62, true)), .un .not (.t 63)⟩,
               ⟨(some 65), none, .pick (.t 62) (.t 64) (.c (.bool false))⟩,
               ⟨(some 66), none, .mv (.t 65)⟩,
               ⟨(some 67), (some (66, true)), .mv (.t 6)⟩,
               ⟨(some 68), (some (66, true)), .un .not (.t 67)⟩,
               ⟨(some 69), none, .pick (.t 66) (.t 68) (.c (.bool false))⟩,
               ⟨(some 70), none, .mv (.t 69)⟩,
               ⟨(some 71), (some (70, true)), .mv (.t 8)⟩,
               ⟨(some 72), none, .pick (.t 70) (.t 71) (.c (.bool false))⟩,
               ⟨(some 73), none, .mv (.t 72)⟩,
               ⟨(some 74), (some (73, true)), .addr 0 (.t 7)⟩,
               ⟨(some 75), (some (73, true)), .load none (.t 74)⟩,
               ⟨(some 76), (some (73, true)), .bin .eql (.t 75) (.c (.int .i64 2147483647))⟩,
               ⟨(some 77), none, .pick (.t 73) (.t 76) (.c (.bool false))⟩,
               ⟨(some 78), none, .mv (.t 77)⟩,
               ⟨(some 79), (some (78, true)), .mv (.t 10)⟩,
               ⟨(some 80), (some (78, true)), .un .not (.t 79)⟩,
               ⟨(some 81), none, .pick (.t 78) (.t 80) (.c (.bool false))⟩,
               ⟨(some 82), none, .mv (.t 81)⟩,
               ⟨(some 83), (some (82, true)), .mv (.t 12)⟩,
               ⟨(some 84), (some (82, true)), .un .not (.t 83)⟩,
               ⟨(some 85), none, .pick (.t 82) (.t 84) (.c (.bool false))⟩,
               ⟨(some 86), none, .mv (.t 85)⟩,
               ⟨(some 87), (some (86, true)), .mv (.t 14)⟩,
               ⟨(some 88), (some (86, true)), .un .not (.t 87)⟩,
               ⟨(some 89), none, .pick (.t 86) (.t 88) (.c (.bool false))⟩,
               ⟨(some 90), none, .mv (.t 89)⟩,
               ⟨(some 91), (some (90, true)), .mv (.t 16)⟩,
               ⟨(some 92), (some (90, true)), .un .not (.t 91)⟩,
               ⟨(some 93), none, .pick (.t 90) (.t 92) (.c (.bool false))⟩,
               ⟨(some 94), none, .mv (.t 93)⟩,
               ⟨(some 95), (some (94, true)), .mv (.t 18)⟩,
               ⟨(some 96), (some (94, true)), .un .not (.t 95)⟩,
               ⟨(some 97), none, .pick (.t 94) (.t 96) (.c (.bool false))⟩,
               ⟨(some 0), none, .mv (.t 97)⟩])
             (.ret)))))))))))⟩
theorem ok3 : FnOk Tryd.prog 3 a3 := FnOk.of Tryd.prog Tryd.func3 (by kernel_rfl)
/-- jalousie/jalousielaw04.IdsWords -/
def a4 : AFn := ⟨68, [.tmp 4], .seq
   (.ops [⟨(some 2), none, .box 23 (.t 0)⟩,
     ⟨(some 4), none, .mv (.c (.bool false))⟩])
   (.seq
    (.seq
     (.ops [⟨(some 15), none, .call 11 []⟩,
       ⟨(some 16), none, .un .not (.t 15)⟩])
     (.cond (.t 16)
      (.seq
       (.ops [⟨(some 4), none, .mv (.c (.bool false))⟩])
       (.ret))
      (.skip)))
    (.seq
     (.seq
      (.ops [⟨(some 17), none, .mv (.t 1)⟩,
        ⟨(some 18), none, .lenS (.t 17)⟩,
        ⟨(some 19), none, .bin .gtr (.t 18) (.c (.int .i64 2000))⟩])
      (.cond (.t 19)
       (.seq
        (.ops [⟨(some 4), none, .mv (.c (.bool true))⟩])
        (.ret))
       (.skip)))
     (.seq
      (.ops [⟨(some 21), none, .load (some 3) (.t 2)⟩,
        ⟨(some 22), none, .call 10 [(.t 21)]⟩,
        ⟨(some 20), none, .mv (.t 22)⟩,
        ⟨(some 23), none, .ext (.t 20) 0⟩,
        ⟨(some 24), none, .ext (.t 20) 1⟩,
        ⟨(some 5), none, .mv (.t 23)⟩,
        ⟨(some 6), none, .mv (.t 24)⟩])
      (.seq
       (.ops [⟨(some 26), none, .addr 0 (.t 2)⟩,
         ⟨(some 27), none, .load none (.t 26)⟩,
         ⟨(some 28), none, .addr 1 (.t 2)⟩,
         ⟨(some 29), none, .load none (.t 28)⟩,
         ⟨(some 30), none, .addr 2 (.t 2)⟩,
         ⟨(some 31), none, .load none (.t 30)⟩,
         ⟨(some 32), none, .call 12 [(.t 27), (.t 29), (.t 31)]⟩,
         ⟨(some 25), none, .mv (.t 32)⟩,
         ⟨(some 33), none, .ext (.t 25) 0⟩,
         ⟨(some 34), none, .ext (.t 25) 1⟩,
         ⟨(some 7), none, .mv (.t 33)⟩,
         ⟨(some 8), none, .mv (.t 34)⟩])
       (.seq
        (.ops [⟨(some 36), none, .mv (.t 1)⟩,
          ⟨(some 37), none, .call 9 [(.t 36)]⟩,
          ⟨(some 35), none, .mv (.t 37)⟩,
          ⟨(some 38), none, .ext (.t 35) 0⟩,
          ⟨(some 39), none, .ext (.t 35) 1⟩,
          ⟨(some 9), none, .alloc 23 [(.int .i64 0), (.int .i64 0), (.int .i64 0)]⟩,
          ⟨none, none, .store 3 (.t 9) (.t 38)⟩,
          ⟨(some 10), none, .mv (.t 39)⟩])
        (.seq
         (.ops [⟨(some 41), none, .mv (.t 1)⟩,
           ⟨(some 42), none, .call 13 [(.t 41)]⟩,
           ⟨(some 40), none, .mv (.t 42)⟩,
           ⟨(some 43), none, .ext (.t 40) 0⟩,
           ⟨(some 44), none, .ext (.t 40) 1⟩,
           ⟨(some 45), none, .ext (.t 40) 2⟩,
           ⟨(some 46), none, .ext (.t 40) 3⟩,
           ⟨(some 11), none, .mv (.t 43)⟩,
           ⟨(some 12), none, .mv (.t 44)⟩,
           ⟨(some 13), none, .mv (.t 45)⟩,
           ⟨(some 14), none, .mv (.t 46)⟩])
         (.seq
          (.ops [⟨(some 47), none, .mv (.t 5)⟩,
            ⟨(some 48), none, .mv (.t 7)⟩,
            ⟨(some 49), none, .bin .eql (.t 47) (.t 48)⟩,
            ⟨(some 50), none, .mv (.t 49)⟩,
            ⟨(some 51), (some (50, true)), .mv (.t 6)⟩,
            ⟨(some 52), (some (50, true)), .mv (.t 8)⟩,
            ⟨(some 53), (some (50, true)), .eq false 4 .bool (.t 51) (.t 52)⟩,
            ⟨(some 54), none, .pick (.t 50) (.t 53) (.c (.bool false))⟩,
            ⟨(some 55), none, .mv (.t 54)⟩,
            ⟨(some 56), (some (55, true)), .mv (.t 10)⟩,
            ⟨(some 57), (some (55, true)), .mv (.t 14)⟩,
            ⟨(some 58), (some (55, true)), .eq false 4 .bool (.t 56) (.t 57)⟩,
            ⟨(some 59), none, .pick (.t 55) (.t 58) (.c (.bool false))⟩,
            ⟨(some 60), none, .mv (.t 59)⟩,
            ⟨(some 61), (some (60, true)), .load (some 3) (.t 9)⟩,
            ⟨(some 62), (some (60, true)), .mv (.t 11)⟩,
            ⟨(some 63), (some (60, true)), .mv (.t 12)⟩,
            ⟨(some 64), (some (60, true)), .mv (.t 13)⟩,
            ⟨(some 65), (some (60, true)), .build [(.int .i64 0), (.int .i64 0), (.int .i64 0)] [(0, 1), (1, 1), (2, 1)] [(0, (.t 62)), (1, (.t 63)), (2, (.t 64))]⟩,
            ⟨(some 66), (some (60, true)), .eq false 23 (.struct #[⟨"Label", 3, 0, false, "", "", 0⟩, ⟨"Home", 3, 1, false, "", "", 8⟩, ⟨"N", 3, 2, false, "", "", 16⟩]) (.t 61) (.t 65)⟩,
            ⟨(some 67), none, .pick (.t 60) (.t 66) (.c (.bool false))⟩,
            ⟨(some 4), none, .mv (.t 67)⟩])
          (.ret))))))))⟩
theorem ok4 : FnOk Tryd.prog 4 a4 := FnOk.of Tryd.prog Tryd.func4 (by kernel_rfl)
/-- jalousie/jalousielaw04.IdsCount -/
def a5 : AFn := ⟨124, [.tmp 4], .seq
   (.ops [⟨(some 4), none, .mv (.c (.bool false))⟩])
   (.seq
    (.seq
     (.ops [⟨(some 13), none, .call 11 []⟩,
       ⟨(some 14), none, .un .not (.t 13)⟩])
     (.cond (.t 14)
      (.seq
       (.ops [⟨(some 4), none, .mv (.c (.bool false))⟩])
       (.ret))
      (.skip)))
    (.seq
     (.seq
      (.ops [⟨(some 15), none, .mv (.t 1)⟩,
        ⟨(some 16), none, .lenL (.t 15)⟩,
        ⟨(some 17), none, .bin .gtr (.t 16) (.c (.int .i64 500))⟩])
      (.cond (.t 17)
       (.seq
        (.ops [⟨(some 4), none, .mv (.c (.bool true))⟩])
        (.ret))
       (.skip)))
     (.seq
      (.ops [⟨(some 19), none, .mv (.t 0)⟩,
        ⟨(some 20), none, .bin .rem (.t 19) (.c (.int .u8 64))⟩,
        ⟨(some 21), none, .convI .i64 (.t 20)⟩,
        ⟨(some 22), none, .bin .add (.c (.int .i64 1)) (.t 21)⟩,
        ⟨(some 23), none, .call 14 [(.t 22), (.c (.int .i64 0))]⟩,
        ⟨(some 18), none, .mv (.t 23)⟩,
        ⟨(some 24), none, .ext (.t 18) 0⟩,
        ⟨(some 25), none, .ext (.t 18) 1⟩,
        ⟨(some 5), none, .mv (.t 24)⟩,
        ⟨(some 6), none, .mv (.t 25)⟩])
      (.seq
       (.seq
        (.ops [⟨(some 26), none, .mv (.t 6)⟩,
          ⟨(some 27), none, .bin .neq (.t 26) (.c (.int .i64 0))⟩])
        (.cond (.t 27)
         (.seq
          (.ops [⟨(some 4), none, .mv (.c (.bool false))⟩])
          (.ret))
         (.skip)))
       (.seq
        (.ops [⟨(some 28), none, .mv (.t 5)⟩,
          ⟨(some 29), none, .call 15 [(.t 28)]⟩,
          ⟨(some 7), none, .mv (.t 29)⟩])
        (.seq
         (.ops [⟨(some 30), none, .mksl 3 1 8 [(.int .i64 0)] (.c (.int .i64 64)) (.c (.int .i64 64))⟩,
           ⟨(some 8), none, .mv (.t 30)⟩])
         (.seq
          (.seq
           (.ops [⟨(some 9), none, .mv (.c (.int .i64 0))⟩])
           (.block 0 (.loop (.seq
              (.seq
               (.ops [⟨(some 31), none, .mv (.t 9)⟩,
                 ⟨(some 32), none, .mv (.t 1)⟩,
                 ⟨(some 33), none, .lenL (.t 32)⟩,
                 ⟨(some 34), none, .bin .lss (.t 31) (.t 33)⟩])
               (.cond (.t 34)
                (.skip)
                (.exit 0)))
              (.seq
               (.block 1 (.seq
                 (.ops [⟨(some 38), none, .mv (.t 7)⟩,
                   ⟨(some 39), none, .mv (.t 1)⟩,
                   ⟨(some 40), none, .mv (.t 9)⟩,
                   ⟨(some 41), none, .iaddrS 1 (.t 39) (.t 40)⟩,
                   ⟨(some 42), none, .load none (.t 41)⟩,
                   ⟨(some 43), none, .call 16 [(.t 38), (.t 42)]⟩,
                   ⟨(some 37), none, .mv (.t 43)⟩,
                   ⟨(some 44), none, .ext (.t 37) 0⟩,
                   ⟨(some 45), none, .ext (.t 37) 1⟩,
                   ⟨(some 10), none, .mv (.t 44)⟩,
                   ⟨(some 11), none, .mv (.t 45)⟩])
                 (.seq
                  (.seq
                   (.ops [⟨(some 46), none, .mv (.t 1)⟩,
                     ⟨(some 47), none, .mv (.t 9)⟩,
                     ⟨(some 48), none, .iaddrS 1 (.t 46) (.t 47)⟩,
                     ⟨(some 49), none, .load none (.t 48)⟩,
                     ⟨(some 50), none, .bin .lss (.t 49) (.c (.int .i64 0))⟩,
                     ⟨(some 51), none, .mv (.t 50)⟩,
                     ⟨(some 52), (some (51, false)), .mv (.t 1)⟩,
                     ⟨(some 53), (some (51, false)), .mv (.t 9)⟩,
                     ⟨(some 54), (some (51, false)), .iaddrS 1 (.t 52) (.t 53)⟩,
                     ⟨(some 55), (some (51, false)), .load none (.t 54)⟩,
                     ⟨(some 56), (some (51, false)), .mv (.t 0)⟩,
                     ⟨(some 57), (some (51, false)), .bin .rem (.t 56) (.c (.int .u8 64))⟩,
                     ⟨(some 58), (some (51, false)), .convI .i64 (.t 57)⟩,
                     ⟨(some 59), (some (51, false)), .bin .add (.c (.int .i64 1)) (.t 58)⟩,
                     ⟨(some 60), (some (51, false)), .bin .geq (.t 55) (.t 59)⟩,
                     ⟨(some 61), none, .pick (.t 51) (.c (.bool true)) (.t 60)⟩])
                   (.cond (.t 61)
                    (.seq
                     (.seq
                      (.ops [⟨(some 62), none, .mv (.t 11)⟩,
                        ⟨(some 63), none, .mv (.t 62)⟩,
                        ⟨(some 64), (some (63, false)), .mv (.t 10)⟩,
                        ⟨(some 65), (some (63, false)), .bin .neq (.t 64) (.c (.int .i64 0))⟩,
                        ⟨(some 66), none, .pick (.t 63) (.c (.bool true)) (.t 65)⟩,
                        ⟨(some 67), none, .mv (.t 66)⟩,
                        ⟨(some 68), (some (67, false)), .mv (.t 7)⟩,
                        ⟨(some 69), (some (67, false)), .mv (.t 1)⟩,
                        ⟨(some 70), (some (67, false)), .mv (.t 9)⟩,
                        ⟨(some 71), (some (67, false)), .iaddrS 1 (.t 69) (.t 70)⟩,
                        ⟨(some 72), (some (67, false)), .load none (.t 71)⟩,
                        ⟨(some 73), (some (67, false)), .call 17 [(.t 68), (.t 72)]⟩,
                        ⟨(some 74), (some (67, false)), .bin .neq (.t 73) (.c (.int .i64 0))⟩,
                        ⟨(some 75), none, .pick (.t 67) (.c (.bool true)) (.t 74)⟩])
                      (.cond (.t 75)
                       (.seq
                        (.ops [⟨(some 4), none, .mv (.c (.bool false))⟩])
                        (.ret))
                       (.skip)))
                     (.exit 1))
                    (.skip)))
                  (.seq
                   (.seq
                    (.ops [⟨(some 76), none, .mv (.t 11)⟩,
                      ⟨(some 77), none, .un .not (.t 76)⟩,
                      ⟨(some 78), none, .mv (.t 77)⟩,
                      ⟨(some 79), (some (78, false)), .mv (.t 10)⟩,
                      ⟨(some 80), (some (78, false)), .mv (.t 8)⟩,
                      ⟨(some 81), (some (78, false)), .mv (.t 1)⟩,
                      ⟨(some 82), (some (78, false)), .mv (.t 9)⟩,
                      ⟨(some 83), (some (78, false)), .iaddrS 1 (.t 81) (.t 82)⟩,
                      ⟨(some 84), (some (78, false)), .load none (.t 83)⟩,
                      ⟨(some 85), (some (78, false)), .iaddrS 1 (.t 80) (.t 84)⟩,
                      ⟨(some 86), (some (78, false)), .load none (.t 85)⟩,
                      ⟨(some 87), (some (78, false)), .bin .neq (.t 79) (.t 86)⟩,
                      ⟨(some 88), none, .pick (.t 78) (.c (.bool true)) (.t 87)⟩])
                    (.cond (.t 88)
                     (.seq
                      (.ops [⟨(some 4), none, .mv (.c (.bool false))⟩])
                      (.ret))
                     (.skip)))
                   (.seq
                    (.ops [⟨(some 89), none, .mv (.t 8)⟩,
                      ⟨(some 90), none, .mv (.t 1)⟩,
                      ⟨(some 91), none, .mv (.t 9)⟩,
                      ⟨(some 92), none, .iaddrS 1 (.t 90) (.t 91)⟩,
                      ⟨(some 93), none, .load none (.t 92)⟩,
                      ⟨(some 94), none, .iaddrS 1 (.t 89) (.t 93)⟩,
                      ⟨(some 95), none, .load none (.t 94)⟩,
                      ⟨(some 96), none, .bin .add (.t 95) (.c (.int .i64 1))⟩,
                      ⟨(some 97), none, .iaddrS 1 (.t 89) (.t 93)⟩,
                      ⟨none, none, .store 1 (.t 97) (.t 96)⟩])
                    (.seq
                     (.draw [⟨⟨(some 98), none, .mv (.t 7)⟩, []⟩,
                       ⟨⟨(some 99), none, .mv (.t 1)⟩, []⟩,
                       ⟨⟨(some 100), none, .mv (.t 9)⟩, []⟩,
                       ⟨⟨(some 101), none, .iaddrS 1 (.t 99) (.t 100)⟩, [1, 2]⟩,
                       ⟨⟨(some 102), none, .load none (.t 101)⟩, [3]⟩,
                       ⟨⟨(some 103), none, .call 17 [(.t 98), (.t 102)]⟩, [0, 4]⟩,
                       ⟨⟨(some 104), none, .mv (.t 8)⟩, []⟩,
                       ⟨⟨(some 105), none, .mv (.t 1)⟩, []⟩,
                       ⟨⟨(some 106), none, .mv (.t 9)⟩, []⟩,
                       ⟨⟨(some 107), none, .iaddrS 1 (.t 105) (.t 106)⟩, [7, 8]⟩,
                       ⟨⟨(some 108), none, .load none (.t 107)⟩, [9]⟩,
                       ⟨⟨(some 109), none, .iaddrS 1 (.t 104) (.t 108)⟩, [6, 10]⟩,
                       ⟨⟨(some 110), none, .load none (.t 109)⟩, [11]⟩,
                       ⟨⟨(some 111), none, .bin .neq (.t 103) (.t 110)⟩, [5, 12]⟩] [0, 0, 0, 6, 14, 31, 0, 0, 0, 384, 896, 1984, 4032, 8191])
                     (.cond (.t 111)
                      (.seq
                       (.ops [⟨(some 4), none, .mv (.c (.bool false))⟩])
                       (.ret))
                      (.skip))))))))
               (.ops [⟨(some 35), none, .mv (.t 9)⟩,
                 ⟨(some 36), none, .bin .add (.t 35) (.c (.int .i64 1))⟩,
                 ⟨(some 9), none, .mv (.t 36)⟩]))))))
          (.seq
           (.seq
            (.ops [⟨(some 12), none, .mv (.c (.int .i64 0))⟩])
            (.block 2 (.loop (.seq
               (.seq
                (.ops [⟨(some 112), none, .mv (.t 12)⟩,
                  ⟨(some 113), none, .bin .lss (.t 112) (.c (.int .i64 64))⟩])
                (.cond (.t 113)
                 (.skip)
                 (.exit 2)))
               (.seq
                (.block 3 (.seq
                  (.draw [⟨⟨(some 116), none, .mv (.t 7)⟩, []⟩,
                    ⟨⟨(some 117), none, .mv (.t 12)⟩, []⟩,
                    ⟨⟨(some 118), none, .call 17 [(.t 116), (.t 117)]⟩, [0, 1]⟩,
                    ⟨⟨(some 119), none, .mv (.t 8)⟩, []⟩,
                    ⟨⟨(some 120), none, .mv (.t 12)⟩, []⟩,
                    ⟨⟨(some 121), none, .iaddrS 1 (.t 119) (.t 120)⟩, [3, 4]⟩,
                    ⟨⟨(some 122), none, .load none (.t 121)⟩, [5]⟩,
                    ⟨⟨(some 123), none, .bin .neq (.t 118) (.t 122)⟩, [2, 6]⟩] [0, 0, 3, 0, 0, 24, 56, 127])
                  (.cond (.t 123)
                   (.seq
                    (.ops [⟨(some 4), none, .mv (.c (.bool false))⟩])
                    (.ret))
                   (.skip))))
                (.ops [⟨(some 114), none, .mv (.t 12)⟩,
                  ⟨(some 115), none, .bin .add (.t 114) (.c (.int .i64 1))⟩,
                  ⟨(some 12), none, .mv (.t 115)⟩]))))))
           (.seq
            (.ops [⟨(some 4), none, .mv (.c (.bool true))⟩])
            (.ret))))))))))⟩
theorem ok5 : FnOk Tryd.prog 5 a5 := FnOk.of Tryd.prog Tryd.func5 (by kernel_rfl)
/-- jalousie/jalousielaw04.IdsNobody -/
def a6 : AFn := ⟨55, [.tmp 2], .seq
   (.ops [⟨(some 2), none, .mv (.c (.bool false))⟩])
   (.seq
    (.seq
     (.ops [⟨(some 11), none, .call 11 []⟩,
       ⟨(some 12), none, .un .not (.t 11)⟩])
     (.cond (.t 12)
      (.seq
       (.ops [⟨(some 2), none, .mv (.c (.bool false))⟩])
       (.ret))
      (.skip)))
    (.seq
     (.ops [⟨(some 3), none, .mv (.c .nilptr)⟩])
     (.seq
      (.ops [⟨(some 13), none, .build [.nilslice] [(0, 1)] []⟩,
        ⟨(some 14), none, .box 46 (.t 13)⟩,
        ⟨(some 4), none, .mv (.t 14)⟩])
      (.seq
       (.ops [⟨(some 16), none, .mv (.t 3)⟩,
         ⟨(some 17), none, .mv (.t 0)⟩,
         ⟨(some 18), none, .call 16 [(.t 16), (.t 17)]⟩,
         ⟨(some 15), none, .mv (.t 18)⟩,
         ⟨(some 19), none, .ext (.t 15) 0⟩,
         ⟨(some 20), none, .ext (.t 15) 1⟩,
         ⟨(some 5), none, .mv (.t 19)⟩,
         ⟨(some 6), none, .mv (.t 20)⟩])
       (.seq
        (.ops [⟨(some 22), none, .mv (.t 4)⟩,
          ⟨(some 23), none, .mv (.t 0)⟩,
          ⟨(some 24), none, .call 16 [(.t 22), (.t 23)]⟩,
          ⟨(some 21), none, .mv (.t 24)⟩,
          ⟨(some 25), none, .ext (.t 21) 0⟩,
          ⟨(some 26), none, .ext (.t 21) 1⟩,
          ⟨(some 7), none, .mv (.t 25)⟩,
          ⟨(some 8), none, .mv (.t 26)⟩])
        (.seq
         (.ops [⟨(some 28), none, .call 15 [(.c .nilptr)]⟩,
           ⟨(some 29), none, .mv (.t 0)⟩,
           ⟨(some 30), none, .call 16 [(.t 28), (.t 29)]⟩,
           ⟨(some 27), none, .mv (.t 30)⟩,
           ⟨(some 31), none, .ext (.t 27) 0⟩,
           ⟨(some 32), none, .ext (.t 27) 1⟩,
           ⟨(some 9), none, .mv (.t 31)⟩,
           ⟨(some 10), none, .mv (.t 32)⟩])
         (.seq
          (.ops [⟨(some 33), none, .mv (.t 6)⟩,
            ⟨(some 34), none, .un .not (.t 33)⟩,
            ⟨(some 35), none, .mv (.t 34)⟩,
            ⟨(some 36), (some (35, true)), .mv (.t 8)⟩,
            ⟨(some 37), (some (35, true)), .un .not (.t 36)⟩,
            ⟨(some 38), none, .pick (.t 35) (.t 37) (.c (.bool false))⟩,
            ⟨(some 39), none, .mv (.t 38)⟩,
            ⟨(some 40), (some (39, true)), .mv (.t 10)⟩,
            ⟨(some 41), (some (39, true)), .un .not (.t 40)⟩,
            ⟨(some 42), none, .pick (.t 39) (.t 41) (.c (.bool false))⟩,
            ⟨(some 43), none, .mv (.t 42)⟩,
            ⟨(some 44), (some (43, true)), .mv (.t 3)⟩,
            ⟨(some 45), (some (43, true)), .mv (.t 0)⟩,
            ⟨(some 46), (some (43, true)), .call 17 [(.t 44), (.t 45)]⟩,
            ⟨(some 47), (some (43, true)), .bin .eql (.t 46) (.c (.int .i64 0))⟩,
            ⟨(some 48), none, .pick (.t 43) (.t 47) (.c (.bool false))⟩,
            ⟨(some 49), none, .mv (.t 48)⟩,
            ⟨(some 50), (some (49, true)), .mv (.t 4)⟩,
            ⟨(some 51), (some (49, true)), .mv (.t 0)⟩,
            ⟨(some 52), (some (49, true)), .call 17 [(.t 50), (.t 51)]⟩,
            ⟨(some 53), (some (49, true)), .bin .eql (.t 52) (.c (.int .i64 0))⟩,
            ⟨(some 54), none, .pick (.t 49) (.t 53) (.c (.bool false))⟩,
            ⟨(some 2), none, .mv (.t 54)⟩])
          (.ret))))))))⟩
theorem ok6 : FnOk Tryd.prog 6 a6 := FnOk.of Tryd.prog Tryd.func6 (by kernel_rfl)
/-- jalousie/jalousielaw04.IdsBack -/
def a7 : AFn := ⟨92, [.tmp 6], .seq
   (.ops [⟨(some 3), none, .box 23 (.t 0)⟩,
     ⟨(some 4), none, .box 23 (.t 1)⟩,
     ⟨(some 6), none, .mv (.c (.bool false))⟩])
   (.seq
    (.seq
     (.ops [⟨(some 17), none, .call 11 []⟩,
       ⟨(some 18), none, .un .not (.t 17)⟩])
     (.cond (.t 18)
      (.seq
       (.ops [⟨(some 6), none, .mv (.c (.bool false))⟩])
       (.ret))
      (.skip)))
    (.seq
     (.seq
      (.ops [⟨(some 19), none, .mv (.t 2)⟩,
        ⟨(some 20), none, .lenS (.t 19)⟩,
        ⟨(some 21), none, .bin .gtr (.t 20) (.c (.int .i64 2000))⟩])
      (.cond (.t 21)
       (.seq
        (.ops [⟨(some 6), none, .mv (.c (.bool true))⟩])
        (.ret))
       (.skip)))
     (.seq
      (.ops [⟨(some 23), none, .load (some 3) (.t 3)⟩,
        ⟨(some 24), none, .call 10 [(.t 23)]⟩,
        ⟨(some 22), none, .mv (.t 24)⟩,
        ⟨(some 25), none, .ext (.t 22) 0⟩,
        ⟨(some 26), none, .ext (.t 22) 1⟩,
        ⟨(some 7), none, .mv (.t 25)⟩,
        ⟨(some 8), none, .mv (.t 26)⟩])
      (.seq
       (.ops [⟨(some 28), none, .load (some 3) (.t 4)⟩,
         ⟨(some 29), none, .call 10 [(.t 28)]⟩,
         ⟨(some 27), none, .mv (.t 29)⟩,
         ⟨(some 30), none, .ext (.t 27) 0⟩,
         ⟨(some 31), none, .ext (.t 27) 1⟩,
         ⟨(some 9), none, .mv (.t 30)⟩,
         ⟨(some 10), none, .mv (.t 31)⟩])
       (.seq
        (.ops [⟨(some 33), none, .mv (.t 7)⟩,
          ⟨(some 34), none, .call 9 [(.t 33)]⟩,
          ⟨(some 32), none, .mv (.t 34)⟩,
          ⟨(some 35), none, .ext (.t 32) 0⟩,
          ⟨(some 36), none, .ext (.t 32) 1⟩,
          ⟨(some 11), none, .alloc 23 [(.int .i64 0), (.int .i64 0), (.int .i64 0)]⟩,
          ⟨none, none, .store 3 (.t 11) (.t 35)⟩,
          ⟨(some 12), none, .mv (.t 36)⟩])
        (.seq
         (.seq
          (.ops [⟨(some 37), none, .mv (.t 12)⟩,
            ⟨(some 38), none, .mv (.t 8)⟩,
            ⟨(some 39), none, .eq true 4 .bool (.t 37) (.t 38)⟩,
            ⟨(some 40), none, .mv (.t 39)⟩,
            ⟨(some 41), (some (40, false)), .mv (.t 8)⟩,
            ⟨(some 42), (some (40, false)), .mv (.t 41)⟩,
            ⟨(some 43), (some (42, true)), .load (some 3) (.t 11)⟩,
            ⟨(some 44), (some (42, true)), .load (some 3) (.t 3)⟩,
            ⟨(some 45), (some (42, true)), .eq true 23 (.struct #[⟨"Label", 3, 0, false, "", "", 0⟩, ⟨"Home", 3, 1, false, "", "", 8⟩, ⟨"N", 3, 2, false, "", "", 16⟩]) (.t 43) (.t 44)⟩,
            ⟨(some 46), (some (40, false)), .pick (.t 42) (.t 45) (.c (.bool false))⟩,
            ⟨(some 47), none, .pick (.t 40) (.c (.bool true)) (.t 46)⟩,
            ⟨(some 48), none, .mv (.t 47)⟩,
            ⟨(some 49), (some (48, false)), .mv (.t 8)⟩,
            ⟨(some 50), (some (48, false)), .un .not (.t 49)⟩,
            ⟨(some 51), (some (48, false)), .mv (.t 50)⟩,
            ⟨(some 52), (some (51, true)), .mv (.t 7)⟩,
            ⟨(some 53), (some (51, true)), .bin .neq (.t 52) (.c (.str []))⟩,
            ⟨(some 54), (some (48, false)), .pick (.t 51) (.t 53) (.c (.bool false))⟩,
            ⟨(some 55), none, .pick (.t 48) (.c (.bool true)) (.t 54)⟩,
            ⟨(some 56), none, .mv (.t 55)⟩,
            ⟨(some 57), (some (56, false)), .mv (.t 8)⟩,
            ⟨(some 58), (some (56, false)), .mv (.t 57)⟩,
            ⟨(some 59), (some (58, true)), .mv (.t 10)⟩,
            ⟨(some 60), (some (56, false)), .pick (.t 58) (.t 59) (.c (.bool false))⟩,
            ⟨(some 61), (some (56, false)), .mv (.t 60)⟩,
            ⟨(some 62), (some (61, true)), .mv (.t 7)⟩,
            ⟨(some 63), (some (61, true)), .mv (.t 9)⟩,
            ⟨(some 64), (some (61, true)), .bin .eql (.t 62) (.t 63)⟩,
            ⟨(some 65), (some (61, true)), .load (some 3) (.t 3)⟩,
            ⟨(some 66), (some (61, true)), .load (some 3) (.t 4)⟩,
            ⟨(some 67), (some (61, true)), .eq false 23 (.struct #[⟨"Label", 3, 0, false, "", "", 0⟩, ⟨"Home", 3, 1, false, "", "", 8⟩, ⟨"N", 3, 2, false, "", "", 16⟩]) (.t 65) (.t 66)⟩,
            ⟨(some 68), (some (61, true)), .eq true 4 .bool (.t 64) (.t 67)⟩,
            ⟨(some 69), (some (56, false)), .pick (.t 61) (.t 68) (.c (.bool false))⟩,
            ⟨(some 70), none, .pick (.t 56) (.c (.bool true)) (.t 69)⟩])
          (.cond (.t 70)
           (.seq
            (.ops [⟨(some 6), none, .mv (.c (.bool false))⟩])
            (.ret))
           (.skip)))
         (.seq
          (.ops [⟨(some 72), none, .mv (.t 2)⟩,
            ⟨(some 73), none, .call 9 [(.t 72)]⟩,
            ⟨(some 71), none, .mv (.t 73)⟩,
            ⟨(some 74), none, .ext (.t 71) 0⟩,
            ⟨(some 75), none, .ext (.t 71) 1⟩,
            ⟨(some 13), none, .alloc 23 [(.int .i64 0), (.int .i64 0), (.int .i64 0)]⟩,
            ⟨none, none, .store 3 (.t 13) (.t 74)⟩,
            ⟨(some 14), none, .mv (.t 75)⟩])
          (.seq
           (.seq
            (.ops [⟨(some 76), none, .mv (.t 14)⟩,
              ⟨(some 77), none, .un .not (.t 76)⟩])
            (.cond (.t 77)
             (.seq
              (.ops [⟨(some 78), none, .load (some 3) (.t 13)⟩,
                ⟨(some 79), none, .build [(.int .i64 0), (.int .i64 0), (.int .i64 0)] [(0, 1), (1, 1), (2, 1)] []⟩,
                ⟨(some 80), none, .eq false 23 (.struct #[⟨"Label", 3, 0, false, "", "", 0⟩, ⟨"Home", 3, 1, false, "", "", 8⟩, ⟨"N", 3, 2, false, "", "", 16⟩]) (.t 78) (.t 79)⟩,
                ⟨(some 6), none, .mv (.t 80)⟩])
              (.ret))
             (.skip)))
           (.seq
            (.ops [⟨(some 82), none, .load (some 3) (.t 13)⟩,
              ⟨(some 83), none, .call 10 [(.t 82)]⟩,
              ⟨(some 81), none, .mv (.t 83)⟩,
              ⟨(some 84), none, .ext (.t 81) 0⟩,
              ⟨(some 85), none, .ext (.t 81) 1⟩,
              ⟨(some 15), none, .mv (.t 84)⟩,
              ⟨(some 16), none, .mv (.t 85)⟩])
            (.seq
             (.ops [⟨(some 86), none, .mv (.t 16)⟩,
               ⟨(some 87), none, .mv (.t 86)⟩,
               ⟨(some 88), (some (87, true)), .mv (.t 15)⟩,
               ⟨(some 89), (some (87, true)), .mv (.t 2)⟩,
               ⟨(some 90), (some (87, true)), .bin .eql (.t 88) (.t 89)⟩,
               ⟨(some 91), none, .pick (.t 87) (.t 90) (.c (.bool false))⟩,
               ⟨(some 6), none, .mv (.t 91)⟩])
             (.ret)))))))))))⟩
theorem ok7 : FnOk Tryd.prog 7 a7 := FnOk.of Tryd.prog Tryd.func7 (by kernel_rfl)
/-- jalousie/jalousielaw04.IdsApart -/
def a8 : AFn := ⟨77, [.tmp 6], .seq
   (.ops [⟨(some 6), none, .mv (.c (.bool false))⟩])
   (.seq
    (.seq
     (.ops [⟨(some 16), none, .call 11 []⟩,
       ⟨(some 17), none, .un .not (.t 16)⟩])
     (.cond (.t 17)
      (.seq
       (.ops [⟨(some 6), none, .mv (.c (.bool false))⟩])
       (.ret))
      (.skip)))
    (.seq
     (.seq
      (.ops [⟨(some 18), none, .mv (.t 1)⟩,
        ⟨(some 19), none, .lenL (.t 18)⟩,
        ⟨(some 20), none, .bin .gtr (.t 19) (.c (.int .i64 500))⟩])
      (.cond (.t 20)
       (.seq
        (.ops [⟨(some 6), none, .mv (.c (.bool true))⟩])
        (.ret))
       (.skip)))
     (.seq
      (.ops [⟨(some 22), none, .mv (.t 0)⟩,
        ⟨(some 23), none, .bin .rem (.t 22) (.c (.int .u8 64))⟩,
        ⟨(some 24), none, .convI .i64 (.t 23)⟩,
        ⟨(some 25), none, .bin .add (.c (.int .i64 1)) (.t 24)⟩,
        ⟨(some 26), none, .call 14 [(.t 25), (.c (.int .i64 0))]⟩,
        ⟨(some 21), none, .mv (.t 26)⟩,
        ⟨(some 27), none, .ext (.t 21) 0⟩,
        ⟨(some 28), none, .ext (.t 21) 1⟩,
        ⟨(some 7), none, .mv (.t 27)⟩,
        ⟨(some 8), none, .mv (.t 28)⟩])
      (.seq
       (.seq
        (.ops [⟨(some 29), none, .mv (.t 8)⟩,
          ⟨(some 30), none, .bin .neq (.t 29) (.c (.int .i64 0))⟩])
        (.cond (.t 30)
         (.seq
          (.ops [⟨(some 6), none, .mv (.c (.bool false))⟩])
          (.ret))
         (.skip)))
       (.seq
        (.ops [⟨(some 31), none, .mv (.t 7)⟩,
          ⟨(some 32), none, .call 15 [(.t 31)]⟩,
          ⟨(some 33), none, .mv (.t 7)⟩,
          ⟨(some 34), none, .call 15 [(.t 33)]⟩,
          ⟨(some 9), none, .mv (.t 32)⟩,
          ⟨(some 10), none, .mv (.t 34)⟩])
        (.seq
         (.seq
          (.ops [⟨(some 11), none, .mv (.c (.int .i64 0))⟩])
          (.block 0 (.loop (.seq
             (.seq
              (.ops [⟨(some 35), none, .mv (.t 11)⟩,
                ⟨(some 36), none, .mv (.t 1)⟩,
                ⟨(some 37), none, .lenL (.t 36)⟩,
                ⟨(some 38), none, .bin .lss (.t 35) (.t 37)⟩])
              (.cond (.t 38)
               (.skip)
               (.exit 0)))
             (.seq
              (.block 1 (.seq
                (.ops [⟨(some 42), none, .mv (.t 9)⟩,
                  ⟨(some 43), none, .mv (.t 1)⟩,
                  ⟨(some 44), none, .mv (.t 11)⟩,
                  ⟨(some 45), none, .iaddrS 1 (.t 43) (.t 44)⟩,
                  ⟨(some 46), none, .load none (.t 45)⟩,
                  ⟨(some 47), none, .call 16 [(.t 42), (.t 46)]⟩,
                  ⟨(some 41), none, .mv (.t 47)⟩,
                  ⟨(some 48), none, .ext (.t 41) 0⟩,
                  ⟨(some 49), none, .ext (.t 41) 1⟩,
                  ⟨(some 12), none, .mv (.t 48)⟩,
                  ⟨(some 13), none, .mv (.t 49)⟩])
                (.seq
                 (.seq
                  (.ops [⟨(some 50), none, .mv (.t 1)⟩,
                    ⟨(some 51), none, .mv (.t 11)⟩,
                    ⟨(some 52), none, .iaddrS 1 (.t 50) (.t 51)⟩,
                    ⟨(some 53), none, .load none (.t 52)⟩,
                    ⟨(some 54), none, .mv (.t 2)⟩,
                    ⟨(some 55), none, .bin .neq (.t 53) (.t 54)⟩])
                  (.cond (.t 55)
                   (.exit 1)
                   (.skip)))
                 (.seq
                  (.ops [⟨(some 57), none, .mv (.t 10)⟩,
                    ⟨(some 58), none, .mv (.t 2)⟩,
                    ⟨(some 59), none, .call 16 [(.t 57), (.t 58)]⟩,
                    ⟨(some 56), none, .mv (.t 59)⟩,
                    ⟨(some 60), none, .ext (.t 56) 0⟩,
                    ⟨(some 61), none, .ext (.t 56) 1⟩,
                    ⟨(some 14), none, .mv (.t 60)⟩,
                    ⟨(some 15), none, .mv (.t 61)⟩])
                  (.seq
                   (.ops [⟨(some 62), none, .mv (.t 12)⟩,
                     ⟨(some 63), none, .mv (.t 14)⟩,
                     ⟨(some 64), none, .bin .neq (.t 62) (.t 63)⟩,
                     ⟨(some 65), none, .mv (.t 64)⟩,
                     ⟨(some 66), (some (65, false)), .mv (.t 13)⟩,
                     ⟨(some 67), (some (65, false)), .mv (.t 15)⟩,
                     ⟨(some 68), (some (65, false)), .eq true 4 .bool (.t 66) (.t 67)⟩,
                     ⟨(some 69), none, .pick (.t 65) (.c (.bool true)) (.t 68)⟩])
                   (.cond (.t 69)
                    (.seq
                     (.ops [⟨(some 6), none, .mv (.c (.bool false))⟩])
                     (.ret))
                    (.skip)))))))
              (.ops [⟨(some 39), none, .mv (.t 11)⟩,
                ⟨(some 40), none, .bin .add (.t 39) (.c (.int .i64 1))⟩,
                ⟨(some 11), none, .mv (.t 40)⟩]))))))
         (.seq
          (.ops [⟨(some 70), none, .mv (.t 9)⟩,
            ⟨(some 71), none, .mv (.t 2)⟩,
            ⟨(some 72), none, .call 17 [(.t 70), (.t 71)]⟩,
            ⟨(some 73), none, .mv (.t 10)⟩,
            ⟨(some 74), none, .mv (.t 2)⟩,
            ⟨(some 75), none, .call 17 [(.t 73), (.t 74)]⟩,
            ⟨(some 76), none, .bin .eql (.t 72) (.t 75)⟩,
            ⟨(some 6), none, .mv (.t 76)⟩])
          (.ret))))))))⟩
theorem ok8 : FnOk Tryd.prog 8 a8 := FnOk.of Tryd.prog Tryd.func8 (by kernel_rfl)
/-- jalousie/ids.Parse -/
def a9 : AFn := ⟨62, [.cell 2 (some 3), .tmp 3], .seq
   (.ops [⟨(some 2), none, .alloc 23 [(.int .i64 0), (.int .i64 0), (.int .i64 0)]⟩,
     ⟨(some 3), none, .mv (.c (.bool false))⟩])
   (.seq
    (.ops [⟨(some 13), none, .mv (.t 0)⟩,
      ⟨(some 14), none, .call 18 [(.t 13), (.c (.str [112]))]⟩,
      ⟨(some 12), none, .mv (.t 14)⟩,
      ⟨(some 15), none, .ext (.t 12) 0⟩,
      ⟨(some 16), none, .ext (.t 12) 1⟩,
      ⟨(some 4), none, .mv (.t 15)⟩,
      ⟨(some 5), none, .mv (.t 16)⟩])
    (.seq
     (.ops [⟨(some 17), none, .mv (.t 4)⟩,
       ⟨(some 18), none, .call 19 [(.t 17), (.c (.str [46]))]⟩,
       ⟨(some 6), none, .mv (.t 18)⟩])
     (.seq
      (.ops [⟨(some 7), none, .alloc 53 [(.int .i64 0), (.int .i64 0), (.int .i64 0)]⟩])
      (.seq
       (.seq
        (.ops [⟨(some 19), none, .mv (.t 5)⟩,
          ⟨(some 20), none, .un .not (.t 19)⟩,
          ⟨(some 21), none, .mv (.t 20)⟩,
          ⟨(some 22), (some (21, false)), .mv (.t 6)⟩,
          ⟨(some 23), (some (21, false)), .lenL (.t 22)⟩,
          ⟨(some 24), (some (21, false)), .bin .neq (.t 23) (.c (.int .i64 3))⟩,
          ⟨(some 25), none, .pick (.t 21) (.c (.bool true)) (.t 24)⟩])
        (.cond (.t 25)
         (.seq
          (.ops [⟨(some 26), none, .build [(.int .i64 0), (.int .i64 0), (.int .i64 0)] [(0, 1), (1, 1), (2, 1)] []⟩,
            ⟨none, none, .store 3 (.t 2) (.t 26)⟩,
            ⟨(some 3), none, .mv (.c (.bool false))⟩])
          (.ret))
         (.skip)))
       (.seq
        (.seq
         (.ops [⟨(some 27), none, .mv (.c (.int .i64 0))⟩])
         (.block 0 (.loop (.seq
            (.ops [⟨(some 28), none, .bin .lss (.t 27) (.c (.int .i64 3))⟩])
            (.seq
             (.cond (.t 28)
              (.skip)
              (.exit 0))
             (.seq
              (.block 1 (.seq
                (.ops [⟨(some 29), none, .mv (.t 27)⟩,
                  ⟨(some 8), none, .mv (.t 29)⟩])
                (.ops [⟨(some 31), none, .mv (.t 8)⟩,
                  ⟨(some 32), none, .mv (.t 6)⟩,
                  ⟨(some 33), none, .mv (.t 8)⟩,
                  ⟨(some 34), none, .iaddrS 1 (.t 32) (.t 33)⟩,
                  ⟨(some 35), none, .load none (.t 34)⟩,
                  ⟨(some 36), none, .call 20 [(.t 35)]⟩,
                  ⟨(some 30), none, .mv (.t 36)⟩,
                  ⟨(some 37), none, .ext (.t 30) 0⟩,
                  ⟨(some 38), none, .ext (.t 30) 1⟩,
                  ⟨(some 39), none, .iaddrA 3 1 (.t 7) (.t 31)⟩,
                  ⟨none, none, .store 1 (.t 39) (.t 37)⟩])))
              (.ops [⟨(some 40), none, .bin .add (.t 27) (.c (.int .i64 1))⟩,
                ⟨(some 27), none, .mv (.t 40)⟩])))))))
        (.seq
         (.ops [⟨(some 41), none, .iaddrA 3 1 (.t 7) (.c (.int .i64 0))⟩,
           ⟨(some 42), none, .load none (.t 41)⟩,
           ⟨(some 43), none, .iaddrA 3 1 (.t 7) (.c (.int .i64 1))⟩,
           ⟨(some 44), none, .load none (.t 43)⟩,
           ⟨(some 45), none, .iaddrA 3 1 (.t 7) (.c (.int .i64 2))⟩,
           ⟨(some 46), none, .load none (.t 45)⟩,
           ⟨(some 47), none, .build [(.int .i64 0), (.int .i64 0), (.int .i64 0)] [(0, 1), (1, 1), (2, 1)] [(0, (.t 42)), (1, (.t 44)), (2, (.t 46))]⟩,
           ⟨(some 9), none, .alloc 23 [(.int .i64 0), (.int .i64 0), (.int .i64 0)]⟩,
           ⟨none, none, .store 3 (.t 9) (.t 47)⟩])
         (.seq
          (.seq
           (.ops [⟨(some 49), none, .load (some 3) (.t 9)⟩,
             ⟨(some 50), none, .call 10 [(.t 49)]⟩,
             ⟨(some 48), none, .mv (.t 50)⟩,
             ⟨(some 51), none, .ext (.t 48) 0⟩,
             ⟨(some 52), none, .ext (.t 48) 1⟩,
             ⟨(some 10), none, .mv (.t 51)⟩,
             ⟨(some 11), none, .mv (.t 52)⟩])
           (.seq
            (.ops [⟨(some 53), none, .mv (.t 11)⟩,
              ⟨(some 54), none, .un .not (.t 53)⟩,
              ⟨(some 55), none, .mv (.t 54)⟩,
              ⟨(some 56), (some (55, false)), .mv (.t 10)⟩,
              ⟨(some 57), (some (55, false)), .mv (.t 0)⟩,
              ⟨(some 58), (some (55, false)), .bin .neq (.t 56) (.t 57)⟩,
              ⟨(some 59), none, .pick (.t 55) (.c (.bool true)) (.t 58)⟩])
            (.cond (.t 59)
             (.seq
              (.ops [⟨(some 60), none, .build [(.int .i64 0), (.int .i64 0), (.int .i64 0)] [(0, 1), (1, 1), (2, 1)] []⟩,
                ⟨none, none, .store 3 (.t 2) (.t 60)⟩,
                ⟨(some 3), none, .mv (.c (.bool false))⟩])
              (.ret))
             (.skip))))
          (.seq
           (.ops [⟨(some 61), none, .load (some 3) (.t 9)⟩,
             ⟨none, none, .store 3 (.t 2) (.t 61)⟩,
             ⟨(some 3), none, .mv (.c (.bool true))⟩])
           (.ret)))))))))⟩
theorem ok9 : FnOk Tryd.prog 9 a9 := FnOk.of Tryd.prog Tryd.func9 (by kernel_rfl)
/-- jalousie/ids.Words -/
def a10 : AFn := ⟨32, [.tmp 2, .tmp 3], .seq
   (.ops [⟨(some 1), none, .box 23 (.t 0)⟩,
     ⟨(some 2), none, .mv (.c (.str []))⟩,
     ⟨(some 3), none, .mv (.c (.bool false))⟩])
   (.seq
    (.ops [⟨(some 4), none, .mv (.c .nilslice)⟩])
    (.seq
     (.seq
      (.ops [⟨(some 7), none, .addr 0 (.t 1)⟩,
        ⟨(some 8), none, .load none (.t 7)⟩,
        ⟨(some 9), none, .addr 1 (.t 1)⟩,
        ⟨(some 10), none, .load none (.t 9)⟩,
        ⟨(some 11), none, .addr 2 (.t 1)⟩,
        ⟨(some 12), none, .load none (.t 11)⟩,
        ⟨(some 13), none, .build [(.int .i64 0), (.int .i64 0), (.int .i64 0)] [(0, 1), (1, 1), (2, 1), (3, 1), (4, 1), (5, 1), (6, 1)] [(0, (.t 8)), (1, (.t 10)), (2, (.t 12))]⟩,
        ⟨(some 14), none, .mv (.c (.int .i64 0))⟩])
      (.block 0 (.loop (.seq
         (.ops [⟨(some 15), none, .bin .lss (.t 14) (.c (.int .i64 3))⟩])
         (.seq
          (.cond (.t 15)
           (.skip)
           (.exit 0))
          (.seq
           (.block 1 (.seq
             (.ops [⟨(some 16), none, .idxA 3 1 false (.t 13) (.t 14)⟩,
               ⟨(some 6), none, .mv (.t 16)⟩])
             (.seq
              (.seq
               (.ops [⟨(some 17), none, .mv (.t 6)⟩,
                 ⟨(some 18), none, .bin .lss (.t 17) (.c (.int .i64 0))⟩,
                 ⟨(some 19), none, .mv (.t 18)⟩,
                 ⟨(some 20), (some (19, false)), .mv (.t 6)⟩,
                 ⟨(some 21), (some (19, false)), .bin .gtr (.t 20) (.c (.int .i64 2147483647))⟩,
                 ⟨(some 22), none, .pick (.t 19) (.c (.bool true)) (.t 21)⟩])
               (.cond (.t 22)
                (.seq
                 (.ops [⟨(some 2), none, .mv (.c (.str []))⟩,
                   ⟨(some 3), none, .mv (.c (.bool false))⟩])
                 (.ret))
                (.skip)))
              (.ops [⟨(some 23), none, .mv (.t 4)⟩,
                ⟨(some 24), none, .mv (.t 6)⟩,
                ⟨(some 25), none, .call 21 [(.t 24)]⟩,
                ⟨(some 26), none, .bslice 9 1 1 [(.str [])] [(0, (.t 25))]⟩,
                ⟨(some 27), none, .append 9 1 16 (.t 23) (.t 26)⟩,
                ⟨(some 4), none, .mv (.t 27)⟩]))))
           (.ops [⟨(some 28), none, .bin .add (.t 14) (.c (.int .i64 1))⟩,
             ⟨(some 14), none, .mv (.t 28)⟩])))))))
     (.seq
      (.ops [⟨(some 29), none, .mv (.t 4)⟩,
        ⟨(some 30), none, .call 22 [(.t 29), (.c (.str [46]))]⟩,
        ⟨(some 31), none, .bin .add (.c (.str [112])) (.t 30)⟩,
        ⟨(some 2), none, .mv (.t 31)⟩,
        ⟨(some 3), none, .mv (.c (.bool true))⟩])
      (.ret))))⟩
theorem ok10 : FnOk Tryd.prog 10 a10 := FnOk.of Tryd.prog Tryd.func10 (by kernel_rfl)
/-- jalousie/jalousielaw04.awake -/
def a11 : AFn := ⟨73, [.tmp 0], .seq
   (.ops [⟨(some 0), none, .mv (.c (.bool false))⟩])
   (.seq
    (.ops [⟨(some 13), none, .call 14 [(.c (.int .i64 3)), (.c (.int .i64 0))]⟩,
      ⟨(some 12), none, .mv (.t 13)⟩,
      ⟨(some 14), none, .ext (.t 12) 0⟩,
      ⟨(some 15), none, .ext (.t 12) 1⟩,
      ⟨(some 1), none, .mv (.t 14)⟩,
      ⟨(some 2), none, .mv (.t 15)⟩])
    (.seq
     (.ops [⟨(some 16), none, .mv (.t 1)⟩,
       ⟨(some 17), none, .call 15 [(.t 16)]⟩,
       ⟨(some 3), none, .mv (.t 17)⟩])
     (.seq
      (.ops [⟨(some 19), none, .mv (.t 3)⟩,
        ⟨(some 20), none, .call 16 [(.t 19), (.c (.int .i64 1))]⟩,
        ⟨(some 18), none, .mv (.t 20)⟩,
        ⟨(some 21), none, .ext (.t 18) 0⟩,
        ⟨(some 22), none, .ext (.t 18) 1⟩,
        ⟨(some 4), none, .mv (.t 21)⟩,
        ⟨(some 5), none, .mv (.t 22)⟩])
      (.seq
       (.ops [⟨(some 24), none, .mv (.t 3)⟩,
         ⟨(some 25), none, .call 16 [(.t 24), (.c (.int .i64 1))]⟩,
         ⟨(some 23), none, .mv (.t 25)⟩,
         ⟨(some 26), none, .ext (.t 23) 0⟩,
         ⟨(some 27), none, .ext (.t 23) 1⟩,
         ⟨(some 6), none, .mv (.t 26)⟩,
         ⟨(some 7), none, .mv (.t 27)⟩])
       (.seq
        (.ops [⟨(some 29), none, .build [(.int .i64 0), (.int .i64 0), (.int .i64 0)] [(0, 1), (1, 1), (2, 1)] [(0, (.c (.int .i64 2))), (1, (.c (.int .i64 0))), (2, (.c (.int .i64 7)))]⟩,
          ⟨(some 30), none, .call 10 [(.t 29)]⟩,
          ⟨(some 28), none, .mv (.t 30)⟩,
          ⟨(some 31), none, .ext (.t 28) 0⟩,
          ⟨(some 32), none, .ext (.t 28) 1⟩,
          ⟨(some 8), none, .mv (.t 31)⟩,
          ⟨(some 9), none, .mv (.t 32)⟩])
        (.seq
         (.ops [⟨(some 34), none, .call 9 [(.c (.str [112, 50, 46, 48, 46, 55]))]⟩,
           ⟨(some 33), none, .mv (.t 34)⟩,
           ⟨(some 35), none, .ext (.t 33) 0⟩,
           ⟨(some 36), none, .ext (.t 33) 1⟩,
           ⟨(some 10), none, .alloc 23 [(.int .i64 0), (.int .i64 0), (.int .i64 0)]⟩,
           ⟨none, none, .store 3 (.t 10) (.t 35)⟩,
           ⟨(some 11), none, .mv (.t 36)⟩])
         (.seq
          (.ops [⟨(some 37), none, .mv (.t 2)⟩,
            ⟨(some 38), none, .bin .eql (.t 37) (.c (.int .i64 0))⟩,
            ⟨(some 39), none, .mv (.t 38)⟩,
            ⟨(some 40), (some (39, true)), .mv (.t 5)⟩,
            ⟨(some 41), none, .pick (.t 39) (.t 40) (.c (.bool false))⟩,
            ⟨(some 42), none, .mv (.t 41)⟩,
            ⟨(some 43), (some (42, true)), .mv (.t 4)⟩,
            ⟨(some 44), (some (42, true)), .bin .eql (.t 43) (.c (.int .i64 0))⟩,
            ⟨(some 45), none, .pick (.t 42) (.t 44) (.c (.bool false))⟩,
            ⟨(some 46), none, .mv (.t 45)⟩,
            ⟨(some 47), (some (46, true)), .mv (.t 7)⟩,
            ⟨(some 48), none, .pick (.t 46) (.t 47) (.c (.bool false))⟩,
            ⟨(some 49), none, .mv (.t 48)⟩,
            ⟨(some 50), (some (49, true)), .mv (.t 6)⟩,
            ⟨(some 51), (some (49, true)), .bin .eql (.t 50) (.c (.int .i64 1))⟩,
            ⟨(some 52), none, .pick (.t 49) (.t 51) (.c (.bool false))⟩,
            ⟨(some 53), none, .mv (.t 52)⟩,
            ⟨(some 54), (some (53, true)), .mv (.t 3)⟩,
            ⟨(some 55), (some (53, true)), .call 17 [(.t 54), (.c (.int .i64 1))]⟩,
            ⟨(some 56), (some (53, true)), .bin .eql (.t 55) (.c (.int .i64 2))⟩,
            ⟨(some 57), none, .pick (.t 53) (.t 56) (.c (.bool false))⟩,
            ⟨(some 58), none, .mv (.t 57)⟩,
            ⟨(some 59), (some (58, true)), .mv (.t 9)⟩,
            ⟨(some 60), none, .pick (.t 58) (.t 59) (.c (.bool false))⟩,
            ⟨(some 61), none, .mv (.t 60)⟩,
            ⟨(some 62), (some (61, true)), .mv (.t 8)⟩,
            ⟨(some 63), (some (61, true)), .bin .eql (.t 62) (.c (.str [112, 50, 46, 48, 46, 55]))⟩,
            ⟨(some 64), none, .pick (.t 61) (.t 63) (.c (.bool false))⟩,
            ⟨(some 65), none, .mv (.t 64)⟩,
            ⟨(some 66), (some (65, true)), .mv (.t 11)⟩,
            ⟨(some 67), none, .pick (.t 65) (.t 66) (.c (.bool false))⟩,
            ⟨(some 68), none, .mv (.t 67)⟩,
            ⟨(some 69), (some (68, true)), .load (some 3) (.t 10)⟩,
            ⟨(some 70), (some (68, true)), .build [(.int .i64 0), (.int .i64 0), (.int .i64 0)] [(0, 1), (1, 1), (2, 1)] [(0, (.c (.int .i64 2))), (1, (.c (.int .i64 0))), (2, (.c (.int .i64 7)))]⟩,
            ⟨(some 71), (some (68, true)), .eq false 23 (.struct #[⟨"Label", 3, 0, false, "", "", 0⟩, ⟨"Home", 3, 1, false, "", "", 8⟩, ⟨"N", 3, 2, false, "", "", 16⟩]) (.t 69) (.t 70)⟩,
            ⟨(some 72), none, .pick (.t 68) (.t 71) (.c (.bool false))⟩,
            ⟨(some 0), none, .mv (.t 72)⟩])
          (.ret))))))))⟩
theorem ok11 : FnOk Tryd.prog 11 a11 := FnOk.of Tryd.prog Tryd.func11 (by kernel_rfl)
/-- jalousie/jalousieref04.Words -/
def a12 : AFn := ⟨32, [.tmp 6, .tmp 7], .seq
   (.ops [⟨(some 6), none, .mv (.c (.str []))⟩,
     ⟨(some 7), none, .mv (.c (.bool false))⟩])
   (.seq
    (.seq
     (.ops [⟨(some 8), none, .mv (.t 0)⟩,
       ⟨(some 9), none, .call 23 [(.t 8)]⟩,
       ⟨(some 10), none, .un .not (.t 9)⟩,
       ⟨(some 11), none, .mv (.t 10)⟩,
       ⟨(some 12), (some (11, false)), .mv (.t 1)⟩,
       ⟨(some 13), (some (11, false)), .call 23 [(.t 12)]⟩,
       ⟨(some 14), (some (11, false)), .un .not (.t 13)⟩,
       ⟨(some 15), none, .pick (.t 11) (.c (.bool true)) (.t 14)⟩,
       ⟨(some 16), none, .mv (.t 15)⟩,
       ⟨(some 17), (some (16, false)), .mv (.t 2)⟩,
       ⟨(some 18), (some (16, false)), .call 23 [(.t 17)]⟩,
       ⟨(some 19), (some (16, false)), .un .not (.t 18)⟩,
       ⟨(some 20), none, .pick (.t 16) (.c (.bool true)) (.t 19)⟩])
     (.cond (.t 20)
      (.seq
       (.ops [⟨(some 6), none, .mv (.c (.str []))⟩,
         ⟨(some 7), none, .mv (.c (.bool false))⟩])
       (.ret))
      (.skip)))
    (.seq
     (.ops [⟨(some 21), none, .mv (.t 0)⟩,
       ⟨(some 22), none, .call 24 [(.t 21)]⟩,
       ⟨(some 23), none, .bin .add (.c (.str [112])) (.t 22)⟩,
       ⟨(some 24), none, .bin .add (.t 23) (.c (.str [46]))⟩,
       ⟨(some 25), none, .mv (.t 1)⟩,
       ⟨(some 26), none, .call 24 [(.t 25)]⟩,
       ⟨(some 27), none, .bin .add (.t 24) (.t 26)⟩,
       ⟨(some 28), none, .bin .add (.t 27) (.c (.str [46]))⟩,
       ⟨(some 29), none, .mv (.t 2)⟩,
       ⟨(some 30), none, .call 24 [(.t 29)]⟩,
       ⟨(some 31), none, .bin .add (.t 28) (.t 30)⟩,
       ⟨(some 6), none, .mv (.t 31)⟩,
       ⟨(some 7), none, .mv (.c (.bool true))⟩])
     (.ret)))⟩
theorem ok12 : FnOk Tryd.prog 12 a12 := FnOk.of Tryd.prog Tryd.func12 (by kernel_rfl)
/-- jalousie/jalousieref04.Parse -/
def a13 : AFn := ⟨73, [.tmp 2, .tmp 3, .tmp 4, .tmp 5], .seq
   (.ops [⟨(some 2), none, .mv (.c (.int .i64 0))⟩,
     ⟨(some 3), none, .mv (.c (.int .i64 0))⟩,
     ⟨(some 4), none, .mv (.c (.int .i64 0))⟩,
     ⟨(some 5), none, .mv (.c (.bool false))⟩])
   (.seq
    (.seq
     (.ops [⟨(some 7), none, .mv (.t 0)⟩,
       ⟨(some 8), none, .lenS (.t 7)⟩,
       ⟨(some 9), none, .bin .eql (.t 8) (.c (.int .i64 0))⟩,
       ⟨(some 10), none, .mv (.t 9)⟩,
       ⟨(some 11), (some (10, false)), .mv (.t 0)⟩,
       ⟨(some 12), (some (10, false)), .idxS (.t 11) (.c (.int .i64 0))⟩,
       ⟨(some 13), (some (10, false)), .bin .neq (.t 12) (.c (.int .u8 112))⟩,
       ⟨(some 14), none, .pick (.t 10) (.c (.bool true)) (.t 13)⟩])
     (.cond (.t 14)
      (.seq
       (.ops [⟨(some 2), none, .mv (.c (.int .i64 0))⟩,
         ⟨(some 3), none, .mv (.c (.int .i64 0))⟩,
         ⟨(some 4), none, .mv (.c (.int .i64 0))⟩,
         ⟨(some 5), none, .mv (.c (.bool false))⟩])
       (.ret))
      (.skip)))
    (.seq
     (.ops [⟨(some 16), none, .mv (.t 0)⟩,
       ⟨(some 17), none, .call 25 [(.t 16), (.c (.int .i64 1))]⟩,
       ⟨(some 15), none, .mv (.t 17)⟩,
       ⟨(some 18), none, .ext (.t 15) 0⟩,
       ⟨(some 19), none, .ext (.t 15) 1⟩,
       ⟨(some 2), none, .mv (.t 18)⟩,
       ⟨(some 6), none, .mv (.t 19)⟩])
     (.seq
      (.seq
       (.ops [⟨(some 20), none, .mv (.t 2)⟩,
         ⟨(some 21), none, .bin .lss (.t 20) (.c (.int .i64 0))⟩,
         ⟨(some 22), none, .mv (.t 21)⟩,
         ⟨(some 23), (some (22, false)), .mv (.t 6)⟩,
         ⟨(some 24), (some (22, false)), .mv (.t 0)⟩,
         ⟨(some 25), (some (22, false)), .lenS (.t 24)⟩,
         ⟨(some 26), (some (22, false)), .bin .geq (.t 23) (.t 25)⟩,
         ⟨(some 27), none, .pick (.t 22) (.c (.bool true)) (.t 26)⟩,
         ⟨(some 28), none, .mv (.t 27)⟩,
         ⟨(some 29), (some (28, false)), .mv (.t 0)⟩,
         ⟨(some 30), (some (28, false)), .mv (.t 6)⟩,
         ⟨(some 31), (some (28, false)), .idxS (.t 29) (.t 30)⟩,
         ⟨(some 32), (some (28, false)), .bin .neq (.t 31) (.c (.int .u8 46))⟩,
         ⟨(some 33), none, .pick (.t 28) (.c (.bool true)) (.t 32)⟩])
       (.cond (.t 33)
        (.seq
         (.ops [⟨(some 2), none, .mv (.c (.int .i64 0))⟩,
           ⟨(some 3), none, .mv (.c (.int .i64 0))⟩,
           ⟨(some 4), none, .mv (.c (.int .i64 0))⟩,
           ⟨(some 5), none, .mv (.c (.bool false))⟩])
         (.ret))
        (.skip)))
      (.seq
       (.ops [⟨(some 35), none, .mv (.t 0)⟩,
         ⟨(some 36), none, .mv (.t 6)⟩,
         ⟨(some 37), none, .bin .add (.t 36) (.c (.int .i64 1))⟩,
         ⟨(some 38), none, .call 25 [(.t 35), (.t 37)]⟩,
         ⟨(some 34), none, .mv (.t 38)⟩,
         ⟨(some 39), none, .ext (.t 34) 0⟩,
         ⟨(some 40), none, .ext (.t 34) 1⟩,
         ⟨(some 3), none, .mv (.t 39)⟩,
         ⟨(some 6), none, .mv (.t 40)⟩])
       (.seq
        (.seq
         (.ops [⟨(some 41), none, .mv (.t 3)⟩,
           ⟨(some 42), none, .bin .lss (.t 41) (.c (.int .i64 0))⟩,
           ⟨(some 43), none, .mv (.t 42)⟩,
           ⟨(some 44), (some (43, false)), .mv (.t 6)⟩,
           ⟨(some 45), (some (43, false)), .mv (.t 0)⟩,
           ⟨(some 46), (some (43, false)), .lenS (.t 45)⟩,
           ⟨(some 47), (some (43, false)), .bin .geq (.t 44) (.t 46)⟩,
           ⟨(some 48), none, .pick (.t 43) (.c (.bool true)) (.t 47)⟩,
           ⟨(some 49), none, .mv (.t 48)⟩,
           ⟨(some 50), (some (49, false)), .mv (.t 0)⟩,
           ⟨(some 51), (some (49, false)), .mv (.t 6)⟩,
           ⟨(some 52), (some (49, false)), .idxS (.t 50) (.t 51)⟩,
           ⟨(some 53), (some (49, false)), .bin .neq (.t 52) (.c (.int .u8 46))⟩,
           ⟨(some 54), none, .pick (.t 49) (.c (.bool true)) (.t 53)⟩])
         (.cond (.t 54)
          (.seq
           (.ops [⟨(some 2), none, .mv (.c (.int .i64 0))⟩,
             ⟨(some 3), none, .mv (.c (.int .i64 0))⟩,
             ⟨(some 4), none, .mv (.c (.int .i64 0))⟩,
             ⟨(some 5), none, .mv (.c (.bool false))⟩])
           (.ret))
          (.skip)))
        (.seq
         (.ops [⟨(some 56), none, .mv (.t 0)⟩,
           ⟨(some 57), none, .mv (.t 6)⟩,
           ⟨(some 58), none, .bin .add (.t 57) (.c (.int .i64 1))⟩,
           ⟨(some 59), none, .call 25 [(.t 56), (.t 58)]⟩,
           ⟨(some 55), none, .mv (.t 59)⟩,
           ⟨(some 60), none, .ext (.t 55) 0⟩,
           ⟨(some 61), none, .ext (.t 55) 1⟩,
           ⟨(some 4), none, .mv (.t 60)⟩,
           ⟨(some 6), none, .mv (.t 61)⟩])
         (.seq
          (.seq
           (.ops [⟨(some 62), none, .mv (.t 4)⟩,
             ⟨(some 63), none, .bin .lss (.t 62) (.c (.int .i64 0))⟩,
             ⟨(some 64), none, .mv (.t 63)⟩,
             ⟨(some 65), (some (64, false)), .mv (.t 6)⟩,
             ⟨(some 66), (some (64, false)), .mv (.t 0)⟩,
             ⟨(some 67), (some (64, false)), .lenS (.t 66)⟩,
             ⟨(some 68), (some (64, false)), .bin .neq (.t 65) (.t 67)⟩,
             ⟨(some 69), none, .pick (.t 64) (.c (.bool true)) (.t 68)⟩])
           (.cond (.t 69)
            (.seq
             (.ops [⟨(some 2), none, .mv (.c (.int .i64 0))⟩,
               ⟨(some 3), none, .mv (.c (.int .i64 0))⟩,
               ⟨(some 4), none, .mv (.c (.int .i64 0))⟩,
               ⟨(some 5), none, .mv (.c (.bool false))⟩])
             (.ret))
            (.skip)))
          (.seq
           (.ops [⟨(some 70), none, .mv (.t 2)⟩,
             ⟨(some 71), none, .mv (.t 3)⟩,
             ⟨(some 72), none, .mv (.t 4)⟩,
             ⟨(some 2), none, .mv (.t 70)⟩,
             ⟨(some 3), none, .mv (.t 71)⟩,
             ⟨(some 4), none, .mv (.t 72)⟩,
             ⟨(some 5), none, .mv (.c (.bool true))⟩])
           (.ret)))))))))⟩
theorem ok13 : FnOk Tryd.prog 13 a13 := FnOk.of Tryd.prog Tryd.func13 (by kernel_rfl)
/-- jalousie/lattice.Rank -/
def a14 : AFn := ⟨75, [.tmp 4, .tmp 5], .seq
   (.ops [⟨(some 4), none, .mv (.c .nilptr)⟩,
     ⟨(some 5), none, .mv (.c (.int .i64 0))⟩])
   (.seq
    (.seq
     (.ops [⟨(some 10), none, .mv (.t 0)⟩,
       ⟨(some 11), none, .bin .lss (.t 10) (.c (.int .i64 1))⟩,
       ⟨(some 12), none, .mv (.t 11)⟩,
       ⟨(some 13), (some (12, false)), .mv (.t 0)⟩,
       ⟨(some 14), (some (12, false)), .bin .gtr (.t 13) (.c (.int .i64 64))⟩,
       ⟨(some 15), none, .pick (.t 12) (.c (.bool true)) (.t 14)⟩,
       ⟨(some 16), none, .mv (.t 15)⟩,
       ⟨(some 17), (some (16, false)), .mv (.t 1)⟩,
       ⟨(some 18), (some (16, false)), .bin .lss (.t 17) (.c (.int .i64 0))⟩,
       ⟨(some 19), none, .pick (.t 16) (.c (.bool true)) (.t 18)⟩,
       ⟨(some 20), none, .mv (.t 19)⟩,
       ⟨(some 21), (some (20, false)), .mv (.t 1)⟩,
       ⟨(some 22), (some (20, false)), .bin .gtr (.t 21) (.c (.int .i64 6))⟩,
       ⟨(some 23), none, .pick (.t 20) (.c (.bool true)) (.t 22)⟩,
       ⟨(some 24), none, .mv (.t 23)⟩,
       ⟨(some 25), (some (24, false)), .mv (.t 0)⟩,
       ⟨(some 26), (some (24, false)), .mv (.t 1)⟩,
       ⟨(some 27), (some (24, false)), .bin .shl (.t 25) (.t 26)⟩,
       ⟨(some 28), (some (24, false)), .bin .gtr (.t 27) (.c (.int .i64 64))⟩,
       ⟨(some 29), none, .pick (.t 24) (.c (.bool true)) (.t 28)⟩])
     (.cond (.t 29)
      (.seq
       (.ops [⟨(some 4), none, .mv (.c .nilptr)⟩,
         ⟨(some 5), none, .mv (.c (.int .i64 1))⟩])
       (.ret))
      (.skip)))
    (.seq
     (.ops [⟨(some 30), none, .mv (.t 0)⟩,
       ⟨(some 31), none, .mv (.t 1)⟩,
       ⟨(some 32), none, .bin .shl (.t 30) (.t 31)⟩,
       ⟨(some 6), none, .mv (.t 32)⟩])
     (.seq
      (.ops [⟨(some 33), none, .mv (.t 6)⟩,
        ⟨(some 34), none, .mksl 63 1 24 [.nilslice] (.t 33) (.t 33)⟩,
        ⟨(some 7), none, .mv (.t 34)⟩])
      (.seq
       (.seq
        (.ops [⟨(some 35), none, .mv (.t 6)⟩,
          ⟨(some 36), none, .mv (.c (.int .i64 0))⟩])
        (.block 0 (.loop (.seq
           (.ops [⟨(some 37), none, .bin .lss (.t 36) (.t 35)⟩])
           (.seq
            (.cond (.t 37)
             (.skip)
             (.exit 0))
            (.seq
             (.block 1 (.seq
               (.ops [⟨(some 38), none, .mv (.t 36)⟩,
                 ⟨(some 8), none, .mv (.t 38)⟩])
               (.seq
                (.ops [⟨(some 39), none, .mv (.t 6)⟩,
                  ⟨(some 40), none, .mv (.c (.int .i64 0))⟩])
                (.block 2 (.loop (.seq
                   (.ops [⟨(some 41), none, .bin .lss (.t 40) (.t 39)⟩])
                   (.seq
                    (.cond (.t 41)
                     (.skip)
                     (.exit 2))
                    (.seq
                     (.block 3 (.seq
                       (.ops [⟨(some 42), none, .mv (.t 40)⟩,
                         ⟨(some 9), none, .mv (.t 42)⟩])
                       (.draw [⟨⟨(some 43), none, .mv (.t 7)⟩, []⟩,
                         ⟨⟨(some 44), none, .mv (.t 8)⟩, []⟩,
                         ⟨⟨(some 45), none, .mv (.t 7)⟩, []⟩,
                         ⟨⟨(some 46), none, .mv (.t 8)⟩, []⟩,
                         ⟨⟨(some 47), none, .iaddrS 1 (.t 45) (.t 46)⟩, [2, 3]⟩,
                         ⟨⟨(some 48), none, .load none (.t 47)⟩, [4]⟩,
                         ⟨⟨(some 49), none, .mv (.t 8)⟩, []⟩,
                         ⟨⟨(some 50), none, .mv (.t 0)⟩, []⟩,
                         ⟨⟨(some 51), none, .bin .rem (.t 49) (.t 50)⟩, [6, 7]⟩,
                         ⟨⟨(some 52), none, .mv (.t 9)⟩, []⟩,
                         ⟨⟨(some 53), none, .mv (.t 0)⟩, []⟩,
                         ⟨⟨(some 54), none, .bin .rem (.t 52) (.t 53)⟩, [9, 10]⟩,
                         ⟨⟨(some 55), none, .bin .leq (.t 51) (.t 54)⟩, [8, 11]⟩,
                         ⟨⟨(some 56), none, .mv (.t 55)⟩, [12]⟩,
                         ⟨⟨(some 57), (some (56, true)), .mv (.t 8)⟩, [13]⟩,
                         ⟨⟨(some 58), (some (56, true)), .mv (.t 0)⟩, [13]⟩,
                         ⟨⟨(some 59), (some (56, true)), .bin .quo (.t 57) (.t 58)⟩, [14, 15, 13]⟩,
                         ⟨⟨(some 60), (some (56, true)), .mv (.t 9)⟩, [13]⟩,
                         ⟨⟨(some 61), (some (56, true)), .mv (.t 0)⟩, [13]⟩,
                         ⟨⟨(some 62), (some (56, true)), .bin .quo (.t 60) (.t 61)⟩, [17, 18, 13]⟩,
                         ⟨⟨(some 63), (some (56, true)), .bin .andNot (.t 59) (.t 62)⟩, [16, 19, 13]⟩,
                         ⟨⟨(some 64), (some (56, true)), .bin .eql (.t 63) (.c (.int .i64 0))⟩, [20, 13]⟩,
                         ⟨⟨(some 65), none, .pick (.t 56) (.t 64) (.c (.bool false))⟩, [13, 21]⟩,
                         ⟨⟨(some 66), none, .bslice 4 1 1 [(.bool false)] [(0, (.t 65))]⟩, [22]⟩,
                         ⟨⟨(some 67), none, .append 4 1 1 (.t 48) (.t 66)⟩, [5, 23, 13]⟩,
                         ⟨⟨(some 68), none, .iaddrS 1 (.t 43) (.t 44)⟩, [0, 1, 0, 1, 2, 3, 4, 5, 6, 7, 8, 9, 10, 11, 12, 13, 14, 15, 16, 17, 18, 19, 20, 21, 22, 23, 24]⟩,
                         ⟨⟨none, none, .store 1 (.t 68) (.t 67)⟩, [25, 24, 24, 0, 1, 2, 3, 4, 5, 6, 7, 8, 9, 10, 11, 12, 13, 14, 15, 16, 17, 18, 19, 20, 21, 22, 23, 24]⟩] [0, 0, 0, 0, 12, 28, 0, 0, 192, 0, 0, 1536, 4032, 8128, 16320, 16320, 65472, 16320, 16320, 409536, 1048512, 2097088, 4194240, 8388544, 16777212, 33554431, 67108863])))
                     (.ops [⟨(some 69), none, .bin .add (.t 40) (.c (.int .i64 1))⟩,
                       ⟨(some 40), none, .mv (.t 69)⟩])))))))))
             (.ops [⟨(some 70), none, .bin .add (.t 36) (.c (.int .i64 1))⟩,
               ⟨(some 36), none, .mv (.t 70)⟩])))))))
       (.seq
        (.ops [⟨(some 71), none, .mv (.t 7)⟩,
          ⟨(some 72), none, .call 26 [(.t 71)]⟩,
          ⟨(some 73), none, .ext (.t 72) 0⟩,
          ⟨(some 74), none, .ext (.t 72) 1⟩,
          ⟨(some 4), none, .mv (.t 73)⟩,
          ⟨(some 5), none, .mv (.t 74)⟩])
        (.ret))))))⟩
theorem ok14 : FnOk Tryd.prog 14 a14 := FnOk.of Tryd.prog Tryd.func14 (by kernel_rfl)
/-- jalousie/ids.New -/
def a15 : AFn := ⟨8, [.tmp 2], .seq
   (.ops [⟨(some 2), none, .mv (.c .nilptr)⟩])
   (.seq
    (.ops [⟨(some 3), none, .mv (.t 0)⟩,
      ⟨(some 4), none, .call 27 [(.t 3)]⟩,
      ⟨(some 5), none, .mksl 70 1 8 [(.int .i64 0)] (.t 4) (.t 4)⟩,
      ⟨(some 6), none, .build [.nilslice] [(0, 1)] [(0, (.t 5))]⟩,
      ⟨(some 7), none, .box 46 (.t 6)⟩,
      ⟨(some 2), none, .mv (.t 7)⟩])
    (.ret))⟩
theorem ok15 : FnOk Tryd.prog 15 a15 := FnOk.of Tryd.prog Tryd.func15 (by kernel_rfl)
/-- (*jalousie/ids.Ids).Next -/
def a16 : AFn := ⟨18, [.tmp 4, .tmp 5], .seq
   (.ops [⟨(some 4), none, .mv (.c (.int .i64 0))⟩,
     ⟨(some 5), none, .mv (.c (.bool false))⟩])
   (.seq
    (.seq
     (.ops [⟨(some 6), none, .mv (.t 0)⟩,
       ⟨(some 7), none, .mv (.t 1)⟩,
       ⟨(some 8), none, .call 28 [(.t 6), (.t 7)]⟩,
       ⟨(some 9), none, .un .not (.t 8)⟩])
     (.cond (.t 9)
      (.seq
       (.ops [⟨(some 4), none, .mv (.c (.int .i64 0))⟩,
         ⟨(some 5), none, .mv (.c (.bool false))⟩])
       (.ret))
      (.skip)))
    (.seq
     (.ops [⟨(some 10), none, .mv (.t 0)⟩,
       ⟨(some 11), none, .nilck (.t 10)⟩,
       ⟨(some 12), none, .addr 0 (.t 11)⟩,
       ⟨(some 13), none, .load none (.t 12)⟩,
       ⟨(some 14), none, .mv (.t 1)⟩,
       ⟨(some 15), none, .iaddrS 1 (.t 13) (.t 14)⟩,
       ⟨(some 16), none, .call 29 [(.t 15), (.c (.int .i64 1))]⟩,
       ⟨(some 17), none, .bin .sub (.t 16) (.c (.int .i64 1))⟩,
       ⟨(some 4), none, .mv (.t 17)⟩,
       ⟨(some 5), none, .mv (.c (.bool true))⟩])
     (.ret)))⟩
theorem ok16 : FnOk Tryd.prog 16 a16 := FnOk.of Tryd.prog Tryd.func16 (by kernel_rfl)
/-- (*jalousie/ids.Ids).Given -/
def a17 : AFn := ⟨16, [.tmp 4], .seq
   (.ops [⟨(some 4), none, .mv (.c (.int .i64 0))⟩])
   (.seq
    (.seq
     (.ops [⟨(some 5), none, .mv (.t 0)⟩,
       ⟨(some 6), none, .mv (.t 1)⟩,
       ⟨(some 7), none, .call 28 [(.t 5), (.t 6)]⟩,
       ⟨(some 8), none, .un .not (.t 7)⟩])
     (.cond (.t 8)
      (.seq
       (.ops [⟨(some 4), none, .mv (.c (.int .i64 0))⟩])
       (.ret))
      (.skip)))
    (.seq
     (.ops [⟨(some 9), none, .mv (.t 0)⟩,
       ⟨(some 10), none, .nilck (.t 9)⟩,
       ⟨(some 11), none, .addr 0 (.t 10)⟩,
       ⟨(some 12), none, .load none (.t 11)⟩,
       ⟨(some 13), none, .mv (.t 1)⟩,
       ⟨(some 14), none, .iaddrS 1 (.t 12) (.t 13)⟩,
       ⟨(some 15), none, .call 30 [(.t 14)]⟩,
       ⟨(some 4), none, .mv (.t 15)⟩])
     (.ret)))⟩
theorem ok17 : FnOk Tryd.prog 17 a17 := FnOk.of Tryd.prog Tryd.func17 (by kernel_rfl)
/-- strings.CutPrefix -/
def a18 : AFn := ⟨11, [.tmp 4, .tmp 5], .seq
   (.ops [⟨(some 4), none, .mv (.c (.str []))⟩,
     ⟨(some 5), none, .mv (.c (.bool false))⟩])
   (.seq
    (.ops [⟨(some 6), none, .mv (.t 0)⟩,
      ⟨(some 7), none, .mv (.t 1)⟩,
      ⟨(some 8), none, .call 31 [(.t 6), (.t 7)]⟩,
      ⟨(some 9), none, .ext (.t 8) 0⟩,
      ⟨(some 10), none, .ext (.t 8) 1⟩,
      ⟨(some 4), none, .mv (.t 9)⟩,
      ⟨(some 5), none, .mv (.t 10)⟩])
    (.ret))⟩
theorem ok18 : FnOk Tryd.prog 18 a18 := FnOk.of Tryd.prog Tryd.func18 (by kernel_rfl)
/-- strings.Split -/
def a19 : AFn := ⟨8, [.tmp 4], .seq
   (.ops [⟨(some 4), none, .mv (.c .nilslice)⟩])
   (.seq
    (.ops [⟨(some 5), none, .mv (.t 0)⟩,
      ⟨(some 6), none, .mv (.t 1)⟩,
      ⟨(some 7), none, .call 32 [(.t 5), (.t 6), (.c (.int .i64 0)), (.c (.int .i64 (-1)))]⟩,
      ⟨(some 4), none, .mv (.t 7)⟩])
    (.ret))⟩
theorem ok19 : FnOk Tryd.prog 19 a19 := FnOk.of Tryd.prog Tryd.func19 (by kernel_rfl)
/-- strconv.Atoi -/
def a20 : AFn := ⟨18, [.tmp 2, .tmp 3], .seq
   (.ops [⟨(some 2), none, .mv (.c (.int .i64 0))⟩,
     ⟨(some 3), none, .mv (.c .niface)⟩])
   (.seq
    (.ops [⟨(some 7), none, .mv (.t 0)⟩,
      ⟨(some 8), none, .call 33 [(.t 7)]⟩,
      ⟨(some 6), none, .mv (.t 8)⟩,
      ⟨(some 9), none, .ext (.t 6) 0⟩,
      ⟨(some 10), none, .ext (.t 6) 1⟩,
      ⟨(some 4), none, .mv (.t 9)⟩,
      ⟨(some 5), none, .mv (.t 10)⟩])
    (.seq
     (.seq
      (.ops [⟨(some 11), none, .mv (.t 5)⟩,
        ⟨(some 12), none, .eq true 55 (.interface #[("Error", 80)]) (.t 11) (.c .niface)⟩])
      (.cond (.t 12)
       (.seq
        (.ops [⟨(some 13), none, .mv (.t 4)⟩,
          ⟨(some 14), none, .mv (.t 0)⟩,
          ⟨(some 15), none, .mv (.t 5)⟩,
          ⟨(some 16), none, .call 34 [(.c (.str [65, 116, 111, 105])), (.t 14), (.c (.int .i64 0)), (.c (.int .i64 0)), (.t 15)]⟩,
          ⟨(some 2), none, .mv (.t 13)⟩,
          ⟨(some 3), none, .mv (.t 16)⟩])
        (.ret))
       (.skip)))
     (.seq
      (.ops [⟨(some 17), none, .mv (.t 4)⟩,
        ⟨(some 2), none, .mv (.t 17)⟩,
        ⟨(some 3), none, .mv (.c .niface)⟩])
      (.ret))))⟩
theorem ok20 : FnOk Tryd.prog 20 a20 := FnOk.of Tryd.prog Tryd.func20 (by kernel_rfl)
/-- strconv.Itoa -/
def a21 : AFn := ⟨5, [.tmp 2], .seq
   (.ops [⟨(some 2), none, .mv (.c (.str []))⟩])
   (.seq
    (.ops [⟨(some 3), none, .mv (.t 0)⟩,
      ⟨(some 4), none, .call 35 [(.t 3)]⟩,
      ⟨(some 2), none, .mv (.t 4)⟩])
    (.ret))⟩
theorem ok21 : FnOk Tryd.prog 21 a21 := FnOk.of Tryd.prog Tryd.func21 (by kernel_rfl)
/-- strings.Join -/
def a22 : AFn := ⟨75, [.tmp 4], .seq
   (.ops [⟨(some 4), none, .mv (.c (.str []))⟩])
   (.seq
    (.seq
     (.ops [⟨(some 11), none, .mv (.t 0)⟩,
       ⟨(some 12), none, .lenL (.t 11)⟩])
     (.block 0 (.seq
       (.ops [⟨(some 14), none, .bin .eql (.t 12) (.c (.int .i64 0))⟩,
         ⟨(some 13), none, .mv (.t 14)⟩])
       (.cond (.t 13)
        (.seq
         (.ops [⟨(some 4), none, .mv (.c (.str []))⟩])
         (.ret))
        (.seq
         (.ops [⟨(some 16), none, .bin .eql (.t 12) (.c (.int .i64 1))⟩,
           ⟨(some 15), none, .mv (.t 16)⟩])
         (.cond (.t 15)
          (.seq
           (.ops [⟨(some 17), none, .mv (.t 0)⟩,
             ⟨(some 18), none, .iaddrS 1 (.t 17) (.c (.int .i64 0))⟩,
             ⟨(some 19), none, .load none (.t 18)⟩,
             ⟨(some 4), none, .mv (.t 19)⟩])
           (.ret))
          (.skip)))))))
    (.seq
     (.ops [⟨(some 5), none, .mv (.c (.int .i64 0))⟩])
     (.seq
      (.seq
       (.ops [⟨(some 20), none, .mv (.t 1)⟩,
         ⟨(some 21), none, .lenS (.t 20)⟩,
         ⟨(some 22), none, .bin .gtr (.t 21) (.c (.int .i64 0))⟩])
       (.cond (.t 22)
        (.seq
         (.seq
          (.ops [⟨(some 23), none, .mv (.t 1)⟩,
            ⟨(some 24), none, .lenS (.t 23)⟩,
            ⟨(some 25), none, .mv (.t 0)⟩,
            ⟨(some 26), none, .lenL (.t 25)⟩,
            ⟨(some 27), none, .bin .sub (.t 26) (.c (.int .i64 1))⟩,
            ⟨(some 28), none, .bin .quo (.c (.int .i64 9223372036854775807)) (.t 27)⟩,
            ⟨(some 29), none, .bin .geq (.t 24) (.t 28)⟩])
          (.cond (.t 29)
           (.ops [⟨(some 30), none, .bad⟩,
             ⟨none, none, .bad⟩])
           (.skip)))
         (.ops [⟨(some 31), none, .mv (.t 5)⟩,
           ⟨(some 32), none, .mv (.t 1)⟩,
           ⟨(some 33), none, .lenS (.t 32)⟩,
           ⟨(some 34), none, .mv (.t 0)⟩,
           ⟨(some 35), none, .lenL (.t 34)⟩,
           ⟨(some 36), none, .bin .sub (.t 35) (.c (.int .i64 1))⟩,
           ⟨(some 37), none, .bin .mul (.t 33) (.t 36)⟩,
           ⟨(some 38), none, .bin .add (.t 31) (.t 37)⟩,
           ⟨(some 5), none, .mv (.t 38)⟩]))
        (.skip)))
      (.seq
       (.seq
        (.ops [⟨(some 39), none, .mv (.t 0)⟩,
          ⟨(some 40), none, .lenL (.t 39)⟩,
          ⟨(some 41), none, .mv (.c (.int .i64 0))⟩])
        (.block 1 (.loop (.seq
           (.ops [⟨(some 42), none, .bin .lss (.t 41) (.t 40)⟩])
           (.seq
            (.cond (.t 42)
             (.skip)
             (.exit 1))
            (.seq
             (.block 2 (.seq
               (.ops [⟨(some 43), none, .iaddrS 1 (.t 39) (.t 41)⟩,
                 ⟨(some 44), none, .load none (.t 43)⟩,
                 ⟨(some 7), none, .mv (.t 44)⟩])
               (.seq
                (.seq
                 (.ops [⟨(some 45), none, .mv (.t 7)⟩,
                   ⟨(some 46), none, .lenS (.t 45)⟩,
                   ⟨(some 47), none, .mv (.t 5)⟩,
                   ⟨(some 48), none, .bin .sub (.c (.int .i64 9223372036854775807)) (.t 47)⟩,
                   ⟨(some 49), none, .bin .gtr (.t 46) (.t 48)⟩])
                 (.cond (.t 49)
                  (.ops [⟨(some 50), none, .bad⟩,
                    ⟨none, none, .bad⟩])
                  (.skip)))
                (.ops [⟨(some 51), none, .mv (.t 5)⟩,
                  ⟨(some 52), none, .mv (.t 7)⟩,
                  ⟨(some 53), none, .lenS (.t 52)⟩,
                  ⟨(some 54), none, .bin .add (.t 51) (.t 53)⟩,
                  ⟨(some 5), none, .mv (.t 54)⟩]))))
             (.ops [⟨(some 55), none, .bin .add (.t 41) (.c (.int .i64 1))⟩,
               ⟨(some 41), none, .mv (.t 55)⟩])))))))
       (.seq
        (.ops [⟨(some 8), none, .alloc 78 [.nilptr, .nilslice]⟩])
        (.seq
         (.ops [⟨(some 56), none, .mv (.t 5)⟩,
           ⟨(some 57), none, .call 36 [(.t 8), (.t 56)]⟩])
         (.seq
          (.ops [⟨(some 58), none, .mv (.t 0)⟩,
            ⟨(some 59), none, .iaddrS 1 (.t 58) (.c (.int .i64 0))⟩,
            ⟨(some 60), none, .load none (.t 59)⟩,
            ⟨(some 61), none, .call 37 [(.t 8), (.t 60)]⟩])
          (.seq
           (.seq
            (.ops [⟨(some 62), none, .mv (.t 0)⟩,
              ⟨(some 63), none, .slice 1 (.t 62) (some (.c (.int .i64 1))) none none⟩,
              ⟨(some 64), none, .lenL (.t 63)⟩,
              ⟨(some 65), none, .mv (.c (.int .i64 0))⟩])
            (.block 3 (.loop (.seq
               (.ops [⟨(some 66), none, .bin .lss (.t 65) (.t 64)⟩])
               (.seq
                (.cond (.t 66)
                 (.skip)
                 (.exit 3))
                (.seq
                 (.block 4 (.seq
                   (.ops [⟨(some 67), none, .iaddrS 1 (.t 63) (.t 65)⟩,
                     ⟨(some 68), none, .load none (.t 67)⟩,
                     ⟨(some 10), none, .mv (.t 68)⟩])
                   (.seq
                    (.ops [⟨(some 69), none, .mv (.t 1)⟩,
                      ⟨(some 70), none, .call 37 [(.t 8), (.t 69)]⟩])
                    (.ops [⟨(some 71), none, .mv (.t 10)⟩,
                      ⟨(some 72), none, .call 37 [(.t 8), (.t 71)]⟩]))))
                 (.ops [⟨(some 73), none, .bin .add (.t 65) (.c (.int .i64 1))⟩,
                   ⟨(some 65), none, .mv (.t 73)⟩])))))))
           (.seq
            (.ops [⟨(some 74), none, .call 38 [(.t 8)]⟩,
              ⟨(some 4), none, .mv (.t 74)⟩])
            (.ret))))))))))⟩
theorem ok22 : FnOk Tryd.prog 22 a22 := FnOk.of Tryd.prog Tryd.func22 (by kernel_rfl)
/-- jalousie/jalousieref04.may -/
def a23 : AFn := ⟨9, [.tmp 2], .seq
   (.ops [⟨(some 2), none, .mv (.c (.bool false))⟩])
   (.seq
    (.ops [⟨(some 3), none, .mv (.t 0)⟩,
      ⟨(some 4), none, .bin .geq (.t 3) (.c (.int .i64 0))⟩,
      ⟨(some 5), none, .mv (.t 4)⟩,
      ⟨(some 6), (some (5, true)), .mv (.t 0)⟩,
      ⟨(some 7), (some (5, true)), .bin .leq (.t 6) (.c (.int .i64 2147483647))⟩,
      ⟨(some 8), none, .pick (.t 5) (.t 7) (.c (.bool false))⟩,
      ⟨(some 2), none, .mv (.t 8)⟩])
    (.ret))⟩
theorem ok23 : FnOk Tryd.prog 23 a23 := FnOk.of Tryd.prog Tryd.func23 (by kernel_rfl)
/-- jalousie/jalousieref04.digits -/
def a24 : AFn := ⟨17, [.tmp 2], .seq
   (.ops [⟨(some 2), none, .mv (.c (.str []))⟩])
   (.seq
    (.seq
     (.ops [⟨(some 3), none, .mv (.t 0)⟩,
       ⟨(some 4), none, .bin .lss (.t 3) (.c (.int .i64 10))⟩])
     (.cond (.t 4)
      (.seq
       (.ops [⟨(some 5), none, .mv (.t 0)⟩,
         ⟨(some 6), none, .bin .add (.c (.int .i64 48)) (.t 5)⟩,
         ⟨(some 7), none, .convI .u8 (.t 6)⟩,
         ⟨(some 8), none, .bslice 5 1 1 [(.int .u8 0)] [(0, (.t 7))]⟩,
         ⟨(some 9), none, .strOf (.t 8)⟩,
         ⟨(some 2), none, .mv (.t 9)⟩])
       (.ret))
      (.skip)))
    (.seq
     (.ops [⟨(some 10), none, .mv (.t 0)⟩,
       ⟨(some 11), none, .bin .quo (.t 10) (.c (.int .i64 10))⟩,
       ⟨(some 12), none, .call 24 [(.t 11)]⟩,
       ⟨(some 13), none, .mv (.t 0)⟩,
       ⟨(some 14), none, .bin .rem (.t 13) (.c (.int .i64 10))⟩,
       ⟨(some 15), none, .call 24 [(.t 14)]⟩,
       ⟨(some 16), none, .bin .add (.t 12) (.t 15)⟩,
       ⟨(some 2), none, .mv (.t 16)⟩])
     (.ret)))⟩
theorem ok24 : FnOk Tryd.prog 24 a24 := FnOk.of Tryd.prog Tryd.func24 (by kernel_rfl)
/-- jalousie/jalousieref04.number -/
def a25 : AFn := ⟨56, [.tmp 4, .tmp 5], .seq
   (.ops [⟨(some 4), none, .mv (.c (.int .i64 0))⟩,
     ⟨(some 5), none, .mv (.c (.int .i64 0))⟩])
   (.seq
    (.ops [⟨(some 8), none, .mv (.t 1)⟩,
      ⟨(some 6), none, .mv (.t 8)⟩])
    (.seq
     (.ops [⟨(some 7), none, .mv (.c (.int .i64 0))⟩])
     (.seq
      (.block 0 (.loop (.seq
         (.seq
          (.ops [⟨(some 9), none, .mv (.t 1)⟩,
            ⟨(some 10), none, .mv (.t 0)⟩,
            ⟨(some 11), none, .lenS (.t 10)⟩,
            ⟨(some 12), none, .bin .lss (.t 9) (.t 11)⟩,
            ⟨(some 13), none, .mv (.t 12)⟩,
            ⟨(some 14), (some (13, true)), .mv (.t 0)⟩,
            ⟨(some 15), (some (13, true)), .mv (.t 1)⟩,
            ⟨(some 16), (some (13, true)), .idxS (.t 14) (.t 15)⟩,
            ⟨(some 17), (some (13, true)), .bin .geq (.t 16) (.c (.int .u8 48))⟩,
            ⟨(some 18), none, .pick (.t 13) (.t 17) (.c (.bool false))⟩,
            ⟨(some 19), none, .mv (.t 18)⟩,
            ⟨(some 20), (some (19, true)), .mv (.t 0)⟩,
            ⟨(some 21), (some (19, true)), .mv (.t 1)⟩,
            ⟨(some 22), (some (19, true)), .idxS (.t 20) (.t 21)⟩,
            ⟨(some 23), (some (19, true)), .bin .leq (.t 22) (.c (.int .u8 57))⟩,
            ⟨(some 24), none, .pick (.t 19) (.t 23) (.c (.bool false))⟩])
          (.cond (.t 24)
           (.skip)
           (.exit 0)))
         (.block 1 (.seq
           (.ops [⟨(some 25), none, .mv (.t 7)⟩,
             ⟨(some 26), none, .bin .mul (.c (.int .i64 10)) (.t 25)⟩,
             ⟨(some 27), none, .mv (.t 0)⟩,
             ⟨(some 28), none, .mv (.t 1)⟩,
             ⟨(some 29), none, .idxS (.t 27) (.t 28)⟩,
             ⟨(some 30), none, .convI .i64 (.t 29)⟩,
             ⟨(some 31), none, .bin .add (.t 26) (.t 30)⟩,
             ⟨(some 32), none, .bin .sub (.t 31) (.c (.int .i64 48))⟩,
             ⟨(some 7), none, .mv (.t 32)⟩])
           (.seq
            (.ops [⟨(some 33), none, .mv (.t 1)⟩,
              ⟨(some 34), none, .bin .add (.t 33) (.c (.int .i64 1))⟩,
              ⟨(some 1), none, .mv (.t 34)⟩])
            (.seq
             (.ops [⟨(some 35), none, .mv (.t 7)⟩,
               ⟨(some 36), none, .bin .gtr (.t 35) (.c (.int .i64 2147483647))⟩])
             (.cond (.t 36)
              (.seq
               (.ops [⟨(some 37), none, .mv (.t 1)⟩,
                 ⟨(some 4), none, .mv (.c (.int .i64 (-1)))⟩,
                 ⟨(some 5), none, .mv (.t 37)⟩])
               (.ret))
              (.skip)))))))))
      (.seq
       (.seq
        (.ops [⟨(some 38), none, .mv (.t 1)⟩,
          ⟨(some 39), none, .mv (.t 6)⟩,
          ⟨(some 40), none, .bin .eql (.t 38) (.t 39)⟩,
          ⟨(some 41), none, .mv (.t 40)⟩,
          ⟨(some 42), (some (41, false)), .mv (.t 1)⟩,
          ⟨(some 43), (some (41, false)), .mv (.t 6)⟩,
          ⟨(some 44), (some (41, false)), .bin .add (.t 43) (.c (.int .i64 1))⟩,
          ⟨(some 45), (some (41, false)), .bin .gtr (.t 42) (.t 44)⟩,
          ⟨(some 46), (some (41, false)), .mv (.t 45)⟩,
          ⟨(some 47), (some (46, true)), .mv (.t 0)⟩,
          ⟨(some 48), (some (46, true)), .mv (.t 6)⟩,
          ⟨(some 49), (some (46, true)), .idxS (.t 47) (.t 48)⟩,
          ⟨(some 50), (some (46, true)), .bin .eql (.t 49) (.c (.int .u8 48))⟩,
          ⟨(some 51), (some (41, false)), .pick (.t 46) (.t 50) (.c (.bool false))⟩,
          ⟨(some 52), none, .pick (.t 41) (.c (.bool true)) (.t 51)⟩])
        (.cond (.t 52)
         (.seq
          (.ops [⟨(some 53), none, .mv (.t 1)⟩,
            ⟨(some 4), none, .mv (.c (.int .i64 (-1)))⟩,
            ⟨(some 5), none, .mv (.t 53)⟩])
          (.ret))
         (.skip)))
       (.seq
        (.ops [⟨(some 54), none, .mv (.t 7)⟩,
          ⟨(some 55), none, .mv (.t 1)⟩,
          ⟨(some 4), none, .mv (.t 54)⟩,
          ⟨(some 5), none, .mv (.t 55)⟩])
        (.ret))))))⟩
theorem ok25 : FnOk Tryd.prog 25 a25 := FnOk.of Tryd.prog Tryd.func25 (by kernel_rfl)
/-- jalousie/lattice.New -/
def a26 : AFn := ⟨127, [.tmp 2, .tmp 3], .seq
   (.ops [⟨(some 2), none, .mv (.c .nilptr)⟩,
     ⟨(some 3), none, .mv (.c (.int .i64 0))⟩])
   (.seq
    (.ops [⟨(some 12), none, .mv (.t 0)⟩,
      ⟨(some 13), none, .lenL (.t 12)⟩,
      ⟨(some 4), none, .mv (.t 13)⟩])
    (.seq
     (.seq
      (.ops [⟨(some 14), none, .mv (.t 4)⟩,
        ⟨(some 15), none, .bin .lss (.t 14) (.c (.int .i64 1))⟩,
        ⟨(some 16), none, .mv (.t 15)⟩,
        ⟨(some 17), (some (16, false)), .mv (.t 4)⟩,
        ⟨(some 18), (some (16, false)), .bin .gtr (.t 17) (.c (.int .i64 64))⟩,
        ⟨(some 19), none, .pick (.t 16) (.c (.bool true)) (.t 18)⟩])
      (.cond (.t 19)
       (.seq
        (.ops [⟨(some 2), none, .mv (.c .nilptr)⟩,
          ⟨(some 3), none, .mv (.c (.int .i64 3))⟩])
        (.ret))
       (.skip)))
     (.seq
      (.draw [⟨⟨(some 20), none, .mv (.t 4)⟩, []⟩,
        ⟨⟨(some 21), none, .mksl 95 1 8 [(.int .u64 0)] (.t 20) (.t 20)⟩, [0, 0]⟩,
        ⟨⟨(some 22), none, .mv (.t 4)⟩, []⟩,
        ⟨⟨(some 23), none, .mksl 95 1 8 [(.int .u64 0)] (.t 22) (.t 22)⟩, [2, 2]⟩,
        ⟨⟨(some 24), none, .build [.nilslice, .nilslice, (.int .u32 0), (.int .i32 0), (.int .u32 0), .nilslice, .nilslice] [(0, 1), (1, 1), (2, 3), (5, 1), (6, 1)] [(0, (.t 21)), (1, (.t 23))]⟩, [1, 3]⟩,
        ⟨⟨(some 25), none, .box 94 (.t 24)⟩, [4]⟩,
        ⟨⟨(some 5), none, .mv (.t 25)⟩, [5, 0, 1, 2, 3, 4, 5]⟩] [0, 1, 0, 4, 15, 31, 63])
      (.seq
       (.seq
        (.ops [⟨(some 26), none, .mv (.t 0)⟩,
          ⟨(some 27), none, .lenL (.t 26)⟩,
          ⟨(some 28), none, .mv (.c (.int .i64 0))⟩])
        (.block 0 (.loop (.seq
           (.ops [⟨(some 29), none, .bin .lss (.t 28) (.t 27)⟩])
           (.seq
            (.cond (.t 29)
             (.skip)
             (.exit 0))
            (.seq
             (.block 1 (.seq
               (.ops [⟨(some 30), none, .mv (.t 28)⟩,
                 ⟨(some 31), none, .iaddrS 1 (.t 26) (.t 28)⟩,
                 ⟨(some 32), none, .load none (.t 31)⟩,
                 ⟨(some 6), none, .mv (.t 30)⟩,
                 ⟨(some 7), none, .mv (.t 32)⟩])
               (.seq
                (.seq
                 (.ops [⟨(some 33), none, .mv (.t 7)⟩,
                   ⟨(some 34), none, .lenL (.t 33)⟩,
                   ⟨(some 35), none, .mv (.t 4)⟩,
                   ⟨(some 36), none, .bin .neq (.t 34) (.t 35)⟩])
                 (.cond (.t 36)
                  (.seq
                   (.ops [⟨(some 2), none, .mv (.c .nilptr)⟩,
                     ⟨(some 3), none, .mv (.c (.int .i64 8))⟩])
                   (.ret))
                  (.skip)))
                (.seq
                 (.ops [⟨(some 37), none, .mv (.t 7)⟩,
                   ⟨(some 38), none, .lenL (.t 37)⟩,
                   ⟨(some 39), none, .mv (.c (.int .i64 0))⟩])
                 (.block 2 (.loop (.seq
                    (.ops [⟨(some 40), none, .bin .lss (.t 39) (.t 38)⟩])
                    (.seq
                     (.cond (.t 40)
                      (.skip)
                      (.exit 2))
                     (.seq
                      (.block 3 (.seq
                        (.ops [⟨(some 41), none, .mv (.t 39)⟩,
                          ⟨(some 42), none, .iaddrS 1 (.t 37) (.t 39)⟩,
                          ⟨(some 43), none, .load none (.t 42)⟩,
                          ⟨(some 8), none, .mv (.t 41)⟩,
                          ⟨(some 9), none, .mv (.t 43)⟩])
                        (.seq
                         (.ops [⟨(some 44), none, .mv (.t 9)⟩])
                         (.cond (.t 44)
                          (.seq
                           (.draw [⟨⟨(some 45), none, .mv (.t 5)⟩, []⟩,
                             ⟨⟨(some 46), none, .nilck (.t 45)⟩, [0]⟩,
                             ⟨⟨(some 47), none, .addr 0 (.t 46)⟩, [1]⟩,
                             ⟨⟨(some 48), none, .load none (.t 47)⟩, [2]⟩,
                             ⟨⟨(some 49), none, .mv (.t 6)⟩, []⟩,
                             ⟨⟨(some 50), none, .iaddrS 1 (.t 48) (.t 49)⟩, [3, 4]⟩,
                             ⟨⟨(some 51), none, .load none (.t 50)⟩, [5]⟩,
                             ⟨⟨(some 52), none, .mv (.t 8)⟩, []⟩,
                             ⟨⟨(some 53), none, .bin .shl (.c (.int .u64 1)) (.t 52)⟩, [7]⟩,
                             ⟨⟨(some 54), none, .bin .or (.t 51) (.t 53)⟩, [6, 8]⟩,
                             ⟨⟨(some 55), none, .iaddrS 1 (.t 48) (.t 49)⟩, [3, 4, 0, 1, 2, 3, 4, 5, 6, 7, 8, 9]⟩,
                             ⟨⟨none, none, .store 1 (.t 55) (.t 54)⟩, [10, 9, 0, 1, 2, 3, 4, 5, 6, 7, 8, 9]⟩] [0, 1, 3, 7, 0, 31, 63, 0, 128, 511, 1023, 2047])
                           (.draw [⟨⟨(some 56), none, .mv (.t 5)⟩, []⟩,
                             ⟨⟨(some 57), none, .nilck (.t 56)⟩, [0]⟩,
                             ⟨⟨(some 58), none, .addr 1 (.t 57)⟩, [1]⟩,
                             ⟨⟨(some 59), none, .load none (.t 58)⟩, [2]⟩,
                             ⟨⟨(some 60), none, .mv (.t 8)⟩, []⟩,
                             ⟨⟨(some 61), none, .iaddrS 1 (.t 59) (.t 60)⟩, [3, 4]⟩,
                             ⟨⟨(some 62), none, .load none (.t 61)⟩, [5]⟩,
                             ⟨⟨(some 63), none, .mv (.t 6)⟩, []⟩,
                             ⟨⟨(some 64), none, .bin .shl (.c (.int .u64 1)) (.t 63)⟩, [7]⟩,
                             ⟨⟨(some 65), none, .bin .or (.t 62) (.t 64)⟩, [6, 8]⟩,
                             ⟨⟨(some 66), none, .iaddrS 1 (.t 59) (.t 60)⟩, [3, 4, 0, 1, 2, 3, 4, 5, 6, 7, 8, 9]⟩,
                             ⟨⟨none, none, .store 1 (.t 66) (.t 65)⟩, [10, 9, 0, 1, 2, 3, 4, 5, 6, 7, 8, 9]⟩] [0, 1, 3, 7, 0, 31, 63, 0, 128, 511, 1023, 2047]))
                          (.skip)))))
                      (.ops [⟨(some 67), none, .bin .add (.t 39) (.c (.int .i64 1))⟩,
                        ⟨(some 39), none, .mv (.t 67)⟩]))))))))))
             (.ops [⟨(some 68), none, .bin .add (.t 28) (.c (.int .i64 1))⟩,
               ⟨(some 28), none, .mv (.t 68)⟩])))))))
       (.seq
        (.seq
         (.ops [⟨(some 69), none, .mv (.t 5)⟩,
           ⟨(some 70), none, .call 39 [(.t 69)]⟩,
           ⟨(some 71), none, .un .not (.t 70)⟩])
         (.cond (.t 71)
          (.seq
           (.ops [⟨(some 2), none, .mv (.c .nilptr)⟩,
             ⟨(some 3), none, .mv (.c (.int .i64 1))⟩])
           (.ret))
          (.skip)))
        (.seq
         (.seq
          (.ops [⟨(some 72), none, .mv (.t 4)⟩,
            ⟨(some 73), none, .mv (.c (.int .i64 0))⟩])
          (.block 4 (.loop (.seq
             (.ops [⟨(some 74), none, .bin .lss (.t 73) (.t 72)⟩])
             (.seq
              (.cond (.t 74)
               (.skip)
               (.exit 4))
              (.seq
               (.block 5 (.seq
                 (.ops [⟨(some 75), none, .mv (.t 73)⟩,
                   ⟨(some 10), none, .mv (.t 75)⟩])
                 (.seq
                  (.ops [⟨(some 76), none, .mv (.t 10)⟩,
                    ⟨(some 77), none, .mv (.c (.int .i64 0))⟩])
                  (.block 6 (.loop (.seq
                     (.ops [⟨(some 78), none, .bin .lss (.t 77) (.t 76)⟩])
                     (.seq
                      (.cond (.t 78)
                       (.skip)
                       (.exit 6))
                      (.seq
                       (.block 7 (.seq
                         (.ops [⟨(some 79), none, .mv (.t 77)⟩,
                           ⟨(some 11), none, .mv (.t 79)⟩])
                         (.seq
                          (.draw [⟨⟨(some 80), none, .mv (.t 5)⟩, []⟩,
                            ⟨⟨(some 81), none, .nilck (.t 80)⟩, [0]⟩,
                            ⟨⟨(some 82), none, .addr 0 (.t 81)⟩, [1]⟩,
                            ⟨⟨(some 83), none, .load none (.t 82)⟩, [2]⟩,
                            ⟨⟨(some 84), none, .mv (.t 10)⟩, []⟩,
                            ⟨⟨(some 85), none, .iaddrS 1 (.t 83) (.t 84)⟩, [3, 4]⟩,
                            ⟨⟨(some 86), none, .load none (.t 85)⟩, [5]⟩,
                            ⟨⟨(some 87), none, .mv (.t 5)⟩, []⟩,
                            ⟨⟨(some 88), none, .nilck (.t 87)⟩, [7]⟩,
                            ⟨⟨(some 89), none, .addr 0 (.t 88)⟩, [8]⟩,
                            ⟨⟨(some 90), none, .load none (.t 89)⟩, [9]⟩,
                            ⟨⟨(some 91), none, .mv (.t 11)⟩, []⟩,
                            ⟨⟨(some 92), none, .iaddrS 1 (.t 90) (.t 91)⟩, [10, 11]⟩,
                            ⟨⟨(some 93), none, .load none (.t 92)⟩, [12]⟩,
                            ⟨⟨(some 94), none, .bin .and (.t 86) (.t 93)⟩, [6, 13]⟩,
                            ⟨⟨(some 95), none, .mv (.t 5)⟩, []⟩,
                            ⟨⟨(some 96), none, .nilck (.t 95)⟩, [15]⟩,
                            ⟨⟨(some 97), none, .addr 0 (.t 96)⟩, [16]⟩,
                            ⟨⟨(some 98), none, .load none (.t 97)⟩, [17]⟩,
                            ⟨⟨(some 99), none, .call 40 [(.t 94), (.t 98)]⟩, [14, 18]⟩,
                            ⟨⟨(some 100), none, .bin .lss (.t 99) (.c (.int .i64 0))⟩, [19]⟩,
                            ⟨⟨(some 101), none, .mv (.t 100)⟩, [20, 19]⟩,
                            ⟨⟨(some 102), (some (101, false)), .mv (.t 5)⟩, [21]⟩,
                            ⟨⟨(some 103), (some (101, false)), .nilck (.t 102)⟩, [22, 21]⟩,
                            ⟨⟨(some 104), (some (101, false)), .addr 1 (.t 103)⟩, [23, 21]⟩,
                            ⟨⟨(some 105), (some (101, false)), .load none (.t 104)⟩, [24, 21]⟩,
                            ⟨⟨(some 106), (some (101, false)), .mv (.t 10)⟩, [21]⟩,
                            ⟨⟨(some 107), (some (101, false)), .iaddrS 1 (.t 105) (.t 106)⟩, [25, 26, 21]⟩,
                            ⟨⟨(some 108), (some (101, false)), .load none (.t 107)⟩, [27, 21]⟩,
                            ⟨⟨(some 109), (some (101, false)), .mv (.t 5)⟩, [21]⟩,
                            ⟨⟨(some 110), (some (101, false)), .nilck (.t 109)⟩, [29, 21]⟩,
                            ⟨⟨(some 111), (some (101, false)), .addr 1 (.t 110)⟩, [30, 21]⟩,
                            ⟨⟨(some 112), (some (101, false)), .load none (.t 111)⟩, [31, 21]⟩,
                            ⟨⟨(some 113), (some (101, false)), .mv (.t 11)⟩, [21]⟩,
                            ⟨⟨(some 114), (some (101, false)), .iaddrS 1 (.t 112) (.t 113)⟩, [32, 33, 21]⟩,
                            ⟨⟨(some 115), (some (101, false)), .load none (.t 114)⟩, [34, 21]⟩,
                            ⟨⟨(some 116), (some (101, false)), .bin .and (.t 108) (.t 115)⟩, [28, 35, 21]⟩,
                            ⟨⟨(some 117), (some (101, false)), .mv (.t 5)⟩, [21]⟩,
                            ⟨⟨(some 118), (some (101, false)), .nilck (.t 117)⟩, [37, 21]⟩,
                            ⟨⟨(some 119), (some (101, false)), .addr 1 (.t 118)⟩, [38, 21]⟩,
                            ⟨⟨(some 120), (some (101, false)), .load none (.t 119)⟩, [39, 21]⟩,
                            ⟨⟨(some 121), (some (101, false)), .call 40 [(.t 116), (.t 120)]⟩, [36, 40, 21, 21]⟩,
                            ⟨⟨(some 122), (some (101, false)), .bin .lss (.t 121) (.c (.int .i64 0))⟩, [41, 21]⟩,
                            ⟨⟨(some 123), none, .pick (.t 101) (.c (.bool true)) (.t 122)⟩, [21, 42]⟩] [0, 1, 3, 7, 0, 31, 63, 0, 128, 384, 896, 0, 3968, 8064, 16383, 0, 32768, 98304, 229376, 524287, 1048575, 2097151, 4194303, 8388607, 16777215, 33554431, 4194303, 134217727, 268435455, 4194303, 541065215, 1614807039, 3762290687, 4194303, 16647192575, 33827061759, 68719476735, 4194303, 137443147775, 412321054719, 962076868607, 2199023255551, 4398046511103, 8796093022207])
                          (.cond (.t 123)
                           (.seq
                            (.ops [⟨(some 2), none, .mv (.c .nilptr)⟩,
                              ⟨(some 3), none, .mv (.c (.int .i64 1))⟩])
                            (.ret))
                           (.skip)))))
                       (.ops [⟨(some 124), none, .bin .add (.t 77) (.c (.int .i64 1))⟩,
                         ⟨(some 77), none, .mv (.t 124)⟩])))))))))
               (.ops [⟨(some 125), none, .bin .add (.t 73) (.c (.int .i64 1))⟩,
                 ⟨(some 73), none, .mv (.t 125)⟩])))))))
         (.seq
          (.ops [⟨(some 126), none, .mv (.t 5)⟩,
            ⟨(some 2), none, .mv (.t 126)⟩,
            ⟨(some 3), none, .mv (.c (.int .i64 0))⟩])
          (.ret))))))))⟩
theorem ok26 : FnOk Tryd.prog 26 a26 := FnOk.of Tryd.prog Tryd.func26 (by kernel_rfl)
/-- (*jalousie/lattice.Lattice).Len -/
def a27 : AFn := ⟨10, [.tmp 2], .seq
   (.ops [⟨(some 2), none, .mv (.c (.int .i64 0))⟩])
   (.seq
    (.seq
     (.ops [⟨(some 3), none, .mv (.t 0)⟩,
       ⟨(some 4), none, .eq false 34 (.pointer 94) (.t 3) (.c .nilptr)⟩])
     (.cond (.t 4)
      (.seq
       (.ops [⟨(some 2), none, .mv (.c (.int .i64 0))⟩])
       (.ret))
      (.skip)))
    (.seq
     (.ops [⟨(some 5), none, .mv (.t 0)⟩,
       ⟨(some 6), none, .nilck (.t 5)⟩,
       ⟨(some 7), none, .addr 0 (.t 6)⟩,
       ⟨(some 8), none, .load none (.t 7)⟩,
       ⟨(some 9), none, .lenL (.t 8)⟩,
       ⟨(some 2), none, .mv (.t 9)⟩])
     (.ret)))⟩
theorem ok27 : FnOk Tryd.prog 27 a27 := FnOk.of Tryd.prog Tryd.func27 (by kernel_rfl)
/-- (*jalousie/ids.Ids).has -/
def a28 : AFn := ⟨20, [.tmp 4], .seq
   (.ops [⟨(some 4), none, .mv (.c (.bool false))⟩])
   (.seq
    (.ops [⟨(some 5), none, .mv (.t 0)⟩,
      ⟨(some 6), none, .eq true 38 (.pointer 46) (.t 5) (.c .nilptr)⟩,
      ⟨(some 7), none, .mv (.t 6)⟩,
      ⟨(some 8), (some (7, true)), .mv (.t 1)⟩,
      ⟨(some 9), (some (7, true)), .bin .geq (.t 8) (.c (.int .i64 0))⟩,
      ⟨(some 10), none, .pick (.t 7) (.t 9) (.c (.bool false))⟩,
      ⟨(some 11), none, .mv (.t 10)⟩,
      ⟨(some 12), (some (11, true)), .mv (.t 1)⟩,
      ⟨(some 13), (some (11, true)), .mv (.t 0)⟩,
      ⟨(some 14), (some (11, true)), .nilck (.t 13)⟩,
      ⟨(some 15), (some (11, true)), .addr 0 (.t 14)⟩,
      ⟨(some 16), (some (11, true)), .load none (.t 15)⟩,
      ⟨(some 17), (some (11, true)), .lenL (.t 16)⟩,
      ⟨(some 18), (some (11, true)), .bin .lss (.t 12) (.t 17)⟩,
      ⟨(some 19), none, .pick (.t 11) (.t 18) (.c (.bool false))⟩,
      ⟨(some 4), none, .mv (.t 19)⟩])
    (.ret))⟩
theorem ok28 : FnOk Tryd.prog 28 a28 := FnOk.of Tryd.prog Tryd.func28 (by kernel_rfl)
/-- (*sync/atomic.Int64).Add -/
def a29 : AFn := ⟨10, [.tmp 4], .seq
   (.ops [⟨(some 4), none, .mv (.c (.int .i64 0))⟩])
   (.seq
    (.ops [⟨(some 5), none, .mv (.t 0)⟩,
      ⟨(some 6), none, .nilck (.t 5)⟩,
      ⟨(some 7), none, .addr 0 (.t 6)⟩,
      ⟨(some 8), none, .mv (.t 1)⟩,
      ⟨(some 9), none, .atom (.add .i64) [(.t 7), (.t 8)]⟩,
      ⟨(some 4), none, .mv (.t 9)⟩])
    (.ret))⟩
theorem ok29 : FnOk Tryd.prog 29 a29 := FnOk.of Tryd.prog Tryd.func29 (by kernel_rfl)
/-- (*sync/atomic.Int64).Load -/
def a30 : AFn := ⟨7, [.tmp 2], .seq
   (.ops [⟨(some 2), none, .mv (.c (.int .i64 0))⟩])
   (.seq
    (.ops [⟨(some 3), none, .mv (.t 0)⟩,
      ⟨(some 4), none, .nilck (.t 3)⟩,
      ⟨(some 5), none, .addr 0 (.t 4)⟩,
      ⟨(some 6), none, .atom (.load .i64) [(.t 5)]⟩,
      ⟨(some 2), none, .mv (.t 6)⟩])
    (.ret))⟩
theorem ok30 : FnOk Tryd.prog 30 a30 := FnOk.of Tryd.prog Tryd.func30 (by kernel_rfl)
/-- internal/stringslite.CutPrefix -/
def a31 : AFn := ⟨15, [.tmp 4, .tmp 5], .seq
   (.ops [⟨(some 4), none, .mv (.c (.str []))⟩,
     ⟨(some 5), none, .mv (.c (.bool false))⟩])
   (.seq
    (.seq
     (.ops [⟨(some 6), none, .mv (.t 0)⟩,
       ⟨(some 7), none, .mv (.t 1)⟩,
       ⟨(some 8), none, .call 43 [(.t 6), (.t 7)]⟩,
       ⟨(some 9), none, .un .not (.t 8)⟩])
     (.cond (.t 9)
      (.seq
       (.ops [⟨(some 10), none, .mv (.t 0)⟩,
         ⟨(some 4), none, .mv (.t 10)⟩,
         ⟨(some 5), none, .mv (.c (.bool false))⟩])
       (.ret))
      (.skip)))
    (.seq
     (.ops [⟨(some 11), none, .mv (.t 0)⟩,
       ⟨(some 12), none, .mv (.t 1)⟩,
       ⟨(some 13), none, .lenS (.t 12)⟩,
       ⟨(some 14), none, .sliceS (.t 11) (some (.t 13)) none⟩,
       ⟨(some 4), none, .mv (.t 14)⟩,
       ⟨(some 5), none, .mv (.c (.bool true))⟩])
     (.ret)))⟩
theorem ok31 : FnOk Tryd.prog 31 a31 := FnOk.of Tryd.prog Tryd.func31 (by kernel_rfl)
/-- strings.genSplit -/
def a32 : AFn := ⟨66, [.tmp 8], .seq
   (.ops [⟨(some 8), none, .mv (.c .nilslice)⟩])
   (.seq
    (.seq
     (.ops [⟨(some 12), none, .mv (.t 3)⟩,
       ⟨(some 13), none, .bin .eql (.t 12) (.c (.int .i64 0))⟩])
     (.cond (.t 13)
      (.seq
       (.ops [⟨(some 8), none, .mv (.c .nilslice)⟩])
       (.ret))
      (.skip)))
    (.seq
     (.seq
      (.ops [⟨(some 14), none, .mv (.t 1)⟩,
        ⟨(some 15), none, .bin .eql (.t 14) (.c (.str []))⟩])
      (.cond (.t 15)
       (.seq
        (.ops [⟨(some 16), none, .mv (.t 0)⟩,
          ⟨(some 17), none, .mv (.t 3)⟩,
          ⟨(some 18), none, .call 44 [(.t 16), (.t 17)]⟩,
          ⟨(some 8), none, .mv (.t 18)⟩])
        (.ret))
       (.skip)))
     (.seq
      (.seq
       (.ops [⟨(some 19), none, .mv (.t 3)⟩,
         ⟨(some 20), none, .bin .lss (.t 19) (.c (.int .i64 0))⟩])
       (.cond (.t 20)
        (.ops [⟨(some 21), none, .mv (.t 0)⟩,
          ⟨(some 22), none, .mv (.t 1)⟩,
          ⟨(some 23), none, .call 45 [(.t 21), (.t 22)]⟩,
          ⟨(some 24), none, .bin .add (.t 23) (.c (.int .i64 1))⟩,
          ⟨(some 3), none, .mv (.t 24)⟩])
        (.skip)))
      (.seq
       (.ops [⟨(some 25), none, .mv (.t 3)⟩,
         ⟨(some 26), none, .mv (.t 0)⟩,
         ⟨(some 27), none, .lenS (.t 26)⟩,
         ⟨(some 28), none, .bin .add (.t 27) (.c (.int .i64 1))⟩,
         ⟨(some 29), none, .minI (.t 25) [(.t 28)]⟩,
         ⟨(some 3), none, .mv (.t 29)⟩])
       (.seq
        (.ops [⟨(some 30), none, .mv (.t 3)⟩,
          ⟨(some 31), none, .mksl 9 1 16 [(.str [])] (.t 30) (.t 30)⟩,
          ⟨(some 9), none, .mv (.t 31)⟩])
        (.seq
         (.ops [⟨(some 32), none, .mv (.t 3)⟩,
           ⟨(some 33), none, .bin .sub (.t 32) (.c (.int .i64 1))⟩,
           ⟨(some 3), none, .mv (.t 33)⟩])
         (.seq
          (.ops [⟨(some 10), none, .mv (.c (.int .i64 0))⟩])
          (.seq
           (.block 0 (.loop (.seq
              (.seq
               (.ops [⟨(some 34), none, .mv (.t 10)⟩,
                 ⟨(some 35), none, .mv (.t 3)⟩,
                 ⟨(some 36), none, .bin .lss (.t 34) (.t 35)⟩])
               (.cond (.t 36)
                (.skip)
                (.exit 0)))
              (.block 1 (.seq
                (.ops [⟨(some 37), none, .mv (.t 0)⟩,
                  ⟨(some 38), none, .mv (.t 1)⟩,
                  ⟨(some 39), none, .call 46 [(.t 37), (.t 38)]⟩,
                  ⟨(some 11), none, .mv (.t 39)⟩])
                (.seq
                 (.seq
                  (.ops [⟨(some 40), none, .mv (.t 11)⟩,
                    ⟨(some 41), none, .bin .lss (.t 40) (.c (.int .i64 0))⟩])
                  (.cond (.t 41)
                   (.exit 0)
                   (.skip)))
                 (.seq
                  (.ops [⟨(some 42), none, .mv (.t 9)⟩,
                    ⟨(some 43), none, .mv (.t 10)⟩,
                    ⟨(some 44), none, .mv (.t 0)⟩,
                    ⟨(some 45), none, .mv (.t 11)⟩,
                    ⟨(some 46), none, .mv (.t 2)⟩,
                    ⟨(some 47), none, .bin .add (.t 45) (.t 46)⟩,
                    ⟨(some 48), none, .sliceS (.t 44) none (some (.t 47))⟩,
                    ⟨(some 49), none, .iaddrS 1 (.t 42) (.t 43)⟩,
                    ⟨none, none, .store 1 (.t 49) (.t 48)⟩])
                  (.seq
                   (.ops [⟨(some 50), none, .mv (.t 0)⟩,
                     ⟨(some 51), none, .mv (.t 11)⟩,
                     ⟨(some 52), none, .mv (.t 1)⟩,
                     ⟨(some 53), none, .lenS (.t 52)⟩,
                     ⟨(some 54), none, .bin .add (.t 51) (.t 53)⟩,
                     ⟨(some 55), none, .sliceS (.t 50) (some (.t 54)) none⟩,
                     ⟨(some 0), none, .mv (.t 55)⟩])
                   (.ops [⟨(some 56), none, .mv (.t 10)⟩,
                     ⟨(some 57), none, .bin .add (.t 56) (.c (.int .i64 1))⟩,
                     ⟨(some 10), none, .mv (.t 57)⟩])))))))))
           (.seq
            (.ops [⟨(some 58), none, .mv (.t 9)⟩,
              ⟨(some 59), none, .mv (.t 10)⟩,
              ⟨(some 60), none, .mv (.t 0)⟩,
              ⟨(some 61), none, .iaddrS 1 (.t 58) (.t 59)⟩,
              ⟨none, none, .store 1 (.t 61) (.t 60)⟩])
            (.seq
             (.ops [⟨(some 62), none, .mv (.t 9)⟩,
               ⟨(some 63), none, .mv (.t 10)⟩,
               ⟨(some 64), none, .bin .add (.t 63) (.c (.int .i64 1))⟩,
               ⟨(some 65), none, .slice 1 (.t 62) none (some (.t 64)) none⟩,
               ⟨(some 8), none, .mv (.t 65)⟩])
             (.ret)))))))))))⟩
theorem ok32 : FnOk Tryd.prog 32 a32 := FnOk.of Tryd.prog Tryd.func32 (by kernel_rfl)
/-- internal/strconv.Atoi -/
def a33 : AFn := ⟨77, [.tmp 2, .tmp 3], .seq
   (.ops [⟨(some 2), none, .mv (.c (.int .i64 0))⟩,
     ⟨(some 3), none, .mv (.c .niface)⟩])
   (.seq
    (.ops [⟨(some 11), none, .mv (.t 0)⟩,
      ⟨(some 12), none, .lenS (.t 11)⟩,
      ⟨(some 4), none, .mv (.t 12)⟩])
    (.seq
     (.seq
      (.ops [⟨(some 13), none, .mv (.c (.bool false))⟩,
        ⟨(some 14), (some (13, true)), .mv (.t 4)⟩,
        ⟨(some 15), (some (13, true)), .bin .lss (.c (.int .i64 0)) (.t 14)⟩,
        ⟨(some 16), (some (13, true)), .mv (.t 15)⟩,
        ⟨(some 17), (some (16, true)), .mv (.t 4)⟩,
        ⟨(some 18), (some (16, true)), .bin .lss (.t 17) (.c (.int .i64 10))⟩,
        ⟨(some 19), (some (13, true)), .pick (.t 16) (.t 18) (.c (.bool false))⟩,
        ⟨(some 20), none, .pick (.t 13) (.t 19) (.c (.bool false))⟩,
        ⟨(some 21), none, .mv (.t 20)⟩,
        ⟨(some 22), (some (21, false)), .mv (.c (.bool true))⟩,
        ⟨(some 23), (some (22, true)), .mv (.t 4)⟩,
        ⟨(some 24), (some (22, true)), .bin .lss (.c (.int .i64 0)) (.t 23)⟩,
        ⟨(some 25), (some (22, true)), .mv (.t 24)⟩,
        ⟨(some 26), (some (25, true)), .mv (.t 4)⟩,
        ⟨(some 27), (some (25, true)), .bin .lss (.t 26) (.c (.int .i64 19))⟩,
        ⟨(some 28), (some (22, true)), .pick (.t 25) (.t 27) (.c (.bool false))⟩,
        ⟨(some 29), (some (21, false)), .pick (.t 22) (.t 28) (.c (.bool false))⟩,
        ⟨(some 30), none, .pick (.t 21) (.c (.bool true)) (.t 29)⟩])
      (.cond (.t 30)
       (.seq
        (.ops [⟨(some 31), none, .mv (.t 0)⟩,
          ⟨(some 5), none, .mv (.t 31)⟩])
        (.seq
         (.seq
          (.ops [⟨(some 32), none, .mv (.t 0)⟩,
            ⟨(some 33), none, .idxS (.t 32) (.c (.int .i64 0))⟩,
            ⟨(some 34), none, .bin .eql (.t 33) (.c (.int .u8 45))⟩,
            ⟨(some 35), none, .mv (.t 34)⟩,
            ⟨(some 36), (some (35, false)), .mv (.t 0)⟩,
            ⟨(some 37), (some (35, false)), .idxS (.t 36) (.c (.int .i64 0))⟩,
            ⟨(some 38), (some (35, false)), .bin .eql (.t 37) (.c (.int .u8 43))⟩,
            ⟨(some 39), none, .pick (.t 35) (.c (.bool true)) (.t 38)⟩])
          (.cond (.t 39)
           (.seq
            (.ops [⟨(some 40), none, .mv (.t 0)⟩,
              ⟨(some 41), none, .sliceS (.t 40) (some (.c (.int .i64 1))) none⟩,
              ⟨(some 0), none, .mv (.t 41)⟩])
            (.seq
             (.ops [⟨(some 42), none, .mv (.t 0)⟩,
               ⟨(some 43), none, .lenS (.t 42)⟩,
               ⟨(some 44), none, .bin .lss (.t 43) (.c (.int .i64 1))⟩])
             (.cond (.t 44)
              (.seq
               (.ops [⟨(some 45), none, .bad⟩,
                 ⟨(some 2), none, .mv (.c (.int .i64 0))⟩,
                 ⟨(some 3), none, .mv (.t 45)⟩])
               (.ret))
              (.skip))))
           (.skip)))
         (.seq
          (.ops [⟨(some 6), none, .mv (.c (.int .i64 0))⟩])
          (.seq
           (.seq
            (.ops [⟨(some 46), none, .mv (.t 0)⟩,
              ⟨(some 47), none, .bad⟩,
              ⟨(some 48), none, .lenL (.t 47)⟩,
              ⟨(some 49), none, .mv (.c (.int .i64 0))⟩])
            (.block 0 (.loop (.seq
               (.ops [⟨(some 50), none, .bin .lss (.t 49) (.t 48)⟩])
               (.seq
                (.cond (.t 50)
                 (.skip)
                 (.exit 0))
                (.seq
                 (.block 1 (.seq
                   (.ops [⟨(some 51), none, .iaddrS 1 (.t 47) (.t 49)⟩,
                     ⟨(some 52), none, .load none (.t 51)⟩,
                     ⟨(some 8), none, .mv (.t 52)⟩])
                   (.seq
                    (.ops [⟨(some 53), none, .mv (.t 8)⟩,
                      ⟨(some 54), none, .bin .sub (.t 53) (.c (.int .u8 48))⟩,
                      ⟨(some 8), none, .mv (.t 54)⟩])
                    (.seq
                     (.seq
                      (.ops [⟨(some 55), none, .mv (.t 8)⟩,
                        ⟨(some 56), none, .bin .gtr (.t 55) (.c (.int .u8 9))⟩])
                      (.cond (.t 56)
                       (.seq
                        (.ops [⟨(some 57), none, .bad⟩,
                          ⟨(some 2), none, .mv (.c (.int .i64 0))⟩,
                          ⟨(some 3), none, .mv (.t 57)⟩])
                        (.ret))
                       (.skip)))
                     (.ops [⟨(some 58), none, .mv (.t 6)⟩,
                       ⟨(some 59), none, .bin .mul (.t 58) (.c (.int .i64 10))⟩,
                       ⟨(some 60), none, .mv (.t 8)⟩,
                       ⟨(some 61), none, .convI .i64 (.t 60)⟩,
                       ⟨(some 62), none, .bin .add (.t 59) (.t 61)⟩,
                       ⟨(some 6), none, .mv (.t 62)⟩])))))
                 (.ops [⟨(some 63), none, .bin .add (.t 49) (.c (.int .i64 1))⟩,
                   ⟨(some 49), none, .mv (.t 63)⟩])))))))
           (.seq
            (.seq
             (.ops [⟨(some 64), none, .mv (.t 5)⟩,
               ⟨(some 65), none, .idxS (.t 64) (.c (.int .i64 0))⟩,
               ⟨(some 66), none, .bin .eql (.t 65) (.c (.int .u8 45))⟩])
             (.cond (.t 66)
              (.ops [⟨(some 67), none, .mv (.t 6)⟩,
                ⟨(some 68), none, .un .neg (.t 67)⟩,
                ⟨(some 6), none, .mv (.t 68)⟩])
              (.skip)))
            (.seq
             (.ops [⟨(some 69), none, .mv (.t 6)⟩,
               ⟨(some 2), none, .mv (.t 69)⟩,
               ⟨(some 3), none, .mv (.c .niface)⟩])
             (.ret)))))))
       (.skip)))
     (.seq
      (.ops [⟨(some 71), none, .mv (.t 0)⟩,
        ⟨(some 72), none, .call 47 [(.t 71), (.c (.int .i64 10)), (.c (.int .i64 0))]⟩,
        ⟨(some 70), none, .mv (.t 72)⟩,
        ⟨(some 73), none, .ext (.t 70) 0⟩,
        ⟨(some 74), none, .ext (.t 70) 1⟩,
        ⟨(some 9), none, .mv (.t 73)⟩,
        ⟨(some 10), none, .mv (.t 74)⟩])
      (.seq
       (.ops [⟨(some 75), none, .mv (.t 9)⟩,
         ⟨(some 76), none, .mv (.t 10)⟩,
         ⟨(some 2), none, .mv (.t 75)⟩,
         ⟨(some 3), none, .mv (.t 76)⟩])
       (.ret)))))⟩
theorem ok33 : FnOk Tryd.prog 33 a33 := FnOk.of Tryd.prog Tryd.func33 (by kernel_rfl)
/-- strconv.toError -/
def a34 : AFn := ⟨43, [.tmp 10], .seq
   (.ops [⟨(some 10), none, .mv (.c .niface)⟩])
   (.seq
    (.seq
     (.ops [⟨(some 11), none, .mv (.t 4)⟩])
     (.block 0 (.seq
       (.ops [⟨(some 13), none, .bad⟩,
         ⟨(some 14), none, .eq false 55 (.interface #[("Error", 80)]) (.t 11) (.t 13)⟩,
         ⟨(some 12), none, .mv (.t 14)⟩])
       (.cond (.t 12)
        (.seq
         (.ops [⟨(some 15), none, .mv (.t 0)⟩,
           ⟨(some 16), none, .mv (.t 1)⟩,
           ⟨(some 17), none, .call 48 [(.t 15), (.t 16)]⟩,
           ⟨(some 18), none, .bad⟩,
           ⟨(some 10), none, .mv (.t 18)⟩])
         (.ret))
        (.seq
         (.ops [⟨(some 20), none, .bad⟩,
           ⟨(some 21), none, .eq false 55 (.interface #[("Error", 80)]) (.t 11) (.t 20)⟩,
           ⟨(some 19), none, .mv (.t 21)⟩])
         (.cond (.t 19)
          (.seq
           (.ops [⟨(some 22), none, .mv (.t 0)⟩,
             ⟨(some 23), none, .mv (.t 1)⟩,
             ⟨(some 24), none, .call 49 [(.t 22), (.t 23)]⟩,
             ⟨(some 25), none, .bad⟩,
             ⟨(some 10), none, .mv (.t 25)⟩])
           (.ret))
          (.seq
           (.ops [⟨(some 27), none, .bad⟩,
             ⟨(some 28), none, .eq false 55 (.interface #[("Error", 80)]) (.t 11) (.t 27)⟩,
             ⟨(some 26), none, .mv (.t 28)⟩])
           (.cond (.t 26)
            (.seq
             (.ops [⟨(some 29), none, .mv (.t 0)⟩,
               ⟨(some 30), none, .mv (.t 1)⟩,
               ⟨(some 31), none, .mv (.t 2)⟩,
               ⟨(some 32), none, .call 50 [(.t 29), (.t 30), (.t 31)]⟩,
               ⟨(some 33), none, .bad⟩,
               ⟨(some 10), none, .mv (.t 33)⟩])
             (.ret))
            (.seq
             (.ops [⟨(some 35), none, .bad⟩,
               ⟨(some 36), none, .eq false 55 (.interface #[("Error", 80)]) (.t 11) (.t 35)⟩,
               ⟨(some 34), none, .mv (.t 36)⟩])
             (.cond (.t 34)
              (.seq
               (.ops [⟨(some 37), none, .mv (.t 0)⟩,
                 ⟨(some 38), none, .mv (.t 1)⟩,
                 ⟨(some 39), none, .mv (.t 3)⟩,
                 ⟨(some 40), none, .call 51 [(.t 37), (.t 38), (.t 39)]⟩,
                 ⟨(some 41), none, .bad⟩,
                 ⟨(some 10), none, .mv (.t 41)⟩])
               (.ret))
              (.skip)))))))))))
    (.seq
     (.ops [⟨(some 42), none, .mv (.t 4)⟩,
       ⟨(some 10), none, .mv (.t 42)⟩])
     (.ret)))⟩
theorem ok34 : FnOk Tryd.prog 34 a34 := FnOk.of Tryd.prog Tryd.func34 (by kernel_rfl)
/-- internal/strconv.Itoa -/
def a35 : AFn := ⟨5, [.tmp 2], .seq
   (.ops [⟨(some 2), none, .mv (.c (.str []))⟩])
   (.seq
    (.ops [⟨(some 3), none, .mv (.t 0)⟩,
      ⟨(some 4), none, .call 52 [(.t 3), (.c (.int .i64 10))]⟩,
      ⟨(some 2), none, .mv (.t 4)⟩])
    (.ret))⟩
theorem ok35 : FnOk Tryd.prog 35 a35 := FnOk.of Tryd.prog Tryd.func35 (by kernel_rfl)
/-- (*strings.Builder).Grow -/
def a36 : AFn := ⟨25, [], .seq
   (.ops [⟨(some 4), none, .mv (.t 0)⟩,
     ⟨(some 5), none, .call 53 [(.t 4)]⟩])
   (.seq
    (.seq
     (.ops [⟨(some 6), none, .mv (.t 1)⟩,
       ⟨(some 7), none, .bin .lss (.t 6) (.c (.int .i64 0))⟩])
     (.cond (.t 7)
      (.ops [⟨(some 8), none, .bad⟩,
        ⟨none, none, .bad⟩])
      (.skip)))
    (.seq
     (.draw [⟨⟨(some 9), none, .mv (.t 0)⟩, []⟩,
       ⟨⟨(some 10), none, .nilck (.t 9)⟩, [0]⟩,
       ⟨⟨(some 11), none, .addr 1 (.t 10)⟩, [1]⟩,
       ⟨⟨(some 12), none, .load none (.t 11)⟩, [2]⟩,
       ⟨⟨(some 13), none, .cap (.t 12)⟩, [3]⟩,
       ⟨⟨(some 14), none, .mv (.t 0)⟩, []⟩,
       ⟨⟨(some 15), none, .nilck (.t 14)⟩, [5]⟩,
       ⟨⟨(some 16), none, .addr 1 (.t 15)⟩, [6]⟩,
       ⟨⟨(some 17), none, .load none (.t 16)⟩, [7]⟩,
       ⟨⟨(some 18), none, .lenL (.t 17)⟩, [8]⟩,
       ⟨⟨(some 19), none, .bin .sub (.t 13) (.t 18)⟩, [4, 9]⟩,
       ⟨⟨(some 20), none, .mv (.t 1)⟩, []⟩,
       ⟨⟨(some 21), none, .bin .lss (.t 19) (.t 20)⟩, [10, 11]⟩] [0, 1, 3, 7, 15, 0, 32, 96, 224, 480, 1023, 0, 4095])
     (.cond (.t 21)
      (.ops [⟨(some 22), none, .mv (.t 0)⟩,
        ⟨(some 23), none, .mv (.t 1)⟩,
        ⟨(some 24), none, .call 54 [(.t 22), (.t 23)]⟩])
      (.skip))))⟩
theorem ok36 : FnOk Tryd.prog 36 a36 := FnOk.of Tryd.prog Tryd.func36 (by kernel_rfl)
/-- (*strings.Builder).WriteString -/
def a37 : AFn := ⟨19, [.tmp 4, .tmp 5], .seq
   (.ops [⟨(some 4), none, .mv (.c (.int .i64 0))⟩,
     ⟨(some 5), none, .mv (.c .niface)⟩])
   (.seq
    (.ops [⟨(some 6), none, .mv (.t 0)⟩,
      ⟨(some 7), none, .call 53 [(.t 6)]⟩])
    (.seq
     (.ops [⟨(some 8), none, .mv (.t 0)⟩,
       ⟨(some 9), none, .mv (.t 0)⟩,
       ⟨(some 10), none, .nilck (.t 9)⟩,
       ⟨(some 11), none, .addr 1 (.t 10)⟩,
       ⟨(some 12), none, .load none (.t 11)⟩,
       ⟨(some 13), none, .mv (.t 1)⟩,
       ⟨(some 14), none, .append 5 1 1 (.t 12) (.t 13)⟩,
       ⟨(some 15), none, .nilck (.t 8)⟩,
       ⟨(some 16), none, .addr 1 (.t 15)⟩,
       ⟨none, none, .store 1 (.t 16) (.t 14)⟩])
     (.seq
      (.ops [⟨(some 17), none, .mv (.t 1)⟩,
        ⟨(some 18), none, .lenS (.t 17)⟩,
        ⟨(some 4), none, .mv (.t 18)⟩,
        ⟨(some 5), none, .mv (.c .niface)⟩])
      (.ret))))⟩
theorem ok37 : FnOk Tryd.prog 37 a37 := FnOk.of Tryd.prog Tryd.func37 (by kernel_rfl)
/-- (*strings.Builder).String -/
def a38 : AFn := ⟨14, [.tmp 2], .seq
   (.ops [⟨(some 2), none, .mv (.c (.str []))⟩])
   (.seq
    (.draw [⟨⟨(some 3), none, .mv (.t 0)⟩, []⟩,
      ⟨⟨(some 4), none, .nilck (.t 3)⟩, [0]⟩,
      ⟨⟨(some 5), none, .addr 1 (.t 4)⟩, [1]⟩,
      ⟨⟨(some 6), none, .load none (.t 5)⟩, [2]⟩,
      ⟨⟨(some 7), none, .bad⟩, [3]⟩,
      ⟨⟨(some 8), none, .mv (.t 0)⟩, []⟩,
      ⟨⟨(some 9), none, .nilck (.t 8)⟩, [5]⟩,
      ⟨⟨(some 10), none, .addr 1 (.t 9)⟩, [6]⟩,
      ⟨⟨(some 11), none, .load none (.t 10)⟩, [7]⟩,
      ⟨⟨(some 12), none, .lenL (.t 11)⟩, [8]⟩,
      ⟨⟨(some 13), none, .bad⟩, [4, 9]⟩,
      ⟨⟨(some 2), none, .mv (.t 13)⟩, [10, 0, 1, 2, 3, 4, 5, 6, 7, 8, 9, 10]⟩] [0, 1, 3, 7, 15, 0, 32, 96, 224, 480, 1023, 2047])
    (.ret))⟩
theorem ok38 : FnOk Tryd.prog 38 a38 := FnOk.of Tryd.prog Tryd.func38 (by kernel_rfl)

end Go.Proofs.YtgdmalobagncpaaDoor.Fns
