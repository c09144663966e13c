/- Functions of the translated code as the abstract machine reads them, printed by program; each is checked against the code. -/
import Derived.Test.YtjglohfkpigdfaaDoorProg
import Derived.Test.YtjglohfkpigdfaaDoorAmEval
namespace Go.Proofs.YtjglohfkpigdfaaDoor.Fns
open Go Go.RowKit Am Go.Proofs.YtjglohfkpigdfaaDoor
set_option maxRecDepth 100000
/-- gosem.cut.init -/
def a2 : AFn := ⟨1, [], .ops [⟨(some 0), none, .bad⟩]⟩
theorem ok2 : FnOk Tryd.prog 2 a2 := FnOk.of Tryd.prog Tryd.func2 (by kernel_rfl)
/-- jalousie/jalousielaw01.LatticeKnown -/
def a3 : AFn := ⟨128, [.tmp 0], .seq
   (.ops [⟨(some 0), none, .mv (.c (.bool false))⟩])
   (.seq
    (.ops [⟨(some 18), none, .bslice 4 1 2 [(.bool false)] [(0, (.c (.bool true))), (1, (.c (.bool false)))]⟩,
      ⟨(some 19), none, .bslice 4 1 2 [(.bool false)] [(0, (.c (.bool false))), (1, (.c (.bool true)))]⟩,
      ⟨(some 20), none, .bslice 26 1 2 [.nilslice] [(0, (.t 18)), (1, (.t 19))]⟩,
      ⟨(some 21), none, .call 9 [(.t 20)]⟩,
      ⟨(some 17), none, .mv (.t 21)⟩,
      ⟨(some 22), none, .ext (.t 17) 0⟩,
      ⟨(some 23), none, .ext (.t 17) 1⟩,
      ⟨(some 1), none, .mv (.t 22)⟩,
      ⟨(some 2), none, .mv (.t 23)⟩])
    (.seq
     (.ops [⟨(some 25), none, .call 9 [(.c .nilslice)]⟩,
       ⟨(some 24), none, .mv (.t 25)⟩,
       ⟨(some 26), none, .ext (.t 24) 0⟩,
       ⟨(some 27), none, .ext (.t 24) 1⟩,
       ⟨(some 3), none, .mv (.t 26)⟩,
       ⟨(some 4), none, .mv (.t 27)⟩])
     (.seq
      (.ops [⟨(some 29), none, .bslice 4 1 2 [(.bool false)] [(0, (.c (.bool true))), (1, (.c (.bool true)))]⟩,
        ⟨(some 30), none, .bslice 4 1 1 [(.bool false)] [(0, (.c (.bool true)))]⟩,
        ⟨(some 31), none, .bslice 26 1 2 [.nilslice] [(0, (.t 29)), (1, (.t 30))]⟩,
        ⟨(some 32), none, .call 9 [(.t 31)]⟩,
        ⟨(some 28), none, .mv (.t 32)⟩,
        ⟨(some 33), none, .ext (.t 28) 0⟩,
        ⟨(some 34), none, .ext (.t 28) 1⟩,
        ⟨(some 5), none, .mv (.t 33)⟩,
        ⟨(some 6), none, .mv (.t 34)⟩])
      (.seq
       (.ops [⟨(some 36), none, .bslice 4 1 1 [(.bool false)] [(0, (.c (.bool false)))]⟩,
         ⟨(some 37), none, .bslice 26 1 1 [.nilslice] [(0, (.t 36))]⟩,
         ⟨(some 38), none, .call 9 [(.t 37)]⟩,
         ⟨(some 35), none, .mv (.t 38)⟩,
         ⟨(some 39), none, .ext (.t 35) 0⟩,
         ⟨(some 40), none, .ext (.t 35) 1⟩,
         ⟨(some 7), none, .mv (.t 39)⟩,
         ⟨(some 8), none, .mv (.t 40)⟩])
       (.seq
        (.ops [⟨(some 42), none, .bslice 4 1 2 [(.bool false)] [(0, (.c (.bool true))), (1, (.c (.bool true)))]⟩,
          ⟨(some 43), none, .bslice 4 1 2 [(.bool false)] [(0, (.c (.bool true))), (1, (.c (.bool true)))]⟩,
          ⟨(some 44), none, .bslice 26 1 2 [.nilslice] [(0, (.t 42)), (1, (.t 43))]⟩,
          ⟨(some 45), none, .call 9 [(.t 44)]⟩,
          ⟨(some 41), none, .mv (.t 45)⟩,
          ⟨(some 46), none, .ext (.t 41) 0⟩,
          ⟨(some 47), none, .ext (.t 41) 1⟩,
          ⟨(some 9), none, .mv (.t 46)⟩,
          ⟨(some 10), none, .mv (.t 47)⟩])
        (.seq
         (.ops [⟨(some 49), none, .call 10 [(.c (.int .i64 64)), (.c (.int .i64 1))]⟩,
           ⟨(some 48), none, .mv (.t 49)⟩,
           ⟨(some 50), none, .ext (.t 48) 0⟩,
           ⟨(some 51), none, .ext (.t 48) 1⟩,
           ⟨(some 11), none, .mv (.t 50)⟩,
           ⟨(some 12), none, .mv (.t 51)⟩])
         (.seq
          (.ops [⟨(some 53), none, .call 10 [(.c (.int .i64 1)), (.c (.int .i64 6))]⟩,
            ⟨(some 52), none, .mv (.t 53)⟩,
            ⟨(some 54), none, .ext (.t 52) 0⟩,
            ⟨(some 55), none, .ext (.t 52) 1⟩,
            ⟨(some 13), none, .mv (.t 54)⟩,
            ⟨(some 14), none, .mv (.t 55)⟩])
          (.seq
           (.ops [⟨(some 57), none, .call 10 [(.c (.int .i64 3)), (.c (.int .i64 2))]⟩,
             ⟨(some 56), none, .mv (.t 57)⟩,
             ⟨(some 58), none, .ext (.t 56) 0⟩,
             ⟨(some 59), none, .ext (.t 56) 1⟩,
             ⟨(some 15), none, .mv (.t 58)⟩,
             ⟨(some 16), none, .mv (.t 59)⟩])
           (.seq
            (.ops [⟨(some 60), none, .call 11 []⟩,
              ⟨(some 61), none, .mv (.t 60)⟩,
              ⟨(some 62), (some (61, true)), .mv (.t 2)⟩,
              ⟨(some 63), (some (61, true)), .bin .eql (.t 62) (.c (.int .i64 1))⟩,
              ⟨(some 64), none, .pick (.t 61) (.t 63) (.c (.bool false))⟩,
              ⟨(some 65), none, .mv (.t 64)⟩,
              ⟨(some 66), (some (65, true)), .mv (.t 4)⟩,
              ⟨(some 67), (some (65, true)), .bin .eql (.t 66) (.c (.int .i64 3))⟩,
              ⟨(some 68), none, .pick (.t 65) (.t 67) (.c (.bool false))⟩,
              ⟨(some 69), none, .mv (.t 68)⟩,
              ⟨(some 70), (some (69, true)), .mv (.t 6)⟩,
              ⟨(some 71), (some (69, true)), .bin .eql (.t 70) (.c (.int .i64 8))⟩,
              ⟨(some 72), none, .pick (.t 69) (.t 71) (.c (.bool false))⟩,
              ⟨(some 73), none, .mv (.t 72)⟩,
              ⟨(some 74), (some (73, true)), .mv (.t 8)⟩,
              ⟨(some 75), (some (73, true)), .bin .eql (.t 74) (.c (.int .i64 1))⟩,
              ⟨(some 76), none, .pick (.t 73) (.t 75) (.c (.bool false))⟩,
              ⟨(some 77), none, .mv (.t 76)⟩,
              ⟨(some 78), (some (77, true)), .mv (.t 10)⟩,
              ⟨(some 79), (some (77, true)), .bin .eql (.t 78) (.c (.int .i64 1))⟩,
              ⟨(some 80), none, .pick (.t 77) (.t 79) (.c (.bool false))⟩,
              ⟨(some 81), none, .mv (.t 80)⟩,
              ⟨(some 82), (some (81, true)), .mv (.t 12)⟩,
              ⟨(some 83), (some (81, true)), .bin .eql (.t 82) (.c (.int .i64 1))⟩,
              ⟨(some 84), none, .pick (.t 81) (.t 83) (.c (.bool false))⟩,
              ⟨(some 85), none, .mv (.t 84)⟩,
              ⟨(some 86), (some (85, true)), .mv (.t 14)⟩,
              ⟨(some 87), (some (85, true)), .bin .eql (.t 86) (.c (.int .i64 0))⟩,
              ⟨(some 88), none, .pick (.t 85) (.t 87) (.c (.bool false))⟩,
              ⟨(some 89), none, .mv (.t 88)⟩,
              ⟨(some 90), (some (89, true)), .mv (.t 13)⟩,
              ⟨(some 91), (some (89, true)), .call 12 [(.t 90)]⟩,
              ⟨(some 92), (some (89, true)), .bin .eql (.t 91) (.c (.int .i64 64))⟩,
              ⟨(some 93), none, .pick (.t 89) (.t 92) (.c (.bool false))⟩,
              ⟨(some 94), none, .mv (.t 93)⟩,
              ⟨(some 95), (some (94, true)), .mv (.t 13)⟩,
              ⟨(some 96), (some (94, true)), .call 13 [(.t 95)]⟩,
              ⟨(some 97), (some (94, true)), .bin .eql (.t 96) (.c (.int .i64 63))⟩,
              ⟨(some 98), none, .pick (.t 94) (.t 97) (.c (.bool false))⟩,
              ⟨(some 99), none, .mv (.t 98)⟩,
              ⟨(some 100), (some (99, true)), .mv (.t 13)⟩,
              ⟨(some 101), (some (99, true)), .call 14 [(.t 100)]⟩,
              ⟨(some 102), (some (99, true)), .bin .eql (.t 101) (.c (.int .i64 0))⟩,
              ⟨(some 103), none, .pick (.t 99) (.t 102) (.c (.bool false))⟩,
              ⟨(some 104), none, .mv (.t 103)⟩,
              ⟨(some 105), (some (104, true)), .mv (.t 16)⟩,
              ⟨(some 106), (some (104, true)), .bin .eql (.t 105) (.c (.int .i64 0))⟩,
              ⟨(some 107), none, .pick (.t 104) (.t 106) (.c (.bool false))⟩,
              ⟨(some 108), none, .mv (.t 107)⟩,
              ⟨(some 109), (some (108, true)), .mv (.t 15)⟩,
              ⟨(some 110), (some (108, true)), .call 12 [(.t 109)]⟩,
              ⟨(some 111), (some (108, true)), .bin .eql (.t 110) (.c (.int .i64 12))⟩,
              ⟨(some 112), none, .pick (.t 108) (.t 111) (.c (.bool false))⟩,
              ⟨(some 113), none, .mv (.t 112)⟩,
              ⟨(some 114), (some (113, true)), .mv (.t 15)⟩,
              ⟨(some 115), (some (113, true)), .call 13 [(.t 114)]⟩,
              ⟨(some 116), (some (113, true)), .bin .eql (.t 115) (.c (.int .i64 11))⟩,
              ⟨(some 117), none, .pick (.t 113) (.t 116) (.c (.bool false))⟩,
              ⟨(some 118), none, .mv (.t 117)⟩,
              ⟨(some 119), (some (118, true)), .mv (.t 15)⟩,
              ⟨(some 120), (some (118, true)), .call 15 [(.t 119), (.c (.int .i64 2)), (.c (.int .i64 3))]⟩,
              ⟨(some 121), (some (118, true)), .bin .eql (.t 120) (.c (.int .i64 5))⟩,
              ⟨(some 122), none, .pick (.t 118) (.t 121) (.c (.bool false))⟩,
              ⟨(some 123), none, .mv (.t 122)⟩,
              ⟨(some 124), (some (123, true)), .mv (.t 15)⟩,
              ⟨(some 125), (some (123, true)), .call 16 [(.t 124), (.c (.int .i64 2)), (.c (.int .i64 3))]⟩,
              ⟨(some 126), (some (123, true)), .bin .eql (.t 125) (.c (.int .i64 0))⟩,
              ⟨(some 127), none, .pick (.t 123) (.t 126) (.c (.bool false))⟩,
              ⟨(some 0), none, .mv (.t 127)⟩])
            (.ret))))))))))⟩
theorem ok3 : FnOk Tryd.prog 3 a3 := FnOk.of Tryd.prog Tryd.func3 (by kernel_rfl)
/-- jalousie/jalousielaw01.LatticeTells -/
def a4 : AFn := ⟨43, [.tmp 6], .seq
   (.ops [⟨(some 6), none, .mv (.c (.bool false))⟩])
   (.seq
    (.seq
     (.ops [⟨(some 10), none, .call 11 []⟩,
       ⟨(some 11), none, .un .not (.t 10)⟩])
     (.cond (.t 11)
      (.seq
       (.ops [⟨(some 6), none, .mv (.c (.bool false))⟩])
       (.ret))
      (.skip)))
    (.seq
     (.seq
      (.ops [⟨(some 12), none, .mv (.t 0)⟩,
        ⟨(some 13), none, .call 17 [(.t 12)]⟩])
      (.cond (.t 13)
       (.seq
        (.ops [⟨(some 6), none, .mv (.c (.bool true))⟩])
        (.ret))
       (.skip)))
     (.seq
      (.ops [⟨(some 15), none, .mv (.t 0)⟩,
        ⟨(some 16), none, .call 9 [(.t 15)]⟩,
        ⟨(some 14), none, .mv (.t 16)⟩,
        ⟨(some 17), none, .ext (.t 14) 0⟩,
        ⟨(some 18), none, .ext (.t 14) 1⟩,
        ⟨(some 7), none, .mv (.t 17)⟩,
        ⟨(some 8), none, .mv (.t 18)⟩])
      (.seq
       (.seq
        (.ops [⟨(some 19), none, .mv (.t 0)⟩,
          ⟨(some 20), none, .call 18 [(.t 19)]⟩,
          ⟨(some 9), none, .mv (.t 20)⟩])
        (.seq
         (.ops [⟨(some 21), none, .mv (.t 9)⟩,
           ⟨(some 22), none, .bin .neq (.t 21) (.c (.int .i64 0))⟩])
         (.cond (.t 22)
          (.seq
           (.ops [⟨(some 23), none, .mv (.t 8)⟩,
             ⟨(some 24), none, .mv (.t 9)⟩,
             ⟨(some 25), none, .bin .eql (.t 23) (.t 24)⟩,
             ⟨(some 26), none, .mv (.t 25)⟩,
             ⟨(some 27), (some (26, true)), .mv (.t 7)⟩,
             ⟨(some 28), (some (26, true)), .eq false 22 (.pointer 53) (.t 27) (.c .nilptr)⟩,
             ⟨(some 29), none, .pick (.t 26) (.t 28) (.c (.bool false))⟩,
             ⟨(some 6), none, .mv (.t 29)⟩])
           (.ret))
          (.skip))))
       (.seq
        (.ops [⟨(some 30), none, .mv (.t 8)⟩,
          ⟨(some 31), none, .bin .eql (.t 30) (.c (.int .i64 0))⟩,
          ⟨(some 32), none, .mv (.t 31)⟩,
          ⟨(some 33), (some (32, true)), .mv (.t 7)⟩,
          ⟨(some 34), (some (32, true)), .eq true 22 (.pointer 53) (.t 33) (.c .nilptr)⟩,
          ⟨(some 35), none, .pick (.t 32) (.t 34) (.c (.bool false))⟩,
          ⟨(some 36), none, .mv (.t 35)⟩,
          ⟨(some 37), (some (36, true)), .mv (.t 7)⟩,
          ⟨(some 38), (some (36, true)), .mv (.t 0)⟩,
          ⟨(some 39), (some (36, true)), .mv (.t 1)⟩,
          ⟨(some 40), (some (36, true)), .mv (.t 2)⟩,
          ⟨(some 41), (some (36, true)), .call 19 [(.t 37), (.t 38), (.t 39), (.t 40)]⟩,
          ⟨(some 42), none, .pick (.t 36) (.t 41) (.c (.bool false))⟩,
          ⟨(some 6), none, .mv (.t 42)⟩])
        (.ret))))))⟩
theorem ok4 : FnOk Tryd.prog 4 a4 := FnOk.of Tryd.prog Tryd.func4 (by kernel_rfl)
/-- jalousie/jalousielaw01.LatticeRanks -/
def a5 : AFn := ⟨45, [.tmp 8], .seq
   (.ops [⟨(some 8), none, .mv (.c (.bool false))⟩])
   (.seq
    (.seq
     (.ops [⟨(some 12), none, .call 11 []⟩,
       ⟨(some 13), none, .un .not (.t 12)⟩])
     (.cond (.t 13)
      (.seq
       (.ops [⟨(some 8), none, .mv (.c (.bool false))⟩])
       (.ret))
      (.skip)))
    (.seq
     (.ops [⟨(some 15), none, .mv (.t 0)⟩,
       ⟨(some 16), none, .mv (.t 1)⟩,
       ⟨(some 17), none, .call 10 [(.t 15), (.t 16)]⟩,
       ⟨(some 14), none, .mv (.t 17)⟩,
       ⟨(some 18), none, .ext (.t 14) 0⟩,
       ⟨(some 19), none, .ext (.t 14) 1⟩,
       ⟨(some 9), none, .mv (.t 18)⟩,
       ⟨(some 10), none, .mv (.t 19)⟩])
     (.seq
      (.ops [⟨(some 20), none, .mv (.t 0)⟩,
        ⟨(some 21), none, .mv (.t 1)⟩,
        ⟨(some 22), none, .call 20 [(.t 20), (.t 21)]⟩,
        ⟨(some 11), none, .mv (.t 22)⟩])
      (.seq
       (.seq
        (.ops [⟨(some 23), none, .mv (.t 11)⟩,
          ⟨(some 24), none, .lenL (.t 23)⟩,
          ⟨(some 25), none, .bin .eql (.t 24) (.c (.int .i64 0))⟩])
        (.cond (.t 25)
         (.seq
          (.ops [⟨(some 26), none, .mv (.t 10)⟩,
            ⟨(some 27), none, .bin .eql (.t 26) (.c (.int .i64 1))⟩,
            ⟨(some 28), none, .mv (.t 27)⟩,
            ⟨(some 29), (some (28, true)), .mv (.t 9)⟩,
            ⟨(some 30), (some (28, true)), .eq false 22 (.pointer 53) (.t 29) (.c .nilptr)⟩,
            ⟨(some 31), none, .pick (.t 28) (.t 30) (.c (.bool false))⟩,
            ⟨(some 8), none, .mv (.t 31)⟩])
          (.ret))
         (.skip)))
       (.seq
        (.ops [⟨(some 32), none, .mv (.t 10)⟩,
          ⟨(some 33), none, .bin .eql (.t 32) (.c (.int .i64 0))⟩,
          ⟨(some 34), none, .mv (.t 33)⟩,
          ⟨(some 35), (some (34, true)), .mv (.t 9)⟩,
          ⟨(some 36), (some (34, true)), .eq true 22 (.pointer 53) (.t 35) (.c .nilptr)⟩,
          ⟨(some 37), none, .pick (.t 34) (.t 36) (.c (.bool false))⟩,
          ⟨(some 38), none, .mv (.t 37)⟩,
          ⟨(some 39), (some (38, true)), .mv (.t 9)⟩,
          ⟨(some 40), (some (38, true)), .mv (.t 11)⟩,
          ⟨(some 41), (some (38, true)), .mv (.t 2)⟩,
          ⟨(some 42), (some (38, true)), .mv (.t 3)⟩,
          ⟨(some 43), (some (38, true)), .call 19 [(.t 39), (.t 40), (.t 41), (.t 42)]⟩,
          ⟨(some 44), none, .pick (.t 38) (.t 43) (.c (.bool false))⟩,
          ⟨(some 8), none, .mv (.t 44)⟩])
        (.ret))))))⟩
theorem ok5 : FnOk Tryd.prog 5 a5 := FnOk.of Tryd.prog Tryd.func5 (by kernel_rfl)
/-- jalousie/jalousielaw01.LatticeNobody -/
def a6 : AFn := ⟨88, [.tmp 4], .seq
   (.ops [⟨(some 4), none, .mv (.c (.bool false))⟩])
   (.seq
    (.seq
     (.ops [⟨(some 7), none, .call 11 []⟩,
       ⟨(some 8), none, .un .not (.t 7)⟩])
     (.cond (.t 8)
      (.seq
       (.ops [⟨(some 4), none, .mv (.c (.bool false))⟩])
       (.ret))
      (.skip)))
    (.seq
     (.ops [⟨(some 5), none, .mv (.c .nilptr)⟩])
     (.seq
      (.ops [⟨(some 9), none, .build [.nilslice, .nilslice, (.int .u32 0), (.int .i32 0), (.int .u32 0), .nilslice, .nilslice] [(0, 1), (1, 1), (2, 3), (5, 1), (6, 1)] []⟩,
        ⟨(some 10), none, .box 53 (.t 9)⟩,
        ⟨(some 6), none, .mv (.t 10)⟩])
      (.seq
       (.ops [⟨(some 11), none, .mv (.t 5)⟩,
         ⟨(some 12), none, .call 12 [(.t 11)]⟩,
         ⟨(some 13), none, .bin .eql (.t 12) (.c (.int .i64 0))⟩,
         ⟨(some 14), none, .mv (.t 13)⟩,
         ⟨(some 15), (some (14, true)), .mv (.t 5)⟩,
         ⟨(some 16), (some (14, true)), .mv (.t 0)⟩,
         ⟨(some 17), (some (14, true)), .mv (.t 1)⟩,
         ⟨(some 18), (some (14, true)), .call 21 [(.t 15), (.t 16), (.t 17)]⟩,
         ⟨(some 19), (some (14, true)), .un .not (.t 18)⟩,
         ⟨(some 20), none, .pick (.t 14) (.t 19) (.c (.bool false))⟩,
         ⟨(some 21), none, .mv (.t 20)⟩,
         ⟨(some 22), (some (21, true)), .mv (.t 5)⟩,
         ⟨(some 23), (some (21, true)), .mv (.t 0)⟩,
         ⟨(some 24), (some (21, true)), .mv (.t 1)⟩,
         ⟨(some 25), (some (21, true)), .call 15 [(.t 22), (.t 23), (.t 24)]⟩,
         ⟨(some 26), (some (21, true)), .bin .eql (.t 25) (.c (.int .i64 (-1)))⟩,
         ⟨(some 27), none, .pick (.t 21) (.t 26) (.c (.bool false))⟩,
         ⟨(some 28), none, .mv (.t 27)⟩,
         ⟨(some 29), (some (28, true)), .mv (.t 5)⟩,
         ⟨(some 30), (some (28, true)), .mv (.t 0)⟩,
         ⟨(some 31), (some (28, true)), .mv (.t 1)⟩,
         ⟨(some 32), (some (28, true)), .call 16 [(.t 29), (.t 30), (.t 31)]⟩,
         ⟨(some 33), (some (28, true)), .bin .eql (.t 32) (.c (.int .i64 (-1)))⟩,
         ⟨(some 34), none, .pick (.t 28) (.t 33) (.c (.bool false))⟩,
         ⟨(some 35), none, .mv (.t 34)⟩,
         ⟨(some 36), (some (35, true)), .mv (.t 5)⟩,
         ⟨(some 37), (some (35, true)), .call 13 [(.t 36)]⟩,
         ⟨(some 38), (some (35, true)), .bin .eql (.t 37) (.c (.int .i64 (-1)))⟩,
         ⟨(some 39), none, .pick (.t 35) (.t 38) (.c (.bool false))⟩,
         ⟨(some 40), none, .mv (.t 39)⟩,
         ⟨(some 41), (some (40, true)), .mv (.t 5)⟩,
         ⟨(some 42), (some (40, true)), .call 14 [(.t 41)]⟩,
         ⟨(some 43), (some (40, true)), .bin .eql (.t 42) (.c (.int .i64 (-1)))⟩,
         ⟨(some 44), none, .pick (.t 40) (.t 43) (.c (.bool false))⟩,
         ⟨(some 45), none, .mv (.t 44)⟩,
         ⟨(some 46), (some (45, true)), .mv (.t 5)⟩,
         ⟨(some 47), (some (45, true)), .mv (.t 0)⟩,
         ⟨(some 48), (some (45, true)), .call 22 [(.t 46), (.t 47)]⟩,
         ⟨(some 49), (some (45, true)), .lenL (.t 48)⟩,
         ⟨(some 50), (some (45, true)), .bin .eql (.t 49) (.c (.int .i64 0))⟩,
         ⟨(some 51), none, .pick (.t 45) (.t 50) (.c (.bool false))⟩,
         ⟨(some 52), none, .mv (.t 51)⟩,
         ⟨(some 53), (some (52, true)), .mv (.t 6)⟩,
         ⟨(some 54), (some (52, true)), .call 12 [(.t 53)]⟩,
         ⟨(some 55), (some (52, true)), .bin .eql (.t 54) (.c (.int .i64 0))⟩,
         ⟨(some 56), none, .pick (.t 52) (.t 55) (.c (.bool false))⟩,
         ⟨(some 57), none, .mv (.t 56)⟩,
         ⟨(some 58), (some (57, true)), .mv (.t 6)⟩,
         ⟨(some 59), (some (57, true)), .mv (.t 0)⟩,
         ⟨(some 60), (some (57, true)), .mv (.t 1)⟩,
         ⟨(some 61), (some (57, true)), .call 21 [(.t 58), (.t 59), (.t 60)]⟩,
         ⟨(some 62), (some (57, true)), .un .not (.t 61)⟩,
         ⟨(some 63), none, .pick (.t 57) (.t 62) (.c (.bool false))⟩,
         ⟨(some 64), none, .mv (.t 63)⟩,
         ⟨(some 65), (some (64, true)), .mv (.t 6)⟩,
         ⟨(some 66), (some (64, true)), .mv (.t 0)⟩,
         ⟨(some 67), (some (64, true)), .mv (.t 1)⟩,
         ⟨(some 68), (some (64, true)), .call 15 [(.t 65), (.t 66), (.t 67)]⟩,
         ⟨(some 69), (some (64, true)), .bin .eql (.t 68) (.c (.int .i64 (-1)))⟩,
         ⟨(some 70), none, .pick (.t 64) (.t 69) (.c (.bool false))⟩,
         ⟨(some 71), none, .mv (.t 70)⟩,
         ⟨(some 72), (some (71, true)), .mv (.t 6)⟩,
         ⟨(some 73), (some (71, true)), .call 13 [(.t 72)]⟩,
         ⟨(some 74), (some (71, true)), .bin .eql (.t 73) (.c (.int .i64 (-1)))⟩,
         ⟨(some 75), none, .pick (.t 71) (.t 74) (.c (.bool false))⟩,
         ⟨(some 76), none, .mv (.t 75)⟩,
         ⟨(some 77), (some (76, true)), .mv (.t 6)⟩,
         ⟨(some 78), (some (76, true)), .call 14 [(.t 77)]⟩,
         ⟨(some 79), (some (76, true)), .bin .eql (.t 78) (.c (.int .i64 (-1)))⟩,
         ⟨(some 80), none, .pick (.t 76) (.t 79) (.c (.bool false))⟩,
         ⟨(some 81), none, .mv (.t 80)⟩,
         ⟨(some 82), (some (81, true)), .mv (.t 6)⟩,
         ⟨(some 83), (some (81, true)), .mv (.t 1)⟩,
         ⟨(some 84), (some (81, true)), .call 22 [(.t 82), (.t 83)]⟩,
         ⟨(some 85), (some (81, true)), .lenL (.t 84)⟩,
         ⟨(some 86), (some (81, true)), .bin .eql (.t 85) (.c (.int .i64 0))⟩,
         ⟨(some 87), none, .pick (.t 81) (.t 86) (.c (.bool false))⟩,
         ⟨(some 4), none, .mv (.t 87)⟩])
       (.ret)))))⟩
theorem ok6 : FnOk Tryd.prog 6 a6 := FnOk.of Tryd.prog Tryd.func6 (by kernel_rfl)
/-- jalousie/jalousielaw01.LatticeLaws -/
def a7 : AFn := ⟨194, [.tmp 8], .seq
   (.ops [⟨(some 8), none, .mv (.c (.bool false))⟩])
   (.seq
    (.seq
     (.ops [⟨(some 12), none, .call 11 []⟩,
       ⟨(some 13), none, .un .not (.t 12)⟩])
     (.cond (.t 13)
      (.seq
       (.ops [⟨(some 8), none, .mv (.c (.bool false))⟩])
       (.ret))
      (.skip)))
    (.seq
     (.seq
      (.ops [⟨(some 14), none, .mv (.t 0)⟩,
        ⟨(some 15), none, .call 17 [(.t 14)]⟩])
      (.cond (.t 15)
       (.seq
        (.ops [⟨(some 8), none, .mv (.c (.bool true))⟩])
        (.ret))
       (.skip)))
     (.seq
      (.ops [⟨(some 17), none, .mv (.t 0)⟩,
        ⟨(some 18), none, .call 9 [(.t 17)]⟩,
        ⟨(some 16), none, .mv (.t 18)⟩,
        ⟨(some 19), none, .ext (.t 16) 0⟩,
        ⟨(some 20), none, .ext (.t 16) 1⟩,
        ⟨(some 9), none, .mv (.t 19)⟩,
        ⟨(some 10), none, .mv (.t 20)⟩])
      (.seq
       (.seq
        (.ops [⟨(some 21), none, .mv (.t 10)⟩,
          ⟨(some 22), none, .bin .neq (.t 21) (.c (.int .i64 0))⟩])
        (.cond (.t 22)
         (.seq
          (.ops [⟨(some 23), none, .mv (.t 9)⟩,
            ⟨(some 24), none, .eq false 22 (.pointer 53) (.t 23) (.c .nilptr)⟩,
            ⟨(some 8), none, .mv (.t 24)⟩])
          (.ret))
         (.skip)))
       (.seq
        (.ops [⟨(some 25), none, .mv (.t 9)⟩,
          ⟨(some 26), none, .call 12 [(.t 25)]⟩,
          ⟨(some 11), none, .mv (.t 26)⟩])
        (.seq
         (.seq
          (.ops [⟨(some 27), none, .mv (.t 1)⟩,
            ⟨(some 28), none, .bin .lss (.t 27) (.c (.int .i64 0))⟩,
            ⟨(some 29), none, .mv (.t 28)⟩,
            ⟨(some 30), (some (29, false)), .mv (.t 2)⟩,
            ⟨(some 31), (some (29, false)), .bin .lss (.t 30) (.c (.int .i64 0))⟩,
            ⟨(some 32), none, .pick (.t 29) (.c (.bool true)) (.t 31)⟩,
            ⟨(some 33), none, .mv (.t 32)⟩,
            ⟨(some 34), (some (33, false)), .mv (.t 3)⟩,
            ⟨(some 35), (some (33, false)), .bin .lss (.t 34) (.c (.int .i64 0))⟩,
            ⟨(some 36), none, .pick (.t 33) (.c (.bool true)) (.t 35)⟩,
            ⟨(some 37), none, .mv (.t 36)⟩,
            ⟨(some 38), (some (37, false)), .mv (.t 1)⟩,
            ⟨(some 39), (some (37, false)), .mv (.t 11)⟩,
            ⟨(some 40), (some (37, false)), .bin .geq (.t 38) (.t 39)⟩,
            ⟨(some 41), none, .pick (.t 37) (.c (.bool true)) (.t 40)⟩,
            ⟨(some 42), none, .mv (.t 41)⟩,
            ⟨(some 43), (some (42, false)), .mv (.t 2)⟩,
            ⟨(some 44), (some (42, false)), .mv (.t 11)⟩,
            ⟨(some 45), (some (42, false)), .bin .geq (.t 43) (.t 44)⟩,
            ⟨(some 46), none, .pick (.t 42) (.c (.bool true)) (.t 45)⟩,
            ⟨(some 47), none, .mv (.t 46)⟩,
            ⟨(some 48), (some (47, false)), .mv (.t 3)⟩,
            ⟨(some 49), (some (47, false)), .mv (.t 11)⟩,
            ⟨(some 50), (some (47, false)), .bin .geq (.t 48) (.t 49)⟩,
            ⟨(some 51), none, .pick (.t 47) (.c (.bool true)) (.t 50)⟩])
          (.cond (.t 51)
           (.seq
            (.ops [⟨(some 52), none, .mv (.t 11)⟩,
              ⟨(some 53), none, .mv (.t 0)⟩,
              ⟨(some 54), none, .lenL (.t 53)⟩,
              ⟨(some 55), none, .bin .eql (.t 52) (.t 54)⟩,
              ⟨(some 8), none, .mv (.t 55)⟩])
            (.ret))
           (.skip)))
         (.seq
          (.seq
           (.ops [⟨(some 56), none, .mv (.t 9)⟩,
             ⟨(some 57), none, .mv (.t 9)⟩,
             ⟨(some 58), none, .mv (.t 1)⟩,
             ⟨(some 59), none, .mv (.t 2)⟩,
             ⟨(some 60), none, .call 15 [(.t 57), (.t 58), (.t 59)]⟩,
             ⟨(some 61), none, .mv (.t 3)⟩,
             ⟨(some 62), none, .call 15 [(.t 56), (.t 60), (.t 61)]⟩,
             ⟨(some 63), none, .mv (.t 9)⟩,
             ⟨(some 64), none, .mv (.t 1)⟩,
             ⟨(some 65), none, .mv (.t 9)⟩,
             ⟨(some 66), none, .mv (.t 2)⟩,
             ⟨(some 67), none, .mv (.t 3)⟩,
             ⟨(some 68), none, .call 15 [(.t 65), (.t 66), (.t 67)]⟩,
             ⟨(some 69), none, .call 15 [(.t 63), (.t 64), (.t 68)]⟩,
             ⟨(some 70), none, .bin .neq (.t 62) (.t 69)⟩,
             ⟨(some 71), none, .mv (.t 70)⟩,
             ⟨(some 72), (some (71, false)), .mv (.t 9)⟩,
             ⟨(some 73), (some (71, false)), .mv (.t 9)⟩,
             ⟨(some 74), (some (71, false)), .mv (.t 1)⟩,
             ⟨(some 75), (some (71, false)), .mv (.t 2)⟩,
             ⟨(some 76), (some (71, false)), .call 16 [(.t 73), (.t 74), (.t 75)]⟩,
             ⟨(some 77), (some (71, false)), .mv (.t 3)⟩,
             ⟨(some 78), (some (71, false)), .call 16 [(.t 72), (.t 76), (.t 77)]⟩,
             ⟨(some 79), (some (71, false)), .mv (.t 9)⟩,
             ⟨(some 80), (some (71, false)), .mv (.t 1)⟩,
             ⟨(some 81), (some (71, false)), .mv (.t 9)⟩,
             ⟨(some 82), (some (71, false)), .mv (.t 2)⟩,
             ⟨(some 83), (some (71, false)), .mv (.t 3)⟩,
             ⟨(some 84), (some (71, false)), .call 16 [(.t 81), (.t 82), (.t 83)]⟩,
             ⟨(some 85), (some (71, false)), .call 16 [(.t 79), (.t 80), (.t 84)]⟩,
             ⟨(some 86), (some (71, false)), .bin .neq (.t 78) (.t 85)⟩,
             ⟨(some 87), none, .pick (.t 71) (.c (.bool true)) (.t 86)⟩,
             ⟨(some 88), none, .mv (.t 87)⟩,
             ⟨(some 89), (some (88, false)), .mv (.t 9)⟩,
             ⟨(some 90), (some (88, false)), .mv (.t 1)⟩,
             ⟨(some 91), (some (88, false)), .mv (.t 2)⟩,
             ⟨(some 92), (some (88, false)), .call 15 [(.t 89), (.t 90), (.t 91)]⟩,
             ⟨(some 93), (some (88, false)), .mv (.t 9)⟩,
             ⟨(some 94), (some (88, false)), .mv (.t 2)⟩,
             ⟨(some 95), (some (88, false)), .mv (.t 1)⟩,
             ⟨(some 96), (some (88, false)), .call 15 [(.t 93), (.t 94), (.t 95)]⟩,
             ⟨(some 97), (some (88, false)), .bin .neq (.t 92) (.t 96)⟩,
             ⟨(some 98), none, .pick (.t 88) (.c (.bool true)) (.t 97)⟩,
             ⟨(some 99), none, .mv (.t 98)⟩,
             ⟨(some 100), (some (99, false)), .mv (.t 9)⟩,
             ⟨(some 101), (some (99, false)), .mv (.t 1)⟩,
             ⟨(some 102), (some (99, false)), .mv (.t 2)⟩,
             ⟨(some 103), (some (99, false)), .call 16 [(.t 100), (.t 101), (.t 102)]⟩,
             ⟨(some 104), (some (99, false)), .mv (.t 9)⟩,
             ⟨(some 105), (some (99, false)), .mv (.t 2)⟩,
             ⟨(some 106), (some (99, false)), .mv (.t 1)⟩,
             ⟨(some 107), (some (99, false)), .call 16 [(.t 104), (.t 105), (.t 106)]⟩,
             ⟨(some 108), (some (99, false)), .bin .neq (.t 103) (.t 107)⟩,
             ⟨(some 109), none, .pick (.t 99) (.c (.bool true)) (.t 108)⟩])
           (.cond (.t 109)
            (.seq
             (.ops [⟨(some 8), none, .mv (.c (.bool false))⟩])
             (.ret))
            (.skip)))
          (.seq
           (.seq
            (.ops [⟨(some 110), none, .mv (.t 9)⟩,
              ⟨(some 111), none, .mv (.t 1)⟩,
              ⟨(some 112), none, .mv (.t 9)⟩,
              ⟨(some 113), none, .mv (.t 1)⟩,
              ⟨(some 114), none, .mv (.t 2)⟩,
              ⟨(some 115), none, .call 16 [(.t 112), (.t 113), (.t 114)]⟩,
              ⟨(some 116), none, .call 15 [(.t 110), (.t 111), (.t 115)]⟩,
              ⟨(some 117), none, .mv (.t 1)⟩,
              ⟨(some 118), none, .bin .neq (.t 116) (.t 117)⟩,
              ⟨(some 119), none, .mv (.t 118)⟩,
              ⟨(some 120), (some (119, false)), .mv (.t 9)⟩,
              ⟨(some 121), (some (119, false)), .mv (.t 1)⟩,
              ⟨(some 122), (some (119, false)), .mv (.t 9)⟩,
              ⟨(some 123), (some (119, false)), .mv (.t 1)⟩,
              ⟨(some 124), (some (119, false)), .mv (.t 2)⟩,
              ⟨(some 125), (some (119, false)), .call 15 [(.t 122), (.t 123), (.t 124)]⟩,
              ⟨(some 126), (some (119, false)), .call 16 [(.t 120), (.t 121), (.t 125)]⟩,
              ⟨(some 127), (some (119, false)), .mv (.t 1)⟩,
              ⟨(some 128), (some (119, false)), .bin .neq (.t 126) (.t 127)⟩,
              ⟨(some 129), none, .pick (.t 119) (.c (.bool true)) (.t 128)⟩,
              ⟨(some 130), none, .mv (.t 129)⟩,
              ⟨(some 131), (some (130, false)), .mv (.t 9)⟩,
              ⟨(some 132), (some (130, false)), .mv (.t 1)⟩,
              ⟨(some 133), (some (130, false)), .mv (.t 2)⟩,
              ⟨(some 134), (some (130, false)), .call 21 [(.t 131), (.t 132), (.t 133)]⟩,
              ⟨(some 135), (some (130, false)), .mv (.t 9)⟩,
              ⟨(some 136), (some (130, false)), .mv (.t 1)⟩,
              ⟨(some 137), (some (130, false)), .mv (.t 2)⟩,
              ⟨(some 138), (some (130, false)), .call 15 [(.t 135), (.t 136), (.t 137)]⟩,
              ⟨(some 139), (some (130, false)), .mv (.t 2)⟩,
              ⟨(some 140), (some (130, false)), .bin .eql (.t 138) (.t 139)⟩,
              ⟨(some 141), (some (130, false)), .eq true 4 .bool (.t 134) (.t 140)⟩,
              ⟨(some 142), none, .pick (.t 130) (.c (.bool true)) (.t 141)⟩,
              ⟨(some 143), none, .mv (.t 142)⟩,
              ⟨(some 144), (some (143, false)), .mv (.t 9)⟩,
              ⟨(some 145), (some (143, false)), .mv (.t 1)⟩,
              ⟨(some 146), (some (143, false)), .mv (.t 2)⟩,
              ⟨(some 147), (some (143, false)), .call 21 [(.t 144), (.t 145), (.t 146)]⟩,
              ⟨(some 148), (some (143, false)), .mv (.t 9)⟩,
              ⟨(some 149), (some (143, false)), .mv (.t 1)⟩,
              ⟨(some 150), (some (143, false)), .mv (.t 2)⟩,
              ⟨(some 151), (some (143, false)), .call 16 [(.t 148), (.t 149), (.t 150)]⟩,
              ⟨(some 152), (some (143, false)), .mv (.t 1)⟩,
              ⟨(some 153), (some (143, false)), .bin .eql (.t 151) (.t 152)⟩,
              ⟨(some 154), (some (143, false)), .eq true 4 .bool (.t 147) (.t 153)⟩,
              ⟨(some 155), none, .pick (.t 143) (.c (.bool true)) (.t 154)⟩])
            (.cond (.t 155)
             (.seq
              (.ops [⟨(some 8), none, .mv (.c (.bool false))⟩])
              (.ret))
             (.skip)))
           (.seq
            (.ops [⟨(some 156), none, .mv (.t 9)⟩,
              ⟨(some 157), none, .mv (.t 1)⟩,
              ⟨(some 158), none, .mv (.t 2)⟩,
              ⟨(some 159), none, .call 21 [(.t 156), (.t 157), (.t 158)]⟩,
              ⟨(some 160), none, .un .not (.t 159)⟩,
              ⟨(some 161), none, .mv (.t 160)⟩,
              ⟨(some 162), (some (161, false)), .mv (.t 9)⟩,
              ⟨(some 163), (some (161, false)), .mv (.t 2)⟩,
              ⟨(some 164), (some (161, false)), .mv (.t 3)⟩,
              ⟨(some 165), (some (161, false)), .call 21 [(.t 162), (.t 163), (.t 164)]⟩,
              ⟨(some 166), (some (161, false)), .un .not (.t 165)⟩,
              ⟨(some 167), none, .pick (.t 161) (.c (.bool true)) (.t 166)⟩,
              ⟨(some 168), none, .mv (.t 167)⟩,
              ⟨(some 169), (some (168, false)), .mv (.t 9)⟩,
              ⟨(some 170), (some (168, false)), .mv (.t 1)⟩,
              ⟨(some 171), (some (168, false)), .mv (.t 3)⟩,
              ⟨(some 172), (some (168, false)), .call 21 [(.t 169), (.t 170), (.t 171)]⟩,
              ⟨(some 173), none, .pick (.t 168) (.c (.bool true)) (.t 172)⟩,
              ⟨(some 174), none, .mv (.t 173)⟩,
              ⟨(some 175), (some (174, true)), .mv (.t 9)⟩,
              ⟨(some 176), (some (174, true)), .mv (.t 1)⟩,
              ⟨(some 177), (some (174, true)), .mv (.t 1)⟩,
              ⟨(some 178), (some (174, true)), .call 21 [(.t 175), (.t 176), (.t 177)]⟩,
              ⟨(some 179), none, .pick (.t 174) (.t 178) (.c (.bool false))⟩,
              ⟨(some 180), none, .mv (.t 179)⟩,
              ⟨(some 181), (some (180, true)), .mv (.t 9)⟩,
              ⟨(some 182), (some (180, true)), .mv (.t 1)⟩,
              ⟨(some 183), (some (180, true)), .mv (.t 9)⟩,
              ⟨(some 184), (some (180, true)), .call 13 [(.t 183)]⟩,
              ⟨(some 185), (some (180, true)), .call 21 [(.t 181), (.t 182), (.t 184)]⟩,
              ⟨(some 186), none, .pick (.t 180) (.t 185) (.c (.bool false))⟩,
              ⟨(some 187), none, .mv (.t 186)⟩,
              ⟨(some 188), (some (187, true)), .mv (.t 9)⟩,
              ⟨(some 189), (some (187, true)), .mv (.t 9)⟩,
              ⟨(some 190), (some (187, true)), .call 14 [(.t 189)]⟩,
              ⟨(some 191), (some (187, true)), .mv (.t 1)⟩,
              ⟨(some 192), (some (187, true)), .call 21 [(.t 188), (.t 190), (.t 191)]⟩,
              ⟨(some 193), none, .pick (.t 187) (.t 192) (.c (.bool false))⟩,
              ⟨(some 8), none, .mv (.t 193)⟩])
            (.ret))))))))))⟩
theorem ok7 : FnOk Tryd.prog 7 a7 := FnOk.of Tryd.prog Tryd.func7 (by kernel_rfl)
/-- jalousie/jalousielaw01.LatticeTurned -/
def a8 : AFn := ⟨135, [.tmp 6], .seq
   (.ops [⟨(some 6), none, .mv (.c (.bool false))⟩])
   (.seq
    (.seq
     (.ops [⟨(some 15), none, .call 11 []⟩,
       ⟨(some 16), none, .un .not (.t 15)⟩])
     (.cond (.t 16)
      (.seq
       (.ops [⟨(some 6), none, .mv (.c (.bool false))⟩])
       (.ret))
      (.skip)))
    (.seq
     (.seq
      (.ops [⟨(some 17), none, .mv (.t 0)⟩,
        ⟨(some 18), none, .call 17 [(.t 17)]⟩,
        ⟨(some 19), none, .mv (.t 18)⟩,
        ⟨(some 20), (some (19, false)), .mv (.t 0)⟩,
        ⟨(some 21), (some (19, false)), .lenL (.t 20)⟩,
        ⟨(some 22), (some (19, false)), .bin .gtr (.t 21) (.c (.int .i64 40))⟩,
        ⟨(some 23), none, .pick (.t 19) (.c (.bool true)) (.t 22)⟩])
      (.cond (.t 23)
       (.seq
        (.ops [⟨(some 6), none, .mv (.c (.bool true))⟩])
        (.ret))
       (.skip)))
     (.seq
      (.ops [⟨(some 24), none, .mv (.t 0)⟩,
        ⟨(some 25), none, .lenL (.t 24)⟩,
        ⟨(some 26), none, .mksl 26 1 24 [.nilslice] (.t 25) (.t 25)⟩,
        ⟨(some 7), none, .mv (.t 26)⟩])
      (.seq
       (.seq
        (.ops [⟨(some 8), none, .mv (.c (.int .i64 0))⟩])
        (.block 0 (.loop (.seq
           (.seq
            (.ops [⟨(some 27), none, .mv (.t 8)⟩,
              ⟨(some 28), none, .mv (.t 0)⟩,
              ⟨(some 29), none, .lenL (.t 28)⟩,
              ⟨(some 30), none, .bin .lss (.t 27) (.t 29)⟩])
            (.cond (.t 30)
             (.skip)
             (.exit 0)))
           (.seq
            (.block 1 (.seq
              (.ops [⟨(some 33), none, .mv (.t 0)⟩,
                ⟨(some 34), none, .mv (.t 8)⟩,
                ⟨(some 35), none, .iaddrS 1 (.t 33) (.t 34)⟩,
                ⟨(some 36), none, .load none (.t 35)⟩,
                ⟨(some 37), none, .lenL (.t 36)⟩,
                ⟨(some 38), none, .mv (.t 0)⟩,
                ⟨(some 39), none, .lenL (.t 38)⟩,
                ⟨(some 40), none, .bin .neq (.t 37) (.t 39)⟩])
              (.cond (.t 40)
               (.seq
                (.ops [⟨(some 6), none, .mv (.c (.bool true))⟩])
                (.ret))
               (.skip))))
            (.ops [⟨(some 31), none, .mv (.t 8)⟩,
              ⟨(some 32), none, .bin .add (.t 31) (.c (.int .i64 1))⟩,
              ⟨(some 8), none, .mv (.t 32)⟩]))))))
       (.seq
        (.seq
         (.ops [⟨(some 9), none, .mv (.c (.int .i64 0))⟩])
         (.block 2 (.loop (.seq
            (.seq
             (.ops [⟨(some 41), none, .mv (.t 9)⟩,
               ⟨(some 42), none, .mv (.t 0)⟩,
               ⟨(some 43), none, .lenL (.t 42)⟩,
               ⟨(some 44), none, .bin .lss (.t 41) (.t 43)⟩])
             (.cond (.t 44)
              (.skip)
              (.exit 2)))
            (.seq
             (.block 3 (.seq
               (.ops [⟨(some 10), none, .mv (.c (.int .i64 0))⟩])
               (.block 4 (.loop (.seq
                  (.seq
                   (.ops [⟨(some 47), none, .mv (.t 10)⟩,
                     ⟨(some 48), none, .mv (.t 0)⟩,
                     ⟨(some 49), none, .lenL (.t 48)⟩,
                     ⟨(some 50), none, .bin .lss (.t 47) (.t 49)⟩])
                   (.cond (.t 50)
                    (.skip)
                    (.exit 4)))
                  (.seq
                   (.block 5 (.draw [⟨⟨(some 53), none, .mv (.t 7)⟩, []⟩,
                      ⟨⟨(some 54), none, .mv (.t 9)⟩, []⟩,
                      ⟨⟨(some 55), none, .mv (.t 7)⟩, []⟩,
                      ⟨⟨(some 56), none, .mv (.t 9)⟩, []⟩,
                      ⟨⟨(some 57), none, .iaddrS 1 (.t 55) (.t 56)⟩, [2, 3]⟩,
                      ⟨⟨(some 58), none, .load none (.t 57)⟩, [4]⟩,
                      ⟨⟨(some 59), none, .mv (.t 0)⟩, []⟩,
                      ⟨⟨(some 60), none, .mv (.t 10)⟩, []⟩,
                      ⟨⟨(some 61), none, .iaddrS 1 (.t 59) (.t 60)⟩, [6, 7]⟩,
                      ⟨⟨(some 62), none, .load none (.t 61)⟩, [8]⟩,
                      ⟨⟨(some 63), none, .mv (.t 9)⟩, []⟩,
                      ⟨⟨(some 64), none, .iaddrS 1 (.t 62) (.t 63)⟩, [9, 10]⟩,
                      ⟨⟨(some 65), none, .load none (.t 64)⟩, [11]⟩,
                      ⟨⟨(some 66), none, .bslice 4 1 1 [(.bool false)] [(0, (.t 65))]⟩, [12]⟩,
                      ⟨⟨(some 67), none, .append 4 1 1 (.t 58) (.t 66)⟩, [5, 13]⟩,
                      ⟨⟨(some 68), none, .iaddrS 1 (.t 53) (.t 54)⟩, [0, 1, 0, 1, 2, 3, 4, 5, 6, 7, 8, 9, 10, 11, 12, 13, 14]⟩,
                      ⟨⟨none, none, .store 1 (.t 68) (.t 67)⟩, [15, 14, 14, 0, 1, 2, 3, 4, 5, 6, 7, 8, 9, 10, 11, 12, 13, 14]⟩] [0, 0, 0, 0, 12, 28, 0, 0, 192, 448, 0, 1984, 4032, 8128, 16380, 32767, 65535]))
                   (.ops [⟨(some 51), none, .mv (.t 10)⟩,
                     ⟨(some 52), none, .bin .add (.t 51) (.c (.int .i64 1))⟩,
                     ⟨(some 10), none, .mv (.t 52)⟩])))))))
             (.ops [⟨(some 45), none, .mv (.t 9)⟩,
               ⟨(some 46), none, .bin .add (.t 45) (.c (.int .i64 1))⟩,
               ⟨(some 9), none, .mv (.t 46)⟩]))))))
        (.seq
         (.ops [⟨(some 70), none, .mv (.t 0)⟩,
           ⟨(some 71), none, .call 9 [(.t 70)]⟩,
           ⟨(some 69), none, .mv (.t 71)⟩,
           ⟨(some 72), none, .ext (.t 69) 0⟩,
           ⟨(some 73), none, .ext (.t 69) 1⟩,
           ⟨(some 11), none, .mv (.t 72)⟩,
           ⟨(some 12), none, .mv (.t 73)⟩])
         (.seq
          (.ops [⟨(some 75), none, .mv (.t 7)⟩,
            ⟨(some 76), none, .call 9 [(.t 75)]⟩,
            ⟨(some 74), none, .mv (.t 76)⟩,
            ⟨(some 77), none, .ext (.t 74) 0⟩,
            ⟨(some 78), none, .ext (.t 74) 1⟩,
            ⟨(some 13), none, .mv (.t 77)⟩,
            ⟨(some 14), none, .mv (.t 78)⟩])
          (.seq
           (.seq
            (.ops [⟨(some 79), none, .mv (.t 12)⟩,
              ⟨(some 80), none, .mv (.t 14)⟩,
              ⟨(some 81), none, .bin .neq (.t 79) (.t 80)⟩])
            (.cond (.t 81)
             (.seq
              (.ops [⟨(some 6), none, .mv (.c (.bool false))⟩])
              (.ret))
             (.skip)))
           (.seq
            (.seq
             (.ops [⟨(some 82), none, .mv (.t 12)⟩,
               ⟨(some 83), none, .bin .neq (.t 82) (.c (.int .i64 0))⟩])
             (.cond (.t 83)
              (.seq
               (.ops [⟨(some 84), none, .mv (.t 11)⟩,
                 ⟨(some 85), none, .eq false 22 (.pointer 53) (.t 84) (.c .nilptr)⟩,
                 ⟨(some 86), none, .mv (.t 85)⟩,
                 ⟨(some 87), (some (86, true)), .mv (.t 13)⟩,
                 ⟨(some 88), (some (86, true)), .eq false 22 (.pointer 53) (.t 87) (.c .nilptr)⟩,
                 ⟨(some 89), none, .pick (.t 86) (.t 88) (.c (.bool false))⟩,
                 ⟨(some 6), none, .mv (.t 89)⟩])
               (.ret))
              (.skip)))
            (.seq
             (.ops [⟨(some 90), none, .mv (.t 11)⟩,
               ⟨(some 91), none, .mv (.t 1)⟩,
               ⟨(some 92), none, .mv (.t 2)⟩,
               ⟨(some 93), none, .call 21 [(.t 90), (.t 91), (.t 92)]⟩,
               ⟨(some 94), none, .mv (.t 13)⟩,
               ⟨(some 95), none, .mv (.t 2)⟩,
               ⟨(some 96), none, .mv (.t 1)⟩,
               ⟨(some 97), none, .call 21 [(.t 94), (.t 95), (.t 96)]⟩,
               ⟨(some 98), none, .eq false 4 .bool (.t 93) (.t 97)⟩,
               ⟨(some 99), none, .mv (.t 98)⟩,
               ⟨(some 100), (some (99, true)), .mv (.t 11)⟩,
               ⟨(some 101), (some (99, true)), .mv (.t 1)⟩,
               ⟨(some 102), (some (99, true)), .mv (.t 2)⟩,
               ⟨(some 103), (some (99, true)), .call 15 [(.t 100), (.t 101), (.t 102)]⟩,
               ⟨(some 104), (some (99, true)), .mv (.t 13)⟩,
               ⟨(some 105), (some (99, true)), .mv (.t 1)⟩,
               ⟨(some 106), (some (99, true)), .mv (.t 2)⟩,
               ⟨(some 107), (some (99, true)), .call 16 [(.t 104), (.t 105), (.t 106)]⟩,
               ⟨(some 108), (some (99, true)), .bin .eql (.t 103) (.t 107)⟩,
               ⟨(some 109), none, .pick (.t 99) (.t 108) (.c (.bool false))⟩,
               ⟨(some 110), none, .mv (.t 109)⟩,
               ⟨(some 111), (some (110, true)), .mv (.t 11)⟩,
               ⟨(some 112), (some (110, true)), .mv (.t 1)⟩,
               ⟨(some 113), (some (110, true)), .mv (.t 2)⟩,
               ⟨(some 114), (some (110, true)), .call 16 [(.t 111), (.t 112), (.t 113)]⟩,
               ⟨(some 115), (some (110, true)), .mv (.t 13)⟩,
               ⟨(some 116), (some (110, true)), .mv (.t 1)⟩,
               ⟨(some 117), (some (110, true)), .mv (.t 2)⟩,
               ⟨(some 118), (some (110, true)), .call 15 [(.t 115), (.t 116), (.t 117)]⟩,
               ⟨(some 119), (some (110, true)), .bin .eql (.t 114) (.t 118)⟩,
               ⟨(some 120), none, .pick (.t 110) (.t 119) (.c (.bool false))⟩,
               ⟨(some 121), none, .mv (.t 120)⟩,
               ⟨(some 122), (some (121, true)), .mv (.t 11)⟩,
               ⟨(some 123), (some (121, true)), .call 13 [(.t 122)]⟩,
               ⟨(some 124), (some (121, true)), .mv (.t 13)⟩,
               ⟨(some 125), (some (121, true)), .call 14 [(.t 124)]⟩,
               ⟨(some 126), (some (121, true)), .bin .eql (.t 123) (.t 125)⟩,
               ⟨(some 127), none, .pick (.t 121) (.t 126) (.c (.bool false))⟩,
               ⟨(some 128), none, .mv (.t 127)⟩,
               ⟨(some 129), (some (128, true)), .mv (.t 11)⟩,
               ⟨(some 130), (some (128, true)), .call 14 [(.t 129)]⟩,
               ⟨(some 131), (some (128, true)), .mv (.t 13)⟩,
               ⟨(some 132), (some (128, true)), .call 13 [(.t 131)]⟩,
               ⟨(some 133), (some (128, true)), .bin .eql (.t 130) (.t 132)⟩,
               ⟨(some 134), none, .pick (.t 128) (.t 133) (.c (.bool false))⟩,
               ⟨(some 6), none, .mv (.t 134)⟩])
             (.ret)))))))))))⟩
theorem ok8 : FnOk Tryd.prog 8 a8 := FnOk.of Tryd.prog Tryd.func8 (by kernel_rfl)
/-- jalousie/lattice.New -/
def a9 : AFn := ⟨127, [.tmp 2, .tmp 3], .seq
   (.ops [⟨(some 2), none, .mv (.c .nilptr)⟩,
     ⟨(some 3), none, .mv (.c (.int .i64 0))⟩])
   (.seq
    (.ops [⟨(some 12), none, .mv (.t 0)⟩,
      ⟨(some 13), none, .lenL (.t 12)⟩,
      ⟨(some 4), none, .mv (.t 13)⟩])
    (.seq
     (.seq
      (.ops [⟨(some 14), none, .mv (.t 4)⟩,
        ⟨(some 15), none, .bin .lss (.t 14) (.c (.int .i64 1))⟩,
        ⟨(some 16), none, .mv (.t 15)⟩,
        ⟨(some 17), (some (16, false)), .mv (.t 4)⟩,
        ⟨(some 18), (some (16, false)), .bin .gtr (.t 17) (.c (.int .i64 64))⟩,
        ⟨(some 19), none, .pick (.t 16) (.c (.bool true)) (.t 18)⟩])
      (.cond (.t 19)
       (.seq
        (.ops [⟨(some 2), none, .mv (.c .nilptr)⟩,
          ⟨(some 3), none, .mv (.c (.int .i64 3))⟩])
        (.ret))
       (.skip)))
     (.seq
      (.draw [⟨⟨(some 20), none, .mv (.t 4)⟩, []⟩,
        ⟨⟨(some 21), none, .mksl 58 1 8 [(.int .u64 0)] (.t 20) (.t 20)⟩, [0, 0]⟩,
        ⟨⟨(some 22), none, .mv (.t 4)⟩, []⟩,
        ⟨⟨(some 23), none, .mksl 58 1 8 [(.int .u64 0)] (.t 22) (.t 22)⟩, [2, 2]⟩,
        ⟨⟨(some 24), none, .build [.nilslice, .nilslice, (.int .u32 0), (.int .i32 0), (.int .u32 0), .nilslice, .nilslice] [(0, 1), (1, 1), (2, 3), (5, 1), (6, 1)] [(0, (.t 21)), (1, (.t 23))]⟩, [1, 3]⟩,
        ⟨⟨(some 25), none, .box 53 (.t 24)⟩, [4]⟩,
        ⟨⟨(some 5), none, .mv (.t 25)⟩, [5, 0, 1, 2, 3, 4, 5]⟩] [0, 1, 0, 4, 15, 31, 63])
      (.seq
       (.seq
        (.ops [⟨(some 26), none, .mv (.t 0)⟩,
          ⟨(some 27), none, .lenL (.t 26)⟩,
          ⟨(some 28), none, .mv (.c (.int .i64 0))⟩])
        (.block 0 (.loop (.seq
           (.ops [⟨(some 29), none, .bin .lss (.t 28) (.t 27)⟩])
           (.seq
            (.cond (.t 29)
             (.skip)
             (.exit 0))
            (.seq
             (.block 1 (.seq
               (.ops [⟨(some 30), none, .mv (.t 28)⟩,
                 ⟨(some 31), none, .iaddrS 1 (.t 26) (.t 28)⟩,
                 ⟨(some 32), none, .load none (.t 31)⟩,
                 ⟨(some 6), none, .mv (.t 30)⟩,
                 ⟨(some 7), none, .mv (.t 32)⟩])
               (.seq
                (.seq
                 (.ops [⟨(some 33), none, .mv (.t 7)⟩,
                   ⟨(some 34), none, .lenL (.t 33)⟩,
                   ⟨(some 35), none, .mv (.t 4)⟩,
                   ⟨(some 36), none, .bin .neq (.t 34) (.t 35)⟩])
                 (.cond (.t 36)
                  (.seq
                   (.ops [⟨(some 2), none, .mv (.c .nilptr)⟩,
                     ⟨(some 3), none, .mv (.c (.int .i64 8))⟩])
                   (.ret))
                  (.skip)))
                (.seq
                 (.ops [⟨(some 37), none, .mv (.t 7)⟩,
                   ⟨(some 38), none, .lenL (.t 37)⟩,
                   ⟨(some 39), none, .mv (.c (.int .i64 0))⟩])
                 (.block 2 (.loop (.seq
                    (.ops [⟨(some 40), none, .bin .lss (.t 39) (.t 38)⟩])
                    (.seq
                     (.cond (.t 40)
                      (.skip)
                      (.exit 2))
                     (.seq
                      (.block 3 (.seq
                        (.ops [⟨(some 41), none, .mv (.t 39)⟩,
                          ⟨(some 42), none, .iaddrS 1 (.t 37) (.t 39)⟩,
                          ⟨(some 43), none, .load none (.t 42)⟩,
                          ⟨(some 8), none, .mv (.t 41)⟩,
                          ⟨(some 9), none, .mv (.t 43)⟩])
                        (.seq
                         (.ops [⟨(some 44), none, .mv (.t 9)⟩])
                         (.cond (.t 44)
                          (.seq
                           (.draw [⟨⟨(some 45), none, .mv (.t 5)⟩, []⟩,
                             ⟨⟨(some 46), none, .nilck (.t 45)⟩, [0]⟩,
                             ⟨⟨(some 47), none, .addr 0 (.t 46)⟩, [1]⟩,
                             ⟨⟨(some 48), none, .load none (.t 47)⟩, [2]⟩,
                             ⟨⟨(some 49), none, .mv (.t 6)⟩, []⟩,
                             ⟨⟨(some 50), none, .iaddrS 1 (.t 48) (.t 49)⟩, [3, 4]⟩,
                             ⟨⟨(some 51), none, .load none (.t 50)⟩, [5]⟩,
                             ⟨⟨(some 52), none, .mv (.t 8)⟩, []⟩,
                             ⟨⟨(some 53), none, .bin .shl (.c (.int .u64 1)) (.t 52)⟩, [7]⟩,
                             ⟨⟨(some 54), none, .bin .or (.t 51) (.t 53)⟩, [6, 8]⟩,
                             ⟨⟨(some 55), none, .iaddrS 1 (.t 48) (.t 49)⟩, [3, 4, 0, 1, 2, 3, 4, 5, 6, 7, 8, 9]⟩,
                             ⟨⟨none, none, .store 1 (.t 55) (.t 54)⟩, [10, 9, 0, 1, 2, 3, 4, 5, 6, 7, 8, 9]⟩] [0, 1, 3, 7, 0, 31, 63, 0, 128, 511, 1023, 2047])
                           (.draw [⟨⟨(some 56), none, .mv (.t 5)⟩, []⟩,
                             ⟨⟨(some 57), none, .nilck (.t 56)⟩, [0]⟩,
                             ⟨⟨(some 58), none, .addr 1 (.t 57)⟩, [1]⟩,
                             ⟨⟨(some 59), none, .load none (.t 58)⟩, [2]⟩,
                             ⟨⟨(some 60), none, .mv (.t 8)⟩, []⟩,
                             ⟨⟨(some 61), none, .iaddrS 1 (.t 59) (.t 60)⟩, [3, 4]⟩,
                             ⟨⟨(some 62), none, .load none (.t 61)⟩, [5]⟩,
                             ⟨⟨(some 63), none, .mv (.t 6)⟩, []⟩,
                             ⟨⟨(some 64), none, .bin .shl (.c (.int .u64 1)) (.t 63)⟩, [7]⟩,
                             ⟨⟨(some 65), none, .bin .or (.t 62) (.t 64)⟩, [6, 8]⟩,
                             ⟨⟨(some 66), none, .iaddrS 1 (.t 59) (.t 60)⟩, [3, 4, 0, 1, 2, 3, 4, 5, 6, 7, 8, 9]⟩,
                             ⟨⟨none, none, .store 1 (.t 66) (.t 65)⟩, [10, 9, 0, 1, 2, 3, 4, 5, 6, 7, 8, 9]⟩] [0, 1, 3, 7, 0, 31, 63, 0, 128, 511, 1023, 2047]))
                          (.skip)))))
                      (.ops [⟨(some 67), none, .bin .add (.t 39) (.c (.int .i64 1))⟩,
                        ⟨(some 39), none, .mv (.t 67)⟩]))))))))))
             (.ops [⟨(some 68), none, .bin .add (.t 28) (.c (.int .i64 1))⟩,
               ⟨(some 28), none, .mv (.t 68)⟩])))))))
       (.seq
        (.seq
         (.ops [⟨(some 69), none, .mv (.t 5)⟩,
           ⟨(some 70), none, .call 23 [(.t 69)]⟩,
           ⟨(some 71), none, .un .not (.t 70)⟩])
         (.cond (.t 71)
          (.seq
           (.ops [⟨(some 2), none, .mv (.c .nilptr)⟩,
             ⟨(some 3), none, .mv (.c (.int .i64 1))⟩])
           (.ret))
          (.skip)))
        (.seq
         (.seq
          (.ops [⟨(some 72), none, .mv (.t 4)⟩,
            ⟨(some 73), none, .mv (.c (.int .i64 0))⟩])
          (.block 4 (.loop (.seq
             (.ops [⟨(some 74), none, .bin .lss (.t 73) (.t 72)⟩])
             (.seq
              (.cond (.t 74)
               (.skip)
               (.exit 4))
              (.seq
               (.block 5 (.seq
                 (.ops [⟨(some 75), none, .mv (.t 73)⟩,
                   ⟨(some 10), none, .mv (.t 75)⟩])
                 (.seq
                  (.ops [⟨(some 76), none, .mv (.t 10)⟩,
                    ⟨(some 77), none, .mv (.c (.int .i64 0))⟩])
                  (.block 6 (.loop (.seq
                     (.ops [⟨(some 78), none, .bin .lss (.t 77) (.t 76)⟩])
                     (.seq
                      (.cond (.t 78)
                       (.skip)
                       (.exit 6))
                      (.seq
                       (.block 7 (.seq
                         (.ops [⟨(some 79), none, .mv (.t 77)⟩,
                           ⟨(some 11), none, .mv (.t 79)⟩])
                         (.seq
                          (.draw [⟨⟨(some 80), none, .mv (.t 5)⟩, []⟩,
                            ⟨⟨(some 81), none, .nilck (.t 80)⟩, [0]⟩,
                            ⟨⟨(some 82), none, .addr 0 (.t 81)⟩, [1]⟩,
                            ⟨⟨(some 83), none, .load none (.t 82)⟩, [2]⟩,
                            ⟨⟨(some 84), none, .mv (.t 10)⟩, []⟩,
                            ⟨⟨(some 85), none, .iaddrS 1 (.t 83) (.t 84)⟩, [3, 4]⟩,
                            ⟨⟨(some 86), none, .load none (.t 85)⟩, [5]⟩,
                            ⟨⟨(some 87), none, .mv (.t 5)⟩, []⟩,
                            ⟨⟨(some 88), none, .nilck (.t 87)⟩, [7]⟩,
                            ⟨⟨(some 89), none, .addr 0 (.t 88)⟩, [8]⟩,
                            ⟨⟨(some 90), none, .load none (.t 89)⟩, [9]⟩,
                            ⟨⟨(some 91), none, .mv (.t 11)⟩, []⟩,
                            ⟨⟨(some 92), none, .iaddrS 1 (.t 90) (.t 91)⟩, [10, 11]⟩,
                            ⟨⟨(some 93), none, .load none (.t 92)⟩, [12]⟩,
                            ⟨⟨(some 94), none, .bin .and (.t 86) (.t 93)⟩, [6, 13]⟩,
                            ⟨⟨(some 95), none, .mv (.t 5)⟩, []⟩,
                            ⟨⟨(some 96), none, .nilck (.t 95)⟩, [15]⟩,
                            ⟨⟨(some 97), none, .addr 0 (.t 96)⟩, [16]⟩,
                            ⟨⟨(some 98), none, .load none (.t 97)⟩, [17]⟩,
                            ⟨⟨(some 99), none, .call 24 [(.t 94), (.t 98)]⟩, [14, 18]⟩,
                            ⟨⟨(some 100), none, .bin .lss (.t 99) (.c (.int .i64 0))⟩, [19]⟩,
                            ⟨⟨(some 101), none, .mv (.t 100)⟩, [20, 19]⟩,
                            ⟨⟨(some 102), (some (101, false)), .mv (.t 5)⟩, [21]⟩,
                            ⟨⟨(some 103), (some (101, false)), .nilck (.t 102)⟩, [22, 21]⟩,
                            ⟨⟨(some 104), (some (101, false)), .addr 1 (.t 103)⟩, [23, 21]⟩,
                            ⟨⟨(some 105), (some (101, false)), .load none (.t 104)⟩, [24, 21]⟩,
                            ⟨⟨(some 106), (some (101, false)), .mv (.t 10)⟩, [21]⟩,
                            ⟨⟨(some 107), (some (101, false)), .iaddrS 1 (.t 105) (.t 106)⟩, [25, 26, 21]⟩,
                            ⟨⟨(some 108), (some (101, false)), .load none (.t 107)⟩, [27, 21]⟩,
                            ⟨⟨(some 109), (some (101, false)), .mv (.t 5)⟩, [21]⟩,
                            ⟨⟨(some 110), (some (101, false)), .nilck (.t 109)⟩, [29, 21]⟩,
                            ⟨⟨(some 111), (some (101, false)), .addr 1 (.t 110)⟩, [30, 21]⟩,
                            ⟨⟨(some 112), (some (101, false)), .load none (.t 111)⟩, [31, 21]⟩,
                            ⟨⟨(some 113), (some (101, false)), .mv (.t 11)⟩, [21]⟩,
                            ⟨⟨(some 114), (some (101, false)), .iaddrS 1 (.t 112) (.t 113)⟩, [32, 33, 21]⟩,
                            ⟨⟨(some 115), (some (101, false)), .load none (.t 114)⟩, [34, 21]⟩,
                            ⟨⟨(some 116), (some (101, false)), .bin .and (.t 108) (.t 115)⟩, [28, 35, 21]⟩,
                            ⟨⟨(some 117), (some (101, false)), .mv (.t 5)⟩, [21]⟩,
                            ⟨⟨(some 118), (some (101, false)), .nilck (.t 117)⟩, [37, 21]⟩,
                            ⟨⟨(some 119), (some (101, false)), .addr 1 (.t 118)⟩, [38, 21]⟩,
                            ⟨⟨(some 120), (some (101, false)), .load none (.t 119)⟩, [39, 21]⟩,
                            ⟨⟨(some 121), (some (101, false)), .call 24 [(.t 116), (.t 120)]⟩, [36, 40, 21, 21]⟩,
                            ⟨⟨(some 122), (some (101, false)), .bin .lss (.t 121) (.c (.int .i64 0))⟩, [41, 21]⟩,
                            ⟨⟨(some 123), none, .pick (.t 101) (.c (.bool true)) (.t 122)⟩, [21, 42]⟩] [0, 1, 3, 7, 0, 31, 63, 0, 128, 384, 896, 0, 3968, 8064, 16383, 0, 32768, 98304, 229376, 524287, 1048575, 2097151, 4194303, 8388607, 16777215, 33554431, 4194303, 134217727, 268435455, 4194303, 541065215, 1614807039, 3762290687, 4194303, 16647192575, 33827061759, 68719476735, 4194303, 137443147775, 412321054719, 962076868607, 2199023255551, 4398046511103, 8796093022207])
                          (.cond (.t 123)
                           (.seq
                            (.ops [⟨(some 2), none, .mv (.c .nilptr)⟩,
                              ⟨(some 3), none, .mv (.c (.int .i64 1))⟩])
                            (.ret))
                           (.skip)))))
                       (.ops [⟨(some 124), none, .bin .add (.t 77) (.c (.int .i64 1))⟩,
                         ⟨(some 77), none, .mv (.t 124)⟩])))))))))
               (.ops [⟨(some 125), none, .bin .add (.t 73) (.c (.int .i64 1))⟩,
                 ⟨(some 73), none, .mv (.t 125)⟩])))))))
         (.seq
          (.ops [⟨(some 126), none, .mv (.t 5)⟩,
            ⟨(some 2), none, .mv (.t 126)⟩,
            ⟨(some 3), none, .mv (.c (.int .i64 0))⟩])
          (.ret))))))))⟩
theorem ok9 : FnOk Tryd.prog 9 a9 := FnOk.of Tryd.prog Tryd.func9 (by kernel_rfl)
/-- jalousie/lattice.Rank -/
def a10 : AFn := ⟨75, [.tmp 4, .tmp 5], .seq
   (.ops [⟨(some 4), none, .mv (.c .nilptr)⟩,
     ⟨(some 5), none, .mv (.c (.int .i64 0))⟩])
   (.seq
    (.seq
     (.ops [⟨(some 10), none, .mv (.t 0)⟩,
       ⟨(some 11), none, .bin .lss (.t 10) (.c (.int .i64 1))⟩,
       ⟨(some 12), none, .mv (.t 11)⟩,
       ⟨(some 13), (some (12, false)), .mv (.t 0)⟩,
       ⟨(some 14), (some (12, false)), .bin .gtr (.t 13) (.c (.int .i64 64))⟩,
       ⟨(some 15), none, .pick (.t 12) (.c (.bool true)) (.t 14)⟩,
       ⟨(some 16), none, .mv (.t 15)⟩,
       ⟨(some 17), (some (16, false)), .mv (.t 1)⟩,
       ⟨(some 18), (some (16, false)), .bin .lss (.t 17) (.c (.int .i64 0))⟩,
       ⟨(some 19), none, .pick (.t 16) (.c (.bool true)) (.t 18)⟩,
       ⟨(some 20), none, .mv (.t 19)⟩,
       ⟨(some 21), (some (20, false)), .mv (.t 1)⟩,
       ⟨(some 22), (some (20, false)), .bin .gtr (.t 21) (.c (.int .i64 6))⟩,
       ⟨(some 23), none, .pick (.t 20) (.c (.bool true)) (.t 22)⟩,
       ⟨(some 24), none, .mv (.t 23)⟩,
       ⟨(some 25), (some (24, false)), .mv (.t 0)⟩,
       ⟨(some 26), (some (24, false)), .mv (.t 1)⟩,
       ⟨(some 27), (some (24, false)), .bin .shl (.t 25) (.t 26)⟩,
       ⟨(some 28), (some (24, false)), .bin .gtr (.t 27) (.c (.int .i64 64))⟩,
       ⟨(some 29), none, .pick (.t 24) (.c (.bool true)) (.t 28)⟩])
     (.cond (.t 29)
      (.seq
       (.ops [⟨(some 4), none, .mv (.c .nilptr)⟩,
         ⟨(some 5), none, .mv (.c (.int .i64 1))⟩])
       (.ret))
      (.skip)))
    (.seq
     (.ops [⟨(some 30), none, .mv (.t 0)⟩,
       ⟨(some 31), none, .mv (.t 1)⟩,
       ⟨(some 32), none, .bin .shl (.t 30) (.t 31)⟩,
       ⟨(some 6), none, .mv (.t 32)⟩])
     (.seq
      (.ops [⟨(some 33), none, .mv (.t 6)⟩,
        ⟨(some 34), none, .mksl 26 1 24 [.nilslice] (.t 33) (.t 33)⟩,
        ⟨(some 7), none, .mv (.t 34)⟩])
      (.seq
       (.seq
        (.ops [⟨(some 35), none, .mv (.t 6)⟩,
          ⟨(some 36), none, .mv (.c (.int .i64 0))⟩])
        (.block 0 (.loop (.seq
           (.ops [⟨(some 37), none, .bin .lss (.t 36) (.t 35)⟩])
           (.seq
            (.cond (.t 37)
             (.skip)
             (.exit 0))
            (.seq
             (.block 1 (.seq
               (.ops [⟨(some 38), none, .mv (.t 36)⟩,
                 ⟨(some 8), none, .mv (.t 38)⟩])
               (.seq
                (.ops [⟨(some 39), none, .mv (.t 6)⟩,
                  ⟨(some 40), none, .mv (.c (.int .i64 0))⟩])
                (.block 2 (.loop (.seq
                   (.ops [⟨(some 41), none, .bin .lss (.t 40) (.t 39)⟩])
                   (.seq
                    (.cond (.t 41)
                     (.skip)
                     (.exit 2))
                    (.seq
                     (.block 3 (.seq
                       (.ops [⟨(some 42), none, .mv (.t 40)⟩,
                         ⟨(some 9), none, .mv (.t 42)⟩])
                       (.draw [⟨⟨(some 43), none, .mv (.t 7)⟩, []⟩,
                         ⟨⟨(some 44), none, .mv (.t 8)⟩, []⟩,
                         ⟨⟨(some 45), none, .mv (.t 7)⟩, []⟩,
                         ⟨⟨(some 46), none, .mv (.t 8)⟩, []⟩,
                         ⟨⟨(some 47), none, .iaddrS 1 (.t 45) (.t 46)⟩, [2, 3]⟩,
                         ⟨⟨(some 48), none, .load none (.t 47)⟩, [4]⟩,
                         ⟨⟨(some 49), none, .mv (.t 8)⟩, []⟩,
                         ⟨⟨(some 50), none, .mv (.t 0)⟩, []⟩,
                         ⟨⟨(some 51), none, .bin .rem (.t 49) (.t 50)⟩, [6, 7]⟩,
                         ⟨⟨(some 52), none, .mv (.t 9)⟩, []⟩,
                         ⟨⟨(some 53), none, .mv (.t 0)⟩, []⟩,
                         ⟨⟨(some 54), none, .bin .rem (.t 52) (.t 53)⟩, [9, 10]⟩,
                         ⟨⟨(some 55), none, .bin .leq (.t 51) (.t 54)⟩, [8, 11]⟩,
                         ⟨⟨(some 56), none, .mv (.t 55)⟩, [12]⟩,
                         ⟨⟨(some 57), (some (56, true)), .mv (.t 8)⟩, [13]⟩,
                         ⟨⟨(some 58), (some (56, true)), .mv (.t 0)⟩, [13]⟩,
                         ⟨⟨(some 59), (some (56, true)), .bin .quo (.t 57) (.t 58)⟩, [14, 15, 13]⟩,
                         ⟨⟨(some 60), (some (56, true)), .mv (.t 9)⟩, [13]⟩,
                         ⟨⟨(some 61), (some (56, true)), .mv (.t 0)⟩, [13]⟩,
                         ⟨⟨(some 62), (some (56, true)), .bin .quo (.t 60) (.t 61)⟩, [17, 18, 13]⟩,
                         ⟨⟨(some 63), (some (56, true)), .bin .andNot (.t 59) (.t 62)⟩, [16, 19, 13]⟩,
                         ⟨⟨(some 64), (some (56, true)), .bin .eql (.t 63) (.c (.int .i64 0))⟩, [20, 13]⟩,
                         ⟨⟨(some 65), none, .pick (.t 56) (.t 64) (.c (.bool false))⟩, [13, 21]⟩,
                         ⟨⟨(some 66), none, .bslice 4 1 1 [(.bool false)] [(0, (.t 65))]⟩, [22]⟩,
                         ⟨⟨(some 67), none, .append 4 1 1 (.t 48) (.t 66)⟩, [5, 23, 13]⟩,
                         ⟨⟨(some 68), none, .iaddrS 1 (.t 43) (.t 44)⟩, [0, 1, 0, 1, 2, 3, 4, 5, 6, 7, 8, 9, 10, 11, 12, 13, 14, 15, 16, 17, 18, 19, 20, 21, 22, 23, 24]⟩,
                         ⟨⟨none, none, .store 1 (.t 68) (.t 67)⟩, [25, 24, 24, 0, 1, 2, 3, 4, 5, 6, 7, 8, 9, 10, 11, 12, 13, 14, 15, 16, 17, 18, 19, 20, 21, 22, 23, 24]⟩] [0, 0, 0, 0, 12, 28, 0, 0, 192, 0, 0, 1536, 4032, 8128, 16320, 16320, 65472, 16320, 16320, 409536, 1048512, 2097088, 4194240, 8388544, 16777212, 33554431, 67108863])))
                     (.ops [⟨(some 69), none, .bin .add (.t 40) (.c (.int .i64 1))⟩,
                       ⟨(some 40), none, .mv (.t 69)⟩])))))))))
             (.ops [⟨(some 70), none, .bin .add (.t 36) (.c (.int .i64 1))⟩,
               ⟨(some 36), none, .mv (.t 70)⟩])))))))
       (.seq
        (.ops [⟨(some 71), none, .mv (.t 7)⟩,
          ⟨(some 72), none, .call 9 [(.t 71)]⟩,
          ⟨(some 73), none, .ext (.t 72) 0⟩,
          ⟨(some 74), none, .ext (.t 72) 1⟩,
          ⟨(some 4), none, .mv (.t 73)⟩,
          ⟨(some 5), none, .mv (.t 74)⟩])
        (.ret))))))⟩
theorem ok10 : FnOk Tryd.prog 10 a10 := FnOk.of Tryd.prog Tryd.func10 (by kernel_rfl)
/-- jalousie/jalousielaw01.awake -/
def a11 : AFn := ⟨68, [.tmp 0], .seq
   (.ops [⟨(some 0), none, .mv (.c (.bool false))⟩])
   (.seq
    (.ops [⟨(some 6), none, .call 10 [(.c (.int .i64 2)), (.c (.int .i64 1))]⟩,
      ⟨(some 5), none, .mv (.t 6)⟩,
      ⟨(some 7), none, .ext (.t 5) 0⟩,
      ⟨(some 8), none, .ext (.t 5) 1⟩,
      ⟨(some 1), none, .mv (.t 7)⟩,
      ⟨(some 2), none, .mv (.t 8)⟩])
    (.seq
     (.seq
      (.ops [⟨(some 9), none, .mv (.t 2)⟩,
        ⟨(some 10), none, .bin .neq (.t 9) (.c (.int .i64 0))⟩,
        ⟨(some 11), none, .mv (.t 10)⟩,
        ⟨(some 12), (some (11, false)), .mv (.t 1)⟩,
        ⟨(some 13), (some (11, false)), .eq false 22 (.pointer 53) (.t 12) (.c .nilptr)⟩,
        ⟨(some 14), none, .pick (.t 11) (.c (.bool true)) (.t 13)⟩])
      (.cond (.t 14)
       (.seq
        (.ops [⟨(some 0), none, .mv (.c (.bool false))⟩])
        (.ret))
       (.skip)))
     (.seq
      (.ops [⟨(some 16), none, .bslice 4 1 2 [(.bool false)] [(0, (.c (.bool true))), (1, (.c (.bool true)))]⟩,
        ⟨(some 17), none, .bslice 4 1 2 [(.bool false)] [(0, (.c (.bool false))), (1, (.c (.bool true)))]⟩,
        ⟨(some 18), none, .bslice 26 1 2 [.nilslice] [(0, (.t 16)), (1, (.t 17))]⟩,
        ⟨(some 19), none, .call 9 [(.t 18)]⟩,
        ⟨(some 15), none, .mv (.t 19)⟩,
        ⟨(some 20), none, .ext (.t 15) 0⟩,
        ⟨(some 21), none, .ext (.t 15) 1⟩,
        ⟨(some 3), none, .mv (.t 20)⟩,
        ⟨(some 4), none, .mv (.t 21)⟩])
      (.seq
       (.ops [⟨(some 22), none, .mv (.t 1)⟩,
         ⟨(some 23), none, .call 12 [(.t 22)]⟩,
         ⟨(some 24), none, .bin .eql (.t 23) (.c (.int .i64 4))⟩,
         ⟨(some 25), none, .mv (.t 24)⟩,
         ⟨(some 26), (some (25, true)), .mv (.t 1)⟩,
         ⟨(some 27), (some (25, true)), .call 21 [(.t 26), (.c (.int .i64 0)), (.c (.int .i64 3))]⟩,
         ⟨(some 28), none, .pick (.t 25) (.t 27) (.c (.bool false))⟩,
         ⟨(some 29), none, .mv (.t 28)⟩,
         ⟨(some 30), (some (29, true)), .mv (.t 1)⟩,
         ⟨(some 31), (some (29, true)), .call 21 [(.t 30), (.c (.int .i64 1)), (.c (.int .i64 2))]⟩,
         ⟨(some 32), (some (29, true)), .un .not (.t 31)⟩,
         ⟨(some 33), none, .pick (.t 29) (.t 32) (.c (.bool false))⟩,
         ⟨(some 34), none, .mv (.t 33)⟩,
         ⟨(some 35), (some (34, true)), .mv (.t 1)⟩,
         ⟨(some 36), (some (34, true)), .call 15 [(.t 35), (.c (.int .i64 1)), (.c (.int .i64 2))]⟩,
         ⟨(some 37), (some (34, true)), .bin .eql (.t 36) (.c (.int .i64 3))⟩,
         ⟨(some 38), none, .pick (.t 34) (.t 37) (.c (.bool false))⟩,
         ⟨(some 39), none, .mv (.t 38)⟩,
         ⟨(some 40), (some (39, true)), .mv (.t 1)⟩,
         ⟨(some 41), (some (39, true)), .call 16 [(.t 40), (.c (.int .i64 1)), (.c (.int .i64 2))]⟩,
         ⟨(some 42), (some (39, true)), .bin .eql (.t 41) (.c (.int .i64 0))⟩,
         ⟨(some 43), none, .pick (.t 39) (.t 42) (.c (.bool false))⟩,
         ⟨(some 44), none, .mv (.t 43)⟩,
         ⟨(some 45), (some (44, true)), .mv (.t 1)⟩,
         ⟨(some 46), (some (44, true)), .call 22 [(.t 45), (.c (.int .i64 1))]⟩,
         ⟨(some 47), (some (44, true)), .lenL (.t 46)⟩,
         ⟨(some 48), (some (44, true)), .bin .eql (.t 47) (.c (.int .i64 2))⟩,
         ⟨(some 49), none, .pick (.t 44) (.t 48) (.c (.bool false))⟩,
         ⟨(some 50), none, .mv (.t 49)⟩,
         ⟨(some 51), (some (50, true)), .mv (.t 4)⟩,
         ⟨(some 52), (some (50, true)), .bin .eql (.t 51) (.c (.int .i64 0))⟩,
         ⟨(some 53), none, .pick (.t 50) (.t 52) (.c (.bool false))⟩,
         ⟨(some 54), none, .mv (.t 53)⟩,
         ⟨(some 55), (some (54, true)), .mv (.t 3)⟩,
         ⟨(some 56), (some (54, true)), .eq true 22 (.pointer 53) (.t 55) (.c .nilptr)⟩,
         ⟨(some 57), none, .pick (.t 54) (.t 56) (.c (.bool false))⟩,
         ⟨(some 58), none, .mv (.t 57)⟩,
         ⟨(some 59), (some (58, true)), .mv (.t 3)⟩,
         ⟨(some 60), (some (58, true)), .call 13 [(.t 59)]⟩,
         ⟨(some 61), (some (58, true)), .bin .eql (.t 60) (.c (.int .i64 1))⟩,
         ⟨(some 62), none, .pick (.t 58) (.t 61) (.c (.bool false))⟩,
         ⟨(some 63), none, .mv (.t 62)⟩,
         ⟨(some 64), (some (63, true)), .mv (.t 3)⟩,
         ⟨(some 65), (some (63, true)), .call 14 [(.t 64)]⟩,
         ⟨(some 66), (some (63, true)), .bin .eql (.t 65) (.c (.int .i64 0))⟩,
         ⟨(some 67), none, .pick (.t 63) (.t 66) (.c (.bool false))⟩,
         ⟨(some 0), none, .mv (.t 67)⟩])
       (.ret)))))⟩
theorem ok11 : FnOk Tryd.prog 11 a11 := FnOk.of Tryd.prog Tryd.func11 (by kernel_rfl)
/-- (*jalousie/lattice.Lattice).Len -/
def a12 : AFn := ⟨10, [.tmp 2], .seq
   (.ops [⟨(some 2), none, .mv (.c (.int .i64 0))⟩])
   (.seq
    (.seq
     (.ops [⟨(some 3), none, .mv (.t 0)⟩,
       ⟨(some 4), none, .eq false 22 (.pointer 53) (.t 3) (.c .nilptr)⟩])
     (.cond (.t 4)
      (.seq
       (.ops [⟨(some 2), none, .mv (.c (.int .i64 0))⟩])
       (.ret))
      (.skip)))
    (.seq
     (.ops [⟨(some 5), none, .mv (.t 0)⟩,
       ⟨(some 6), none, .nilck (.t 5)⟩,
       ⟨(some 7), none, .addr 0 (.t 6)⟩,
       ⟨(some 8), none, .load none (.t 7)⟩,
       ⟨(some 9), none, .lenL (.t 8)⟩,
       ⟨(some 2), none, .mv (.t 9)⟩])
     (.ret)))⟩
theorem ok12 : FnOk Tryd.prog 12 a12 := FnOk.of Tryd.prog Tryd.func12 (by kernel_rfl)
/-- (*jalousie/lattice.Lattice).Top -/
def a13 : AFn := ⟨7, [.tmp 2], .seq
   (.ops [⟨(some 2), none, .mv (.c (.int .i64 0))⟩])
   (.seq
    (.ops [⟨(some 3), none, .mv (.t 0)⟩,
      ⟨(some 4), none, .mv (.t 0)⟩,
      ⟨(some 5), none, .fn (.func 15) [(.t 4)] []⟩,
      ⟨(some 6), none, .call 25 [(.t 3), (.t 5)]⟩,
      ⟨(some 2), none, .mv (.t 6)⟩])
    (.ret))⟩
theorem ok13 : FnOk Tryd.prog 13 a13 := FnOk.of Tryd.prog Tryd.func13 (by kernel_rfl)
/-- (*jalousie/lattice.Lattice).Bottom -/
def a14 : AFn := ⟨7, [.tmp 2], .seq
   (.ops [⟨(some 2), none, .mv (.c (.int .i64 0))⟩])
   (.seq
    (.ops [⟨(some 3), none, .mv (.t 0)⟩,
      ⟨(some 4), none, .mv (.t 0)⟩,
      ⟨(some 5), none, .fn (.func 16) [(.t 4)] []⟩,
      ⟨(some 6), none, .call 25 [(.t 3), (.t 5)]⟩,
      ⟨(some 2), none, .mv (.t 6)⟩])
    (.ret))⟩
theorem ok14 : FnOk Tryd.prog 14 a14 := FnOk.of Tryd.prog Tryd.func14 (by kernel_rfl)
/-- (*jalousie/lattice.Lattice).Join -/
def a15 : AFn := ⟨32, [.tmp 6], .seq
   (.ops [⟨(some 6), none, .mv (.c (.int .i64 0))⟩])
   (.seq
    (.seq
     (.ops [⟨(some 7), none, .mv (.t 0)⟩,
       ⟨(some 8), none, .mv (.t 1)⟩,
       ⟨(some 9), none, .call 26 [(.t 7), (.t 8)]⟩,
       ⟨(some 10), none, .un .not (.t 9)⟩,
       ⟨(some 11), none, .mv (.t 10)⟩,
       ⟨(some 12), (some (11, false)), .mv (.t 0)⟩,
       ⟨(some 13), (some (11, false)), .mv (.t 2)⟩,
       ⟨(some 14), (some (11, false)), .call 26 [(.t 12), (.t 13)]⟩,
       ⟨(some 15), (some (11, false)), .un .not (.t 14)⟩,
       ⟨(some 16), none, .pick (.t 11) (.c (.bool true)) (.t 15)⟩])
     (.cond (.t 16)
      (.seq
       (.ops [⟨(some 6), none, .mv (.c (.int .i64 (-1)))⟩])
       (.ret))
      (.skip)))
    (.seq
     (.ops [⟨(some 17), none, .mv (.t 0)⟩,
       ⟨(some 18), none, .call 27 [(.t 17)]⟩])
     (.seq
      (.draw [⟨⟨(some 19), none, .mv (.t 0)⟩, []⟩,
        ⟨⟨(some 20), none, .nilck (.t 19)⟩, [0]⟩,
        ⟨⟨(some 21), none, .addr 5 (.t 20)⟩, [1]⟩,
        ⟨⟨(some 22), none, .load none (.t 21)⟩, [2]⟩,
        ⟨⟨(some 23), none, .mv (.t 1)⟩, []⟩,
        ⟨⟨(some 24), none, .mv (.t 0)⟩, []⟩,
        ⟨⟨(some 25), none, .call 12 [(.t 24)]⟩, [5]⟩,
        ⟨⟨(some 26), none, .bin .mul (.t 23) (.t 25)⟩, [4, 6]⟩,
        ⟨⟨(some 27), none, .mv (.t 2)⟩, []⟩,
        ⟨⟨(some 28), none, .bin .add (.t 26) (.t 27)⟩, [7, 8]⟩,
        ⟨⟨(some 29), none, .iaddrS 1 (.t 22) (.t 28)⟩, [3, 9]⟩,
        ⟨⟨(some 30), none, .load none (.t 29)⟩, [10]⟩,
        ⟨⟨(some 31), none, .convI .i64 (.t 30)⟩, [11]⟩,
        ⟨⟨(some 6), none, .mv (.t 31)⟩, [12, 6, 0, 1, 2, 3, 4, 5, 6, 7, 8, 9, 10, 11, 12]⟩] [0, 1, 3, 7, 0, 0, 32, 112, 0, 496, 1023, 2047, 4095, 8191])
      (.ret))))⟩
theorem ok15 : FnOk Tryd.prog 15 a15 := FnOk.of Tryd.prog Tryd.func15 (by kernel_rfl)
/-- (*jalousie/lattice.Lattice).Meet -/
def a16 : AFn := ⟨32, [.tmp 6], .seq
   (.ops [⟨(some 6), none, .mv (.c (.int .i64 0))⟩])
   (.seq
    (.seq
     (.ops [⟨(some 7), none, .mv (.t 0)⟩,
       ⟨(some 8), none, .mv (.t 1)⟩,
       ⟨(some 9), none, .call 26 [(.t 7), (.t 8)]⟩,
       ⟨(some 10), none, .un .not (.t 9)⟩,
       ⟨(some 11), none, .mv (.t 10)⟩,
       ⟨(some 12), (some (11, false)), .mv (.t 0)⟩,
       ⟨(some 13), (some (11, false)), .mv (.t 2)⟩,
       ⟨(some 14), (some (11, false)), .call 26 [(.t 12), (.t 13)]⟩,
       ⟨(some 15), (some (11, false)), .un .not (.t 14)⟩,
       ⟨(some 16), none, .pick (.t 11) (.c (.bool true)) (.t 15)⟩])
     (.cond (.t 16)
      (.seq
       (.ops [⟨(some 6), none, .mv (.c (.int .i64 (-1)))⟩])
       (.ret))
      (.skip)))
    (.seq
     (.ops [⟨(some 17), none, .mv (.t 0)⟩,
       ⟨(some 18), none, .call 27 [(.t 17)]⟩])
     (.seq
      (.draw [⟨⟨(some 19), none, .mv (.t 0)⟩, []⟩,
        ⟨⟨(some 20), none, .nilck (.t 19)⟩, [0]⟩,
        ⟨⟨(some 21), none, .addr 6 (.t 20)⟩, [1]⟩,
        ⟨⟨(some 22), none, .load none (.t 21)⟩, [2]⟩,
        ⟨⟨(some 23), none, .mv (.t 1)⟩, []⟩,
        ⟨⟨(some 24), none, .mv (.t 0)⟩, []⟩,
        ⟨⟨(some 25), none, .call 12 [(.t 24)]⟩, [5]⟩,
        ⟨⟨(some 26), none, .bin .mul (.t 23) (.t 25)⟩, [4, 6]⟩,
        ⟨⟨(some 27), none, .mv (.t 2)⟩, []⟩,
        ⟨⟨(some 28), none, .bin .add (.t 26) (.t 27)⟩, [7, 8]⟩,
        ⟨⟨(some 29), none, .iaddrS 1 (.t 22) (.t 28)⟩, [3, 9]⟩,
        ⟨⟨(some 30), none, .load none (.t 29)⟩, [10]⟩,
        ⟨⟨(some 31), none, .convI .i64 (.t 30)⟩, [11]⟩,
        ⟨⟨(some 6), none, .mv (.t 31)⟩, [12, 6, 0, 1, 2, 3, 4, 5, 6, 7, 8, 9, 10, 11, 12]⟩] [0, 1, 3, 7, 0, 0, 32, 112, 0, 496, 1023, 2047, 4095, 8191])
      (.ret))))⟩
theorem ok16 : FnOk Tryd.prog 16 a16 := FnOk.of Tryd.prog Tryd.func16 (by kernel_rfl)
/-- jalousie/jalousielaw01.wide -/
def a17 : AFn := ⟨23, [.tmp 2], .seq
   (.ops [⟨(some 2), none, .mv (.c (.bool false))⟩])
   (.seq
    (.seq
     (.ops [⟨(some 3), none, .mv (.c (.int .i64 0))⟩])
     (.block 0 (.loop (.seq
        (.seq
         (.ops [⟨(some 4), none, .mv (.t 3)⟩,
           ⟨(some 5), none, .mv (.t 0)⟩,
           ⟨(some 6), none, .lenL (.t 5)⟩,
           ⟨(some 7), none, .bin .lss (.t 4) (.t 6)⟩,
           ⟨(some 8), none, .mv (.t 7)⟩,
           ⟨(some 9), (some (8, true)), .mv (.t 3)⟩,
           ⟨(some 10), (some (8, true)), .bin .leq (.t 9) (.c (.int .i64 100))⟩,
           ⟨(some 11), none, .pick (.t 8) (.t 10) (.c (.bool false))⟩])
         (.cond (.t 11)
          (.skip)
          (.exit 0)))
        (.seq
         (.block 1 (.seq
           (.ops [⟨(some 14), none, .mv (.t 0)⟩,
             ⟨(some 15), none, .mv (.t 3)⟩,
             ⟨(some 16), none, .iaddrS 1 (.t 14) (.t 15)⟩,
             ⟨(some 17), none, .load none (.t 16)⟩,
             ⟨(some 18), none, .lenL (.t 17)⟩,
             ⟨(some 19), none, .bin .gtr (.t 18) (.c (.int .i64 100))⟩])
           (.cond (.t 19)
            (.seq
             (.ops [⟨(some 2), none, .mv (.c (.bool true))⟩])
             (.ret))
            (.skip))))
         (.ops [⟨(some 12), none, .mv (.t 3)⟩,
           ⟨(some 13), none, .bin .add (.t 12) (.c (.int .i64 1))⟩,
           ⟨(some 3), none, .mv (.t 13)⟩]))))))
    (.seq
     (.ops [⟨(some 20), none, .mv (.t 0)⟩,
       ⟨(some 21), none, .lenL (.t 20)⟩,
       ⟨(some 22), none, .bin .gtr (.t 21) (.c (.int .i64 100))⟩,
       ⟨(some 2), none, .mv (.t 22)⟩])
     (.ret)))⟩
theorem ok17 : FnOk Tryd.prog 17 a17 := FnOk.of Tryd.prog Tryd.func17 (by kernel_rfl)
/-- jalousie/jalousieref01.New -/
def a18 : AFn := ⟨122, [.tmp 2], .seq
   (.ops [⟨(some 2), none, .mv (.c (.int .i64 0))⟩])
   (.seq
    (.ops [⟨(some 10), none, .mv (.t 0)⟩,
      ⟨(some 11), none, .lenL (.t 10)⟩,
      ⟨(some 3), none, .mv (.t 11)⟩])
    (.seq
     (.seq
      (.ops [⟨(some 12), none, .mv (.t 3)⟩,
        ⟨(some 13), none, .bin .lss (.t 12) (.c (.int .i64 1))⟩,
        ⟨(some 14), none, .mv (.t 13)⟩,
        ⟨(some 15), (some (14, false)), .mv (.t 3)⟩,
        ⟨(some 16), (some (14, false)), .bin .gtr (.t 15) (.c (.int .i64 64))⟩,
        ⟨(some 17), none, .pick (.t 14) (.c (.bool true)) (.t 16)⟩])
      (.cond (.t 17)
       (.seq
        (.ops [⟨(some 2), none, .mv (.c (.int .i64 3))⟩])
        (.ret))
       (.skip)))
     (.seq
      (.seq
       (.ops [⟨(some 4), none, .mv (.c (.int .i64 0))⟩])
       (.block 0 (.loop (.seq
          (.seq
           (.ops [⟨(some 18), none, .mv (.t 4)⟩,
             ⟨(some 19), none, .mv (.t 3)⟩,
             ⟨(some 20), none, .bin .lss (.t 18) (.t 19)⟩])
           (.cond (.t 20)
            (.skip)
            (.exit 0)))
          (.seq
           (.block 1 (.seq
             (.ops [⟨(some 23), none, .mv (.t 0)⟩,
               ⟨(some 24), none, .mv (.t 4)⟩,
               ⟨(some 25), none, .iaddrS 1 (.t 23) (.t 24)⟩,
               ⟨(some 26), none, .load none (.t 25)⟩,
               ⟨(some 27), none, .lenL (.t 26)⟩,
               ⟨(some 28), none, .mv (.t 3)⟩,
               ⟨(some 29), none, .bin .neq (.t 27) (.t 28)⟩])
             (.cond (.t 29)
              (.seq
               (.ops [⟨(some 2), none, .mv (.c (.int .i64 8))⟩])
               (.ret))
              (.skip))))
           (.ops [⟨(some 21), none, .mv (.t 4)⟩,
             ⟨(some 22), none, .bin .add (.t 21) (.c (.int .i64 1))⟩,
             ⟨(some 4), none, .mv (.t 22)⟩]))))))
      (.seq
       (.seq
        (.ops [⟨(some 5), none, .mv (.c (.int .i64 0))⟩])
        (.block 2 (.loop (.seq
           (.seq
            (.ops [⟨(some 30), none, .mv (.t 5)⟩,
              ⟨(some 31), none, .mv (.t 3)⟩,
              ⟨(some 32), none, .bin .lss (.t 30) (.t 31)⟩])
            (.cond (.t 32)
             (.skip)
             (.exit 2)))
           (.seq
            (.block 3 (.seq
              (.seq
               (.ops [⟨(some 35), none, .mv (.t 0)⟩,
                 ⟨(some 36), none, .mv (.t 5)⟩,
                 ⟨(some 37), none, .iaddrS 1 (.t 35) (.t 36)⟩,
                 ⟨(some 38), none, .load none (.t 37)⟩,
                 ⟨(some 39), none, .mv (.t 5)⟩,
                 ⟨(some 40), none, .iaddrS 1 (.t 38) (.t 39)⟩,
                 ⟨(some 41), none, .load none (.t 40)⟩,
                 ⟨(some 42), none, .un .not (.t 41)⟩])
               (.cond (.t 42)
                (.seq
                 (.ops [⟨(some 2), none, .mv (.c (.int .i64 1))⟩])
                 (.ret))
                (.skip)))
              (.seq
               (.ops [⟨(some 6), none, .mv (.c (.int .i64 0))⟩])
               (.block 4 (.loop (.seq
                  (.seq
                   (.ops [⟨(some 43), none, .mv (.t 6)⟩,
                     ⟨(some 44), none, .mv (.t 3)⟩,
                     ⟨(some 45), none, .bin .lss (.t 43) (.t 44)⟩])
                   (.cond (.t 45)
                    (.skip)
                    (.exit 4)))
                  (.seq
                   (.block 5 (.seq
                     (.seq
                      (.ops [⟨(some 48), none, .mv (.t 5)⟩,
                        ⟨(some 49), none, .mv (.t 6)⟩,
                        ⟨(some 50), none, .bin .neq (.t 48) (.t 49)⟩,
                        ⟨(some 51), none, .mv (.t 50)⟩,
                        ⟨(some 52), (some (51, true)), .mv (.t 0)⟩,
                        ⟨(some 53), (some (51, true)), .mv (.t 5)⟩,
                        ⟨(some 54), (some (51, true)), .iaddrS 1 (.t 52) (.t 53)⟩,
                        ⟨(some 55), (some (51, true)), .load none (.t 54)⟩,
                        ⟨(some 56), (some (51, true)), .mv (.t 6)⟩,
                        ⟨(some 57), (some (51, true)), .iaddrS 1 (.t 55) (.t 56)⟩,
                        ⟨(some 58), (some (51, true)), .load none (.t 57)⟩,
                        ⟨(some 59), none, .pick (.t 51) (.t 58) (.c (.bool false))⟩,
                        ⟨(some 60), none, .mv (.t 59)⟩,
                        ⟨(some 61), (some (60, true)), .mv (.t 0)⟩,
                        ⟨(some 62), (some (60, true)), .mv (.t 6)⟩,
                        ⟨(some 63), (some (60, true)), .iaddrS 1 (.t 61) (.t 62)⟩,
                        ⟨(some 64), (some (60, true)), .load none (.t 63)⟩,
                        ⟨(some 65), (some (60, true)), .mv (.t 5)⟩,
                        ⟨(some 66), (some (60, true)), .iaddrS 1 (.t 64) (.t 65)⟩,
                        ⟨(some 67), (some (60, true)), .load none (.t 66)⟩,
                        ⟨(some 68), none, .pick (.t 60) (.t 67) (.c (.bool false))⟩])
                      (.cond (.t 68)
                       (.seq
                        (.ops [⟨(some 2), none, .mv (.c (.int .i64 1))⟩])
                        (.ret))
                       (.skip)))
                     (.seq
                      (.ops [⟨(some 7), none, .mv (.c (.int .i64 0))⟩])
                      (.block 6 (.loop (.seq
                         (.seq
                          (.ops [⟨(some 69), none, .mv (.t 7)⟩,
                            ⟨(some 70), none, .mv (.t 3)⟩,
                            ⟨(some 71), none, .bin .lss (.t 69) (.t 70)⟩])
                          (.cond (.t 71)
                           (.skip)
                           (.exit 6)))
                         (.seq
                          (.block 7 (.seq
                            (.ops [⟨(some 74), none, .mv (.t 0)⟩,
                              ⟨(some 75), none, .mv (.t 5)⟩,
                              ⟨(some 76), none, .iaddrS 1 (.t 74) (.t 75)⟩,
                              ⟨(some 77), none, .load none (.t 76)⟩,
                              ⟨(some 78), none, .mv (.t 6)⟩,
                              ⟨(some 79), none, .iaddrS 1 (.t 77) (.t 78)⟩,
                              ⟨(some 80), none, .load none (.t 79)⟩,
                              ⟨(some 81), none, .mv (.t 80)⟩,
                              ⟨(some 82), (some (81, true)), .mv (.t 0)⟩,
                              ⟨(some 83), (some (81, true)), .mv (.t 6)⟩,
                              ⟨(some 84), (some (81, true)), .iaddrS 1 (.t 82) (.t 83)⟩,
                              ⟨(some 85), (some (81, true)), .load none (.t 84)⟩,
                              ⟨(some 86), (some (81, true)), .mv (.t 7)⟩,
                              ⟨(some 87), (some (81, true)), .iaddrS 1 (.t 85) (.t 86)⟩,
                              ⟨(some 88), (some (81, true)), .load none (.t 87)⟩,
                              ⟨(some 89), none, .pick (.t 81) (.t 88) (.c (.bool false))⟩,
                              ⟨(some 90), none, .mv (.t 89)⟩,
                              ⟨(some 91), (some (90, true)), .mv (.t 0)⟩,
                              ⟨(some 92), (some (90, true)), .mv (.t 5)⟩,
                              ⟨(some 93), (some (90, true)), .iaddrS 1 (.t 91) (.t 92)⟩,
                              ⟨(some 94), (some (90, true)), .load none (.t 93)⟩,
                              ⟨(some 95), (some (90, true)), .mv (.t 7)⟩,
                              ⟨(some 96), (some (90, true)), .iaddrS 1 (.t 94) (.t 95)⟩,
                              ⟨(some 97), (some (90, true)), .load none (.t 96)⟩,
                              ⟨(some 98), (some (90, true)), .un .not (.t 97)⟩,
                              ⟨(some 99), none, .pick (.t 90) (.t 98) (.c (.bool false))⟩])
                            (.cond (.t 99)
                             (.seq
                              (.ops [⟨(some 2), none, .mv (.c (.int .i64 1))⟩])
                              (.ret))
                             (.skip))))
                          (.ops [⟨(some 72), none, .mv (.t 7)⟩,
                            ⟨(some 73), none, .bin .add (.t 72) (.c (.int .i64 1))⟩,
                            ⟨(some 7), none, .mv (.t 73)⟩]))))))))
                   (.ops [⟨(some 46), none, .mv (.t 6)⟩,
                     ⟨(some 47), none, .bin .add (.t 46) (.c (.int .i64 1))⟩,
                     ⟨(some 6), none, .mv (.t 47)⟩]))))))))
            (.ops [⟨(some 33), none, .mv (.t 5)⟩,
              ⟨(some 34), none, .bin .add (.t 33) (.c (.int .i64 1))⟩,
              ⟨(some 5), none, .mv (.t 34)⟩]))))))
       (.seq
        (.seq
         (.ops [⟨(some 8), none, .mv (.c (.int .i64 0))⟩])
         (.block 8 (.loop (.seq
            (.seq
             (.ops [⟨(some 100), none, .mv (.t 8)⟩,
               ⟨(some 101), none, .mv (.t 3)⟩,
               ⟨(some 102), none, .bin .lss (.t 100) (.t 101)⟩])
             (.cond (.t 102)
              (.skip)
              (.exit 8)))
            (.seq
             (.block 9 (.seq
               (.ops [⟨(some 9), none, .mv (.c (.int .i64 0))⟩])
               (.block 10 (.loop (.seq
                  (.seq
                   (.ops [⟨(some 105), none, .mv (.t 9)⟩,
                     ⟨(some 106), none, .mv (.t 3)⟩,
                     ⟨(some 107), none, .bin .lss (.t 105) (.t 106)⟩])
                   (.cond (.t 107)
                    (.skip)
                    (.exit 10)))
                  (.seq
                   (.block 11 (.seq
                     (.ops [⟨(some 110), none, .mv (.t 0)⟩,
                       ⟨(some 111), none, .mv (.t 8)⟩,
                       ⟨(some 112), none, .mv (.t 9)⟩,
                       ⟨(some 113), none, .call 28 [(.t 110), (.t 111), (.t 112)]⟩,
                       ⟨(some 114), none, .bin .lss (.t 113) (.c (.int .i64 0))⟩,
                       ⟨(some 115), none, .mv (.t 114)⟩,
                       ⟨(some 116), (some (115, false)), .mv (.t 0)⟩,
                       ⟨(some 117), (some (115, false)), .mv (.t 8)⟩,
                       ⟨(some 118), (some (115, false)), .mv (.t 9)⟩,
                       ⟨(some 119), (some (115, false)), .call 29 [(.t 116), (.t 117), (.t 118)]⟩,
                       ⟨(some 120), (some (115, false)), .bin .lss (.t 119) (.c (.int .i64 0))⟩,
                       ⟨(some 121), none, .pick (.t 115) (.c (.bool true)) (.t 120)⟩])
                     (.cond (.t 121)
                      (.seq
                       (.ops [⟨(some 2), none, .mv (.c (.int .i64 1))⟩])
                       (.ret))
                      (.skip))))
                   (.ops [⟨(some 108), none, .mv (.t 9)⟩,
                     ⟨(some 109), none, .bin .add (.t 108) (.c (.int .i64 1))⟩,
                     ⟨(some 9), none, .mv (.t 109)⟩])))))))
             (.ops [⟨(some 103), none, .mv (.t 8)⟩,
               ⟨(some 104), none, .bin .add (.t 103) (.c (.int .i64 1))⟩,
               ⟨(some 8), none, .mv (.t 104)⟩]))))))
        (.seq
         (.ops [⟨(some 2), none, .mv (.c (.int .i64 0))⟩])
         (.ret)))))))⟩
theorem ok18 : FnOk Tryd.prog 18 a18 := FnOk.of Tryd.prog Tryd.func18 (by kernel_rfl)
/-- jalousie/jalousielaw01.tells -/
def a19 : AFn := ⟨83, [.tmp 8], .seq
   (.ops [⟨(some 8), none, .mv (.c (.bool false))⟩])
   (.seq
    (.ops [⟨(some 12), none, .mv (.t 0)⟩,
      ⟨(some 13), none, .mv (.t 2)⟩,
      ⟨(some 14), none, .call 22 [(.t 12), (.t 13)]⟩,
      ⟨(some 9), none, .mv (.t 14)⟩])
    (.seq
     (.ops [⟨(some 10), none, .mv (.c (.int .i64 0))⟩])
     (.seq
      (.seq
       (.ops [⟨(some 11), none, .mv (.c (.int .i64 0))⟩])
       (.block 0 (.loop (.seq
          (.seq
           (.ops [⟨(some 15), none, .mv (.t 11)⟩,
             ⟨(some 16), none, .mv (.t 1)⟩,
             ⟨(some 17), none, .lenL (.t 16)⟩,
             ⟨(some 18), none, .bin .lss (.t 15) (.t 17)⟩])
           (.cond (.t 18)
            (.skip)
            (.exit 0)))
          (.seq
           (.block 1 (.seq
             (.ops [⟨(some 21), none, .mv (.t 1)⟩,
               ⟨(some 22), none, .mv (.t 11)⟩,
               ⟨(some 23), none, .mv (.t 2)⟩,
               ⟨(some 24), none, .call 30 [(.t 21), (.t 22), (.t 23)]⟩])
             (.cond (.t 24)
              (.seq
               (.seq
                (.ops [⟨(some 25), none, .mv (.t 10)⟩,
                  ⟨(some 26), none, .mv (.t 9)⟩,
                  ⟨(some 27), none, .lenL (.t 26)⟩,
                  ⟨(some 28), none, .bin .geq (.t 25) (.t 27)⟩,
                  ⟨(some 29), none, .mv (.t 28)⟩,
                  ⟨(some 30), (some (29, false)), .mv (.t 9)⟩,
                  ⟨(some 31), (some (29, false)), .mv (.t 10)⟩,
                  ⟨(some 32), (some (29, false)), .iaddrS 1 (.t 30) (.t 31)⟩,
                  ⟨(some 33), (some (29, false)), .load none (.t 32)⟩,
                  ⟨(some 34), (some (29, false)), .mv (.t 11)⟩,
                  ⟨(some 35), (some (29, false)), .bin .neq (.t 33) (.t 34)⟩,
                  ⟨(some 36), none, .pick (.t 29) (.c (.bool true)) (.t 35)⟩])
                (.cond (.t 36)
                 (.seq
                  (.ops [⟨(some 8), none, .mv (.c (.bool false))⟩])
                  (.ret))
                 (.skip)))
               (.ops [⟨(some 37), none, .mv (.t 10)⟩,
                 ⟨(some 38), none, .bin .add (.t 37) (.c (.int .i64 1))⟩,
                 ⟨(some 10), none, .mv (.t 38)⟩]))
              (.skip))))
           (.ops [⟨(some 19), none, .mv (.t 11)⟩,
             ⟨(some 20), none, .bin .add (.t 19) (.c (.int .i64 1))⟩,
             ⟨(some 11), none, .mv (.t 20)⟩]))))))
      (.seq
       (.ops [⟨(some 39), none, .mv (.t 0)⟩,
         ⟨(some 40), none, .call 12 [(.t 39)]⟩,
         ⟨(some 41), none, .mv (.t 1)⟩,
         ⟨(some 42), none, .lenL (.t 41)⟩,
         ⟨(some 43), none, .bin .eql (.t 40) (.t 42)⟩,
         ⟨(some 44), none, .mv (.t 43)⟩,
         ⟨(some 45), (some (44, true)), .mv (.t 0)⟩,
         ⟨(some 46), (some (44, true)), .mv (.t 2)⟩,
         ⟨(some 47), (some (44, true)), .mv (.t 3)⟩,
         ⟨(some 48), (some (44, true)), .call 21 [(.t 45), (.t 46), (.t 47)]⟩,
         ⟨(some 49), (some (44, true)), .mv (.t 1)⟩,
         ⟨(some 50), (some (44, true)), .mv (.t 2)⟩,
         ⟨(some 51), (some (44, true)), .mv (.t 3)⟩,
         ⟨(some 52), (some (44, true)), .call 30 [(.t 49), (.t 50), (.t 51)]⟩,
         ⟨(some 53), (some (44, true)), .eq false 4 .bool (.t 48) (.t 52)⟩,
         ⟨(some 54), none, .pick (.t 44) (.t 53) (.c (.bool false))⟩,
         ⟨(some 55), none, .mv (.t 54)⟩,
         ⟨(some 56), (some (55, true)), .mv (.t 0)⟩,
         ⟨(some 57), (some (55, true)), .mv (.t 2)⟩,
         ⟨(some 58), (some (55, true)), .mv (.t 3)⟩,
         ⟨(some 59), (some (55, true)), .call 15 [(.t 56), (.t 57), (.t 58)]⟩,
         ⟨(some 60), (some (55, true)), .mv (.t 1)⟩,
         ⟨(some 61), (some (55, true)), .mv (.t 2)⟩,
         ⟨(some 62), (some (55, true)), .mv (.t 3)⟩,
         ⟨(some 63), (some (55, true)), .call 28 [(.t 60), (.t 61), (.t 62)]⟩,
         ⟨(some 64), (some (55, true)), .bin .eql (.t 59) (.t 63)⟩,
         ⟨(some 65), none, .pick (.t 55) (.t 64) (.c (.bool false))⟩,
         ⟨(some 66), none, .mv (.t 65)⟩,
         ⟨(some 67), (some (66, true)), .mv (.t 0)⟩,
         ⟨(some 68), (some (66, true)), .mv (.t 2)⟩,
         ⟨(some 69), (some (66, true)), .mv (.t 3)⟩,
         ⟨(some 70), (some (66, true)), .call 16 [(.t 67), (.t 68), (.t 69)]⟩,
         ⟨(some 71), (some (66, true)), .mv (.t 1)⟩,
         ⟨(some 72), (some (66, true)), .mv (.t 2)⟩,
         ⟨(some 73), (some (66, true)), .mv (.t 3)⟩,
         ⟨(some 74), (some (66, true)), .call 29 [(.t 71), (.t 72), (.t 73)]⟩,
         ⟨(some 75), (some (66, true)), .bin .eql (.t 70) (.t 74)⟩,
         ⟨(some 76), none, .pick (.t 66) (.t 75) (.c (.bool false))⟩,
         ⟨(some 77), none, .mv (.t 76)⟩,
         ⟨(some 78), (some (77, true)), .mv (.t 10)⟩,
         ⟨(some 79), (some (77, true)), .mv (.t 9)⟩,
         ⟨(some 80), (some (77, true)), .lenL (.t 79)⟩,
         ⟨(some 81), (some (77, true)), .bin .eql (.t 78) (.t 80)⟩,
         ⟨(some 82), none, .pick (.t 77) (.t 81) (.c (.bool false))⟩,
         ⟨(some 8), none, .mv (.t 82)⟩])
       (.ret)))))⟩
theorem ok19 : FnOk Tryd.prog 19 a19 := FnOk.of Tryd.prog Tryd.func19 (by kernel_rfl)
/-- jalousie/jalousieref01.Rank -/
def a20 : AFn := ⟨91, [.tmp 4], .seq
   (.ops [⟨(some 4), none, .mv (.c .nilslice)⟩])
   (.seq
    (.seq
     (.ops [⟨(some 15), none, .mv (.t 0)⟩,
       ⟨(some 16), none, .bin .lss (.t 15) (.c (.int .i64 1))⟩,
       ⟨(some 17), none, .mv (.t 16)⟩,
       ⟨(some 18), (some (17, false)), .mv (.t 0)⟩,
       ⟨(some 19), (some (17, false)), .bin .gtr (.t 18) (.c (.int .i64 64))⟩,
       ⟨(some 20), none, .pick (.t 17) (.c (.bool true)) (.t 19)⟩,
       ⟨(some 21), none, .mv (.t 20)⟩,
       ⟨(some 22), (some (21, false)), .mv (.t 1)⟩,
       ⟨(some 23), (some (21, false)), .bin .lss (.t 22) (.c (.int .i64 0))⟩,
       ⟨(some 24), none, .pick (.t 21) (.c (.bool true)) (.t 23)⟩,
       ⟨(some 25), none, .mv (.t 24)⟩,
       ⟨(some 26), (some (25, false)), .mv (.t 1)⟩,
       ⟨(some 27), (some (25, false)), .bin .gtr (.t 26) (.c (.int .i64 6))⟩,
       ⟨(some 28), none, .pick (.t 25) (.c (.bool true)) (.t 27)⟩])
     (.cond (.t 28)
      (.seq
       (.ops [⟨(some 4), none, .mv (.c .nilslice)⟩])
       (.ret))
      (.skip)))
    (.seq
     (.ops [⟨(some 29), none, .mv (.t 0)⟩,
       ⟨(some 5), none, .mv (.t 29)⟩])
     (.seq
      (.seq
       (.ops [⟨(some 6), none, .mv (.c (.int .i64 0))⟩])
       (.block 0 (.loop (.seq
          (.seq
           (.ops [⟨(some 30), none, .mv (.t 6)⟩,
             ⟨(some 31), none, .mv (.t 1)⟩,
             ⟨(some 32), none, .bin .lss (.t 30) (.t 31)⟩])
           (.cond (.t 32)
            (.skip)
            (.exit 0)))
          (.seq
           (.block 1 (.ops [⟨(some 35), none, .mv (.t 5)⟩,
              ⟨(some 36), none, .bin .mul (.c (.int .i64 2)) (.t 35)⟩,
              ⟨(some 5), none, .mv (.t 36)⟩]))
           (.ops [⟨(some 33), none, .mv (.t 6)⟩,
             ⟨(some 34), none, .bin .add (.t 33) (.c (.int .i64 1))⟩,
             ⟨(some 6), none, .mv (.t 34)⟩]))))))
      (.seq
       (.seq
        (.ops [⟨(some 37), none, .mv (.t 5)⟩,
          ⟨(some 38), none, .bin .gtr (.t 37) (.c (.int .i64 64))⟩])
        (.cond (.t 38)
         (.seq
          (.ops [⟨(some 4), none, .mv (.c .nilslice)⟩])
          (.ret))
         (.skip)))
       (.seq
        (.ops [⟨(some 7), none, .mv (.c .nilslice)⟩])
        (.seq
         (.seq
          (.ops [⟨(some 8), none, .mv (.c (.int .i64 0))⟩])
          (.block 2 (.loop (.seq
             (.seq
              (.ops [⟨(some 39), none, .mv (.t 8)⟩,
                ⟨(some 40), none, .mv (.t 5)⟩,
                ⟨(some 41), none, .bin .lss (.t 39) (.t 40)⟩])
              (.cond (.t 41)
               (.skip)
               (.exit 2)))
             (.seq
              (.block 3 (.seq
                (.ops [⟨(some 9), none, .mv (.c .nilslice)⟩])
                (.seq
                 (.seq
                  (.ops [⟨(some 10), none, .mv (.c (.int .i64 0))⟩])
                  (.block 4 (.loop (.seq
                     (.seq
                      (.ops [⟨(some 44), none, .mv (.t 10)⟩,
                        ⟨(some 45), none, .mv (.t 5)⟩,
                        ⟨(some 46), none, .bin .lss (.t 44) (.t 45)⟩])
                      (.cond (.t 46)
                       (.skip)
                       (.exit 4)))
                     (.seq
                      (.block 5 (.seq
                        (.draw [⟨⟨(some 49), none, .mv (.t 8)⟩, []⟩,
                          ⟨⟨(some 50), none, .mv (.t 0)⟩, []⟩,
                          ⟨⟨(some 51), none, .bin .rem (.t 49) (.t 50)⟩, [0, 1]⟩,
                          ⟨⟨(some 52), none, .mv (.t 10)⟩, []⟩,
                          ⟨⟨(some 53), none, .mv (.t 0)⟩, []⟩,
                          ⟨⟨(some 54), none, .bin .rem (.t 52) (.t 53)⟩, [3, 4]⟩,
                          ⟨⟨(some 55), none, .bin .leq (.t 51) (.t 54)⟩, [2, 5]⟩,
                          ⟨⟨(some 11), none, .mv (.t 55)⟩, [6, 0, 1, 2, 3, 4, 5, 6]⟩] [0, 0, 3, 0, 0, 24, 63, 127])
                        (.seq
                         (.draw [⟨⟨(some 56), none, .mv (.t 8)⟩, []⟩,
                           ⟨⟨(some 57), none, .mv (.t 0)⟩, []⟩,
                           ⟨⟨(some 58), none, .bin .quo (.t 56) (.t 57)⟩, [0, 1]⟩,
                           ⟨⟨(some 59), none, .mv (.t 10)⟩, []⟩,
                           ⟨⟨(some 60), none, .mv (.t 0)⟩, []⟩,
                           ⟨⟨(some 61), none, .bin .quo (.t 59) (.t 60)⟩, [3, 4]⟩,
                           ⟨⟨(some 12), none, .mv (.t 58)⟩, [2, 0, 1, 2]⟩,
                           ⟨⟨(some 13), none, .mv (.t 61)⟩, [5, 6, 0, 1, 2, 3, 4, 5, 6]⟩] [0, 0, 3, 0, 0, 24, 7, 127])
                         (.seq
                          (.seq
                           (.ops [⟨(some 14), none, .mv (.c (.int .i64 0))⟩])
                           (.block 6 (.loop (.seq
                              (.seq
                               (.ops [⟨(some 62), none, .mv (.t 14)⟩,
                                 ⟨(some 63), none, .mv (.t 1)⟩,
                                 ⟨(some 64), none, .bin .lss (.t 62) (.t 63)⟩])
                               (.cond (.t 64)
                                (.skip)
                                (.exit 6)))
                              (.seq
                               (.block 7 (.seq
                                 (.ops [⟨(some 67), none, .mv (.t 11)⟩,
                                   ⟨(some 68), none, .mv (.t 67)⟩,
                                   ⟨(some 69), (some (68, true)), .mv (.t 12)⟩,
                                   ⟨(some 70), (some (68, true)), .bin .rem (.t 69) (.c (.int .i64 2))⟩,
                                   ⟨(some 71), (some (68, true)), .bin .eql (.t 70) (.c (.int .i64 0))⟩,
                                   ⟨(some 72), (some (68, true)), .mv (.t 71)⟩,
                                   ⟨(some 73), (some (72, false)), .mv (.t 13)⟩,
                                   ⟨(some 74), (some (72, false)), .bin .rem (.t 73) (.c (.int .i64 2))⟩,
                                   ⟨(some 75), (some (72, false)), .bin .eql (.t 74) (.c (.int .i64 1))⟩,
                                   ⟨(some 76), (some (68, true)), .pick (.t 72) (.c (.bool true)) (.t 75)⟩,
                                   ⟨(some 77), none, .pick (.t 68) (.t 76) (.c (.bool false))⟩,
                                   ⟨(some 11), none, .mv (.t 77)⟩])
                                 (.seq
                                  (.ops [⟨(some 78), none, .mv (.t 12)⟩,
                                    ⟨(some 79), none, .bin .quo (.t 78) (.c (.int .i64 2))⟩,
                                    ⟨(some 12), none, .mv (.t 79)⟩])
                                  (.ops [⟨(some 80), none, .mv (.t 13)⟩,
                                    ⟨(some 81), none, .bin .quo (.t 80) (.c (.int .i64 2))⟩,
                                    ⟨(some 13), none, .mv (.t 81)⟩]))))
                               (.ops [⟨(some 65), none, .mv (.t 14)⟩,
                                 ⟨(some 66), none, .bin .add (.t 65) (.c (.int .i64 1))⟩,
                                 ⟨(some 14), none, .mv (.t 66)⟩]))))))
                          (.ops [⟨(some 82), none, .mv (.t 9)⟩,
                            ⟨(some 83), none, .mv (.t 11)⟩,
                            ⟨(some 84), none, .bslice 4 1 1 [(.bool false)] [(0, (.t 83))]⟩,
                            ⟨(some 85), none, .append 4 1 1 (.t 82) (.t 84)⟩,
                            ⟨(some 9), none, .mv (.t 85)⟩])))))
                      (.ops [⟨(some 47), none, .mv (.t 10)⟩,
                        ⟨(some 48), none, .bin .add (.t 47) (.c (.int .i64 1))⟩,
                        ⟨(some 10), none, .mv (.t 48)⟩]))))))
                 (.ops [⟨(some 86), none, .mv (.t 7)⟩,
                   ⟨(some 87), none, .mv (.t 9)⟩,
                   ⟨(some 88), none, .bslice 26 1 1 [.nilslice] [(0, (.t 87))]⟩,
                   ⟨(some 89), none, .append 26 1 24 (.t 86) (.t 88)⟩,
                   ⟨(some 7), none, .mv (.t 89)⟩]))))
              (.ops [⟨(some 42), none, .mv (.t 8)⟩,
                ⟨(some 43), none, .bin .add (.t 42) (.c (.int .i64 1))⟩,
                ⟨(some 8), none, .mv (.t 43)⟩]))))))
         (.seq
          (.ops [⟨(some 90), none, .mv (.t 7)⟩,
            ⟨(some 4), none, .mv (.t 90)⟩])
          (.ret))))))))⟩
theorem ok20 : FnOk Tryd.prog 20 a20 := FnOk.of Tryd.prog Tryd.func20 (by kernel_rfl)
/-- (*jalousie/lattice.Lattice).Below -/
def a21 : AFn := ⟨28, [.tmp 6], .seq
   (.ops [⟨(some 6), none, .mv (.c (.bool false))⟩])
   (.seq
    (.ops [⟨(some 7), none, .mv (.t 0)⟩,
      ⟨(some 8), none, .mv (.t 1)⟩,
      ⟨(some 9), none, .call 26 [(.t 7), (.t 8)]⟩,
      ⟨(some 10), none, .mv (.t 9)⟩,
      ⟨(some 11), (some (10, true)), .mv (.t 0)⟩,
      ⟨(some 12), (some (10, true)), .mv (.t 2)⟩,
      ⟨(some 13), (some (10, true)), .call 26 [(.t 11), (.t 12)]⟩,
      ⟨(some 14), none, .pick (.t 10) (.t 13) (.c (.bool false))⟩,
      ⟨(some 15), none, .mv (.t 14)⟩,
      ⟨(some 16), (some (15, true)), .mv (.t 0)⟩,
      ⟨(some 17), (some (15, true)), .nilck (.t 16)⟩,
      ⟨(some 18), (some (15, true)), .addr 0 (.t 17)⟩,
      ⟨(some 19), (some (15, true)), .load none (.t 18)⟩,
      ⟨(some 20), (some (15, true)), .mv (.t 1)⟩,
      ⟨(some 21), (some (15, true)), .iaddrS 1 (.t 19) (.t 20)⟩,
      ⟨(some 22), (some (15, true)), .load none (.t 21)⟩,
      ⟨(some 23), (some (15, true)), .mv (.t 2)⟩,
      ⟨(some 24), (some (15, true)), .bin .shr (.t 22) (.t 23)⟩,
      ⟨(some 25), (some (15, true)), .bin .and (.t 24) (.c (.int .u64 1))⟩,
      ⟨(some 26), (some (15, true)), .bin .eql (.t 25) (.c (.int .u64 1))⟩,
      ⟨(some 27), none, .pick (.t 15) (.t 26) (.c (.bool false))⟩,
      ⟨(some 6), none, .mv (.t 27)⟩])
    (.ret))⟩
theorem ok21 : FnOk Tryd.prog 21 a21 := FnOk.of Tryd.prog Tryd.func21 (by kernel_rfl)
/-- (*jalousie/lattice.Lattice).Downset -/
def a22 : AFn := ⟨22, [.tmp 4], .seq
   (.ops [⟨(some 4), none, .mv (.c .nilslice)⟩])
   (.seq
    (.ops [⟨(some 5), none, .mv (.c .nilslice)⟩])
    (.seq
     (.seq
      (.ops [⟨(some 7), none, .mv (.t 0)⟩,
        ⟨(some 8), none, .call 12 [(.t 7)]⟩,
        ⟨(some 9), none, .mv (.c (.int .i64 0))⟩])
      (.block 0 (.loop (.seq
         (.ops [⟨(some 10), none, .bin .lss (.t 9) (.t 8)⟩])
         (.seq
          (.cond (.t 10)
           (.skip)
           (.exit 0))
          (.seq
           (.block 1 (.seq
             (.ops [⟨(some 11), none, .mv (.t 9)⟩,
               ⟨(some 6), none, .mv (.t 11)⟩])
             (.seq
              (.ops [⟨(some 12), none, .mv (.t 0)⟩,
                ⟨(some 13), none, .mv (.t 6)⟩,
                ⟨(some 14), none, .mv (.t 1)⟩,
                ⟨(some 15), none, .call 21 [(.t 12), (.t 13), (.t 14)]⟩])
              (.cond (.t 15)
               (.ops [⟨(some 16), none, .mv (.t 5)⟩,
                 ⟨(some 17), none, .mv (.t 6)⟩,
                 ⟨(some 18), none, .bslice 3 1 1 [(.int .i64 0)] [(0, (.t 17))]⟩,
                 ⟨(some 19), none, .append 3 1 8 (.t 16) (.t 18)⟩,
                 ⟨(some 5), none, .mv (.t 19)⟩])
               (.skip)))))
           (.ops [⟨(some 20), none, .bin .add (.t 9) (.c (.int .i64 1))⟩,
             ⟨(some 9), none, .mv (.t 20)⟩])))))))
     (.seq
      (.ops [⟨(some 21), none, .mv (.t 5)⟩,
        ⟨(some 4), none, .mv (.t 21)⟩])
      (.ret))))⟩
theorem ok22 : FnOk Tryd.prog 22 a22 := FnOk.of Tryd.prog Tryd.func22 (by kernel_rfl)
/-- (*jalousie/lattice.Lattice).order -/
def a23 : AFn := ⟨54, [.tmp 2], .seq
   (.ops [⟨(some 2), none, .mv (.c (.bool false))⟩])
   (.seq
    (.seq
     (.ops [⟨(some 6), none, .mv (.t 0)⟩,
       ⟨(some 7), none, .nilck (.t 6)⟩,
       ⟨(some 8), none, .addr 0 (.t 7)⟩,
       ⟨(some 9), none, .load none (.t 8)⟩,
       ⟨(some 10), none, .lenL (.t 9)⟩,
       ⟨(some 11), none, .mv (.c (.int .i64 0))⟩])
     (.block 0 (.loop (.seq
        (.ops [⟨(some 12), none, .bin .lss (.t 11) (.t 10)⟩])
        (.seq
         (.cond (.t 12)
          (.skip)
          (.exit 0))
         (.seq
          (.block 1 (.seq
            (.ops [⟨(some 13), none, .mv (.t 11)⟩,
              ⟨(some 14), none, .iaddrS 1 (.t 9) (.t 11)⟩,
              ⟨(some 15), none, .load none (.t 14)⟩,
              ⟨(some 3), none, .mv (.t 13)⟩,
              ⟨(some 4), none, .mv (.t 15)⟩])
            (.seq
             (.seq
              (.draw [⟨⟨(some 16), none, .mv (.t 4)⟩, []⟩,
                ⟨⟨(some 17), none, .mv (.t 3)⟩, []⟩,
                ⟨⟨(some 18), none, .bin .shr (.t 16) (.t 17)⟩, [0, 1]⟩,
                ⟨⟨(some 19), none, .bin .and (.t 18) (.c (.int .u64 1))⟩, [2]⟩,
                ⟨⟨(some 20), none, .bin .eql (.t 19) (.c (.int .u64 0))⟩, [3]⟩,
                ⟨⟨(some 21), none, .mv (.t 20)⟩, [4]⟩,
                ⟨⟨(some 22), (some (21, false)), .mv (.t 4)⟩, [5]⟩,
                ⟨⟨(some 23), (some (21, false)), .mv (.t 0)⟩, [5]⟩,
                ⟨⟨(some 24), (some (21, false)), .nilck (.t 23)⟩, [7, 5]⟩,
                ⟨⟨(some 25), (some (21, false)), .addr 1 (.t 24)⟩, [8, 5]⟩,
                ⟨⟨(some 26), (some (21, false)), .load none (.t 25)⟩, [9, 5]⟩,
                ⟨⟨(some 27), (some (21, false)), .mv (.t 3)⟩, [5]⟩,
                ⟨⟨(some 28), (some (21, false)), .iaddrS 1 (.t 26) (.t 27)⟩, [10, 11, 5]⟩,
                ⟨⟨(some 29), (some (21, false)), .load none (.t 28)⟩, [12, 5]⟩,
                ⟨⟨(some 30), (some (21, false)), .bin .and (.t 22) (.t 29)⟩, [6, 13, 5]⟩,
                ⟨⟨(some 31), (some (21, false)), .mv (.t 3)⟩, [5]⟩,
                ⟨⟨(some 32), (some (21, false)), .bin .shl (.c (.int .u64 1)) (.t 31)⟩, [15, 5]⟩,
                ⟨⟨(some 33), (some (21, false)), .bin .neq (.t 30) (.t 32)⟩, [14, 16, 5]⟩,
                ⟨⟨(some 34), none, .pick (.t 21) (.c (.bool true)) (.t 33)⟩, [5, 17]⟩] [0, 0, 3, 7, 15, 31, 63, 63, 191, 447, 959, 63, 4031, 8127, 16383, 63, 32831, 131071, 262143])
              (.cond (.t 34)
               (.seq
                (.ops [⟨(some 2), none, .mv (.c (.bool false))⟩])
                (.ret))
               (.skip)))
             (.seq
              (.ops [⟨(some 35), none, .mv (.t 4)⟩,
                ⟨(some 5), none, .mv (.t 35)⟩])
              (.block 2 (.loop (.seq
                 (.seq
                  (.ops [⟨(some 36), none, .mv (.t 5)⟩,
                    ⟨(some 37), none, .bin .neq (.t 36) (.c (.int .u64 0))⟩])
                  (.cond (.t 37)
                   (.skip)
                   (.exit 2)))
                 (.seq
                  (.block 3 (.seq
                    (.draw [⟨⟨(some 42), none, .mv (.t 0)⟩, []⟩,
                      ⟨⟨(some 43), none, .nilck (.t 42)⟩, [0]⟩,
                      ⟨⟨(some 44), none, .addr 0 (.t 43)⟩, [1]⟩,
                      ⟨⟨(some 45), none, .load none (.t 44)⟩, [2]⟩,
                      ⟨⟨(some 46), none, .mv (.t 5)⟩, []⟩,
                      ⟨⟨(some 47), none, .call 31 [(.t 46)]⟩, [4]⟩,
                      ⟨⟨(some 48), none, .iaddrS 1 (.t 45) (.t 47)⟩, [3, 5]⟩,
                      ⟨⟨(some 49), none, .load none (.t 48)⟩, [6]⟩,
                      ⟨⟨(some 50), none, .mv (.t 4)⟩, []⟩,
                      ⟨⟨(some 51), none, .bin .andNot (.t 49) (.t 50)⟩, [7, 8]⟩,
                      ⟨⟨(some 52), none, .bin .neq (.t 51) (.c (.int .u64 0))⟩, [9]⟩] [0, 1, 3, 7, 0, 16, 63, 127, 0, 511, 1023])
                    (.cond (.t 52)
                     (.seq
                      (.ops [⟨(some 2), none, .mv (.c (.bool false))⟩])
                      (.ret))
                     (.skip))))
                  (.ops [⟨(some 38), none, .mv (.t 5)⟩,
                    ⟨(some 39), none, .mv (.t 5)⟩,
                    ⟨(some 40), none, .bin .sub (.t 39) (.c (.int .u64 1))⟩,
                    ⟨(some 41), none, .bin .and (.t 38) (.t 40)⟩,
                    ⟨(some 5), none, .mv (.t 41)⟩])))))))))
          (.ops [⟨(some 53), none, .bin .add (.t 11) (.c (.int .i64 1))⟩,
            ⟨(some 11), none, .mv (.t 53)⟩])))))))
    (.seq
     (.ops [⟨(some 2), none, .mv (.c (.bool true))⟩])
     (.ret)))⟩
theorem ok23 : FnOk Tryd.prog 23 a23 := FnOk.of Tryd.prog Tryd.func23 (by kernel_rfl)
/-- jalousie/lattice.best -/
def a24 : AFn := ⟨25, [.tmp 4], .seq
   (.ops [⟨(some 4), none, .mv (.c (.int .i64 0))⟩])
   (.seq
    (.seq
     (.ops [⟨(some 7), none, .mv (.t 0)⟩,
       ⟨(some 5), none, .mv (.t 7)⟩])
     (.block 0 (.loop (.seq
        (.seq
         (.ops [⟨(some 8), none, .mv (.t 5)⟩,
           ⟨(some 9), none, .bin .neq (.t 8) (.c (.int .u64 0))⟩])
         (.cond (.t 9)
          (.skip)
          (.exit 0)))
        (.seq
         (.block 1 (.seq
           (.ops [⟨(some 14), none, .mv (.t 5)⟩,
             ⟨(some 15), none, .call 31 [(.t 14)]⟩,
             ⟨(some 6), none, .mv (.t 15)⟩])
           (.seq
            (.ops [⟨(some 16), none, .mv (.t 1)⟩,
              ⟨(some 17), none, .mv (.t 6)⟩,
              ⟨(some 18), none, .iaddrS 1 (.t 16) (.t 17)⟩,
              ⟨(some 19), none, .load none (.t 18)⟩,
              ⟨(some 20), none, .mv (.t 0)⟩,
              ⟨(some 21), none, .bin .and (.t 19) (.t 20)⟩,
              ⟨(some 22), none, .mv (.t 0)⟩,
              ⟨(some 23), none, .bin .eql (.t 21) (.t 22)⟩])
            (.cond (.t 23)
             (.seq
              (.ops [⟨(some 24), none, .mv (.t 6)⟩,
                ⟨(some 4), none, .mv (.t 24)⟩])
              (.ret))
             (.skip)))))
         (.ops [⟨(some 10), none, .mv (.t 5)⟩,
           ⟨(some 11), none, .mv (.t 5)⟩,
           ⟨(some 12), none, .bin .sub (.t 11) (.c (.int .u64 1))⟩,
           ⟨(some 13), none, .bin .and (.t 10) (.t 12)⟩,
           ⟨(some 5), none, .mv (.t 13)⟩]))))))
    (.seq
     (.ops [⟨(some 4), none, .mv (.c (.int .i64 (-1)))⟩])
     (.ret)))⟩
theorem ok24 : FnOk Tryd.prog 24 a24 := FnOk.of Tryd.prog Tryd.func24 (by kernel_rfl)
/-- (*jalousie/lattice.Lattice).over -/
def a25 : AFn := ⟨21, [.tmp 4], .seq
   (.ops [⟨(some 4), none, .mv (.c (.int .i64 0))⟩])
   (.seq
    (.ops [⟨(some 7), none, .mv (.t 0)⟩,
      ⟨(some 8), none, .call 12 [(.t 7)]⟩,
      ⟨(some 9), none, .bin .sub (.t 8) (.c (.int .i64 1))⟩,
      ⟨(some 5), none, .mv (.t 9)⟩])
    (.seq
     (.seq
      (.ops [⟨(some 10), none, .mv (.t 0)⟩,
        ⟨(some 11), none, .call 12 [(.t 10)]⟩,
        ⟨(some 12), none, .mv (.c (.int .i64 0))⟩])
      (.block 0 (.loop (.seq
         (.ops [⟨(some 13), none, .bin .lss (.t 12) (.t 11)⟩])
         (.seq
          (.cond (.t 13)
           (.skip)
           (.exit 0))
          (.seq
           (.block 1 (.seq
             (.ops [⟨(some 14), none, .mv (.t 12)⟩,
               ⟨(some 6), none, .mv (.t 14)⟩])
             (.ops [⟨(some 15), none, .mv (.t 1)⟩,
               ⟨(some 16), none, .mv (.t 5)⟩,
               ⟨(some 17), none, .mv (.t 6)⟩,
               ⟨(some 18), none, .callv (.t 15) [(.t 16), (.t 17)]⟩,
               ⟨(some 5), none, .mv (.t 18)⟩])))
           (.ops [⟨(some 19), none, .bin .add (.t 12) (.c (.int .i64 1))⟩,
             ⟨(some 12), none, .mv (.t 19)⟩])))))))
     (.seq
      (.ops [⟨(some 20), none, .mv (.t 5)⟩,
        ⟨(some 4), none, .mv (.t 20)⟩])
      (.ret))))⟩
theorem ok25 : FnOk Tryd.prog 25 a25 := FnOk.of Tryd.prog Tryd.func25 (by kernel_rfl)
/-- (*jalousie/lattice.Lattice).has -/
def a26 : AFn := ⟨13, [.tmp 4], .seq
   (.ops [⟨(some 4), none, .mv (.c (.bool false))⟩])
   (.seq
    (.ops [⟨(some 5), none, .mv (.t 1)⟩,
      ⟨(some 6), none, .bin .geq (.t 5) (.c (.int .i64 0))⟩,
      ⟨(some 7), none, .mv (.t 6)⟩,
      ⟨(some 8), (some (7, true)), .mv (.t 1)⟩,
      ⟨(some 9), (some (7, true)), .mv (.t 0)⟩,
      ⟨(some 10), (some (7, true)), .call 12 [(.t 9)]⟩,
      ⟨(some 11), (some (7, true)), .bin .lss (.t 8) (.t 10)⟩,
      ⟨(some 12), none, .pick (.t 7) (.t 11) (.c (.bool false))⟩,
      ⟨(some 4), none, .mv (.t 12)⟩])
    (.ret))⟩
theorem ok26 : FnOk Tryd.prog 26 a26 := FnOk.of Tryd.prog Tryd.func26 (by kernel_rfl)
/-- (*jalousie/lattice.Lattice).made -/
def a27 : AFn := ⟨7, [], .seq
   (.ops [⟨(some 1), none, .box 22 (.t 0)⟩])
   (.ops [⟨(some 2), none, .load none (.t 1)⟩,
     ⟨(some 3), none, .nilck (.t 2)⟩,
     ⟨(some 4), none, .addr 2 (.t 3)⟩,
     ⟨(some 5), none, .fn (.func 33) [] [(.t 1)]⟩,
     ⟨(some 6), none, .call 32 [(.t 4), (.t 5)]⟩])⟩
theorem ok27 : FnOk Tryd.prog 27 a27 := FnOk.of Tryd.prog Tryd.func27 (by kernel_rfl)
/-- jalousie/jalousieref01.Join -/
def a28 : AFn := ⟨55, [.tmp 6], .seq
   (.ops [⟨(some 6), none, .mv (.c (.int .i64 0))⟩])
   (.seq
    (.seq
     (.ops [⟨(some 7), none, .mv (.c (.int .i64 0))⟩])
     (.block 0 (.loop (.seq
        (.seq
         (.ops [⟨(some 10), none, .mv (.t 7)⟩,
           ⟨(some 11), none, .mv (.t 0)⟩,
           ⟨(some 12), none, .lenL (.t 11)⟩,
           ⟨(some 13), none, .bin .lss (.t 10) (.t 12)⟩])
         (.cond (.t 13)
          (.skip)
          (.exit 0)))
        (.seq
         (.block 1 (.seq
           (.ops [⟨(some 16), none, .mv (.t 0)⟩,
             ⟨(some 17), none, .mv (.t 1)⟩,
             ⟨(some 18), none, .mv (.t 7)⟩,
             ⟨(some 19), none, .call 30 [(.t 16), (.t 17), (.t 18)]⟩,
             ⟨(some 20), none, .mv (.t 19)⟩,
             ⟨(some 21), (some (20, true)), .mv (.t 0)⟩,
             ⟨(some 22), (some (20, true)), .mv (.t 2)⟩,
             ⟨(some 23), (some (20, true)), .mv (.t 7)⟩,
             ⟨(some 24), (some (20, true)), .call 30 [(.t 21), (.t 22), (.t 23)]⟩,
             ⟨(some 25), none, .pick (.t 20) (.t 24) (.c (.bool false))⟩,
             ⟨(some 8), none, .mv (.t 25)⟩])
           (.seq
            (.seq
             (.ops [⟨(some 9), none, .mv (.c (.int .i64 0))⟩])
             (.block 2 (.loop (.seq
                (.seq
                 (.ops [⟨(some 26), none, .mv (.t 9)⟩,
                   ⟨(some 27), none, .mv (.t 0)⟩,
                   ⟨(some 28), none, .lenL (.t 27)⟩,
                   ⟨(some 29), none, .bin .lss (.t 26) (.t 28)⟩,
                   ⟨(some 30), none, .mv (.t 29)⟩,
                   ⟨(some 31), (some (30, true)), .mv (.t 8)⟩,
                   ⟨(some 32), none, .pick (.t 30) (.t 31) (.c (.bool false))⟩])
                 (.cond (.t 32)
                  (.skip)
                  (.exit 2)))
                (.seq
                 (.block 3 (.ops [⟨(some 35), none, .mv (.t 0)⟩,
                    ⟨(some 36), none, .mv (.t 1)⟩,
                    ⟨(some 37), none, .mv (.t 9)⟩,
                    ⟨(some 38), none, .call 30 [(.t 35), (.t 36), (.t 37)]⟩,
                    ⟨(some 39), none, .un .not (.t 38)⟩,
                    ⟨(some 40), none, .mv (.t 39)⟩,
                    ⟨(some 41), (some (40, false)), .mv (.t 0)⟩,
                    ⟨(some 42), (some (40, false)), .mv (.t 2)⟩,
                    ⟨(some 43), (some (40, false)), .mv (.t 9)⟩,
                    ⟨(some 44), (some (40, false)), .call 30 [(.t 41), (.t 42), (.t 43)]⟩,
                    ⟨(some 45), (some (40, false)), .un .not (.t 44)⟩,
                    ⟨(some 46), none, .pick (.t 40) (.c (.bool true)) (.t 45)⟩,
                    ⟨(some 47), none, .mv (.t 46)⟩,
                    ⟨(some 48), (some (47, false)), .mv (.t 0)⟩,
                    ⟨(some 49), (some (47, false)), .mv (.t 7)⟩,
                    ⟨(some 50), (some (47, false)), .mv (.t 9)⟩,
                    ⟨(some 51), (some (47, false)), .call 30 [(.t 48), (.t 49), (.t 50)]⟩,
                    ⟨(some 52), none, .pick (.t 47) (.c (.bool true)) (.t 51)⟩,
                    ⟨(some 8), none, .mv (.t 52)⟩]))
                 (.ops [⟨(some 33), none, .mv (.t 9)⟩,
                   ⟨(some 34), none, .bin .add (.t 33) (.c (.int .i64 1))⟩,
                   ⟨(some 9), none, .mv (.t 34)⟩]))))))
            (.seq
             (.ops [⟨(some 53), none, .mv (.t 8)⟩])
             (.cond (.t 53)
              (.seq
               (.ops [⟨(some 54), none, .mv (.t 7)⟩,
                 ⟨(some 6), none, .mv (.t 54)⟩])
               (.ret))
              (.skip))))))
         (.ops [⟨(some 14), none, .mv (.t 7)⟩,
           ⟨(some 15), none, .bin .add (.t 14) (.c (.int .i64 1))⟩,
           ⟨(some 7), none, .mv (.t 15)⟩]))))))
    (.seq
     (.ops [⟨(some 6), none, .mv (.c (.int .i64 (-1)))⟩])
     (.ret)))⟩
theorem ok28 : FnOk Tryd.prog 28 a28 := FnOk.of Tryd.prog Tryd.func28 (by kernel_rfl)

end Go.Proofs.YtjglohfkpigdfaaDoor.Fns
