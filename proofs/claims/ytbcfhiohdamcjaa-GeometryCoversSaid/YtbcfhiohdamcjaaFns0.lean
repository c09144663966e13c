/- Functions of the translated code as the abstract machine reads them, printed by program; each is checked against the code. -/
import Derived.Test.YtbcfhiohdamcjaaProg
import Derived.Test.YtbcfhiohdamcjaaAmEval
namespace Go.Proofs.Ytbcfhiohdamcjaa.Fns
open Go Go.RowKit Am Go.Proofs.Ytbcfhiohdamcjaa
set_option maxRecDepth 100000
/-- gosem.cut.init -/
def a2 : AFn := ⟨1, [], .ops [⟨(some 0), none, .bad⟩]⟩
theorem ok2 : FnOk Try.prog 2 a2 := FnOk.of Try.prog Try.func2 (by kernel_rfl)
/-- jalousie/jalousielaw20.GeometryKnown -/
def a3 : AFn := ⟨115, [.tmp 0], .seq
   (.ops [⟨(some 0), none, .mv (.c (.bool false))⟩])
   (.seq
    (.ops [⟨(some 10), none, .call 8 []⟩,
      ⟨(some 11), none, .build [(.int .i64 0), (.int .i64 0), (.int .i64 0), (.int .i64 0)] [(0, 1), (1, 1), (2, 1), (3, 1)] [(2, (.c (.int .i64 2))), (3, (.c (.int .i64 5)))]⟩,
      ⟨(some 12), none, .call 7 [(.t 10), (.t 11)]⟩,
      ⟨(some 9), none, .mv (.t 12)⟩,
      ⟨(some 13), none, .ext (.t 9) 0⟩,
      ⟨(some 14), none, .ext (.t 9) 1⟩,
      ⟨(some 1), none, .mv (.t 13)⟩,
      ⟨(some 2), none, .mv (.t 14)⟩])
    (.seq
     (.ops [⟨(some 16), none, .build [(.int .i64 0), (.int .i64 0), (.int .i64 0), (.int .i64 0)] [(0, 1), (1, 1), (2, 1), (3, 1)] [(2, (.c (.int .i64 9))), (3, (.c (.int .i64 9)))]⟩,
       ⟨(some 17), none, .call 7 [(.c .nilptr), (.t 16)]⟩,
       ⟨(some 15), none, .mv (.t 17)⟩,
       ⟨(some 18), none, .ext (.t 15) 0⟩,
       ⟨(some 19), none, .ext (.t 15) 1⟩,
       ⟨(some 3), none, .mv (.t 18)⟩,
       ⟨(some 4), none, .mv (.t 19)⟩])
     (.seq
      (.ops [⟨(some 21), none, .call 8 []⟩,
        ⟨(some 22), none, .build [(.int .i64 0), (.int .i64 0), (.int .i64 0), (.int .i64 0)] [(0, 1), (1, 1), (2, 1), (3, 1)] [(2, (.c (.int .i64 401))), (3, (.c (.int .i64 5)))]⟩,
        ⟨(some 23), none, .call 7 [(.t 21), (.t 22)]⟩,
        ⟨(some 20), none, .mv (.t 23)⟩,
        ⟨(some 24), none, .ext (.t 20) 0⟩,
        ⟨(some 25), none, .ext (.t 20) 1⟩,
        ⟨(some 5), none, .mv (.t 24)⟩,
        ⟨(some 6), none, .mv (.t 25)⟩])
      (.seq
       (.ops [⟨(some 27), none, .call 10 [(.c (.int .i64 7))]⟩,
         ⟨(some 28), none, .call 9 [(.t 27)]⟩,
         ⟨(some 29), none, .build [(.int .i64 0), (.int .i64 0), (.int .i64 0), (.int .i64 0)] [(0, 1), (1, 1), (2, 1), (3, 1)] [(0, (.c (.int .i64 400))), (1, (.c (.int .i64 400))), (2, (.c (.int .i64 400))), (3, (.c (.int .i64 400)))]⟩,
         ⟨(some 30), none, .call 7 [(.t 28), (.t 29)]⟩,
         ⟨(some 26), none, .mv (.t 30)⟩,
         ⟨(some 31), none, .ext (.t 26) 0⟩,
         ⟨(some 32), none, .ext (.t 26) 1⟩,
         ⟨(some 7), none, .mv (.t 31)⟩,
         ⟨(some 8), none, .mv (.t 32)⟩])
       (.seq
        (.ops [⟨(some 33), none, .call 11 []⟩,
          ⟨(some 34), none, .mv (.t 33)⟩,
          ⟨(some 35), (some (34, true)), .mv (.t 1)⟩,
          ⟨(some 36), (some (34, true)), .lenL (.t 35)⟩,
          ⟨(some 37), (some (34, true)), .bin .eql (.t 36) (.c (.int .i64 3))⟩,
          ⟨(some 38), none, .pick (.t 34) (.t 37) (.c (.bool false))⟩,
          ⟨(some 39), none, .mv (.t 38)⟩,
          ⟨(some 40), (some (39, true)), .mv (.t 2)⟩,
          ⟨(some 41), (some (39, true)), .lenL (.t 40)⟩,
          ⟨(some 42), (some (39, true)), .bin .eql (.t 41) (.c (.int .i64 0))⟩,
          ⟨(some 43), none, .pick (.t 39) (.t 42) (.c (.bool false))⟩,
          ⟨(some 44), none, .mv (.t 43)⟩,
          ⟨(some 45), (some (44, true)), .mv (.t 1)⟩,
          ⟨(some 46), (some (44, true)), .iaddrS 7 (.t 45) (.c (.int .i64 0))⟩,
          ⟨(some 47), (some (44, true)), .addr 3 (.t 46)⟩,
          ⟨(some 48), (some (44, true)), .load (some 4) (.t 47)⟩,
          ⟨(some 49), (some (44, true)), .build [(.int .i64 0), (.int .i64 0), (.int .i64 0), (.int .i64 0)] [(0, 1), (1, 1), (2, 1), (3, 1)] [(2, (.c (.int .i64 2))), (3, (.c (.int .i64 5)))]⟩,
          ⟨(some 50), (some (44, true)), .eq false 29 (.struct #[⟨"X", 3, 0, false, "", "", 0⟩, ⟨"Y", 3, 1, false, "", "", 8⟩, ⟨"W", 3, 2, false, "", "", 16⟩, ⟨"H", 3, 3, false, "", "", 24⟩]) (.t 48) (.t 49)⟩,
          ⟨(some 51), none, .pick (.t 44) (.t 50) (.c (.bool false))⟩,
          ⟨(some 52), none, .mv (.t 51)⟩,
          ⟨(some 53), (some (52, true)), .mv (.t 1)⟩,
          ⟨(some 54), (some (52, true)), .iaddrS 7 (.t 53) (.c (.int .i64 1))⟩,
          ⟨(some 55), (some (52, true)), .addr 3 (.t 54)⟩,
          ⟨(some 56), (some (52, true)), .load (some 4) (.t 55)⟩,
          ⟨(some 57), (some (52, true)), .build [(.int .i64 0), (.int .i64 0), (.int .i64 0), (.int .i64 0)] [(0, 1), (1, 1), (2, 1), (3, 1)] []⟩,
          ⟨(some 58), (some (52, true)), .eq false 29 (.struct #[⟨"X", 3, 0, false, "", "", 0⟩, ⟨"Y", 3, 1, false, "", "", 8⟩, ⟨"W", 3, 2, false, "", "", 16⟩, ⟨"H", 3, 3, false, "", "", 24⟩]) (.t 56) (.t 57)⟩,
          ⟨(some 59), none, .pick (.t 52) (.t 58) (.c (.bool false))⟩,
          ⟨(some 60), none, .mv (.t 59)⟩,
          ⟨(some 61), (some (60, true)), .mv (.t 1)⟩,
          ⟨(some 62), (some (60, true)), .iaddrS 7 (.t 61) (.c (.int .i64 2))⟩,
          ⟨(some 63), (some (60, true)), .addr 3 (.t 62)⟩,
          ⟨(some 64), (some (60, true)), .load (some 4) (.t 63)⟩,
          ⟨(some 65), (some (60, true)), .build [(.int .i64 0), (.int .i64 0), (.int .i64 0), (.int .i64 0)] [(0, 1), (1, 1), (2, 1), (3, 1)] []⟩,
          ⟨(some 66), (some (60, true)), .eq false 29 (.struct #[⟨"X", 3, 0, false, "", "", 0⟩, ⟨"Y", 3, 1, false, "", "", 8⟩, ⟨"W", 3, 2, false, "", "", 16⟩, ⟨"H", 3, 3, false, "", "", 24⟩]) (.t 64) (.t 65)⟩,
          ⟨(some 67), none, .pick (.t 60) (.t 66) (.c (.bool false))⟩,
          ⟨(some 68), none, .mv (.t 67)⟩,
          ⟨(some 69), (some (68, true)), .mv (.t 3)⟩,
          ⟨(some 70), (some (68, true)), .lenL (.t 69)⟩,
          ⟨(some 71), (some (68, true)), .bin .eql (.t 70) (.c (.int .i64 0))⟩,
          ⟨(some 72), none, .pick (.t 68) (.t 71) (.c (.bool false))⟩,
          ⟨(some 73), none, .mv (.t 72)⟩,
          ⟨(some 74), (some (73, true)), .mv (.t 4)⟩,
          ⟨(some 75), (some (73, true)), .lenL (.t 74)⟩,
          ⟨(some 76), (some (73, true)), .bin .eql (.t 75) (.c (.int .i64 0))⟩,
          ⟨(some 77), none, .pick (.t 73) (.t 76) (.c (.bool false))⟩,
          ⟨(some 78), none, .mv (.t 77)⟩,
          ⟨(some 79), (some (78, true)), .mv (.t 5)⟩,
          ⟨(some 80), (some (78, true)), .lenL (.t 79)⟩,
          ⟨(some 81), (some (78, true)), .bin .eql (.t 80) (.c (.int .i64 0))⟩,
          ⟨(some 82), none, .pick (.t 78) (.t 81) (.c (.bool false))⟩,
          ⟨(some 83), none, .mv (.t 82)⟩,
          ⟨(some 84), (some (83, true)), .mv (.t 6)⟩,
          ⟨(some 85), (some (83, true)), .lenL (.t 84)⟩,
          ⟨(some 86), (some (83, true)), .bin .eql (.t 85) (.c (.int .i64 0))⟩,
          ⟨(some 87), none, .pick (.t 83) (.t 86) (.c (.bool false))⟩,
          ⟨(some 88), none, .mv (.t 87)⟩,
          ⟨(some 89), (some (88, true)), .mv (.t 7)⟩,
          ⟨(some 90), (some (88, true)), .lenL (.t 89)⟩,
          ⟨(some 91), (some (88, true)), .bin .eql (.t 90) (.c (.int .i64 1))⟩,
          ⟨(some 92), none, .pick (.t 88) (.t 91) (.c (.bool false))⟩,
          ⟨(some 93), none, .mv (.t 92)⟩,
          ⟨(some 94), (some (93, true)), .mv (.t 8)⟩,
          ⟨(some 95), (some (93, true)), .lenL (.t 94)⟩,
          ⟨(some 96), (some (93, true)), .bin .eql (.t 95) (.c (.int .i64 0))⟩,
          ⟨(some 97), none, .pick (.t 93) (.t 96) (.c (.bool false))⟩,
          ⟨(some 98), none, .mv (.t 97)⟩,
          ⟨(some 99), (some (98, true)), .mv (.t 7)⟩,
          ⟨(some 100), (some (98, true)), .iaddrS 7 (.t 99) (.c (.int .i64 0))⟩,
          ⟨(some 101), (some (98, true)), .addr 3 (.t 100)⟩,
          ⟨(some 102), (some (98, true)), .addr 2 (.t 101)⟩,
          ⟨(some 103), (some (98, true)), .load none (.t 102)⟩,
          ⟨(some 104), (some (98, true)), .bin .eql (.t 103) (.c (.int .i64 400))⟩,
          ⟨(some 105), none, .pick (.t 98) (.t 104) (.c (.bool false))⟩,
          ⟨(some 106), none, .mv (.t 105)⟩,
          ⟨(some 107), (some (106, true)), .call 10 [(.c (.int .i64 1))]⟩,
          ⟨(some 108), (some (106, true)), .build [(.int .i64 0), (.int .i64 0), (.int .i64 0), (.int .i64 0)] [(0, 1), (1, 1), (2, 1), (3, 1)] [(2, (.c (.int .i64 1))), (3, (.c (.int .i64 1)))]⟩,
          ⟨(some 109), (some (106, true)), .call 12 [(.c .nilptr), (.t 107), (.t 108)]⟩,
          ⟨(some 110), (some (106, true)), .lenL (.t 109)⟩,
          ⟨(some 111), (some (106, true)), .bin .eql (.t 110) (.c (.int .i64 0))⟩,
          ⟨(some 112), none, .pick (.t 106) (.t 111) (.c (.bool false))⟩,
          ⟨(some 113), none, .mv (.t 112)⟩,
          ⟨(some 114), none, .pick (.t 113) (.c (.bool true)) (.c (.bool false))⟩,
          ⟨(some 0), none, .mv (.t 114)⟩])
        (.ret))))))⟩
theorem ok3 : FnOk Try.prog 3 a3 := FnOk.of Try.prog Try.func3 (by kernel_rfl)
/-- jalousie/jalousielaw20.GeometryIn -/
def a4 : AFn := ⟨43, [.tmp 6], .seq
   (.ops [⟨(some 3), none, .box 29 (.t 0)⟩,
     ⟨(some 6), none, .mv (.c (.bool false))⟩])
   (.seq
    (.seq
     (.ops [⟨(some 9), none, .call 11 []⟩,
       ⟨(some 10), none, .un .not (.t 9)⟩])
     (.cond (.t 10)
      (.seq
       (.ops [⟨(some 6), none, .mv (.c (.bool false))⟩])
       (.ret))
      (.skip)))
    (.seq
     (.seq
      (.ops [⟨(some 11), none, .addr 0 (.t 3)⟩,
        ⟨(some 12), none, .load none (.t 11)⟩,
        ⟨(some 13), none, .addr 1 (.t 3)⟩,
        ⟨(some 14), none, .load none (.t 13)⟩,
        ⟨(some 15), none, .addr 2 (.t 3)⟩,
        ⟨(some 16), none, .load none (.t 15)⟩,
        ⟨(some 17), none, .addr 3 (.t 3)⟩,
        ⟨(some 18), none, .load none (.t 17)⟩,
        ⟨(some 19), none, .mv (.t 1)⟩,
        ⟨(some 20), none, .mv (.t 2)⟩,
        ⟨(some 21), none, .bslice 3 1 6 [(.int .i64 0)] [(0, (.t 12)), (1, (.t 14)), (2, (.t 16)), (3, (.t 18)), (4, (.t 19)), (5, (.t 20))]⟩,
        ⟨(some 22), none, .lenL (.t 21)⟩,
        ⟨(some 23), none, .mv (.c (.int .i64 0))⟩])
      (.block 0 (.loop (.seq
         (.ops [⟨(some 24), none, .bin .lss (.t 23) (.t 22)⟩])
         (.seq
          (.cond (.t 24)
           (.skip)
           (.exit 0))
          (.seq
           (.block 1 (.seq
             (.ops [⟨(some 25), none, .iaddrS 1 (.t 21) (.t 23)⟩,
               ⟨(some 26), none, .load none (.t 25)⟩,
               ⟨(some 8), none, .mv (.t 26)⟩])
             (.seq
              (.ops [⟨(some 27), none, .mv (.t 8)⟩,
                ⟨(some 28), none, .bin .gtr (.t 27) (.c (.int .i64 1099511627776))⟩,
                ⟨(some 29), none, .mv (.t 28)⟩,
                ⟨(some 30), (some (29, false)), .mv (.t 8)⟩,
                ⟨(some 31), (some (29, false)), .bin .lss (.t 30) (.c (.int .i64 (-1099511627776)))⟩,
                ⟨(some 32), none, .pick (.t 29) (.c (.bool true)) (.t 31)⟩])
              (.cond (.t 32)
               (.seq
                (.ops [⟨(some 6), none, .mv (.c (.bool true))⟩])
                (.ret))
               (.skip)))))
           (.ops [⟨(some 33), none, .bin .add (.t 23) (.c (.int .i64 1))⟩,
             ⟨(some 23), none, .mv (.t 33)⟩])))))))
     (.seq
      (.draw [⟨⟨(some 34), none, .load (some 4) (.t 3)⟩, []⟩,
        ⟨⟨(some 35), none, .mv (.t 1)⟩, []⟩,
        ⟨⟨(some 36), none, .mv (.t 2)⟩, []⟩,
        ⟨⟨(some 37), none, .call 13 [(.t 34), (.t 35), (.t 36)]⟩, [0, 1, 2]⟩,
        ⟨⟨(some 38), none, .load (some 4) (.t 3)⟩, []⟩,
        ⟨⟨(some 39), none, .mv (.t 1)⟩, []⟩,
        ⟨⟨(some 40), none, .mv (.t 2)⟩, []⟩,
        ⟨⟨(some 41), none, .call 14 [(.t 38), (.t 39), (.t 40)]⟩, [4, 5, 6, 3]⟩,
        ⟨⟨(some 42), none, .eq false 4 .bool (.t 37) (.t 41)⟩, [3, 7]⟩,
        ⟨⟨(some 6), none, .mv (.t 42)⟩, [8, 7, 0, 1, 2, 3, 4, 5, 6, 7, 8]⟩] [0, 0, 0, 7, 0, 0, 0, 127, 255, 511])
      (.ret))))⟩
theorem ok4 : FnOk Try.prog 4 a4 := FnOk.of Try.prog Try.func4 (by kernel_rfl)
/-- jalousie/jalousielaw20.GeometryCrops -/
def a5 : AFn := ⟨81, [.tmp 8], .seq
   (.ops [⟨(some 4), none, .box 29 (.t 0)⟩,
     ⟨(some 5), none, .box 29 (.t 1)⟩,
     ⟨(some 8), none, .mv (.c (.bool false))⟩])
   (.seq
    (.seq
     (.ops [⟨(some 10), none, .call 11 []⟩,
       ⟨(some 11), none, .un .not (.t 10)⟩])
     (.cond (.t 11)
      (.seq
       (.ops [⟨(some 8), none, .mv (.c (.bool false))⟩])
       (.ret))
      (.skip)))
    (.seq
     (.ops [⟨(some 12), none, .load (some 4) (.t 4)⟩,
       ⟨(some 13), none, .load (some 4) (.t 5)⟩,
       ⟨(some 14), none, .call 15 [(.t 12), (.t 13)]⟩,
       ⟨(some 9), none, .alloc 29 [(.int .i64 0), (.int .i64 0), (.int .i64 0), (.int .i64 0)]⟩,
       ⟨none, none, .store 4 (.t 9) (.t 14)⟩])
     (.seq
      (.seq
       (.draw [⟨⟨(some 15), none, .load (some 4) (.t 9)⟩, []⟩,
         ⟨⟨(some 16), none, .load (some 4) (.t 5)⟩, []⟩,
         ⟨⟨(some 17), none, .load (some 4) (.t 4)⟩, []⟩,
         ⟨⟨(some 18), none, .call 15 [(.t 16), (.t 17)]⟩, [1, 2]⟩,
         ⟨⟨(some 19), none, .eq true 29 (.struct #[⟨"X", 3, 0, false, "", "", 0⟩, ⟨"Y", 3, 1, false, "", "", 8⟩, ⟨"W", 3, 2, false, "", "", 16⟩, ⟨"H", 3, 3, false, "", "", 24⟩]) (.t 15) (.t 18)⟩, [0, 3]⟩,
         ⟨⟨(some 20), none, .mv (.t 19)⟩, [4, 3]⟩,
         ⟨⟨(some 21), (some (20, false)), .load (some 4) (.t 9)⟩, [5]⟩,
         ⟨⟨(some 22), (some (20, false)), .load (some 4) (.t 4)⟩, [5]⟩,
         ⟨⟨(some 23), (some (20, false)), .call 15 [(.t 21), (.t 22)]⟩, [6, 7, 5, 5]⟩,
         ⟨⟨(some 24), (some (20, false)), .load (some 4) (.t 9)⟩, [5]⟩,
         ⟨⟨(some 25), (some (20, false)), .eq true 29 (.struct #[⟨"X", 3, 0, false, "", "", 0⟩, ⟨"Y", 3, 1, false, "", "", 8⟩, ⟨"W", 3, 2, false, "", "", 16⟩, ⟨"H", 3, 3, false, "", "", 24⟩]) (.t 23) (.t 24)⟩, [8, 9, 5]⟩,
         ⟨⟨(some 26), none, .pick (.t 20) (.c (.bool true)) (.t 25)⟩, [5, 10]⟩,
         ⟨⟨(some 27), none, .mv (.t 26)⟩, [11, 8]⟩,
         ⟨⟨(some 28), (some (27, false)), .load (some 4) (.t 9)⟩, [12]⟩,
         ⟨⟨(some 29), (some (27, false)), .load (some 4) (.t 5)⟩, [12]⟩,
         ⟨⟨(some 30), (some (27, false)), .call 15 [(.t 28), (.t 29)]⟩, [13, 14, 12, 12]⟩,
         ⟨⟨(some 31), (some (27, false)), .load (some 4) (.t 9)⟩, [12]⟩,
         ⟨⟨(some 32), (some (27, false)), .eq true 29 (.struct #[⟨"X", 3, 0, false, "", "", 0⟩, ⟨"Y", 3, 1, false, "", "", 8⟩, ⟨"W", 3, 2, false, "", "", 16⟩, ⟨"H", 3, 3, false, "", "", 24⟩]) (.t 30) (.t 31)⟩, [15, 16, 12]⟩,
         ⟨⟨(some 33), none, .pick (.t 27) (.c (.bool true)) (.t 32)⟩, [12, 17]⟩,
         ⟨⟨(some 34), none, .mv (.t 33)⟩, [18, 15]⟩,
         ⟨⟨(some 35), (some (34, false)), .addr 2 (.t 9)⟩, [19]⟩,
         ⟨⟨(some 36), (some (34, false)), .load none (.t 35)⟩, [20, 19]⟩,
         ⟨⟨(some 37), (some (34, false)), .bin .lss (.t 36) (.c (.int .i64 0))⟩, [21, 19]⟩,
         ⟨⟨(some 38), none, .pick (.t 34) (.c (.bool true)) (.t 37)⟩, [19, 22]⟩,
         ⟨⟨(some 39), none, .mv (.t 38)⟩, [23, 19]⟩,
         ⟨⟨(some 40), (some (39, false)), .addr 3 (.t 9)⟩, [24]⟩,
         ⟨⟨(some 41), (some (39, false)), .load none (.t 40)⟩, [25, 24]⟩,
         ⟨⟨(some 42), (some (39, false)), .bin .lss (.t 41) (.c (.int .i64 0))⟩, [26, 24]⟩,
         ⟨⟨(some 43), none, .pick (.t 39) (.c (.bool true)) (.t 42)⟩, [24, 27]⟩,
         ⟨⟨(some 44), none, .mv (.t 43)⟩, [28, 24]⟩,
         ⟨⟨(some 45), (some (44, false)), .addr 2 (.t 9)⟩, [29]⟩,
         ⟨⟨(some 46), (some (44, false)), .load none (.t 45)⟩, [30, 29]⟩,
         ⟨⟨(some 47), (some (44, false)), .bin .eql (.t 46) (.c (.int .i64 0))⟩, [31, 29]⟩,
         ⟨⟨(some 48), (some (44, false)), .addr 3 (.t 9)⟩, [29]⟩,
         ⟨⟨(some 49), (some (44, false)), .load none (.t 48)⟩, [33, 29]⟩,
         ⟨⟨(some 50), (some (44, false)), .bin .eql (.t 49) (.c (.int .i64 0))⟩, [34, 29]⟩,
         ⟨⟨(some 51), (some (44, false)), .eq true 4 .bool (.t 47) (.t 50)⟩, [32, 35, 29]⟩,
         ⟨⟨(some 52), none, .pick (.t 44) (.c (.bool true)) (.t 51)⟩, [29, 36]⟩] [0, 0, 0, 6, 15, 31, 63, 63, 255, 63, 1023, 2047, 4095, 8191, 8191, 32767, 8191, 131071, 262143, 524287, 1048575, 2097151, 4194303, 8388607, 16777215, 33554431, 67108863, 134217727, 268435455, 536870911, 1073741823, 2147483647, 4294967295, 1073741823, 9663676415, 26843545599, 68719476735, 137438953471])
       (.cond (.t 52)
        (.seq
         (.ops [⟨(some 8), none, .mv (.c (.bool false))⟩])
         (.ret))
        (.skip)))
      (.seq
       (.draw [⟨⟨(some 53), none, .load (some 4) (.t 9)⟩, []⟩,
         ⟨⟨(some 54), none, .mv (.t 2)⟩, []⟩,
         ⟨⟨(some 55), none, .mv (.t 3)⟩, []⟩,
         ⟨⟨(some 56), none, .call 13 [(.t 53), (.t 54), (.t 55)]⟩, [0, 1, 2]⟩,
         ⟨⟨(some 57), none, .load (some 4) (.t 4)⟩, []⟩,
         ⟨⟨(some 58), none, .mv (.t 2)⟩, []⟩,
         ⟨⟨(some 59), none, .mv (.t 3)⟩, []⟩,
         ⟨⟨(some 60), none, .call 13 [(.t 57), (.t 58), (.t 59)]⟩, [4, 5, 6, 3]⟩,
         ⟨⟨(some 61), none, .mv (.t 60)⟩, [7, 7]⟩,
         ⟨⟨(some 62), (some (61, true)), .load (some 4) (.t 5)⟩, [8]⟩,
         ⟨⟨(some 63), (some (61, true)), .mv (.t 2)⟩, [8]⟩,
         ⟨⟨(some 64), (some (61, true)), .mv (.t 3)⟩, [8]⟩,
         ⟨⟨(some 65), (some (61, true)), .call 13 [(.t 62), (.t 63), (.t 64)]⟩, [9, 10, 11, 8, 8]⟩,
         ⟨⟨(some 66), none, .pick (.t 61) (.t 65) (.c (.bool false))⟩, [8, 12]⟩,
         ⟨⟨(some 67), none, .eq false 4 .bool (.t 56) (.t 66)⟩, [3, 13]⟩,
         ⟨⟨(some 68), none, .mv (.t 67)⟩, [14, 12]⟩,
         ⟨⟨(some 69), (some (68, true)), .addr 2 (.t 9)⟩, [15]⟩,
         ⟨⟨(some 70), (some (68, true)), .load none (.t 69)⟩, [16, 15]⟩,
         ⟨⟨(some 71), (some (68, true)), .bin .eql (.t 70) (.c (.int .i64 0))⟩, [17, 15]⟩,
         ⟨⟨(some 72), (some (68, true)), .mv (.t 71)⟩, [18, 15, 15]⟩,
         ⟨⟨(some 73), (some (72, false)), .load (some 4) (.t 9)⟩, [19]⟩,
         ⟨⟨(some 74), (some (72, false)), .addr 0 (.t 9)⟩, [19]⟩,
         ⟨⟨(some 75), (some (72, false)), .load none (.t 74)⟩, [21, 19]⟩,
         ⟨⟨(some 76), (some (72, false)), .addr 1 (.t 9)⟩, [19]⟩,
         ⟨⟨(some 77), (some (72, false)), .load none (.t 76)⟩, [23, 19]⟩,
         ⟨⟨(some 78), (some (72, false)), .call 13 [(.t 73), (.t 75), (.t 77)]⟩, [20, 22, 24, 19, 19]⟩,
         ⟨⟨(some 79), (some (68, true)), .pick (.t 72) (.c (.bool true)) (.t 78)⟩, [19, 25, 15]⟩,
         ⟨⟨(some 80), none, .pick (.t 68) (.t 79) (.c (.bool false))⟩, [15, 26]⟩,
         ⟨⟨(some 8), none, .mv (.t 80)⟩, [27, 25, 0, 1, 2, 3, 4, 5, 6, 7, 8, 9, 10, 11, 12, 13, 14, 15, 16, 17, 18, 19, 20, 21, 22, 23, 24, 25, 26, 27]⟩] [0, 0, 0, 7, 0, 0, 0, 127, 255, 511, 511, 511, 4095, 8191, 16383, 32767, 65535, 131071, 262143, 524287, 1048575, 1048575, 3145727, 1048575, 9437183, 33554431, 67108863, 134217727, 268435455])
       (.ret)))))⟩
theorem ok5 : FnOk Try.prog 5 a5 := FnOk.of Try.prog Try.func5 (by kernel_rfl)
/-- jalousie/jalousielaw20.GeometryCovers -/
def a6 : AFn := ⟨147, [.tmp 6], .seq
   (.ops [⟨(some 3), none, .box 32 (.t 0)⟩,
     ⟨(some 5), none, .box 29 (.t 2)⟩,
     ⟨(some 6), none, .mv (.c (.bool false))⟩])
   (.seq
    (.seq
     (.ops [⟨(some 16), none, .call 11 []⟩,
       ⟨(some 17), none, .un .not (.t 16)⟩])
     (.cond (.t 17)
      (.seq
       (.ops [⟨(some 6), none, .mv (.c (.bool false))⟩])
       (.ret))
      (.skip)))
    (.seq
     (.seq
      (.ops [⟨(some 18), none, .mv (.t 1)⟩,
        ⟨(some 19), none, .lenL (.t 18)⟩,
        ⟨(some 20), none, .bin .gtr (.t 19) (.c (.int .i64 100))⟩,
        ⟨(some 21), none, .mv (.t 20)⟩,
        ⟨(some 22), (some (21, false)), .addr 0 (.t 5)⟩,
        ⟨(some 23), (some (21, false)), .load none (.t 22)⟩,
        ⟨(some 24), (some (21, false)), .bin .lss (.t 23) (.c (.int .i64 0))⟩,
        ⟨(some 25), none, .pick (.t 21) (.c (.bool true)) (.t 24)⟩,
        ⟨(some 26), none, .mv (.t 25)⟩,
        ⟨(some 27), (some (26, false)), .addr 1 (.t 5)⟩,
        ⟨(some 28), (some (26, false)), .load none (.t 27)⟩,
        ⟨(some 29), (some (26, false)), .bin .lss (.t 28) (.c (.int .i64 0))⟩,
        ⟨(some 30), none, .pick (.t 26) (.c (.bool true)) (.t 29)⟩,
        ⟨(some 31), none, .mv (.t 30)⟩,
        ⟨(some 32), (some (31, false)), .addr 0 (.t 5)⟩,
        ⟨(some 33), (some (31, false)), .load none (.t 32)⟩,
        ⟨(some 34), (some (31, false)), .bin .gtr (.t 33) (.c (.int .i64 300))⟩,
        ⟨(some 35), none, .pick (.t 31) (.c (.bool true)) (.t 34)⟩,
        ⟨(some 36), none, .mv (.t 35)⟩,
        ⟨(some 37), (some (36, false)), .addr 1 (.t 5)⟩,
        ⟨(some 38), (some (36, false)), .load none (.t 37)⟩,
        ⟨(some 39), (some (36, false)), .bin .gtr (.t 38) (.c (.int .i64 300))⟩,
        ⟨(some 40), none, .pick (.t 36) (.c (.bool true)) (.t 39)⟩,
        ⟨(some 41), none, .mv (.t 40)⟩,
        ⟨(some 42), (some (41, false)), .addr 2 (.t 5)⟩,
        ⟨(some 43), (some (41, false)), .load none (.t 42)⟩,
        ⟨(some 44), (some (41, false)), .bin .lss (.t 43) (.c (.int .i64 0))⟩,
        ⟨(some 45), none, .pick (.t 41) (.c (.bool true)) (.t 44)⟩,
        ⟨(some 46), none, .mv (.t 45)⟩,
        ⟨(some 47), (some (46, false)), .addr 3 (.t 5)⟩,
        ⟨(some 48), (some (46, false)), .load none (.t 47)⟩,
        ⟨(some 49), (some (46, false)), .bin .lss (.t 48) (.c (.int .i64 0))⟩,
        ⟨(some 50), none, .pick (.t 46) (.c (.bool true)) (.t 49)⟩,
        ⟨(some 51), none, .mv (.t 50)⟩,
        ⟨(some 52), (some (51, false)), .addr 2 (.t 5)⟩,
        ⟨(some 53), (some (51, false)), .load none (.t 52)⟩,
        ⟨(some 54), (some (51, false)), .bin .gtr (.t 53) (.c (.int .i64 60))⟩,
        ⟨(some 55), none, .pick (.t 51) (.c (.bool true)) (.t 54)⟩,
        ⟨(some 56), none, .mv (.t 55)⟩,
        ⟨(some 57), (some (56, false)), .addr 3 (.t 5)⟩,
        ⟨(some 58), (some (56, false)), .load none (.t 57)⟩,
        ⟨(some 59), (some (56, false)), .bin .gtr (.t 58) (.c (.int .i64 60))⟩,
        ⟨(some 60), none, .pick (.t 56) (.c (.bool true)) (.t 59)⟩])
      (.cond (.t 60)
       (.seq
        (.ops [⟨(some 6), none, .mv (.c (.bool true))⟩])
        (.ret))
       (.skip)))
     (.seq
      (.ops [⟨(some 62), none, .load (some 3) (.t 3)⟩,
        ⟨(some 63), none, .mv (.t 1)⟩,
        ⟨(some 64), none, .call 16 [(.t 62), (.t 63)]⟩,
        ⟨(some 61), none, .mv (.t 64)⟩,
        ⟨(some 65), none, .ext (.t 61) 0⟩,
        ⟨(some 66), none, .ext (.t 61) 1⟩,
        ⟨(some 7), none, .mv (.t 65)⟩,
        ⟨(some 8), none, .mv (.t 66)⟩])
      (.seq
       (.ops [⟨(some 68), none, .mv (.t 7)⟩,
         ⟨(some 69), none, .load (some 4) (.t 5)⟩,
         ⟨(some 70), none, .call 7 [(.t 68), (.t 69)]⟩,
         ⟨(some 67), none, .mv (.t 70)⟩,
         ⟨(some 71), none, .ext (.t 67) 0⟩,
         ⟨(some 72), none, .ext (.t 67) 1⟩,
         ⟨(some 9), none, .mv (.t 71)⟩,
         ⟨(some 10), none, .mv (.t 72)⟩])
       (.seq
        (.seq
         (.ops [⟨(some 73), none, .mv (.t 9)⟩,
           ⟨(some 74), none, .lenL (.t 73)⟩,
           ⟨(some 75), none, .bin .gtr (.t 74) (.c (.int .i64 16))⟩,
           ⟨(some 76), none, .mv (.t 75)⟩,
           ⟨(some 77), (some (76, false)), .mv (.t 10)⟩,
           ⟨(some 78), (some (76, false)), .lenL (.t 77)⟩,
           ⟨(some 79), (some (76, false)), .bin .gtr (.t 78) (.c (.int .i64 15))⟩,
           ⟨(some 80), none, .pick (.t 76) (.c (.bool true)) (.t 79)⟩])
         (.cond (.t 80)
          (.seq
           (.ops [⟨(some 6), none, .mv (.c (.bool false))⟩])
           (.ret))
          (.skip)))
        (.seq
         (.seq
          (.ops [⟨(some 81), none, .addr 1 (.t 5)⟩,
            ⟨(some 82), none, .load none (.t 81)⟩,
            ⟨(some 83), none, .bin .sub (.t 82) (.c (.int .i64 1))⟩,
            ⟨(some 11), none, .mv (.t 83)⟩])
          (.block 0 (.loop (.seq
             (.seq
              (.ops [⟨(some 84), none, .mv (.t 11)⟩,
                ⟨(some 85), none, .addr 1 (.t 5)⟩,
                ⟨(some 86), none, .load none (.t 85)⟩,
                ⟨(some 87), none, .addr 3 (.t 5)⟩,
                ⟨(some 88), none, .load none (.t 87)⟩,
                ⟨(some 89), none, .bin .add (.t 86) (.t 88)⟩,
                ⟨(some 90), none, .bin .leq (.t 84) (.t 89)⟩])
              (.cond (.t 90)
               (.skip)
               (.exit 0)))
             (.seq
              (.block 1 (.seq
                (.ops [⟨(some 93), none, .addr 0 (.t 5)⟩,
                  ⟨(some 94), none, .load none (.t 93)⟩,
                  ⟨(some 95), none, .bin .sub (.t 94) (.c (.int .i64 1))⟩,
                  ⟨(some 12), none, .mv (.t 95)⟩])
                (.block 2 (.loop (.seq
                   (.seq
                    (.ops [⟨(some 96), none, .mv (.t 12)⟩,
                      ⟨(some 97), none, .addr 0 (.t 5)⟩,
                      ⟨(some 98), none, .load none (.t 97)⟩,
                      ⟨(some 99), none, .addr 2 (.t 5)⟩,
                      ⟨(some 100), none, .load none (.t 99)⟩,
                      ⟨(some 101), none, .bin .add (.t 98) (.t 100)⟩,
                      ⟨(some 102), none, .bin .leq (.t 96) (.t 101)⟩])
                    (.cond (.t 102)
                     (.skip)
                     (.exit 2)))
                   (.seq
                    (.block 3 (.seq
                      (.ops [⟨(some 13), none, .mv (.c (.int .i64 0))⟩])
                      (.seq
                       (.seq
                        (.ops [⟨(some 14), none, .mv (.c (.int .i64 0))⟩])
                        (.block 4 (.loop (.seq
                           (.seq
                            (.ops [⟨(some 105), none, .mv (.t 14)⟩,
                              ⟨(some 106), none, .mv (.t 9)⟩,
                              ⟨(some 107), none, .lenL (.t 106)⟩,
                              ⟨(some 108), none, .bin .lss (.t 105) (.t 107)⟩])
                            (.cond (.t 108)
                             (.skip)
                             (.exit 4)))
                           (.seq
                            (.block 5 (.seq
                              (.ops [⟨(some 111), none, .mv (.t 9)⟩,
                                ⟨(some 112), none, .mv (.t 14)⟩,
                                ⟨(some 113), none, .iaddrS 7 (.t 111) (.t 112)⟩,
                                ⟨(some 114), none, .addr 3 (.t 113)⟩,
                                ⟨(some 115), none, .load (some 4) (.t 114)⟩,
                                ⟨(some 116), none, .mv (.t 12)⟩,
                                ⟨(some 117), none, .mv (.t 11)⟩,
                                ⟨(some 118), none, .call 13 [(.t 115), (.t 116), (.t 117)]⟩])
                              (.cond (.t 118)
                               (.ops [⟨(some 119), none, .mv (.t 13)⟩,
                                 ⟨(some 120), none, .bin .add (.t 119) (.c (.int .i64 1))⟩,
                                 ⟨(some 13), none, .mv (.t 120)⟩])
                               (.skip))))
                            (.ops [⟨(some 109), none, .mv (.t 14)⟩,
                              ⟨(some 110), none, .bin .add (.t 109) (.c (.int .i64 1))⟩,
                              ⟨(some 14), none, .mv (.t 110)⟩]))))))
                       (.seq
                        (.seq
                         (.ops [⟨(some 15), none, .mv (.c (.int .i64 0))⟩])
                         (.block 6 (.loop (.seq
                            (.seq
                             (.ops [⟨(some 121), none, .mv (.t 15)⟩,
                               ⟨(some 122), none, .mv (.t 10)⟩,
                               ⟨(some 123), none, .lenL (.t 122)⟩,
                               ⟨(some 124), none, .bin .lss (.t 121) (.t 123)⟩])
                             (.cond (.t 124)
                              (.skip)
                              (.exit 6)))
                            (.seq
                             (.block 7 (.seq
                               (.ops [⟨(some 127), none, .mv (.t 10)⟩,
                                 ⟨(some 128), none, .mv (.t 15)⟩,
                                 ⟨(some 129), none, .iaddrS 4 (.t 127) (.t 128)⟩,
                                 ⟨(some 130), none, .load (some 4) (.t 129)⟩,
                                 ⟨(some 131), none, .mv (.t 12)⟩,
                                 ⟨(some 132), none, .mv (.t 11)⟩,
                                 ⟨(some 133), none, .call 13 [(.t 130), (.t 131), (.t 132)]⟩])
                               (.cond (.t 133)
                                (.ops [⟨(some 134), none, .mv (.t 13)⟩,
                                  ⟨(some 135), none, .bin .add (.t 134) (.c (.int .i64 1))⟩,
                                  ⟨(some 13), none, .mv (.t 135)⟩])
                                (.skip))))
                             (.ops [⟨(some 125), none, .mv (.t 15)⟩,
                               ⟨(some 126), none, .bin .add (.t 125) (.c (.int .i64 1))⟩,
                               ⟨(some 15), none, .mv (.t 126)⟩]))))))
                        (.seq
                         (.ops [⟨(some 136), none, .mv (.t 13)⟩,
                           ⟨(some 137), none, .bin .eql (.t 136) (.c (.int .i64 1))⟩,
                           ⟨(some 138), none, .load (some 4) (.t 5)⟩,
                           ⟨(some 139), none, .mv (.t 12)⟩,
                           ⟨(some 140), none, .mv (.t 11)⟩,
                           ⟨(some 141), none, .call 13 [(.t 138), (.t 139), (.t 140)]⟩,
                           ⟨(some 142), none, .eq true 4 .bool (.t 137) (.t 141)⟩,
                           ⟨(some 143), none, .mv (.t 142)⟩,
                           ⟨(some 144), (some (143, false)), .mv (.t 13)⟩,
                           ⟨(some 145), (some (143, false)), .bin .gtr (.t 144) (.c (.int .i64 1))⟩,
                           ⟨(some 146), none, .pick (.t 143) (.c (.bool true)) (.t 145)⟩])
                         (.cond (.t 146)
                          (.seq
                           (.ops [⟨(some 6), none, .mv (.c (.bool false))⟩])
                           (.ret))
                          (.skip)))))))
                    (.ops [⟨(some 103), none, .mv (.t 12)⟩,
                      ⟨(some 104), none, .bin .add (.t 103) (.c (.int .i64 1))⟩,
                      ⟨(some 12), none, .mv (.t 104)⟩])))))))
              (.ops [⟨(some 91), none, .mv (.t 11)⟩,
                ⟨(some 92), none, .bin .add (.t 91) (.c (.int .i64 1))⟩,
                ⟨(some 11), none, .mv (.t 92)⟩]))))))
         (.seq
          (.ops [⟨(some 6), none, .mv (.c (.bool true))⟩])
          (.ret))))))))⟩
theorem ok6 : FnOk Try.prog 6 a6 := FnOk.of Try.prog Try.func6 (by kernel_rfl)
/-- jalousie/geometry.Lay -/
def a7 : AFn := ⟨28, [.tmp 4, .tmp 5], .seq
   (.ops [⟨(some 3), none, .box 29 (.t 1)⟩,
     ⟨(some 4), none, .mv (.c .nilslice)⟩,
     ⟨(some 5), none, .mv (.c .nilslice)⟩])
   (.seq
    (.seq
     (.ops [⟨(some 7), none, .mv (.t 0)⟩,
       ⟨(some 8), none, .eq false 26 (.pointer 58) (.t 7) (.c .nilptr)⟩,
       ⟨(some 9), none, .mv (.t 8)⟩,
       ⟨(some 10), (some (9, false)), .load (some 4) (.t 3)⟩,
       ⟨(some 11), (some (9, false)), .call 17 [(.t 10)]⟩,
       ⟨(some 12), (some (9, false)), .un .not (.t 11)⟩,
       ⟨(some 13), none, .pick (.t 9) (.c (.bool true)) (.t 12)⟩])
     (.cond (.t 13)
      (.seq
       (.ops [⟨(some 4), none, .mv (.c .nilslice)⟩,
         ⟨(some 5), none, .mv (.c .nilslice)⟩])
       (.ret))
      (.skip)))
    (.seq
     (.ops [⟨(some 14), none, .mv (.t 0)⟩,
       ⟨(some 15), none, .build [.nilptr, .nilslice, .nilslice] [(0, 1), (1, 1), (2, 1)] [(0, (.t 14))]⟩,
       ⟨(some 16), none, .box 50 (.t 15)⟩,
       ⟨(some 6), none, .mv (.t 16)⟩])
     (.seq
      (.ops [⟨(some 17), none, .mv (.t 6)⟩,
        ⟨(some 18), none, .load (some 4) (.t 3)⟩,
        ⟨(some 19), none, .call 18 [(.t 17), (.c (.int .i64 0)), (.t 18)]⟩])
      (.seq
       (.draw [⟨⟨(some 20), none, .mv (.t 6)⟩, []⟩,
         ⟨⟨(some 21), none, .nilck (.t 20)⟩, [0]⟩,
         ⟨⟨(some 22), none, .addr 1 (.t 21)⟩, [1]⟩,
         ⟨⟨(some 23), none, .load none (.t 22)⟩, [2]⟩,
         ⟨⟨(some 24), none, .mv (.t 6)⟩, []⟩,
         ⟨⟨(some 25), none, .nilck (.t 24)⟩, [4]⟩,
         ⟨⟨(some 26), none, .addr 2 (.t 25)⟩, [5]⟩,
         ⟨⟨(some 27), none, .load none (.t 26)⟩, [6]⟩,
         ⟨⟨(some 4), none, .mv (.t 23)⟩, [3, 0, 1, 2, 3]⟩,
         ⟨⟨(some 5), none, .mv (.t 27)⟩, [7, 8, 0, 1, 2, 3, 4, 5, 6, 7, 8]⟩] [0, 1, 3, 7, 0, 16, 48, 112, 15, 511])
       (.ret)))))⟩
theorem ok7 : FnOk Try.prog 7 a7 := FnOk.of Try.prog Try.func7 (by kernel_rfl)
/-- jalousie/jalousielaw20.example -/
def a8 : AFn := ⟨13, [.tmp 0], .seq
   (.ops [⟨(some 0), none, .mv (.c .nilptr)⟩])
   (.seq
    (.ops [⟨(some 2), none, .call 10 [(.c (.int .i64 1))]⟩,
      ⟨(some 3), none, .call 9 [(.t 2)]⟩,
      ⟨(some 1), none, .mv (.t 3)⟩])
    (.seq
     (.ops [⟨(some 4), none, .mv (.t 1)⟩,
       ⟨(some 5), none, .call 10 [(.c (.int .i64 1))]⟩,
       ⟨(some 6), none, .call 10 [(.c (.int .i64 2))]⟩,
       ⟨(some 7), none, .call 19 [(.t 4), (.t 5), (.t 6), (.c (.int .i64 1)), (.c (.int .i64 50))]⟩])
     (.seq
      (.ops [⟨(some 8), none, .mv (.t 1)⟩,
        ⟨(some 9), none, .call 10 [(.c (.int .i64 2))]⟩,
        ⟨(some 10), none, .call 10 [(.c (.int .i64 3))]⟩,
        ⟨(some 11), none, .call 19 [(.t 8), (.t 9), (.t 10), (.c (.int .i64 2)), (.c (.int .i64 50))]⟩])
      (.seq
       (.ops [⟨(some 12), none, .mv (.t 1)⟩,
         ⟨(some 0), none, .mv (.t 12)⟩])
       (.ret)))))⟩
theorem ok8 : FnOk Try.prog 8 a8 := FnOk.of Try.prog Try.func8 (by kernel_rfl)
/-- jalousie/tree.New -/
def a9 : AFn := ⟨8, [.tmp 2], .seq
   (.ops [⟨(some 1), none, .box 32 (.t 0)⟩,
     ⟨(some 2), none, .mv (.c .nilptr)⟩])
   (.seq
    (.ops [⟨(some 3), none, .load (some 3) (.t 1)⟩,
      ⟨(some 4), none, .build [(.int .i64 0), (.int .i64 0), (.int .i64 0), (.int .i64 0), (.int .i64 0), (.int .i64 0), (.int .i64 0)] [(0, 1), (1, 1), (2, 1), (3, 1), (4, 3)] [(4, (.t 3))]⟩,
      ⟨(some 5), none, .bslice 55 7 1 [(.int .i64 0), (.int .i64 0), (.int .i64 0), (.int .i64 0), (.int .i64 0), (.int .i64 0), (.int .i64 0)] [(0, (.t 4))]⟩,
      ⟨(some 6), none, .build [.nilslice] [(0, 1)] [(0, (.t 5))]⟩,
      ⟨(some 7), none, .box 58 (.t 6)⟩,
      ⟨(some 2), none, .mv (.t 7)⟩])
    (.ret))⟩
theorem ok9 : FnOk Try.prog 9 a9 := FnOk.of Try.prog Try.func9 (by kernel_rfl)
/-- jalousie/jalousielaw20.pane -/
def a10 : AFn := ⟨5, [.cell 2 (some 3)], .seq
   (.ops [⟨(some 2), none, .alloc 32 [(.int .i64 0), (.int .i64 0), (.int .i64 0)]⟩])
   (.seq
    (.ops [⟨(some 3), none, .mv (.t 0)⟩,
      ⟨(some 4), none, .build [(.int .i64 0), (.int .i64 0), (.int .i64 0)] [(0, 1), (1, 1), (2, 1)] [(2, (.t 3))]⟩,
      ⟨none, none, .store 3 (.t 2) (.t 4)⟩])
    (.ret))⟩
theorem ok10 : FnOk Try.prog 10 a10 := FnOk.of Try.prog Try.func10 (by kernel_rfl)
/-- jalousie/jalousielaw20.awake -/
def a11 : AFn := ⟨73, [.tmp 0], .seq
   (.ops [⟨(some 0), none, .mv (.c (.bool false))⟩])
   (.seq
    (.ops [⟨(some 5), none, .call 8 []⟩,
      ⟨(some 6), none, .build [(.int .i64 0), (.int .i64 0), (.int .i64 0), (.int .i64 0)] [(0, 1), (1, 1), (2, 1), (3, 1)] [(2, (.c (.int .i64 11))), (3, (.c (.int .i64 5)))]⟩,
      ⟨(some 7), none, .call 7 [(.t 5), (.t 6)]⟩,
      ⟨(some 4), none, .mv (.t 7)⟩,
      ⟨(some 8), none, .ext (.t 4) 0⟩,
      ⟨(some 9), none, .ext (.t 4) 1⟩,
      ⟨(some 1), none, .mv (.t 8)⟩,
      ⟨(some 2), none, .mv (.t 9)⟩])
    (.seq
     (.ops [⟨(some 10), none, .call 8 []⟩,
       ⟨(some 11), none, .call 10 [(.c (.int .i64 2))]⟩,
       ⟨(some 12), none, .build [(.int .i64 0), (.int .i64 0), (.int .i64 0), (.int .i64 0)] [(0, 1), (1, 1), (2, 1), (3, 1)] [(2, (.c (.int .i64 9))), (3, (.c (.int .i64 4)))]⟩,
       ⟨(some 13), none, .call 12 [(.t 10), (.t 11), (.t 12)]⟩,
       ⟨(some 3), none, .mv (.t 13)⟩])
     (.seq
      (.draw [⟨⟨(some 14), none, .mv (.t 1)⟩, []⟩,
        ⟨⟨(some 15), none, .lenL (.t 14)⟩, [0]⟩,
        ⟨⟨(some 16), none, .bin .eql (.t 15) (.c (.int .i64 3))⟩, [1]⟩,
        ⟨⟨(some 17), none, .mv (.t 16)⟩, [2]⟩,
        ⟨⟨(some 18), (some (17, true)), .mv (.t 2)⟩, [3]⟩,
        ⟨⟨(some 19), (some (17, true)), .lenL (.t 18)⟩, [4, 3]⟩,
        ⟨⟨(some 20), (some (17, true)), .bin .eql (.t 19) (.c (.int .i64 2))⟩, [5, 3]⟩,
        ⟨⟨(some 21), none, .pick (.t 17) (.t 20) (.c (.bool false))⟩, [3, 6]⟩,
        ⟨⟨(some 22), none, .mv (.t 21)⟩, [7, 3]⟩,
        ⟨⟨(some 23), (some (22, true)), .mv (.t 1)⟩, [8]⟩,
        ⟨⟨(some 24), (some (22, true)), .iaddrS 7 (.t 23) (.c (.int .i64 0))⟩, [9, 8]⟩,
        ⟨⟨(some 25), (some (22, true)), .addr 3 (.t 24)⟩, [10, 8]⟩,
        ⟨⟨(some 26), (some (22, true)), .load (some 4) (.t 25)⟩, [11, 8]⟩,
        ⟨⟨(some 27), (some (22, true)), .build [(.int .i64 0), (.int .i64 0), (.int .i64 0), (.int .i64 0)] [(0, 1), (1, 1), (2, 1), (3, 1)] [(2, (.c (.int .i64 5))), (3, (.c (.int .i64 5)))]⟩, [8]⟩,
        ⟨⟨(some 28), (some (22, true)), .eq false 29 (.struct #[⟨"X", 3, 0, false, "", "", 0⟩, ⟨"Y", 3, 1, false, "", "", 8⟩, ⟨"W", 3, 2, false, "", "", 16⟩, ⟨"H", 3, 3, false, "", "", 24⟩]) (.t 26) (.t 27)⟩, [12, 13, 8]⟩,
        ⟨⟨(some 29), none, .pick (.t 22) (.t 28) (.c (.bool false))⟩, [8, 14]⟩,
        ⟨⟨(some 30), none, .mv (.t 29)⟩, [15, 8]⟩,
        ⟨⟨(some 31), (some (30, true)), .mv (.t 1)⟩, [16]⟩,
        ⟨⟨(some 32), (some (30, true)), .iaddrS 7 (.t 31) (.c (.int .i64 2))⟩, [17, 16]⟩,
        ⟨⟨(some 33), (some (30, true)), .load (some 7) (.t 32)⟩, [18, 16]⟩,
        ⟨⟨(some 34), (some (30, true)), .call 10 [(.c (.int .i64 3))]⟩, [16, 16]⟩,
        ⟨⟨(some 35), (some (30, true)), .build [(.int .i64 0), (.int .i64 0), (.int .i64 0), (.int .i64 0)] [(0, 1), (1, 1), (2, 1), (3, 1)] [(0, (.c (.int .i64 6))), (1, (.c (.int .i64 3))), (2, (.c (.int .i64 5))), (3, (.c (.int .i64 2)))]⟩, [16]⟩,
        ⟨⟨(some 36), (some (30, true)), .build [(.int .i64 0), (.int .i64 0), (.int .i64 0), (.int .i64 0), (.int .i64 0), (.int .i64 0), (.int .i64 0)] [(0, 3), (3, 4)] [(0, (.t 34)), (1, (.t 35))]⟩, [20, 21, 16]⟩,
        ⟨⟨(some 37), (some (30, true)), .eq false 36 (.struct #[⟨"Pane", 32, 0, false, "", "", 0⟩, ⟨"Rect", 29, 3, false, "", "", 24⟩]) (.t 33) (.t 36)⟩, [19, 22, 16]⟩,
        ⟨⟨(some 38), none, .pick (.t 30) (.t 37) (.c (.bool false))⟩, [16, 23]⟩,
        ⟨⟨(some 39), none, .mv (.t 38)⟩, [24, 20]⟩,
        ⟨⟨(some 40), (some (39, true)), .mv (.t 2)⟩, [25]⟩,
        ⟨⟨(some 41), (some (39, true)), .iaddrS 4 (.t 40) (.c (.int .i64 0))⟩, [26, 25]⟩,
        ⟨⟨(some 42), (some (39, true)), .load (some 4) (.t 41)⟩, [27, 25]⟩,
        ⟨⟨(some 43), (some (39, true)), .build [(.int .i64 0), (.int .i64 0), (.int .i64 0), (.int .i64 0)] [(0, 1), (1, 1), (2, 1), (3, 1)] [(0, (.c (.int .i64 5))), (2, (.c (.int .i64 1))), (3, (.c (.int .i64 5)))]⟩, [25]⟩,
        ⟨⟨(some 44), (some (39, true)), .eq false 29 (.struct #[⟨"X", 3, 0, false, "", "", 0⟩, ⟨"Y", 3, 1, false, "", "", 8⟩, ⟨"W", 3, 2, false, "", "", 16⟩, ⟨"H", 3, 3, false, "", "", 24⟩]) (.t 42) (.t 43)⟩, [28, 29, 25]⟩,
        ⟨⟨(some 45), none, .pick (.t 39) (.t 44) (.c (.bool false))⟩, [25, 30]⟩,
        ⟨⟨(some 46), none, .mv (.t 45)⟩, [31, 25]⟩,
        ⟨⟨(some 47), (some (46, true)), .mv (.t 3)⟩, [32]⟩,
        ⟨⟨(some 48), (some (46, true)), .lenL (.t 47)⟩, [33, 32]⟩,
        ⟨⟨(some 49), (some (46, true)), .bin .eql (.t 48) (.c (.int .i64 3))⟩, [34, 32]⟩,
        ⟨⟨(some 50), none, .pick (.t 46) (.t 49) (.c (.bool false))⟩, [32, 35]⟩,
        ⟨⟨(some 51), none, .mv (.t 50)⟩, [36, 32]⟩,
        ⟨⟨(some 52), (some (51, true)), .mv (.t 3)⟩, [37]⟩,
        ⟨⟨(some 53), (some (51, true)), .iaddrS 7 (.t 52) (.c (.int .i64 1))⟩, [38, 37]⟩,
        ⟨⟨(some 54), (some (51, true)), .addr 3 (.t 53)⟩, [39, 37]⟩,
        ⟨⟨(some 55), (some (51, true)), .load (some 4) (.t 54)⟩, [40, 37]⟩,
        ⟨⟨(some 56), (some (51, true)), .build [(.int .i64 0), (.int .i64 0), (.int .i64 0), (.int .i64 0)] [(0, 1), (1, 1), (2, 1), (3, 1)] [(2, (.c (.int .i64 9))), (3, (.c (.int .i64 4)))]⟩, [37]⟩,
        ⟨⟨(some 57), (some (51, true)), .eq false 29 (.struct #[⟨"X", 3, 0, false, "", "", 0⟩, ⟨"Y", 3, 1, false, "", "", 8⟩, ⟨"W", 3, 2, false, "", "", 16⟩, ⟨"H", 3, 3, false, "", "", 24⟩]) (.t 55) (.t 56)⟩, [41, 42, 37]⟩,
        ⟨⟨(some 58), none, .pick (.t 51) (.t 57) (.c (.bool false))⟩, [37, 43]⟩,
        ⟨⟨(some 59), none, .mv (.t 58)⟩, [44, 37]⟩,
        ⟨⟨(some 60), (some (59, true)), .mv (.t 1)⟩, [45]⟩,
        ⟨⟨(some 61), (some (59, true)), .iaddrS 7 (.t 60) (.c (.int .i64 2))⟩, [46, 45]⟩,
        ⟨⟨(some 62), (some (59, true)), .addr 3 (.t 61)⟩, [47, 45]⟩,
        ⟨⟨(some 63), (some (59, true)), .load (some 4) (.t 62)⟩, [48, 45]⟩,
        ⟨⟨(some 64), (some (59, true)), .call 13 [(.t 63), (.c (.int .i64 6)), (.c (.int .i64 4))]⟩, [49, 45, 45]⟩,
        ⟨⟨(some 65), none, .pick (.t 59) (.t 64) (.c (.bool false))⟩, [45, 50]⟩,
        ⟨⟨(some 66), none, .mv (.t 65)⟩, [51, 50]⟩,
        ⟨⟨(some 67), (some (66, true)), .build [(.int .i64 0), (.int .i64 0), (.int .i64 0), (.int .i64 0)] [(0, 1), (1, 1), (2, 1), (3, 1)] [(2, (.c (.int .i64 5))), (3, (.c (.int .i64 5)))]⟩, [52]⟩,
        ⟨⟨(some 68), (some (66, true)), .build [(.int .i64 0), (.int .i64 0), (.int .i64 0), (.int .i64 0)] [(0, 1), (1, 1), (2, 1), (3, 1)] [(0, (.c (.int .i64 3))), (1, (.c (.int .i64 4))), (2, (.c (.int .i64 9))), (3, (.c (.int .i64 9)))]⟩, [52]⟩,
        ⟨⟨(some 69), (some (66, true)), .call 15 [(.t 67), (.t 68)]⟩, [53, 54, 52, 52]⟩,
        ⟨⟨(some 70), (some (66, true)), .build [(.int .i64 0), (.int .i64 0), (.int .i64 0), (.int .i64 0)] [(0, 1), (1, 1), (2, 1), (3, 1)] [(0, (.c (.int .i64 3))), (1, (.c (.int .i64 4))), (2, (.c (.int .i64 2))), (3, (.c (.int .i64 1)))]⟩, [52]⟩,
        ⟨⟨(some 71), (some (66, true)), .eq false 29 (.struct #[⟨"X", 3, 0, false, "", "", 0⟩, ⟨"Y", 3, 1, false, "", "", 8⟩, ⟨"W", 3, 2, false, "", "", 16⟩, ⟨"H", 3, 3, false, "", "", 24⟩]) (.t 69) (.t 70)⟩, [55, 56, 52]⟩,
        ⟨⟨(some 72), none, .pick (.t 66) (.t 71) (.c (.bool false))⟩, [52, 57]⟩,
        ⟨⟨(some 0), none, .mv (.t 72)⟩, [58, 55, 0, 1, 2, 3, 4, 5, 6, 7, 8, 9, 10, 11, 12, 13, 14, 15, 16, 17, 18, 19, 20, 21, 22, 23, 24, 25, 26, 27, 28, 29, 30, 31, 32, 33, 34, 35, 36, 37, 38, 39, 40, 41, 42, 43, 44, 45, 46, 47, 48, 49, 50, 51, 52, 53, 54, 55, 56, 57, 58]⟩] [0, 1, 3, 7, 15, 31, 63, 127, 255, 511, 1023, 2047, 4095, 511, 16383, 32767, 65535, 131071, 262143, 524287, 131071, 131071, 3276799, 8388607, 16777215, 33554431, 67108863, 134217727, 268435455, 67108863, 1073741823, 2147483647, 4294967295, 8589934591, 17179869183, 34359738367, 68719476735, 137438953471, 274877906943, 549755813887, 1099511627775, 2199023255551, 274877906943, 8796093022207, 17592186044415, 35184372088831, 70368744177663, 140737488355327, 281474976710655, 562949953421311, 1125899906842623, 2251799813685247, 4503599627370495, 9007199254740991, 9007199254740991, 36028797018963967, 9007199254740991, 144115188075855871, 288230376151711743, 576460752303423487])
      (.ret))))⟩
theorem ok11 : FnOk Try.prog 11 a11 := FnOk.of Try.prog Try.func11 (by kernel_rfl)
/-- jalousie/geometry.Zoom -/
def a12 : AFn := ⟨43, [.tmp 6], .seq
   (.ops [⟨(some 4), none, .box 32 (.t 1)⟩,
     ⟨(some 5), none, .box 29 (.t 2)⟩,
     ⟨(some 6), none, .mv (.c .nilslice)⟩])
   (.seq
    (.seq
     (.ops [⟨(some 10), none, .mv (.t 0)⟩,
       ⟨(some 11), none, .load (some 3) (.t 4)⟩,
       ⟨(some 12), none, .call 20 [(.t 10), (.t 11)]⟩,
       ⟨(some 13), none, .un .not (.t 12)⟩,
       ⟨(some 14), none, .mv (.t 13)⟩,
       ⟨(some 15), (some (14, false)), .load (some 4) (.t 5)⟩,
       ⟨(some 16), (some (14, false)), .call 17 [(.t 15)]⟩,
       ⟨(some 17), (some (14, false)), .un .not (.t 16)⟩,
       ⟨(some 18), none, .pick (.t 14) (.c (.bool true)) (.t 17)⟩])
     (.cond (.t 18)
      (.seq
       (.ops [⟨(some 6), none, .mv (.c .nilslice)⟩])
       (.ret))
      (.skip)))
    (.seq
     (.seq
      (.ops [⟨(some 19), none, .load (some 4) (.t 5)⟩,
        ⟨(some 20), none, .call 21 [(.t 19)]⟩])
      (.cond (.t 20)
       (.ops [⟨(some 21), none, .addr 2 (.t 5)⟩,
         ⟨none, none, .store 1 (.t 21) (.c (.int .i64 0))⟩,
         ⟨(some 22), none, .addr 3 (.t 5)⟩,
         ⟨none, none, .store 1 (.t 22) (.c (.int .i64 0))⟩])
       (.skip)))
     (.seq
      (.ops [⟨(some 7), none, .alloc 22 [.nilslice]⟩])
      (.seq
       (.seq
        (.ops [⟨(some 23), none, .mv (.t 0)⟩,
          ⟨(some 24), none, .call 22 [(.t 23)]⟩])
        (.block 0 (.rangeF (.t 24) [25]
          (.ops [⟨(some 8), none, .alloc 32 [(.int .i64 0), (.int .i64 0), (.int .i64 0)]⟩,
            ⟨none, none, .store 3 (.t 8) (.t 25)⟩])
          (.block 1 (.seq
            (.ops [⟨(some 26), none, .load (some 3) (.t 8)⟩,
              ⟨(some 27), none, .addr 0 (.t 5)⟩,
              ⟨(some 28), none, .load none (.t 27)⟩,
              ⟨(some 29), none, .addr 1 (.t 5)⟩,
              ⟨(some 30), none, .load none (.t 29)⟩,
              ⟨(some 31), none, .build [(.int .i64 0), (.int .i64 0), (.int .i64 0), (.int .i64 0)] [(0, 1), (1, 1), (2, 1), (3, 1)] [(0, (.t 28)), (1, (.t 30))]⟩,
              ⟨(some 32), none, .build [(.int .i64 0), (.int .i64 0), (.int .i64 0), (.int .i64 0), (.int .i64 0), (.int .i64 0), (.int .i64 0)] [(0, 3), (3, 4)] [(0, (.t 26)), (1, (.t 31))]⟩,
              ⟨(some 9), none, .alloc 36 [(.int .i64 0), (.int .i64 0), (.int .i64 0), (.int .i64 0), (.int .i64 0), (.int .i64 0), (.int .i64 0)]⟩,
              ⟨none, none, .store 7 (.t 9) (.t 32)⟩])
            (.seq
             (.seq
              (.ops [⟨(some 33), none, .load (some 3) (.t 8)⟩,
                ⟨(some 34), none, .load (some 3) (.t 4)⟩,
                ⟨(some 35), none, .eq false 32 (.struct #[⟨"Label", 3, 0, false, "", "", 0⟩, ⟨"Home", 3, 1, false, "", "", 8⟩, ⟨"N", 3, 2, false, "", "", 16⟩]) (.t 33) (.t 34)⟩])
              (.cond (.t 35)
               (.ops [⟨(some 36), none, .load (some 4) (.t 5)⟩,
                 ⟨(some 37), none, .addr 3 (.t 9)⟩,
                 ⟨none, none, .store 4 (.t 37) (.t 36)⟩])
               (.skip)))
             (.ops [⟨(some 38), none, .load none (.t 7)⟩,
               ⟨(some 39), none, .load (some 7) (.t 9)⟩,
               ⟨(some 40), none, .bslice 36 7 1 [(.int .i64 0), (.int .i64 0), (.int .i64 0), (.int .i64 0), (.int .i64 0), (.int .i64 0), (.int .i64 0)] [(0, (.t 39))]⟩,
               ⟨(some 41), none, .append 36 7 56 (.t 38) (.t 40)⟩,
               ⟨none, none, .store 1 (.t 7) (.t 41)⟩])))))))
       (.seq
        (.ops [⟨(some 42), none, .load none (.t 7)⟩,
          ⟨(some 6), none, .mv (.t 42)⟩])
        (.ret))))))⟩
theorem ok12 : FnOk Try.prog 12 a12 := FnOk.of Try.prog Try.func12 (by kernel_rfl)
/-- jalousie/geometry.In -/
def a13 : AFn := ⟨45, [.tmp 6], .seq
   (.ops [⟨(some 3), none, .box 29 (.t 0)⟩,
     ⟨(some 6), none, .mv (.c (.bool false))⟩])
   (.seq
    (.ops [⟨(some 7), none, .addr 2 (.t 3)⟩,
      ⟨(some 8), none, .load none (.t 7)⟩,
      ⟨(some 9), none, .bin .gtr (.t 8) (.c (.int .i64 0))⟩,
      ⟨(some 10), none, .mv (.t 9)⟩,
      ⟨(some 11), (some (10, true)), .addr 3 (.t 3)⟩,
      ⟨(some 12), (some (10, true)), .load none (.t 11)⟩,
      ⟨(some 13), (some (10, true)), .bin .gtr (.t 12) (.c (.int .i64 0))⟩,
      ⟨(some 14), none, .pick (.t 10) (.t 13) (.c (.bool false))⟩,
      ⟨(some 15), none, .mv (.t 14)⟩,
      ⟨(some 16), (some (15, true)), .mv (.t 1)⟩,
      ⟨(some 17), (some (15, true)), .addr 0 (.t 3)⟩,
      ⟨(some 18), (some (15, true)), .load none (.t 17)⟩,
      ⟨(some 19), (some (15, true)), .bin .geq (.t 16) (.t 18)⟩,
      ⟨(some 20), none, .pick (.t 15) (.t 19) (.c (.bool false))⟩,
      ⟨(some 21), none, .mv (.t 20)⟩,
      ⟨(some 22), (some (21, true)), .mv (.t 2)⟩,
      ⟨(some 23), (some (21, true)), .addr 1 (.t 3)⟩,
      ⟨(some 24), (some (21, true)), .load none (.t 23)⟩,
      ⟨(some 25), (some (21, true)), .bin .geq (.t 22) (.t 24)⟩,
      ⟨(some 26), none, .pick (.t 21) (.t 25) (.c (.bool false))⟩,
      ⟨(some 27), none, .mv (.t 26)⟩,
      ⟨(some 28), (some (27, true)), .mv (.t 1)⟩,
      ⟨(some 29), (some (27, true)), .addr 0 (.t 3)⟩,
      ⟨(some 30), (some (27, true)), .load none (.t 29)⟩,
      ⟨(some 31), (some (27, true)), .addr 2 (.t 3)⟩,
      ⟨(some 32), (some (27, true)), .load none (.t 31)⟩,
      ⟨(some 33), (some (27, true)), .call 23 [(.t 30), (.t 32)]⟩,
      ⟨(some 34), (some (27, true)), .bin .lss (.t 28) (.t 33)⟩,
      ⟨(some 35), none, .pick (.t 27) (.t 34) (.c (.bool false))⟩,
      ⟨(some 36), none, .mv (.t 35)⟩,
      ⟨(some 37), (some (36, true)), .mv (.t 2)⟩,
      ⟨(some 38), (some (36, true)), .addr 1 (.t 3)⟩,
      ⟨(some 39), (some (36, true)), .load none (.t 38)⟩,
      ⟨(some 40), (some (36, true)), .addr 3 (.t 3)⟩,
      ⟨(some 41), (some (36, true)), .load none (.t 40)⟩,
      ⟨(some 42), (some (36, true)), .call 23 [(.t 39), (.t 41)]⟩,
      ⟨(some 43), (some (36, true)), .bin .lss (.t 37) (.t 42)⟩,
      ⟨(some 44), none, .pick (.t 36) (.t 43) (.c (.bool false))⟩,
      ⟨(some 6), none, .mv (.t 44)⟩])
    (.ret))⟩
theorem ok13 : FnOk Try.prog 13 a13 := FnOk.of Try.prog Try.func13 (by kernel_rfl)
/-- jalousie/jalousieref20.Holds -/
def a14 : AFn := ⟨35, [.tmp 6], .seq
   (.ops [⟨(some 3), none, .box 29 (.t 0)⟩,
     ⟨(some 6), none, .mv (.c (.bool false))⟩])
   (.seq
    (.ops [⟨(some 7), none, .mv (.t 1)⟩,
      ⟨(some 8), none, .addr 0 (.t 3)⟩,
      ⟨(some 9), none, .load none (.t 8)⟩,
      ⟨(some 10), none, .bin .geq (.t 7) (.t 9)⟩,
      ⟨(some 11), none, .mv (.t 10)⟩,
      ⟨(some 12), (some (11, true)), .mv (.t 2)⟩,
      ⟨(some 13), (some (11, true)), .addr 1 (.t 3)⟩,
      ⟨(some 14), (some (11, true)), .load none (.t 13)⟩,
      ⟨(some 15), (some (11, true)), .bin .geq (.t 12) (.t 14)⟩,
      ⟨(some 16), none, .pick (.t 11) (.t 15) (.c (.bool false))⟩,
      ⟨(some 17), none, .mv (.t 16)⟩,
      ⟨(some 18), (some (17, true)), .mv (.t 1)⟩,
      ⟨(some 19), (some (17, true)), .addr 0 (.t 3)⟩,
      ⟨(some 20), (some (17, true)), .load none (.t 19)⟩,
      ⟨(some 21), (some (17, true)), .bin .sub (.t 18) (.t 20)⟩,
      ⟨(some 22), (some (17, true)), .addr 2 (.t 3)⟩,
      ⟨(some 23), (some (17, true)), .load none (.t 22)⟩,
      ⟨(some 24), (some (17, true)), .bin .lss (.t 21) (.t 23)⟩,
      ⟨(some 25), none, .pick (.t 17) (.t 24) (.c (.bool false))⟩,
      ⟨(some 26), none, .mv (.t 25)⟩,
      ⟨(some 27), (some (26, true)), .mv (.t 2)⟩,
      ⟨(some 28), (some (26, true)), .addr 1 (.t 3)⟩,
      ⟨(some 29), (some (26, true)), .load none (.t 28)⟩,
      ⟨(some 30), (some (26, true)), .bin .sub (.t 27) (.t 29)⟩,
      ⟨(some 31), (some (26, true)), .addr 3 (.t 3)⟩,
      ⟨(some 32), (some (26, true)), .load none (.t 31)⟩,
      ⟨(some 33), (some (26, true)), .bin .lss (.t 30) (.t 32)⟩,
      ⟨(some 34), none, .pick (.t 26) (.t 33) (.c (.bool false))⟩,
      ⟨(some 6), none, .mv (.t 34)⟩])
    (.ret))⟩
theorem ok14 : FnOk Try.prog 14 a14 := FnOk.of Try.prog Try.func14 (by kernel_rfl)
/-- jalousie/geometry.Crop -/
def a15 : AFn := ⟨78, [.cell 4 (some 4)], .seq
   (.ops [⟨(some 2), none, .box 29 (.t 0)⟩,
     ⟨(some 3), none, .box 29 (.t 1)⟩,
     ⟨(some 4), none, .alloc 29 [(.int .i64 0), (.int .i64 0), (.int .i64 0), (.int .i64 0)]⟩])
   (.seq
    (.seq
     (.ops [⟨(some 9), none, .addr 2 (.t 2)⟩,
       ⟨(some 10), none, .load none (.t 9)⟩,
       ⟨(some 11), none, .bin .leq (.t 10) (.c (.int .i64 0))⟩,
       ⟨(some 12), none, .mv (.t 11)⟩,
       ⟨(some 13), (some (12, false)), .addr 3 (.t 2)⟩,
       ⟨(some 14), (some (12, false)), .load none (.t 13)⟩,
       ⟨(some 15), (some (12, false)), .bin .leq (.t 14) (.c (.int .i64 0))⟩,
       ⟨(some 16), none, .pick (.t 12) (.c (.bool true)) (.t 15)⟩,
       ⟨(some 17), none, .mv (.t 16)⟩,
       ⟨(some 18), (some (17, false)), .addr 2 (.t 3)⟩,
       ⟨(some 19), (some (17, false)), .load none (.t 18)⟩,
       ⟨(some 20), (some (17, false)), .bin .leq (.t 19) (.c (.int .i64 0))⟩,
       ⟨(some 21), none, .pick (.t 17) (.c (.bool true)) (.t 20)⟩,
       ⟨(some 22), none, .mv (.t 21)⟩,
       ⟨(some 23), (some (22, false)), .addr 3 (.t 3)⟩,
       ⟨(some 24), (some (22, false)), .load none (.t 23)⟩,
       ⟨(some 25), (some (22, false)), .bin .leq (.t 24) (.c (.int .i64 0))⟩,
       ⟨(some 26), none, .pick (.t 22) (.c (.bool true)) (.t 25)⟩])
     (.cond (.t 26)
      (.seq
       (.ops [⟨(some 27), none, .build [(.int .i64 0), (.int .i64 0), (.int .i64 0), (.int .i64 0)] [(0, 1), (1, 1), (2, 1), (3, 1)] []⟩,
         ⟨none, none, .store 4 (.t 4) (.t 27)⟩])
       (.ret))
      (.skip)))
    (.seq
     (.draw [⟨⟨(some 28), none, .addr 0 (.t 2)⟩, []⟩,
       ⟨⟨(some 29), none, .load none (.t 28)⟩, [0]⟩,
       ⟨⟨(some 30), none, .addr 0 (.t 3)⟩, []⟩,
       ⟨⟨(some 31), none, .load none (.t 30)⟩, [2]⟩,
       ⟨⟨(some 32), none, .maxI (.t 29) [(.t 31)]⟩, [1, 3]⟩,
       ⟨⟨(some 33), none, .addr 1 (.t 2)⟩, []⟩,
       ⟨⟨(some 34), none, .load none (.t 33)⟩, [5]⟩,
       ⟨⟨(some 35), none, .addr 1 (.t 3)⟩, []⟩,
       ⟨⟨(some 36), none, .load none (.t 35)⟩, [7]⟩,
       ⟨⟨(some 37), none, .maxI (.t 34) [(.t 36)]⟩, [6, 8]⟩,
       ⟨⟨(some 5), none, .mv (.t 32)⟩, [4, 0, 1, 2, 3, 4]⟩,
       ⟨⟨(some 6), none, .mv (.t 37)⟩, [9, 10, 0, 1, 2, 3, 4, 5, 6, 7, 8, 9, 10]⟩] [0, 1, 0, 4, 15, 0, 32, 0, 128, 480, 31, 2047])
     (.seq
      (.draw [⟨⟨(some 38), none, .addr 0 (.t 2)⟩, []⟩,
        ⟨⟨(some 39), none, .load none (.t 38)⟩, [0]⟩,
        ⟨⟨(some 40), none, .addr 2 (.t 2)⟩, []⟩,
        ⟨⟨(some 41), none, .load none (.t 40)⟩, [2]⟩,
        ⟨⟨(some 42), none, .call 23 [(.t 39), (.t 41)]⟩, [1, 3]⟩,
        ⟨⟨(some 43), none, .addr 0 (.t 3)⟩, []⟩,
        ⟨⟨(some 44), none, .load none (.t 43)⟩, [5]⟩,
        ⟨⟨(some 45), none, .addr 2 (.t 3)⟩, []⟩,
        ⟨⟨(some 46), none, .load none (.t 45)⟩, [7]⟩,
        ⟨⟨(some 47), none, .call 23 [(.t 44), (.t 46)]⟩, [6, 8, 4]⟩,
        ⟨⟨(some 48), none, .minI (.t 42) [(.t 47)]⟩, [4, 9]⟩,
        ⟨⟨(some 49), none, .addr 1 (.t 2)⟩, []⟩,
        ⟨⟨(some 50), none, .load none (.t 49)⟩, [11]⟩,
        ⟨⟨(some 51), none, .addr 3 (.t 2)⟩, []⟩,
        ⟨⟨(some 52), none, .load none (.t 51)⟩, [13]⟩,
        ⟨⟨(some 53), none, .call 23 [(.t 50), (.t 52)]⟩, [12, 14, 9]⟩,
        ⟨⟨(some 54), none, .addr 1 (.t 3)⟩, []⟩,
        ⟨⟨(some 55), none, .load none (.t 54)⟩, [16]⟩,
        ⟨⟨(some 56), none, .addr 3 (.t 3)⟩, []⟩,
        ⟨⟨(some 57), none, .load none (.t 56)⟩, [18]⟩,
        ⟨⟨(some 58), none, .call 23 [(.t 55), (.t 57)]⟩, [17, 19, 15]⟩,
        ⟨⟨(some 59), none, .minI (.t 53) [(.t 58)]⟩, [15, 20]⟩,
        ⟨⟨(some 7), none, .mv (.t 48)⟩, [10, 20, 0, 1, 2, 3, 4, 5, 6, 7, 8, 9, 10]⟩,
        ⟨⟨(some 8), none, .mv (.t 59)⟩, [21, 22, 0, 1, 2, 3, 4, 5, 6, 7, 8, 9, 10, 11, 12, 13, 14, 15, 16, 17, 18, 19, 20, 21, 22]⟩] [0, 1, 0, 4, 15, 0, 32, 0, 128, 511, 1023, 0, 2048, 0, 8192, 31743, 0, 65536, 0, 262144, 1047551, 2096127, 2097151, 8388607])
      (.seq
       (.seq
        (.ops [⟨(some 60), none, .mv (.t 5)⟩,
          ⟨(some 61), none, .mv (.t 7)⟩,
          ⟨(some 62), none, .bin .geq (.t 60) (.t 61)⟩,
          ⟨(some 63), none, .mv (.t 62)⟩,
          ⟨(some 64), (some (63, false)), .mv (.t 6)⟩,
          ⟨(some 65), (some (63, false)), .mv (.t 8)⟩,
          ⟨(some 66), (some (63, false)), .bin .geq (.t 64) (.t 65)⟩,
          ⟨(some 67), none, .pick (.t 63) (.c (.bool true)) (.t 66)⟩])
        (.cond (.t 67)
         (.seq
          (.ops [⟨(some 68), none, .build [(.int .i64 0), (.int .i64 0), (.int .i64 0), (.int .i64 0)] [(0, 1), (1, 1), (2, 1), (3, 1)] []⟩,
            ⟨none, none, .store 4 (.t 4) (.t 68)⟩])
          (.ret))
         (.skip)))
       (.seq
        (.ops [⟨(some 69), none, .mv (.t 5)⟩,
          ⟨(some 70), none, .mv (.t 6)⟩,
          ⟨(some 71), none, .mv (.t 7)⟩,
          ⟨(some 72), none, .mv (.t 5)⟩,
          ⟨(some 73), none, .bin .sub (.t 71) (.t 72)⟩,
          ⟨(some 74), none, .mv (.t 8)⟩,
          ⟨(some 75), none, .mv (.t 6)⟩,
          ⟨(some 76), none, .bin .sub (.t 74) (.t 75)⟩,
          ⟨(some 77), none, .build [(.int .i64 0), (.int .i64 0), (.int .i64 0), (.int .i64 0)] [(0, 1), (1, 1), (2, 1), (3, 1)] [(0, (.t 69)), (1, (.t 70)), (2, (.t 73)), (3, (.t 76))]⟩,
          ⟨none, none, .store 4 (.t 4) (.t 77)⟩])
        (.ret))))))⟩
theorem ok15 : FnOk Try.prog 15 a15 := FnOk.of Try.prog Try.func15 (by kernel_rfl)
/-- jalousie/jalousielaw20.Trees -/
def a16 : AFn := ⟨92, [.tmp 4, .tmp 5], .seq
   (.ops [⟨(some 2), none, .box 32 (.t 0)⟩,
     ⟨(some 4), none, .mv (.c .nilptr)⟩,
     ⟨(some 5), none, .mv (.c .nilptr)⟩])
   (.seq
    (.ops [⟨(some 10), none, .load (some 3) (.t 2)⟩,
      ⟨(some 11), none, .call 9 [(.t 10)]⟩,
      ⟨(some 6), none, .mv (.t 11)⟩])
    (.seq
     (.ops [⟨(some 12), none, .load (some 3) (.t 2)⟩,
       ⟨(some 13), none, .call 24 [(.t 12)]⟩,
       ⟨(some 7), none, .mv (.t 13)⟩])
     (.seq
      (.seq
       (.ops [⟨(some 8), none, .mv (.c (.int .i64 0))⟩])
       (.block 0 (.loop (.seq
          (.seq
           (.ops [⟨(some 14), none, .mv (.t 8)⟩,
             ⟨(some 15), none, .mv (.t 1)⟩,
             ⟨(some 16), none, .lenL (.t 15)⟩,
             ⟨(some 17), none, .bin .lss (.t 14) (.t 16)⟩])
           (.cond (.t 17)
            (.skip)
            (.exit 0)))
          (.seq
           (.block 1 (.seq
             (.ops [⟨(some 20), none, .mv (.t 1)⟩,
               ⟨(some 21), none, .mv (.t 8)⟩,
               ⟨(some 22), none, .iaddrS 9 (.t 20) (.t 21)⟩,
               ⟨(some 23), none, .load (some 9) (.t 22)⟩,
               ⟨(some 9), none, .alloc 66 [(.int .i64 0), (.int .i64 0), (.int .i64 0), (.int .i64 0), (.int .i64 0), (.int .i64 0), (.int .i64 0), (.int .i64 0), (.int .i64 0)]⟩,
               ⟨none, none, .store 9 (.t 9) (.t 23)⟩])
             (.seq
              (.ops [⟨(some 24), none, .addr 0 (.t 9)⟩,
                ⟨(some 25), none, .load none (.t 24)⟩])
              (.block 2 (.seq
                (.ops [⟨(some 27), none, .bin .eql (.t 25) (.c (.int .i64 0))⟩,
                  ⟨(some 26), none, .mv (.t 27)⟩])
                (.cond (.t 26)
                 (.seq
                  (.ops [⟨(some 28), none, .mv (.t 6)⟩,
                    ⟨(some 29), none, .addr 1 (.t 9)⟩,
                    ⟨(some 30), none, .load (some 3) (.t 29)⟩,
                    ⟨(some 31), none, .addr 4 (.t 9)⟩,
                    ⟨(some 32), none, .load (some 3) (.t 31)⟩,
                    ⟨(some 33), none, .addr 7 (.t 9)⟩,
                    ⟨(some 34), none, .load none (.t 33)⟩,
                    ⟨(some 35), none, .addr 8 (.t 9)⟩,
                    ⟨(some 36), none, .load none (.t 35)⟩,
                    ⟨(some 37), none, .call 19 [(.t 28), (.t 30), (.t 32), (.t 34), (.t 36)]⟩])
                  (.ops [⟨(some 38), none, .mv (.t 7)⟩,
                    ⟨(some 39), none, .addr 1 (.t 9)⟩,
                    ⟨(some 40), none, .load (some 3) (.t 39)⟩,
                    ⟨(some 41), none, .addr 4 (.t 9)⟩,
                    ⟨(some 42), none, .load (some 3) (.t 41)⟩,
                    ⟨(some 43), none, .addr 7 (.t 9)⟩,
                    ⟨(some 44), none, .load none (.t 43)⟩,
                    ⟨(some 45), none, .addr 8 (.t 9)⟩,
                    ⟨(some 46), none, .load none (.t 45)⟩,
                    ⟨(some 47), none, .call 25 [(.t 38), (.t 40), (.t 42), (.t 44), (.t 46)]⟩]))
                 (.seq
                  (.ops [⟨(some 49), none, .bin .eql (.t 25) (.c (.int .i64 1))⟩,
                    ⟨(some 48), none, .mv (.t 49)⟩])
                  (.cond (.t 48)
                   (.seq
                    (.ops [⟨(some 50), none, .mv (.t 6)⟩,
                      ⟨(some 51), none, .addr 1 (.t 9)⟩,
                      ⟨(some 52), none, .load (some 3) (.t 51)⟩,
                      ⟨(some 53), none, .call 26 [(.t 50), (.t 52)]⟩])
                    (.ops [⟨(some 54), none, .mv (.t 7)⟩,
                      ⟨(some 55), none, .addr 1 (.t 9)⟩,
                      ⟨(some 56), none, .load (some 3) (.t 55)⟩,
                      ⟨(some 57), none, .call 27 [(.t 54), (.t 56)]⟩]))
                   (.seq
                    (.ops [⟨(some 59), none, .bin .eql (.t 25) (.c (.int .i64 2))⟩,
                      ⟨(some 58), none, .mv (.t 59)⟩])
                    (.cond (.t 58)
                     (.seq
                      (.ops [⟨(some 60), none, .mv (.t 6)⟩,
                        ⟨(some 61), none, .addr 1 (.t 9)⟩,
                        ⟨(some 62), none, .load (some 3) (.t 61)⟩,
                        ⟨(some 63), none, .addr 4 (.t 9)⟩,
                        ⟨(some 64), none, .load (some 3) (.t 63)⟩,
                        ⟨(some 65), none, .call 28 [(.t 60), (.t 62), (.t 64)]⟩])
                      (.ops [⟨(some 66), none, .mv (.t 7)⟩,
                        ⟨(some 67), none, .addr 1 (.t 9)⟩,
                        ⟨(some 68), none, .load (some 3) (.t 67)⟩,
                        ⟨(some 69), none, .addr 4 (.t 9)⟩,
                        ⟨(some 70), none, .load (some 3) (.t 69)⟩,
                        ⟨(some 71), none, .call 29 [(.t 66), (.t 68), (.t 70)]⟩]))
                     (.seq
                      (.ops [⟨(some 73), none, .bin .eql (.t 25) (.c (.int .i64 3))⟩,
                        ⟨(some 72), none, .mv (.t 73)⟩])
                      (.cond (.t 72)
                       (.seq
                        (.ops [⟨(some 74), none, .mv (.t 6)⟩,
                          ⟨(some 75), none, .addr 1 (.t 9)⟩,
                          ⟨(some 76), none, .load (some 3) (.t 75)⟩,
                          ⟨(some 77), none, .addr 7 (.t 9)⟩,
                          ⟨(some 78), none, .load none (.t 77)⟩,
                          ⟨(some 79), none, .addr 8 (.t 9)⟩,
                          ⟨(some 80), none, .load none (.t 79)⟩,
                          ⟨(some 81), none, .call 30 [(.t 74), (.t 76), (.t 78), (.t 80)]⟩])
                        (.ops [⟨(some 82), none, .mv (.t 7)⟩,
                          ⟨(some 83), none, .addr 1 (.t 9)⟩,
                          ⟨(some 84), none, .load (some 3) (.t 83)⟩,
                          ⟨(some 85), none, .addr 7 (.t 9)⟩,
                          ⟨(some 86), none, .load none (.t 85)⟩,
                          ⟨(some 87), none, .addr 8 (.t 9)⟩,
                          ⟨(some 88), none, .load none (.t 87)⟩,
                          ⟨(some 89), none, .call 31 [(.t 82), (.t 84), (.t 86), (.t 88)]⟩]))
                       (.skip)))))))))))))
           (.ops [⟨(some 18), none, .mv (.t 8)⟩,
             ⟨(some 19), none, .bin .add (.t 18) (.c (.int .i64 1))⟩,
             ⟨(some 8), none, .mv (.t 19)⟩]))))))
      (.seq
       (.ops [⟨(some 90), none, .mv (.t 6)⟩,
         ⟨(some 91), none, .mv (.t 7)⟩,
         ⟨(some 4), none, .mv (.t 90)⟩,
         ⟨(some 5), none, .mv (.t 91)⟩])
       (.ret)))))⟩
theorem ok16 : FnOk Try.prog 16 a16 := FnOk.of Try.prog Try.func16 (by kernel_rfl)
/-- jalousie/geometry.may -/
def a17 : AFn := ⟨24, [.tmp 2], .seq
   (.ops [⟨(some 1), none, .box 29 (.t 0)⟩,
     ⟨(some 2), none, .mv (.c (.bool false))⟩])
   (.seq
    (.seq
     (.ops [⟨(some 5), none, .addr 0 (.t 1)⟩,
       ⟨(some 6), none, .load none (.t 5)⟩,
       ⟨(some 7), none, .addr 1 (.t 1)⟩,
       ⟨(some 8), none, .load none (.t 7)⟩,
       ⟨(some 9), none, .addr 2 (.t 1)⟩,
       ⟨(some 10), none, .load none (.t 9)⟩,
       ⟨(some 11), none, .addr 3 (.t 1)⟩,
       ⟨(some 12), none, .load none (.t 11)⟩,
       ⟨(some 13), none, .build [(.int .i64 0), (.int .i64 0), (.int .i64 0), (.int .i64 0)] [(0, 1), (1, 1), (2, 1), (3, 1), (4, 1), (5, 1), (6, 1), (7, 1), (8, 1)] [(0, (.t 6)), (1, (.t 8)), (2, (.t 10)), (3, (.t 12))]⟩,
       ⟨(some 14), none, .mv (.c (.int .i64 0))⟩])
     (.block 0 (.loop (.seq
        (.ops [⟨(some 15), none, .bin .lss (.t 14) (.c (.int .i64 4))⟩])
        (.seq
         (.cond (.t 15)
          (.skip)
          (.exit 0))
         (.seq
          (.block 1 (.seq
            (.ops [⟨(some 16), none, .idxA 4 1 false (.t 13) (.t 14)⟩,
              ⟨(some 4), none, .mv (.t 16)⟩])
            (.seq
             (.ops [⟨(some 17), none, .mv (.t 4)⟩,
               ⟨(some 18), none, .bin .lss (.t 17) (.c (.int .i64 0))⟩,
               ⟨(some 19), none, .mv (.t 18)⟩,
               ⟨(some 20), (some (19, false)), .mv (.t 4)⟩,
               ⟨(some 21), (some (19, false)), .bin .gtr (.t 20) (.c (.int .i64 400))⟩,
               ⟨(some 22), none, .pick (.t 19) (.c (.bool true)) (.t 21)⟩])
             (.cond (.t 22)
              (.seq
               (.ops [⟨(some 2), none, .mv (.c (.bool false))⟩])
               (.ret))
              (.skip)))))
          (.ops [⟨(some 23), none, .bin .add (.t 14) (.c (.int .i64 1))⟩,
            ⟨(some 14), none, .mv (.t 23)⟩])))))))
    (.seq
     (.ops [⟨(some 2), none, .mv (.c (.bool true))⟩])
     (.ret)))⟩
theorem ok17 : FnOk Try.prog 17 a17 := FnOk.of Try.prog Try.func17 (by kernel_rfl)
/-- (*jalousie/geometry.laid).lay -/
def a18 : AFn := ⟨83, [], .seq
   (.ops [⟨(some 5), none, .box 29 (.t 2)⟩])
   (.seq
    (.ops [⟨(some 13), none, .mv (.t 0)⟩,
      ⟨(some 14), none, .nilck (.t 13)⟩,
      ⟨(some 15), none, .addr 0 (.t 14)⟩,
      ⟨(some 16), none, .load none (.t 15)⟩,
      ⟨(some 17), none, .mv (.t 1)⟩,
      ⟨(some 18), none, .call 32 [(.t 16), (.t 17)]⟩,
      ⟨(some 12), none, .mv (.t 18)⟩,
      ⟨(some 19), none, .ext (.t 12) 0⟩,
      ⟨(some 20), none, .ext (.t 12) 1⟩,
      ⟨(some 6), none, .alloc 55 [(.int .i64 0), (.int .i64 0), (.int .i64 0), (.int .i64 0), (.int .i64 0), (.int .i64 0), (.int .i64 0)]⟩,
      ⟨none, none, .store 7 (.t 6) (.t 19)⟩,
      ⟨(some 7), none, .mv (.t 20)⟩])
    (.seq
     (.seq
      (.ops [⟨(some 21), none, .addr 0 (.t 6)⟩,
        ⟨(some 22), none, .load none (.t 21)⟩,
        ⟨(some 23), none, .bin .eql (.t 22) (.c (.int .i64 0))⟩])
      (.cond (.t 23)
       (.seq
        (.seq
         (.ops [⟨(some 24), none, .load (some 4) (.t 5)⟩,
           ⟨(some 25), none, .call 21 [(.t 24)]⟩])
         (.cond (.t 25)
          (.ops [⟨(some 26), none, .addr 2 (.t 5)⟩,
            ⟨none, none, .store 1 (.t 26) (.c (.int .i64 0))⟩,
            ⟨(some 27), none, .addr 3 (.t 5)⟩,
            ⟨none, none, .store 1 (.t 27) (.c (.int .i64 0))⟩])
          (.skip)))
        (.seq
         (.draw [⟨⟨(some 28), none, .mv (.t 0)⟩, []⟩,
           ⟨⟨(some 29), none, .mv (.t 0)⟩, []⟩,
           ⟨⟨(some 30), none, .nilck (.t 29)⟩, [1]⟩,
           ⟨⟨(some 31), none, .addr 1 (.t 30)⟩, [2]⟩,
           ⟨⟨(some 32), none, .load none (.t 31)⟩, [3]⟩,
           ⟨⟨(some 33), none, .addr 4 (.t 6)⟩, []⟩,
           ⟨⟨(some 34), none, .load (some 3) (.t 33)⟩, [5]⟩,
           ⟨⟨(some 35), none, .load (some 4) (.t 5)⟩, []⟩,
           ⟨⟨(some 36), none, .build [(.int .i64 0), (.int .i64 0), (.int .i64 0), (.int .i64 0), (.int .i64 0), (.int .i64 0), (.int .i64 0)] [(0, 3), (3, 4)] [(0, (.t 34)), (1, (.t 35))]⟩, [6, 7]⟩,
           ⟨⟨(some 37), none, .bslice 36 7 1 [(.int .i64 0), (.int .i64 0), (.int .i64 0), (.int .i64 0), (.int .i64 0), (.int .i64 0), (.int .i64 0)] [(0, (.t 36))]⟩, [8]⟩,
           ⟨⟨(some 38), none, .append 36 7 56 (.t 32) (.t 37)⟩, [4, 9]⟩,
           ⟨⟨(some 39), none, .nilck (.t 28)⟩, [0, 0, 1, 2, 3, 4, 5, 6, 7, 8, 9, 10]⟩,
           ⟨⟨(some 40), none, .addr 1 (.t 39)⟩, [11, 0, 1, 2, 3, 4, 5, 6, 7, 8, 9, 10]⟩,
           ⟨⟨none, none, .store 1 (.t 40) (.t 38)⟩, [12, 10, 10, 0, 1, 2, 3, 4, 5, 6, 7, 8, 9, 10]⟩] [0, 0, 2, 6, 14, 0, 32, 0, 224, 480, 1022, 2047, 4095, 8191])
         (.ret)))
       (.skip)))
     (.seq
      (.ops [⟨(some 42), none, .load (some 7) (.t 6)⟩,
        ⟨(some 43), none, .load (some 4) (.t 5)⟩,
        ⟨(some 44), none, .call 33 [(.t 42), (.t 43)]⟩,
        ⟨(some 41), none, .mv (.t 44)⟩,
        ⟨(some 45), none, .ext (.t 41) 0⟩,
        ⟨(some 46), none, .ext (.t 41) 1⟩,
        ⟨(some 47), none, .ext (.t 41) 2⟩,
        ⟨(some 48), none, .ext (.t 41) 3⟩,
        ⟨(some 8), none, .alloc 29 [(.int .i64 0), (.int .i64 0), (.int .i64 0), (.int .i64 0)]⟩,
        ⟨(some 9), none, .alloc 29 [(.int .i64 0), (.int .i64 0), (.int .i64 0), (.int .i64 0)]⟩,
        ⟨(some 10), none, .alloc 29 [(.int .i64 0), (.int .i64 0), (.int .i64 0), (.int .i64 0)]⟩,
        ⟨none, none, .store 4 (.t 8) (.t 45)⟩,
        ⟨none, none, .store 4 (.t 9) (.t 46)⟩,
        ⟨none, none, .store 4 (.t 10) (.t 47)⟩,
        ⟨(some 11), none, .mv (.t 48)⟩])
      (.seq
       (.block 0 (.seq
         (.ops [⟨(some 60), none, .load (some 4) (.t 5)⟩,
           ⟨(some 61), none, .call 21 [(.t 60)]⟩,
           ⟨(some 62), none, .mv (.t 61)⟩,
           ⟨(some 63), (some (62, false)), .mv (.t 11)⟩,
           ⟨(some 64), none, .pick (.t 62) (.c (.bool true)) (.t 63)⟩,
           ⟨(some 59), none, .mv (.t 64)⟩])
         (.cond (.t 59)
          (.ops [⟨(some 65), none, .addr 0 (.t 5)⟩,
            ⟨(some 66), none, .load none (.t 65)⟩,
            ⟨(some 67), none, .addr 1 (.t 5)⟩,
            ⟨(some 68), none, .load none (.t 67)⟩,
            ⟨(some 69), none, .build [(.int .i64 0), (.int .i64 0), (.int .i64 0), (.int .i64 0)] [(0, 1), (1, 1), (2, 1), (3, 1)] [(0, (.t 66)), (1, (.t 68))]⟩,
            ⟨none, none, .store 4 (.t 10) (.t 69)⟩])
          (.draw [⟨⟨(some 49), none, .mv (.t 0)⟩, []⟩,
            ⟨⟨(some 50), none, .mv (.t 0)⟩, []⟩,
            ⟨⟨(some 51), none, .nilck (.t 50)⟩, [1]⟩,
            ⟨⟨(some 52), none, .addr 2 (.t 51)⟩, [2]⟩,
            ⟨⟨(some 53), none, .load none (.t 52)⟩, [3]⟩,
            ⟨⟨(some 54), none, .load (some 4) (.t 9)⟩, []⟩,
            ⟨⟨(some 55), none, .bslice 29 4 1 [(.int .i64 0), (.int .i64 0), (.int .i64 0), (.int .i64 0)] [(0, (.t 54))]⟩, [5]⟩,
            ⟨⟨(some 56), none, .append 29 4 32 (.t 53) (.t 55)⟩, [4, 6]⟩,
            ⟨⟨(some 57), none, .nilck (.t 49)⟩, [0, 0, 1, 2, 3, 4, 5, 6, 7]⟩,
            ⟨⟨(some 58), none, .addr 2 (.t 57)⟩, [8, 0, 1, 2, 3, 4, 5, 6, 7]⟩,
            ⟨⟨none, none, .store 1 (.t 58) (.t 56)⟩, [9, 7, 7, 0, 1, 2, 3, 4, 5, 6, 7]⟩] [0, 0, 2, 6, 14, 0, 32, 126, 255, 511, 1023]))))
       (.seq
        (.seq
         (.ops [⟨(some 70), none, .load (some 4) (.t 5)⟩,
           ⟨(some 71), none, .call 21 [(.t 70)]⟩])
         (.cond (.t 71)
          (.ops [⟨(some 72), none, .load (some 4) (.t 10)⟩,
            ⟨none, none, .store 4 (.t 8) (.t 72)⟩])
          (.skip)))
        (.seq
         (.ops [⟨(some 73), none, .mv (.t 0)⟩,
           ⟨(some 74), none, .addr 1 (.t 6)⟩,
           ⟨(some 75), none, .load none (.t 74)⟩,
           ⟨(some 76), none, .load (some 4) (.t 8)⟩,
           ⟨(some 77), none, .call 18 [(.t 73), (.t 75), (.t 76)]⟩])
         (.ops [⟨(some 78), none, .mv (.t 0)⟩,
           ⟨(some 79), none, .addr 2 (.t 6)⟩,
           ⟨(some 80), none, .load none (.t 79)⟩,
           ⟨(some 81), none, .load (some 4) (.t 10)⟩,
           ⟨(some 82), none, .call 18 [(.t 78), (.t 80), (.t 81)]⟩])))))))⟩
theorem ok18 : FnOk Try.prog 18 a18 := FnOk.of Try.prog Try.func18 (by kernel_rfl)
/-- (*jalousie/tree.Tree).Split -/
def a19 : AFn := ⟨76, [.tmp 10], .seq
   (.ops [⟨(some 6), none, .box 32 (.t 1)⟩,
     ⟨(some 7), none, .box 32 (.t 2)⟩,
     ⟨(some 10), none, .mv (.c (.int .i64 0))⟩])
   (.seq
    (.ops [⟨(some 12), none, .mv (.t 0)⟩,
      ⟨(some 13), none, .load (some 3) (.t 6)⟩,
      ⟨(some 14), none, .call 34 [(.t 12), (.t 13)]⟩,
      ⟨(some 11), none, .mv (.t 14)⟩])
    (.seq
     (.block 0 (.seq
       (.ops [⟨(some 16), none, .mv (.t 0)⟩,
         ⟨(some 17), none, .eq false 26 (.pointer 58) (.t 16) (.c .nilptr)⟩,
         ⟨(some 15), none, .mv (.t 17)⟩])
       (.cond (.t 15)
        (.seq
         (.ops [⟨(some 10), none, .mv (.c (.int .i64 2))⟩])
         (.ret))
        (.seq
         (.ops [⟨(some 19), none, .mv (.t 11)⟩,
           ⟨(some 20), none, .bin .lss (.t 19) (.c (.int .i64 0))⟩,
           ⟨(some 18), none, .mv (.t 20)⟩])
         (.cond (.t 18)
          (.seq
           (.ops [⟨(some 10), none, .mv (.c (.int .i64 4))⟩])
           (.ret))
          (.seq
           (.ops [⟨(some 22), none, .mv (.t 0)⟩,
             ⟨(some 23), none, .load (some 3) (.t 7)⟩,
             ⟨(some 24), none, .call 20 [(.t 22), (.t 23)]⟩,
             ⟨(some 21), none, .mv (.t 24)⟩])
           (.cond (.t 21)
            (.seq
             (.ops [⟨(some 10), none, .mv (.c (.int .i64 5))⟩])
             (.ret))
            (.seq
             (.ops [⟨(some 26), none, .mv (.t 3)⟩,
               ⟨(some 27), none, .bin .neq (.t 26) (.c (.int .i64 1))⟩,
               ⟨(some 28), none, .mv (.t 27)⟩,
               ⟨(some 29), (some (28, true)), .mv (.t 3)⟩,
               ⟨(some 30), (some (28, true)), .bin .neq (.t 29) (.c (.int .i64 2))⟩,
               ⟨(some 31), none, .pick (.t 28) (.t 30) (.c (.bool false))⟩,
               ⟨(some 32), none, .mv (.t 31)⟩,
               ⟨(some 33), (some (32, false)), .mv (.t 4)⟩,
               ⟨(some 34), (some (32, false)), .bin .lss (.t 33) (.c (.int .i64 1))⟩,
               ⟨(some 35), none, .pick (.t 32) (.c (.bool true)) (.t 34)⟩,
               ⟨(some 36), none, .mv (.t 35)⟩,
               ⟨(some 37), (some (36, false)), .mv (.t 4)⟩,
               ⟨(some 38), (some (36, false)), .bin .gtr (.t 37) (.c (.int .i64 99))⟩,
               ⟨(some 39), none, .pick (.t 36) (.c (.bool true)) (.t 38)⟩,
               ⟨(some 25), none, .mv (.t 39)⟩])
             (.cond (.t 25)
              (.seq
               (.ops [⟨(some 10), none, .mv (.c (.int .i64 1))⟩])
               (.ret))
              (.seq
               (.ops [⟨(some 41), none, .mv (.t 0)⟩,
                 ⟨(some 42), none, .call 35 [(.t 41)]⟩,
                 ⟨(some 43), none, .bin .eql (.t 42) (.c (.int .i64 16))⟩,
                 ⟨(some 40), none, .mv (.t 43)⟩])
               (.cond (.t 40)
                (.seq
                 (.ops [⟨(some 10), none, .mv (.c (.int .i64 6))⟩])
                 (.ret))
                (.skip))))))))))))
     (.seq
      (.ops [⟨(some 44), none, .mv (.t 0)⟩,
        ⟨(some 45), none, .mv (.t 11)⟩,
        ⟨(some 46), none, .bin .add (.t 45) (.c (.int .i64 1))⟩,
        ⟨(some 47), none, .call 36 [(.t 44), (.t 46), (.c (.int .i64 2))]⟩])
      (.seq
       (.draw [⟨⟨(some 48), none, .mv (.t 0)⟩, []⟩,
         ⟨⟨(some 49), none, .mv (.t 0)⟩, []⟩,
         ⟨⟨(some 50), none, .nilck (.t 49)⟩, [1]⟩,
         ⟨⟨(some 51), none, .addr 0 (.t 50)⟩, [2]⟩,
         ⟨⟨(some 52), none, .load none (.t 51)⟩, [3]⟩,
         ⟨⟨(some 53), none, .mv (.t 11)⟩, []⟩,
         ⟨⟨(some 54), none, .bin .add (.t 53) (.c (.int .i64 1))⟩, [5]⟩,
         ⟨⟨(some 55), none, .load (some 3) (.t 6)⟩, []⟩,
         ⟨⟨(some 56), none, .build [(.int .i64 0), (.int .i64 0), (.int .i64 0), (.int .i64 0), (.int .i64 0), (.int .i64 0), (.int .i64 0)] [(0, 1), (1, 1), (2, 1), (3, 1), (4, 3)] [(4, (.t 55))]⟩, [7]⟩,
         ⟨⟨(some 57), none, .load (some 3) (.t 7)⟩, []⟩,
         ⟨⟨(some 58), none, .build [(.int .i64 0), (.int .i64 0), (.int .i64 0), (.int .i64 0), (.int .i64 0), (.int .i64 0), (.int .i64 0)] [(0, 1), (1, 1), (2, 1), (3, 1), (4, 3)] [(4, (.t 57))]⟩, [9]⟩,
         ⟨⟨(some 59), none, .bslice 55 7 2 [(.int .i64 0), (.int .i64 0), (.int .i64 0), (.int .i64 0), (.int .i64 0), (.int .i64 0), (.int .i64 0)] [(0, (.t 56)), (1, (.t 58))]⟩, [8, 10]⟩,
         ⟨⟨(some 60), none, .call 37 [(.t 52), (.t 54), (.t 59)]⟩, [4, 6, 11]⟩,
         ⟨⟨(some 61), none, .nilck (.t 48)⟩, [0, 0, 1, 2, 3, 4, 5, 6, 7, 8, 9, 10, 11, 12]⟩,
         ⟨⟨(some 62), none, .addr 0 (.t 61)⟩, [13, 0, 1, 2, 3, 4, 5, 6, 7, 8, 9, 10, 11, 12]⟩,
         ⟨⟨none, none, .store 1 (.t 62) (.t 60)⟩, [14, 12, 12, 0, 1, 2, 3, 4, 5, 6, 7, 8, 9, 10, 11, 12]⟩] [0, 0, 2, 6, 14, 0, 32, 0, 128, 0, 512, 1920, 4094, 8191, 16383, 32767])
       (.seq
        (.ops [⟨(some 63), none, .mv (.t 0)⟩,
          ⟨(some 64), none, .nilck (.t 63)⟩,
          ⟨(some 65), none, .addr 0 (.t 64)⟩,
          ⟨(some 66), none, .load none (.t 65)⟩,
          ⟨(some 67), none, .mv (.t 11)⟩,
          ⟨(some 68), none, .mv (.t 3)⟩,
          ⟨(some 69), none, .mv (.t 11)⟩,
          ⟨(some 70), none, .bin .add (.t 69) (.c (.int .i64 1))⟩,
          ⟨(some 71), none, .mv (.t 11)⟩,
          ⟨(some 72), none, .bin .add (.t 71) (.c (.int .i64 2))⟩,
          ⟨(some 73), none, .mv (.t 4)⟩,
          ⟨(some 74), none, .build [(.int .i64 0), (.int .i64 0), (.int .i64 0), (.int .i64 0), (.int .i64 0), (.int .i64 0), (.int .i64 0)] [(0, 1), (1, 1), (2, 1), (3, 1), (4, 3)] [(0, (.t 68)), (1, (.t 70)), (2, (.t 72)), (3, (.t 73))]⟩,
          ⟨(some 75), none, .iaddrS 7 (.t 66) (.t 67)⟩,
          ⟨none, none, .store 7 (.t 75) (.t 74)⟩])
        (.seq
         (.ops [⟨(some 10), none, .mv (.c (.int .i64 0))⟩])
         (.ret)))))))⟩
theorem ok19 : FnOk Try.prog 19 a19 := FnOk.of Try.prog Try.func19 (by kernel_rfl)
/-- (*jalousie/tree.Tree).Has -/
def a20 : AFn := ⟨9, [.tmp 4], .seq
   (.ops [⟨(some 3), none, .box 32 (.t 1)⟩,
     ⟨(some 4), none, .mv (.c (.bool false))⟩])
   (.seq
    (.ops [⟨(some 5), none, .mv (.t 0)⟩,
      ⟨(some 6), none, .load (some 3) (.t 3)⟩,
      ⟨(some 7), none, .call 34 [(.t 5), (.t 6)]⟩,
      ⟨(some 8), none, .bin .geq (.t 7) (.c (.int .i64 0))⟩,
      ⟨(some 4), none, .mv (.t 8)⟩])
    (.ret))⟩
theorem ok20 : FnOk Try.prog 20 a20 := FnOk.of Try.prog Try.func20 (by kernel_rfl)
/-- jalousie/geometry.empty -/
def a21 : AFn := ⟨11, [.tmp 2], .seq
   (.ops [⟨(some 1), none, .box 29 (.t 0)⟩,
     ⟨(some 2), none, .mv (.c (.bool false))⟩])
   (.seq
    (.ops [⟨(some 3), none, .addr 2 (.t 1)⟩,
      ⟨(some 4), none, .load none (.t 3)⟩,
      ⟨(some 5), none, .bin .eql (.t 4) (.c (.int .i64 0))⟩,
      ⟨(some 6), none, .mv (.t 5)⟩,
      ⟨(some 7), (some (6, false)), .addr 3 (.t 1)⟩,
      ⟨(some 8), (some (6, false)), .load none (.t 7)⟩,
      ⟨(some 9), (some (6, false)), .bin .eql (.t 8) (.c (.int .i64 0))⟩,
      ⟨(some 10), none, .pick (.t 6) (.c (.bool true)) (.t 9)⟩,
      ⟨(some 2), none, .mv (.t 10)⟩])
    (.ret))⟩
theorem ok21 : FnOk Try.prog 21 a21 := FnOk.of Try.prog Try.func21 (by kernel_rfl)
/-- (*jalousie/tree.Tree).Panes -/
def a22 : AFn := ⟨4, [.tmp 2], .seq
   (.ops [⟨(some 1), none, .box 26 (.t 0)⟩,
     ⟨(some 2), none, .mv (.c .nilfn)⟩])
   (.seq
    (.ops [⟨(some 3), none, .fn (.func 38) [] [(.t 1)]⟩,
      ⟨(some 2), none, .mv (.t 3)⟩])
    (.ret))⟩
theorem ok22 : FnOk Try.prog 22 a22 := FnOk.of Try.prog Try.func22 (by kernel_rfl)
/-- jalousie/geometry.end -/
def a23 : AFn := ⟨16, [.tmp 4], .seq
   (.ops [⟨(some 4), none, .mv (.c (.int .i64 0))⟩])
   (.seq
    (.seq
     (.ops [⟨(some 5), none, .mv (.t 1)⟩,
       ⟨(some 6), none, .bin .gtr (.t 5) (.c (.int .i64 0))⟩,
       ⟨(some 7), none, .mv (.t 6)⟩,
       ⟨(some 8), (some (7, true)), .mv (.t 0)⟩,
       ⟨(some 9), (some (7, true)), .mv (.t 1)⟩,
       ⟨(some 10), (some (7, true)), .bin .sub (.c (.int .i64 9223372036854775807)) (.t 9)⟩,
       ⟨(some 11), (some (7, true)), .bin .gtr (.t 8) (.t 10)⟩,
       ⟨(some 12), none, .pick (.t 7) (.t 11) (.c (.bool false))⟩])
     (.cond (.t 12)
      (.seq
       (.ops [⟨(some 4), none, .mv (.c (.int .i64 9223372036854775807))⟩])
       (.ret))
      (.skip)))
    (.seq
     (.ops [⟨(some 13), none, .mv (.t 0)⟩,
       ⟨(some 14), none, .mv (.t 1)⟩,
       ⟨(some 15), none, .bin .add (.t 13) (.t 14)⟩,
       ⟨(some 4), none, .mv (.t 15)⟩])
     (.ret)))⟩
theorem ok23 : FnOk Try.prog 23 a23 := FnOk.of Try.prog Try.func23 (by kernel_rfl)
/-- jalousie/jalousieref19.New -/
def a24 : AFn := ⟨8, [.tmp 2], .seq
   (.ops [⟨(some 1), none, .box 32 (.t 0)⟩,
     ⟨(some 2), none, .mv (.c .nilptr)⟩])
   (.seq
    (.ops [⟨(some 3), none, .load (some 3) (.t 1)⟩,
      ⟨(some 4), none, .build [(.int .i64 0), (.int .i64 0), .nilptr, .nilptr, (.int .i64 0), (.int .i64 0), (.int .i64 0)] [(0, 1), (1, 1), (2, 1), (3, 1), (4, 3)] [(4, (.t 3))]⟩,
      ⟨(some 5), none, .box 86 (.t 4)⟩,
      ⟨(some 6), none, .build [.nilptr] [(0, 1)] [(0, (.t 5))]⟩,
      ⟨(some 7), none, .box 88 (.t 6)⟩,
      ⟨(some 2), none, .mv (.t 7)⟩])
    (.ret))⟩
theorem ok24 : FnOk Try.prog 24 a24 := FnOk.of Try.prog Try.func24 (by kernel_rfl)
/-- (*jalousie/jalousieref19.Tree).Split -/
def a25 : AFn := ⟨55, [.tmp 10], .seq
   (.ops [⟨(some 6), none, .box 32 (.t 1)⟩,
     ⟨(some 7), none, .box 32 (.t 2)⟩,
     ⟨(some 10), none, .mv (.c (.int .i64 0))⟩])
   (.seq
    (.draw [⟨⟨(some 12), none, .mv (.t 0)⟩, []⟩,
      ⟨⟨(some 13), none, .nilck (.t 12)⟩, [0]⟩,
      ⟨⟨(some 14), none, .addr 0 (.t 13)⟩, [1]⟩,
      ⟨⟨(some 15), none, .load none (.t 14)⟩, [2]⟩,
      ⟨⟨(some 16), none, .load (some 3) (.t 6)⟩, []⟩,
      ⟨⟨(some 17), none, .call 41 [(.t 15), (.t 16)]⟩, [3, 4]⟩,
      ⟨⟨(some 11), none, .mv (.t 17)⟩, [5, 5, 0, 1, 2, 3, 4, 5]⟩] [0, 1, 3, 7, 0, 31, 63])
    (.seq
     (.seq
      (.ops [⟨(some 18), none, .mv (.t 11)⟩,
        ⟨(some 19), none, .eq false 84 (.pointer 86) (.t 18) (.c .nilptr)⟩])
      (.cond (.t 19)
       (.seq
        (.ops [⟨(some 10), none, .mv (.c (.int .i64 4))⟩])
        (.ret))
       (.skip)))
     (.seq
      (.seq
       (.ops [⟨(some 20), none, .mv (.t 0)⟩,
         ⟨(some 21), none, .load (some 3) (.t 7)⟩,
         ⟨(some 22), none, .call 42 [(.t 20), (.t 21)]⟩])
       (.cond (.t 22)
        (.seq
         (.ops [⟨(some 10), none, .mv (.c (.int .i64 5))⟩])
         (.ret))
        (.skip)))
      (.seq
       (.seq
        (.ops [⟨(some 23), none, .mv (.t 3)⟩,
          ⟨(some 24), none, .bin .lss (.t 23) (.c (.int .i64 1))⟩,
          ⟨(some 25), none, .mv (.t 24)⟩,
          ⟨(some 26), (some (25, false)), .mv (.t 3)⟩,
          ⟨(some 27), (some (25, false)), .bin .gtr (.t 26) (.c (.int .i64 2))⟩,
          ⟨(some 28), none, .pick (.t 25) (.c (.bool true)) (.t 27)⟩,
          ⟨(some 29), none, .mv (.t 28)⟩,
          ⟨(some 30), (some (29, false)), .mv (.t 4)⟩,
          ⟨(some 31), (some (29, false)), .bin .lss (.t 30) (.c (.int .i64 1))⟩,
          ⟨(some 32), none, .pick (.t 29) (.c (.bool true)) (.t 31)⟩,
          ⟨(some 33), none, .mv (.t 32)⟩,
          ⟨(some 34), (some (33, false)), .mv (.t 4)⟩,
          ⟨(some 35), (some (33, false)), .bin .gtr (.t 34) (.c (.int .i64 99))⟩,
          ⟨(some 36), none, .pick (.t 33) (.c (.bool true)) (.t 35)⟩])
        (.cond (.t 36)
         (.seq
          (.ops [⟨(some 10), none, .mv (.c (.int .i64 1))⟩])
          (.ret))
         (.skip)))
       (.seq
        (.seq
         (.ops [⟨(some 37), none, .mv (.t 0)⟩,
           ⟨(some 38), none, .nilck (.t 37)⟩,
           ⟨(some 39), none, .addr 0 (.t 38)⟩,
           ⟨(some 40), none, .load none (.t 39)⟩,
           ⟨(some 41), none, .call 43 [(.t 40)]⟩,
           ⟨(some 42), none, .lenL (.t 41)⟩,
           ⟨(some 43), none, .bin .eql (.t 42) (.c (.int .i64 16))⟩])
         (.cond (.t 43)
          (.seq
           (.ops [⟨(some 10), none, .mv (.c (.int .i64 6))⟩])
           (.ret))
          (.skip)))
        (.seq
         (.ops [⟨(some 44), none, .mv (.t 11)⟩,
           ⟨(some 45), none, .mv (.t 3)⟩,
           ⟨(some 46), none, .mv (.t 4)⟩,
           ⟨(some 47), none, .load (some 3) (.t 6)⟩,
           ⟨(some 48), none, .build [(.int .i64 0), (.int .i64 0), .nilptr, .nilptr, (.int .i64 0), (.int .i64 0), (.int .i64 0)] [(0, 1), (1, 1), (2, 1), (3, 1), (4, 3)] [(4, (.t 47))]⟩,
           ⟨(some 49), none, .box 86 (.t 48)⟩,
           ⟨(some 50), none, .load (some 3) (.t 7)⟩,
           ⟨(some 51), none, .build [(.int .i64 0), (.int .i64 0), .nilptr, .nilptr, (.int .i64 0), (.int .i64 0), (.int .i64 0)] [(0, 1), (1, 1), (2, 1), (3, 1), (4, 3)] [(4, (.t 50))]⟩,
           ⟨(some 52), none, .box 86 (.t 51)⟩,
           ⟨(some 53), none, .build [(.int .i64 0), (.int .i64 0), .nilptr, .nilptr, (.int .i64 0), (.int .i64 0), (.int .i64 0)] [(0, 1), (1, 1), (2, 1), (3, 1), (4, 3)] [(0, (.t 45)), (1, (.t 46)), (2, (.t 49)), (3, (.t 52))]⟩,
           ⟨(some 54), none, .nilck (.t 44)⟩,
           ⟨none, none, .store 7 (.t 54) (.t 53)⟩])
         (.seq
          (.ops [⟨(some 10), none, .mv (.c (.int .i64 0))⟩])
          (.ret))))))))⟩
theorem ok25 : FnOk Try.prog 25 a25 := FnOk.of Try.prog Try.func25 (by kernel_rfl)
/-- (*jalousie/tree.Tree).Close -/
def a26 : AFn := ⟨53, [.tmp 4], .seq
   (.ops [⟨(some 3), none, .box 32 (.t 1)⟩,
     ⟨(some 4), none, .mv (.c (.int .i64 0))⟩])
   (.seq
    (.ops [⟨(some 7), none, .mv (.t 0)⟩,
      ⟨(some 8), none, .load (some 3) (.t 3)⟩,
      ⟨(some 9), none, .call 34 [(.t 7), (.t 8)]⟩,
      ⟨(some 5), none, .mv (.t 9)⟩])
    (.seq
     (.block 0 (.seq
       (.ops [⟨(some 11), none, .mv (.t 0)⟩,
         ⟨(some 12), none, .eq false 26 (.pointer 58) (.t 11) (.c .nilptr)⟩,
         ⟨(some 10), none, .mv (.t 12)⟩])
       (.cond (.t 10)
        (.seq
         (.ops [⟨(some 4), none, .mv (.c (.int .i64 2))⟩])
         (.ret))
        (.seq
         (.ops [⟨(some 14), none, .mv (.t 5)⟩,
           ⟨(some 15), none, .bin .lss (.t 14) (.c (.int .i64 0))⟩,
           ⟨(some 13), none, .mv (.t 15)⟩])
         (.cond (.t 13)
          (.seq
           (.ops [⟨(some 4), none, .mv (.c (.int .i64 4))⟩])
           (.ret))
          (.seq
           (.ops [⟨(some 17), none, .mv (.t 0)⟩,
             ⟨(some 18), none, .call 35 [(.t 17)]⟩,
             ⟨(some 19), none, .bin .eql (.t 18) (.c (.int .i64 1))⟩,
             ⟨(some 16), none, .mv (.t 19)⟩])
           (.cond (.t 16)
            (.seq
             (.ops [⟨(some 4), none, .mv (.c (.int .i64 9))⟩])
             (.ret))
            (.skip))))))))
     (.seq
      (.ops [⟨(some 20), none, .mv (.t 0)⟩,
        ⟨(some 21), none, .mv (.t 5)⟩,
        ⟨(some 22), none, .call 44 [(.t 20), (.t 21)]⟩,
        ⟨(some 6), none, .mv (.t 22)⟩])
      (.seq
       (.ops [⟨(some 23), none, .mv (.t 0)⟩,
         ⟨(some 24), none, .mv (.t 0)⟩,
         ⟨(some 25), none, .nilck (.t 24)⟩,
         ⟨(some 26), none, .addr 0 (.t 25)⟩,
         ⟨(some 27), none, .load none (.t 26)⟩,
         ⟨(some 28), none, .mv (.t 5)⟩,
         ⟨(some 29), none, .mv (.t 5)⟩,
         ⟨(some 30), none, .bin .add (.t 29) (.c (.int .i64 1))⟩,
         ⟨(some 31), none, .call 45 [(.t 27), (.t 28), (.t 30)]⟩,
         ⟨(some 32), none, .nilck (.t 23)⟩,
         ⟨(some 33), none, .addr 0 (.t 32)⟩,
         ⟨none, none, .store 1 (.t 33) (.t 31)⟩])
       (.seq
        (.ops [⟨(some 34), none, .mv (.t 0)⟩,
          ⟨(some 35), none, .mv (.t 5)⟩,
          ⟨(some 36), none, .bin .add (.t 35) (.c (.int .i64 1))⟩,
          ⟨(some 37), none, .call 36 [(.t 34), (.t 36), (.c (.int .i64 (-1)))]⟩])
        (.seq
         (.ops [⟨(some 38), none, .mv (.t 0)⟩,
           ⟨(some 39), none, .mv (.t 0)⟩,
           ⟨(some 40), none, .nilck (.t 39)⟩,
           ⟨(some 41), none, .addr 0 (.t 40)⟩,
           ⟨(some 42), none, .load none (.t 41)⟩,
           ⟨(some 43), none, .mv (.t 6)⟩,
           ⟨(some 44), none, .mv (.t 6)⟩,
           ⟨(some 45), none, .bin .add (.t 44) (.c (.int .i64 1))⟩,
           ⟨(some 46), none, .call 45 [(.t 42), (.t 43), (.t 45)]⟩,
           ⟨(some 47), none, .nilck (.t 38)⟩,
           ⟨(some 48), none, .addr 0 (.t 47)⟩,
           ⟨none, none, .store 1 (.t 48) (.t 46)⟩])
         (.seq
          (.ops [⟨(some 49), none, .mv (.t 0)⟩,
            ⟨(some 50), none, .mv (.t 6)⟩,
            ⟨(some 51), none, .bin .add (.t 50) (.c (.int .i64 1))⟩,
            ⟨(some 52), none, .call 36 [(.t 49), (.t 51), (.c (.int .i64 (-1)))]⟩])
          (.seq
           (.ops [⟨(some 4), none, .mv (.c (.int .i64 0))⟩])
           (.ret)))))))))⟩
theorem ok26 : FnOk Try.prog 26 a26 := FnOk.of Try.prog Try.func26 (by kernel_rfl)
/-- (*jalousie/jalousieref19.Tree).Close -/
def a27 : AFn := ⟨23, [.tmp 4], .seq
   (.ops [⟨(some 3), none, .box 32 (.t 1)⟩,
     ⟨(some 4), none, .mv (.c (.int .i64 0))⟩])
   (.seq
    (.seq
     (.ops [⟨(some 5), none, .mv (.t 0)⟩,
       ⟨(some 6), none, .load (some 3) (.t 3)⟩,
       ⟨(some 7), none, .call 42 [(.t 5), (.t 6)]⟩,
       ⟨(some 8), none, .un .not (.t 7)⟩])
     (.cond (.t 8)
      (.seq
       (.ops [⟨(some 4), none, .mv (.c (.int .i64 4))⟩])
       (.ret))
      (.skip)))
    (.seq
     (.seq
      (.ops [⟨(some 9), none, .mv (.t 0)⟩,
        ⟨(some 10), none, .nilck (.t 9)⟩,
        ⟨(some 11), none, .addr 0 (.t 10)⟩,
        ⟨(some 12), none, .load none (.t 11)⟩,
        ⟨(some 13), none, .nilck (.t 12)⟩,
        ⟨(some 14), none, .addr 0 (.t 13)⟩,
        ⟨(some 15), none, .load none (.t 14)⟩,
        ⟨(some 16), none, .bin .eql (.t 15) (.c (.int .i64 0))⟩])
      (.cond (.t 16)
       (.seq
        (.ops [⟨(some 4), none, .mv (.c (.int .i64 9))⟩])
        (.ret))
       (.skip)))
     (.seq
      (.draw [⟨⟨(some 17), none, .mv (.t 0)⟩, []⟩,
        ⟨⟨(some 18), none, .nilck (.t 17)⟩, [0]⟩,
        ⟨⟨(some 19), none, .addr 0 (.t 18)⟩, [1]⟩,
        ⟨⟨(some 20), none, .load none (.t 19)⟩, [2]⟩,
        ⟨⟨(some 21), none, .load (some 3) (.t 3)⟩, []⟩,
        ⟨⟨(some 22), none, .call 46 [(.t 20), (.t 21)]⟩, [3, 4]⟩] [0, 1, 3, 7, 0, 31])
      (.seq
       (.ops [⟨(some 4), none, .mv (.c (.int .i64 0))⟩])
       (.ret)))))⟩
theorem ok27 : FnOk Try.prog 27 a27 := FnOk.of Try.prog Try.func27 (by kernel_rfl)
/-- (*jalousie/tree.Tree).Swap -/
def a28 : AFn := ⟨41, [.tmp 6], .seq
   (.ops [⟨(some 4), none, .box 32 (.t 1)⟩,
     ⟨(some 5), none, .box 32 (.t 2)⟩,
     ⟨(some 6), none, .mv (.c (.int .i64 0))⟩])
   (.seq
    (.draw [⟨⟨(some 9), none, .mv (.t 0)⟩, []⟩,
      ⟨⟨(some 10), none, .load (some 3) (.t 4)⟩, []⟩,
      ⟨⟨(some 11), none, .call 34 [(.t 9), (.t 10)]⟩, [0, 1]⟩,
      ⟨⟨(some 12), none, .mv (.t 0)⟩, []⟩,
      ⟨⟨(some 13), none, .load (some 3) (.t 5)⟩, []⟩,
      ⟨⟨(some 14), none, .call 34 [(.t 12), (.t 13)]⟩, [3, 4, 2]⟩,
      ⟨⟨(some 7), none, .mv (.t 11)⟩, [2, 5, 0, 1, 2]⟩,
      ⟨⟨(some 8), none, .mv (.t 14)⟩, [5, 6, 0, 1, 2, 3, 4, 5, 6]⟩] [0, 0, 3, 0, 0, 31, 63, 127])
    (.seq
     (.block 0 (.seq
       (.ops [⟨(some 16), none, .mv (.t 0)⟩,
         ⟨(some 17), none, .eq false 26 (.pointer 58) (.t 16) (.c .nilptr)⟩,
         ⟨(some 15), none, .mv (.t 17)⟩])
       (.cond (.t 15)
        (.seq
         (.ops [⟨(some 6), none, .mv (.c (.int .i64 2))⟩])
         (.ret))
        (.seq
         (.ops [⟨(some 19), none, .mv (.t 7)⟩,
           ⟨(some 20), none, .bin .lss (.t 19) (.c (.int .i64 0))⟩,
           ⟨(some 21), none, .mv (.t 20)⟩,
           ⟨(some 22), (some (21, false)), .mv (.t 8)⟩,
           ⟨(some 23), (some (21, false)), .bin .lss (.t 22) (.c (.int .i64 0))⟩,
           ⟨(some 24), none, .pick (.t 21) (.c (.bool true)) (.t 23)⟩,
           ⟨(some 18), none, .mv (.t 24)⟩])
         (.cond (.t 18)
          (.seq
           (.ops [⟨(some 6), none, .mv (.c (.int .i64 4))⟩])
           (.ret))
          (.skip))))))
     (.seq
      (.draw [⟨⟨(some 25), none, .mv (.t 0)⟩, []⟩,
        ⟨⟨(some 26), none, .nilck (.t 25)⟩, [0]⟩,
        ⟨⟨(some 27), none, .addr 0 (.t 26)⟩, [1]⟩,
        ⟨⟨(some 28), none, .load none (.t 27)⟩, [2]⟩,
        ⟨⟨(some 29), none, .mv (.t 7)⟩, []⟩,
        ⟨⟨(some 30), none, .mv (.t 0)⟩, []⟩,
        ⟨⟨(some 31), none, .nilck (.t 30)⟩, [5]⟩,
        ⟨⟨(some 32), none, .addr 0 (.t 31)⟩, [6]⟩,
        ⟨⟨(some 33), none, .load none (.t 32)⟩, [7]⟩,
        ⟨⟨(some 34), none, .mv (.t 8)⟩, []⟩,
        ⟨⟨(some 35), none, .load (some 3) (.t 5)⟩, []⟩,
        ⟨⟨(some 36), none, .load (some 3) (.t 4)⟩, []⟩,
        ⟨⟨(some 37), none, .iaddrS 7 (.t 28) (.t 29)⟩, [3, 4, 0, 1, 2, 3, 4, 8, 10]⟩,
        ⟨⟨(some 38), none, .addr 4 (.t 37)⟩, [12, 0, 1, 2, 3, 4, 8, 10]⟩,
        ⟨⟨none, none, .store 3 (.t 38) (.t 35)⟩, [13, 10, 0, 1, 2, 3, 4, 8, 10]⟩,
        ⟨⟨(some 39), none, .iaddrS 7 (.t 33) (.t 34)⟩, [8, 9, 0, 1, 2, 3, 4, 5, 6, 7, 8, 9, 10, 11, 12, 13, 14]⟩,
        ⟨⟨(some 40), none, .addr 4 (.t 39)⟩, [15, 0, 1, 2, 3, 4, 5, 6, 7, 8, 9, 10, 11, 12, 13, 14]⟩,
        ⟨⟨none, none, .store 3 (.t 40) (.t 36)⟩, [16, 11, 14, 0, 1, 2, 3, 4, 5, 6, 7, 8, 9, 10, 11, 12, 13, 14]⟩] [0, 1, 3, 7, 0, 0, 32, 96, 224, 0, 0, 0, 1535, 5631, 13823, 32767, 65535, 131071])
      (.seq
       (.ops [⟨(some 6), none, .mv (.c (.int .i64 0))⟩])
       (.ret)))))⟩
theorem ok28 : FnOk Try.prog 28 a28 := FnOk.of Try.prog Try.func28 (by kernel_rfl)
/-- (*jalousie/jalousieref19.Tree).Swap -/
def a29 : AFn := ⟨35, [.tmp 6], .seq
   (.ops [⟨(some 4), none, .box 32 (.t 1)⟩,
     ⟨(some 5), none, .box 32 (.t 2)⟩,
     ⟨(some 6), none, .mv (.c (.int .i64 0))⟩])
   (.seq
    (.draw [⟨⟨(some 9), none, .mv (.t 0)⟩, []⟩,
      ⟨⟨(some 10), none, .nilck (.t 9)⟩, [0]⟩,
      ⟨⟨(some 11), none, .addr 0 (.t 10)⟩, [1]⟩,
      ⟨⟨(some 12), none, .load none (.t 11)⟩, [2]⟩,
      ⟨⟨(some 13), none, .load (some 3) (.t 4)⟩, []⟩,
      ⟨⟨(some 14), none, .call 41 [(.t 12), (.t 13)]⟩, [3, 4]⟩,
      ⟨⟨(some 15), none, .mv (.t 0)⟩, []⟩,
      ⟨⟨(some 16), none, .nilck (.t 15)⟩, [6]⟩,
      ⟨⟨(some 17), none, .addr 0 (.t 16)⟩, [7]⟩,
      ⟨⟨(some 18), none, .load none (.t 17)⟩, [8]⟩,
      ⟨⟨(some 19), none, .load (some 3) (.t 5)⟩, []⟩,
      ⟨⟨(some 20), none, .call 41 [(.t 18), (.t 19)]⟩, [9, 10, 5]⟩,
      ⟨⟨(some 7), none, .mv (.t 14)⟩, [5, 11, 0, 1, 2, 3, 4, 5]⟩,
      ⟨⟨(some 8), none, .mv (.t 20)⟩, [11, 12, 0, 1, 2, 3, 4, 5, 6, 7, 8, 9, 10, 11, 12]⟩] [0, 1, 3, 7, 0, 31, 0, 64, 192, 448, 0, 2047, 4095, 8191])
    (.seq
     (.seq
      (.ops [⟨(some 21), none, .mv (.t 7)⟩,
        ⟨(some 22), none, .eq false 84 (.pointer 86) (.t 21) (.c .nilptr)⟩,
        ⟨(some 23), none, .mv (.t 22)⟩,
        ⟨(some 24), (some (23, false)), .mv (.t 8)⟩,
        ⟨(some 25), (some (23, false)), .eq false 84 (.pointer 86) (.t 24) (.c .nilptr)⟩,
        ⟨(some 26), none, .pick (.t 23) (.c (.bool true)) (.t 25)⟩])
      (.cond (.t 26)
       (.seq
        (.ops [⟨(some 6), none, .mv (.c (.int .i64 4))⟩])
        (.ret))
       (.skip)))
     (.seq
      (.ops [⟨(some 27), none, .mv (.t 7)⟩,
        ⟨(some 28), none, .load (some 3) (.t 5)⟩,
        ⟨(some 29), none, .nilck (.t 27)⟩,
        ⟨(some 30), none, .addr 4 (.t 29)⟩,
        ⟨none, none, .store 3 (.t 30) (.t 28)⟩])
      (.seq
       (.ops [⟨(some 31), none, .mv (.t 8)⟩,
         ⟨(some 32), none, .load (some 3) (.t 4)⟩,
         ⟨(some 33), none, .nilck (.t 31)⟩,
         ⟨(some 34), none, .addr 4 (.t 33)⟩,
         ⟨none, none, .store 3 (.t 34) (.t 32)⟩])
       (.seq
        (.ops [⟨(some 6), none, .mv (.c (.int .i64 0))⟩])
        (.ret))))))⟩
theorem ok29 : FnOk Try.prog 29 a29 := FnOk.of Try.prog Try.func29 (by kernel_rfl)
/-- (*jalousie/tree.Tree).Share -/
def a30 : AFn := ⟨88, [.tmp 8], .seq
   (.ops [⟨(some 5), none, .box 32 (.t 1)⟩,
     ⟨(some 8), none, .mv (.c (.int .i64 0))⟩])
   (.seq
    (.ops [⟨(some 12), none, .mv (.t 0)⟩,
      ⟨(some 13), none, .load (some 3) (.t 5)⟩,
      ⟨(some 14), none, .call 34 [(.t 12), (.t 13)]⟩,
      ⟨(some 9), none, .mv (.t 14)⟩])
    (.seq
     (.block 0 (.seq
       (.ops [⟨(some 16), none, .mv (.t 0)⟩,
         ⟨(some 17), none, .eq false 26 (.pointer 58) (.t 16) (.c .nilptr)⟩,
         ⟨(some 15), none, .mv (.t 17)⟩])
       (.cond (.t 15)
        (.seq
         (.ops [⟨(some 8), none, .mv (.c (.int .i64 2))⟩])
         (.ret))
        (.seq
         (.ops [⟨(some 19), none, .mv (.t 9)⟩,
           ⟨(some 20), none, .bin .lss (.t 19) (.c (.int .i64 0))⟩,
           ⟨(some 18), none, .mv (.t 20)⟩])
         (.cond (.t 18)
          (.seq
           (.ops [⟨(some 8), none, .mv (.c (.int .i64 4))⟩])
           (.ret))
          (.seq
           (.ops [⟨(some 22), none, .mv (.t 2)⟩,
             ⟨(some 23), none, .bin .neq (.t 22) (.c (.int .i64 1))⟩,
             ⟨(some 24), none, .mv (.t 23)⟩,
             ⟨(some 25), (some (24, true)), .mv (.t 2)⟩,
             ⟨(some 26), (some (24, true)), .bin .neq (.t 25) (.c (.int .i64 2))⟩,
             ⟨(some 27), none, .pick (.t 24) (.t 26) (.c (.bool false))⟩,
             ⟨(some 21), none, .mv (.t 27)⟩])
           (.cond (.t 21)
            (.seq
             (.ops [⟨(some 8), none, .mv (.c (.int .i64 1))⟩])
             (.ret))
            (.skip))))))))
     (.seq
      (.ops [⟨(some 28), none, .mv (.t 3)⟩,
        ⟨(some 29), none, .maxI (.t 28) [(.c (.int .i64 (-99)))]⟩,
        ⟨(some 30), none, .minI (.t 29) [(.c (.int .i64 99))]⟩,
        ⟨(some 3), none, .mv (.t 30)⟩])
      (.seq
       (.ops [⟨(some 31), none, .mv (.t 0)⟩,
         ⟨(some 32), none, .mv (.t 9)⟩,
         ⟨(some 33), none, .call 44 [(.t 31), (.t 32)]⟩,
         ⟨(some 10), none, .mv (.t 33)⟩])
       (.seq
        (.block 1 (.loop (.seq
           (.seq
            (.ops [⟨(some 34), none, .mv (.t 10)⟩,
              ⟨(some 35), none, .bin .geq (.t 34) (.c (.int .i64 0))⟩,
              ⟨(some 36), none, .mv (.t 35)⟩,
              ⟨(some 37), (some (36, true)), .mv (.t 0)⟩,
              ⟨(some 38), (some (36, true)), .nilck (.t 37)⟩,
              ⟨(some 39), (some (36, true)), .addr 0 (.t 38)⟩,
              ⟨(some 40), (some (36, true)), .load none (.t 39)⟩,
              ⟨(some 41), (some (36, true)), .mv (.t 10)⟩,
              ⟨(some 42), (some (36, true)), .iaddrS 7 (.t 40) (.t 41)⟩,
              ⟨(some 43), (some (36, true)), .addr 0 (.t 42)⟩,
              ⟨(some 44), (some (36, true)), .load none (.t 43)⟩,
              ⟨(some 45), (some (36, true)), .mv (.t 2)⟩,
              ⟨(some 46), (some (36, true)), .bin .neq (.t 44) (.t 45)⟩,
              ⟨(some 47), none, .pick (.t 36) (.t 46) (.c (.bool false))⟩])
            (.cond (.t 47)
             (.skip)
             (.exit 1)))
           (.seq
            (.block 2 (.ops [⟨(some 51), none, .mv (.t 10)⟩,
               ⟨(some 9), none, .mv (.t 51)⟩]))
            (.ops [⟨(some 48), none, .mv (.t 0)⟩,
              ⟨(some 49), none, .mv (.t 9)⟩,
              ⟨(some 50), none, .call 44 [(.t 48), (.t 49)]⟩,
              ⟨(some 10), none, .mv (.t 50)⟩])))))
        (.seq
         (.seq
          (.ops [⟨(some 52), none, .mv (.t 10)⟩,
            ⟨(some 53), none, .bin .lss (.t 52) (.c (.int .i64 0))⟩])
          (.cond (.t 53)
           (.seq
            (.ops [⟨(some 8), none, .mv (.c (.int .i64 9))⟩])
            (.ret))
           (.skip)))
         (.seq
          (.seq
           (.ops [⟨(some 54), none, .mv (.t 0)⟩,
             ⟨(some 55), none, .nilck (.t 54)⟩,
             ⟨(some 56), none, .addr 0 (.t 55)⟩,
             ⟨(some 57), none, .load none (.t 56)⟩,
             ⟨(some 58), none, .mv (.t 10)⟩,
             ⟨(some 59), none, .iaddrS 7 (.t 57) (.t 58)⟩,
             ⟨(some 11), none, .mv (.t 59)⟩])
           (.seq
            (.ops [⟨(some 60), none, .mv (.t 11)⟩,
              ⟨(some 61), none, .nilck (.t 60)⟩,
              ⟨(some 62), none, .addr 1 (.t 61)⟩,
              ⟨(some 63), none, .load none (.t 62)⟩,
              ⟨(some 64), none, .mv (.t 9)⟩,
              ⟨(some 65), none, .bin .eql (.t 63) (.t 64)⟩])
            (.cond (.t 65)
             (.ops [⟨(some 66), none, .mv (.t 11)⟩,
               ⟨(some 67), none, .mv (.t 11)⟩,
               ⟨(some 68), none, .nilck (.t 67)⟩,
               ⟨(some 69), none, .addr 3 (.t 68)⟩,
               ⟨(some 70), none, .load none (.t 69)⟩,
               ⟨(some 71), none, .mv (.t 3)⟩,
               ⟨(some 72), none, .bin .add (.t 70) (.t 71)⟩,
               ⟨(some 73), none, .maxI (.t 72) [(.c (.int .i64 1))]⟩,
               ⟨(some 74), none, .minI (.t 73) [(.c (.int .i64 99))]⟩,
               ⟨(some 75), none, .nilck (.t 66)⟩,
               ⟨(some 76), none, .addr 3 (.t 75)⟩,
               ⟨none, none, .store 1 (.t 76) (.t 74)⟩])
             (.ops [⟨(some 77), none, .mv (.t 11)⟩,
               ⟨(some 78), none, .mv (.t 11)⟩,
               ⟨(some 79), none, .nilck (.t 78)⟩,
               ⟨(some 80), none, .addr 3 (.t 79)⟩,
               ⟨(some 81), none, .load none (.t 80)⟩,
               ⟨(some 82), none, .mv (.t 3)⟩,
               ⟨(some 83), none, .bin .sub (.t 81) (.t 82)⟩,
               ⟨(some 84), none, .maxI (.t 83) [(.c (.int .i64 1))]⟩,
               ⟨(some 85), none, .minI (.t 84) [(.c (.int .i64 99))]⟩,
               ⟨(some 86), none, .nilck (.t 77)⟩,
               ⟨(some 87), none, .addr 3 (.t 86)⟩,
               ⟨none, none, .store 1 (.t 87) (.t 85)⟩]))))
          (.seq
           (.ops [⟨(some 8), none, .mv (.c (.int .i64 0))⟩])
           (.ret)))))))))⟩
theorem ok30 : FnOk Try.prog 30 a30 := FnOk.of Try.prog Try.func30 (by kernel_rfl)
/-- (*jalousie/jalousieref19.Tree).Share -/
def a31 : AFn := ⟨32, [.tmp 8], .seq
   (.ops [⟨(some 5), none, .box 32 (.t 1)⟩,
     ⟨(some 8), none, .mv (.c (.int .i64 0))⟩])
   (.seq
    (.seq
     (.ops [⟨(some 9), none, .mv (.t 0)⟩,
       ⟨(some 10), none, .load (some 3) (.t 5)⟩,
       ⟨(some 11), none, .call 42 [(.t 9), (.t 10)]⟩,
       ⟨(some 12), none, .un .not (.t 11)⟩])
     (.cond (.t 12)
      (.seq
       (.ops [⟨(some 8), none, .mv (.c (.int .i64 4))⟩])
       (.ret))
      (.skip)))
    (.seq
     (.seq
      (.ops [⟨(some 13), none, .mv (.t 2)⟩,
        ⟨(some 14), none, .bin .lss (.t 13) (.c (.int .i64 1))⟩,
        ⟨(some 15), none, .mv (.t 14)⟩,
        ⟨(some 16), (some (15, false)), .mv (.t 2)⟩,
        ⟨(some 17), (some (15, false)), .bin .gtr (.t 16) (.c (.int .i64 2))⟩,
        ⟨(some 18), none, .pick (.t 15) (.c (.bool true)) (.t 17)⟩])
      (.cond (.t 18)
       (.seq
        (.ops [⟨(some 8), none, .mv (.c (.int .i64 1))⟩])
        (.ret))
       (.skip)))
     (.seq
      (.seq
       (.ops [⟨(some 19), none, .mv (.t 3)⟩,
         ⟨(some 20), none, .bin .gtr (.t 19) (.c (.int .i64 99))⟩])
       (.cond (.t 20)
        (.ops [⟨(some 3), none, .mv (.c (.int .i64 99))⟩])
        (.skip)))
      (.seq
       (.seq
        (.ops [⟨(some 21), none, .mv (.t 3)⟩,
          ⟨(some 22), none, .bin .lss (.t 21) (.c (.int .i64 (-99)))⟩])
        (.cond (.t 22)
         (.ops [⟨(some 3), none, .mv (.c (.int .i64 (-99)))⟩])
         (.skip)))
       (.seq
        (.seq
         (.draw [⟨⟨(some 23), none, .mv (.t 0)⟩, []⟩,
           ⟨⟨(some 24), none, .nilck (.t 23)⟩, [0]⟩,
           ⟨⟨(some 25), none, .addr 0 (.t 24)⟩, [1]⟩,
           ⟨⟨(some 26), none, .load none (.t 25)⟩, [2]⟩,
           ⟨⟨(some 27), none, .load (some 3) (.t 5)⟩, []⟩,
           ⟨⟨(some 28), none, .mv (.t 2)⟩, []⟩,
           ⟨⟨(some 29), none, .mv (.t 3)⟩, []⟩,
           ⟨⟨(some 30), none, .call 47 [(.t 26), (.t 27), (.t 28), (.t 29)]⟩, [3, 4, 5, 6]⟩,
           ⟨⟨(some 31), none, .un .not (.t 30)⟩, [7]⟩] [0, 1, 3, 7, 0, 0, 0, 127, 255])
         (.cond (.t 31)
          (.seq
           (.ops [⟨(some 8), none, .mv (.c (.int .i64 9))⟩])
           (.ret))
          (.skip)))
        (.seq
         (.ops [⟨(some 8), none, .mv (.c (.int .i64 0))⟩])
         (.ret)))))))⟩
theorem ok31 : FnOk Try.prog 31 a31 := FnOk.of Try.prog Try.func31 (by kernel_rfl)
/-- (*jalousie/tree.Tree).Node -/
def a32 : AFn := ⟨22, [.cell 4 (some 7), .tmp 5], .seq
   (.ops [⟨(some 4), none, .alloc 55 [(.int .i64 0), (.int .i64 0), (.int .i64 0), (.int .i64 0), (.int .i64 0), (.int .i64 0), (.int .i64 0)]⟩,
     ⟨(some 5), none, .mv (.c (.bool false))⟩])
   (.seq
    (.ops [⟨(some 7), none, .mv (.t 0)⟩,
      ⟨(some 8), none, .call 40 [(.t 7)]⟩,
      ⟨(some 6), none, .mv (.t 8)⟩])
    (.seq
     (.seq
      (.ops [⟨(some 9), none, .mv (.t 1)⟩,
        ⟨(some 10), none, .bin .lss (.t 9) (.c (.int .i64 0))⟩,
        ⟨(some 11), none, .mv (.t 10)⟩,
        ⟨(some 12), (some (11, false)), .mv (.t 1)⟩,
        ⟨(some 13), (some (11, false)), .mv (.t 6)⟩,
        ⟨(some 14), (some (11, false)), .lenL (.t 13)⟩,
        ⟨(some 15), (some (11, false)), .bin .geq (.t 12) (.t 14)⟩,
        ⟨(some 16), none, .pick (.t 11) (.c (.bool true)) (.t 15)⟩])
      (.cond (.t 16)
       (.seq
        (.ops [⟨(some 17), none, .build [(.int .i64 0), (.int .i64 0), (.int .i64 0), (.int .i64 0), (.int .i64 0), (.int .i64 0), (.int .i64 0)] [(0, 1), (1, 1), (2, 1), (3, 1), (4, 3)] []⟩,
          ⟨none, none, .store 7 (.t 4) (.t 17)⟩,
          ⟨(some 5), none, .mv (.c (.bool false))⟩])
        (.ret))
       (.skip)))
     (.seq
      (.ops [⟨(some 18), none, .mv (.t 6)⟩,
        ⟨(some 19), none, .mv (.t 1)⟩,
        ⟨(some 20), none, .iaddrS 7 (.t 18) (.t 19)⟩,
        ⟨(some 21), none, .load (some 7) (.t 20)⟩,
        ⟨none, none, .store 7 (.t 4) (.t 21)⟩,
        ⟨(some 5), none, .mv (.c (.bool true))⟩])
      (.ret))))⟩
theorem ok32 : FnOk Try.prog 32 a32 := FnOk.of Try.prog Try.func32 (by kernel_rfl)
/-- jalousie/geometry.parts -/
def a33 : AFn := ⟨105, [.cell 4 (some 4), .cell 5 (some 4), .cell 6 (some 4), .tmp 7], .seq
   (.ops [⟨(some 2), none, .box 55 (.t 0)⟩,
     ⟨(some 3), none, .box 29 (.t 1)⟩,
     ⟨(some 4), none, .alloc 29 [(.int .i64 0), (.int .i64 0), (.int .i64 0), (.int .i64 0)]⟩,
     ⟨(some 5), none, .alloc 29 [(.int .i64 0), (.int .i64 0), (.int .i64 0), (.int .i64 0)]⟩,
     ⟨(some 6), none, .alloc 29 [(.int .i64 0), (.int .i64 0), (.int .i64 0), (.int .i64 0)]⟩,
     ⟨(some 7), none, .mv (.c (.bool false))⟩])
   (.seq
    (.seq
     (.ops [⟨(some 14), none, .addr 0 (.t 2)⟩,
       ⟨(some 15), none, .load none (.t 14)⟩,
       ⟨(some 16), none, .bin .eql (.t 15) (.c (.int .i64 1))⟩])
     (.cond (.t 16)
      (.seq
       (.ops [⟨(some 18), none, .addr 2 (.t 3)⟩,
         ⟨(some 19), none, .load none (.t 18)⟩,
         ⟨(some 20), none, .addr 3 (.t 2)⟩,
         ⟨(some 21), none, .load none (.t 20)⟩,
         ⟨(some 22), none, .call 48 [(.t 19), (.t 21)]⟩,
         ⟨(some 17), none, .mv (.t 22)⟩,
         ⟨(some 23), none, .ext (.t 17) 0⟩,
         ⟨(some 24), none, .ext (.t 17) 1⟩,
         ⟨(some 25), none, .ext (.t 17) 2⟩,
         ⟨(some 8), none, .mv (.t 23)⟩,
         ⟨(some 9), none, .mv (.t 24)⟩,
         ⟨(some 10), none, .mv (.t 25)⟩])
       (.seq
        (.draw [⟨⟨(some 26), none, .addr 0 (.t 3)⟩, []⟩,
          ⟨⟨(some 27), none, .load none (.t 26)⟩, [0]⟩,
          ⟨⟨(some 28), none, .addr 1 (.t 3)⟩, []⟩,
          ⟨⟨(some 29), none, .load none (.t 28)⟩, [2]⟩,
          ⟨⟨(some 30), none, .mv (.t 8)⟩, []⟩,
          ⟨⟨(some 31), none, .addr 3 (.t 3)⟩, []⟩,
          ⟨⟨(some 32), none, .load none (.t 31)⟩, [5]⟩,
          ⟨⟨(some 33), none, .build [(.int .i64 0), (.int .i64 0), (.int .i64 0), (.int .i64 0)] [(0, 1), (1, 1), (2, 1), (3, 1)] [(0, (.t 27)), (1, (.t 29)), (2, (.t 30)), (3, (.t 32))]⟩, [1, 3, 4, 6]⟩,
          ⟨⟨(some 34), none, .addr 0 (.t 3)⟩, []⟩,
          ⟨⟨(some 35), none, .load none (.t 34)⟩, [8]⟩,
          ⟨⟨(some 36), none, .mv (.t 8)⟩, []⟩,
          ⟨⟨(some 37), none, .bin .add (.t 35) (.t 36)⟩, [9, 10]⟩,
          ⟨⟨(some 38), none, .addr 1 (.t 3)⟩, []⟩,
          ⟨⟨(some 39), none, .load none (.t 38)⟩, [12]⟩,
          ⟨⟨(some 40), none, .mv (.t 9)⟩, []⟩,
          ⟨⟨(some 41), none, .addr 3 (.t 3)⟩, []⟩,
          ⟨⟨(some 42), none, .load none (.t 41)⟩, [15]⟩,
          ⟨⟨(some 43), none, .build [(.int .i64 0), (.int .i64 0), (.int .i64 0), (.int .i64 0)] [(0, 1), (1, 1), (2, 1), (3, 1)] [(0, (.t 37)), (1, (.t 39)), (2, (.t 40)), (3, (.t 42))]⟩, [11, 13, 14, 16]⟩,
          ⟨⟨(some 44), none, .addr 0 (.t 3)⟩, []⟩,
          ⟨⟨(some 45), none, .load none (.t 44)⟩, [18]⟩,
          ⟨⟨(some 46), none, .mv (.t 8)⟩, []⟩,
          ⟨⟨(some 47), none, .bin .add (.t 45) (.t 46)⟩, [19, 20]⟩,
          ⟨⟨(some 48), none, .mv (.t 9)⟩, []⟩,
          ⟨⟨(some 49), none, .bin .add (.t 47) (.t 48)⟩, [21, 22]⟩,
          ⟨⟨(some 50), none, .addr 1 (.t 3)⟩, []⟩,
          ⟨⟨(some 51), none, .load none (.t 50)⟩, [24]⟩,
          ⟨⟨(some 52), none, .mv (.t 10)⟩, []⟩,
          ⟨⟨(some 53), none, .addr 3 (.t 3)⟩, []⟩,
          ⟨⟨(some 54), none, .load none (.t 53)⟩, [27]⟩,
          ⟨⟨(some 55), none, .build [(.int .i64 0), (.int .i64 0), (.int .i64 0), (.int .i64 0)] [(0, 1), (1, 1), (2, 1), (3, 1)] [(0, (.t 49)), (1, (.t 51)), (2, (.t 52)), (3, (.t 54))]⟩, [23, 25, 26, 28]⟩,
          ⟨⟨none, none, .store 4 (.t 4) (.t 33)⟩, [7, 0, 1, 2, 3, 4, 5, 6, 7]⟩,
          ⟨⟨none, none, .store 4 (.t 5) (.t 43)⟩, [17, 30, 0, 1, 2, 3, 4, 5, 6, 7, 8, 9, 10, 11, 12, 13, 14, 15, 16, 17, 30]⟩,
          ⟨⟨none, none, .store 4 (.t 6) (.t 55)⟩, [29, 31, 0, 1, 2, 3, 4, 5, 6, 7, 8, 9, 10, 11, 12, 13, 14, 15, 16, 17, 18, 19, 20, 21, 22, 23, 24, 25, 26, 27, 28, 29, 30, 31]⟩] [0, 1, 0, 4, 0, 0, 32, 127, 0, 256, 0, 1792, 0, 4096, 0, 0, 32768, 130816, 0, 262144, 0, 1835008, 0, 8126464, 0, 16777216, 0, 0, 134217728, 536608768, 255, 1074003967, 4294967295])
        (.seq
         (.draw [⟨⟨(some 56), none, .load (some 4) (.t 4)⟩, []⟩,
           ⟨⟨(some 57), none, .load (some 4) (.t 5)⟩, []⟩,
           ⟨⟨(some 58), none, .load (some 4) (.t 6)⟩, []⟩,
           ⟨⟨(some 59), none, .mv (.t 9)⟩, []⟩,
           ⟨⟨(some 60), none, .bin .eql (.t 59) (.c (.int .i64 0))⟩, [3]⟩,
           ⟨⟨none, none, .store 4 (.t 4) (.t 56)⟩, [0, 0]⟩,
           ⟨⟨none, none, .store 4 (.t 5) (.t 57)⟩, [1, 5, 0, 1, 5]⟩,
           ⟨⟨none, none, .store 4 (.t 6) (.t 58)⟩, [2, 6, 0, 1, 2, 5, 6]⟩,
           ⟨⟨(some 7), none, .mv (.t 60)⟩, [4, 7, 0, 1, 2, 3, 4, 5, 6, 7]⟩] [0, 0, 0, 0, 8, 1, 35, 103, 255])
         (.ret))))
      (.skip)))
    (.seq
     (.ops [⟨(some 62), none, .addr 3 (.t 3)⟩,
       ⟨(some 63), none, .load none (.t 62)⟩,
       ⟨(some 64), none, .addr 3 (.t 2)⟩,
       ⟨(some 65), none, .load none (.t 64)⟩,
       ⟨(some 66), none, .call 48 [(.t 63), (.t 65)]⟩,
       ⟨(some 61), none, .mv (.t 66)⟩,
       ⟨(some 67), none, .ext (.t 61) 0⟩,
       ⟨(some 68), none, .ext (.t 61) 1⟩,
       ⟨(some 69), none, .ext (.t 61) 2⟩,
       ⟨(some 11), none, .mv (.t 67)⟩,
       ⟨(some 12), none, .mv (.t 68)⟩,
       ⟨(some 13), none, .mv (.t 69)⟩])
     (.seq
      (.draw [⟨⟨(some 70), none, .addr 0 (.t 3)⟩, []⟩,
        ⟨⟨(some 71), none, .load none (.t 70)⟩, [0]⟩,
        ⟨⟨(some 72), none, .addr 1 (.t 3)⟩, []⟩,
        ⟨⟨(some 73), none, .load none (.t 72)⟩, [2]⟩,
        ⟨⟨(some 74), none, .addr 2 (.t 3)⟩, []⟩,
        ⟨⟨(some 75), none, .load none (.t 74)⟩, [4]⟩,
        ⟨⟨(some 76), none, .mv (.t 11)⟩, []⟩,
        ⟨⟨(some 77), none, .build [(.int .i64 0), (.int .i64 0), (.int .i64 0), (.int .i64 0)] [(0, 1), (1, 1), (2, 1), (3, 1)] [(0, (.t 71)), (1, (.t 73)), (2, (.t 75)), (3, (.t 76))]⟩, [1, 3, 5, 6]⟩,
        ⟨⟨(some 78), none, .addr 0 (.t 3)⟩, []⟩,
        ⟨⟨(some 79), none, .load none (.t 78)⟩, [8]⟩,
        ⟨⟨(some 80), none, .addr 1 (.t 3)⟩, []⟩,
        ⟨⟨(some 81), none, .load none (.t 80)⟩, [10]⟩,
        ⟨⟨(some 82), none, .mv (.t 11)⟩, []⟩,
        ⟨⟨(some 83), none, .bin .add (.t 81) (.t 82)⟩, [11, 12]⟩,
        ⟨⟨(some 84), none, .addr 2 (.t 3)⟩, []⟩,
        ⟨⟨(some 85), none, .load none (.t 84)⟩, [14]⟩,
        ⟨⟨(some 86), none, .mv (.t 12)⟩, []⟩,
        ⟨⟨(some 87), none, .build [(.int .i64 0), (.int .i64 0), (.int .i64 0), (.int .i64 0)] [(0, 1), (1, 1), (2, 1), (3, 1)] [(0, (.t 79)), (1, (.t 83)), (2, (.t 85)), (3, (.t 86))]⟩, [9, 13, 15, 16]⟩,
        ⟨⟨(some 88), none, .addr 0 (.t 3)⟩, []⟩,
        ⟨⟨(some 89), none, .load none (.t 88)⟩, [18]⟩,
        ⟨⟨(some 90), none, .addr 1 (.t 3)⟩, []⟩,
        ⟨⟨(some 91), none, .load none (.t 90)⟩, [20]⟩,
        ⟨⟨(some 92), none, .mv (.t 11)⟩, []⟩,
        ⟨⟨(some 93), none, .bin .add (.t 91) (.t 92)⟩, [21, 22]⟩,
        ⟨⟨(some 94), none, .mv (.t 12)⟩, []⟩,
        ⟨⟨(some 95), none, .bin .add (.t 93) (.t 94)⟩, [23, 24]⟩,
        ⟨⟨(some 96), none, .addr 2 (.t 3)⟩, []⟩,
        ⟨⟨(some 97), none, .load none (.t 96)⟩, [26]⟩,
        ⟨⟨(some 98), none, .mv (.t 13)⟩, []⟩,
        ⟨⟨(some 99), none, .build [(.int .i64 0), (.int .i64 0), (.int .i64 0), (.int .i64 0)] [(0, 1), (1, 1), (2, 1), (3, 1)] [(0, (.t 89)), (1, (.t 95)), (2, (.t 97)), (3, (.t 98))]⟩, [19, 25, 27, 28]⟩,
        ⟨⟨none, none, .store 4 (.t 4) (.t 77)⟩, [7, 0, 1, 2, 3, 4, 5, 6, 7]⟩,
        ⟨⟨none, none, .store 4 (.t 5) (.t 87)⟩, [17, 30, 0, 1, 2, 3, 4, 5, 6, 7, 8, 9, 10, 11, 12, 13, 14, 15, 16, 17, 30]⟩,
        ⟨⟨none, none, .store 4 (.t 6) (.t 99)⟩, [29, 31, 0, 1, 2, 3, 4, 5, 6, 7, 8, 9, 10, 11, 12, 13, 14, 15, 16, 17, 18, 19, 20, 21, 22, 23, 24, 25, 26, 27, 28, 29, 30, 31]⟩] [0, 1, 0, 4, 0, 16, 0, 127, 0, 256, 0, 1024, 0, 7168, 0, 16384, 0, 130816, 0, 262144, 0, 1048576, 0, 7340032, 0, 32505856, 0, 67108864, 0, 536608768, 255, 1074003967, 4294967295])
      (.seq
       (.draw [⟨⟨(some 100), none, .load (some 4) (.t 4)⟩, []⟩,
         ⟨⟨(some 101), none, .load (some 4) (.t 5)⟩, []⟩,
         ⟨⟨(some 102), none, .load (some 4) (.t 6)⟩, []⟩,
         ⟨⟨(some 103), none, .mv (.t 12)⟩, []⟩,
         ⟨⟨(some 104), none, .bin .eql (.t 103) (.c (.int .i64 0))⟩, [3]⟩,
         ⟨⟨none, none, .store 4 (.t 4) (.t 100)⟩, [0, 0]⟩,
         ⟨⟨none, none, .store 4 (.t 5) (.t 101)⟩, [1, 5, 0, 1, 5]⟩,
         ⟨⟨none, none, .store 4 (.t 6) (.t 102)⟩, [2, 6, 0, 1, 2, 5, 6]⟩,
         ⟨⟨(some 7), none, .mv (.t 104)⟩, [4, 7, 0, 1, 2, 3, 4, 5, 6, 7]⟩] [0, 0, 0, 0, 8, 1, 35, 103, 255])
       (.ret)))))⟩
theorem ok33 : FnOk Try.prog 33 a33 := FnOk.of Try.prog Try.func33 (by kernel_rfl)
/-- (*jalousie/tree.Tree).leaf -/
def a34 : AFn := ⟨9, [.tmp 4], .seq
   (.ops [⟨(some 3), none, .box 32 (.t 1)⟩,
     ⟨(some 4), none, .mv (.c (.int .i64 0))⟩])
   (.seq
    (.ops [⟨(some 5), none, .mv (.t 0)⟩,
      ⟨(some 6), none, .call 40 [(.t 5)]⟩,
      ⟨(some 7), none, .fn (.func 50) [] [(.t 3)]⟩,
      ⟨(some 8), none, .call 49 [(.t 6), (.t 7)]⟩,
      ⟨(some 4), none, .mv (.t 8)⟩])
    (.ret))⟩
theorem ok34 : FnOk Try.prog 34 a34 := FnOk.of Try.prog Try.func34 (by kernel_rfl)

end Go.Proofs.Ytbcfhiohdamcjaa.Fns
