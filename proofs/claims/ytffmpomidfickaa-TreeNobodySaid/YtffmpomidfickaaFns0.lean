/- Functions of the translated code as the abstract machine reads them, printed by program; each is checked against the code. -/
import Derived.Test.YtffmpomidfickaaProg
import Derived.Test.YtffmpomidfickaaAmEval
namespace Go.Proofs.Ytffmpomidfickaa.Fns
open Go Go.RowKit Am Go.Proofs.Ytffmpomidfickaa
set_option maxRecDepth 100000
/-- gosem.cut.init -/
def a2 : AFn := ⟨1, [], .ops [⟨(some 0), none, .bad⟩]⟩
theorem ok2 : FnOk Try.prog 2 a2 := FnOk.of Try.prog Try.func2 (by kernel_rfl)
/-- jalousie/jalousielaw19.TreeKnown -/
def a3 : AFn := ⟨104, [.tmp 0], .seq
   (.ops [⟨(some 0), none, .mv (.c (.bool false))⟩])
   (.seq
    (.ops [⟨(some 12), none, .call 10 [(.c (.int .i64 0))]⟩,
      ⟨(some 13), none, .call 9 [(.t 12)]⟩,
      ⟨(some 1), none, .mv (.t 13)⟩])
    (.seq
     (.seq
      (.ops [⟨(some 2), none, .mv (.c (.int .i64 1))⟩])
      (.block 0 (.loop (.seq
         (.seq
          (.ops [⟨(some 14), none, .mv (.t 2)⟩,
            ⟨(some 15), none, .bin .lss (.t 14) (.c (.int .i64 16))⟩])
          (.cond (.t 15)
           (.skip)
           (.exit 0)))
         (.seq
          (.block 1 (.seq
            (.ops [⟨(some 18), none, .mv (.t 1)⟩,
              ⟨(some 19), none, .mv (.t 2)⟩,
              ⟨(some 20), none, .bin .sub (.t 19) (.c (.int .i64 1))⟩,
              ⟨(some 21), none, .call 10 [(.t 20)]⟩,
              ⟨(some 22), none, .mv (.t 2)⟩,
              ⟨(some 23), none, .call 10 [(.t 22)]⟩,
              ⟨(some 24), none, .mv (.t 2)⟩,
              ⟨(some 25), none, .bin .rem (.t 24) (.c (.int .i64 2))⟩,
              ⟨(some 26), none, .bin .add (.c (.int .i64 1)) (.t 25)⟩,
              ⟨(some 27), none, .call 11 [(.t 18), (.t 21), (.t 23), (.t 26), (.c (.int .i64 50))]⟩,
              ⟨(some 28), none, .bin .neq (.t 27) (.c (.int .i64 0))⟩])
            (.cond (.t 28)
             (.seq
              (.ops [⟨(some 0), none, .mv (.c (.bool false))⟩])
              (.ret))
             (.skip))))
          (.ops [⟨(some 16), none, .mv (.t 2)⟩,
            ⟨(some 17), none, .bin .add (.t 16) (.c (.int .i64 1))⟩,
            ⟨(some 2), none, .mv (.t 17)⟩]))))))
     (.seq
      (.ops [⟨(some 29), none, .mv (.t 1)⟩,
        ⟨(some 30), none, .call 10 [(.c (.int .i64 3))]⟩,
        ⟨(some 31), none, .call 10 [(.c (.int .i64 99))]⟩,
        ⟨(some 32), none, .call 11 [(.t 29), (.t 30), (.t 31), (.c (.int .i64 1)), (.c (.int .i64 50))]⟩,
        ⟨(some 3), none, .mv (.t 32)⟩])
      (.seq
       (.ops [⟨(some 33), none, .mv (.t 1)⟩,
         ⟨(some 34), none, .call 10 [(.c (.int .i64 3))]⟩,
         ⟨(some 35), none, .call 10 [(.c (.int .i64 4))]⟩,
         ⟨(some 36), none, .call 11 [(.t 33), (.t 34), (.t 35), (.c (.int .i64 1)), (.c (.int .i64 50))]⟩,
         ⟨(some 4), none, .mv (.t 36)⟩])
       (.seq
        (.ops [⟨(some 37), none, .mv (.t 1)⟩,
          ⟨(some 38), none, .call 10 [(.c (.int .i64 98))]⟩,
          ⟨(some 39), none, .call 10 [(.c (.int .i64 99))]⟩,
          ⟨(some 40), none, .call 11 [(.t 37), (.t 38), (.t 39), (.c (.int .i64 1)), (.c (.int .i64 50))]⟩,
          ⟨(some 5), none, .mv (.t 40)⟩])
        (.seq
         (.ops [⟨(some 41), none, .mv (.t 1)⟩,
           ⟨(some 42), none, .call 10 [(.c (.int .i64 3))]⟩,
           ⟨(some 43), none, .call 10 [(.c (.int .i64 99))]⟩,
           ⟨(some 44), none, .call 11 [(.t 41), (.t 42), (.t 43), (.c (.int .i64 3)), (.c (.int .i64 50))]⟩,
           ⟨(some 6), none, .mv (.t 44)⟩])
         (.seq
          (.ops [⟨(some 45), none, .mv (.t 1)⟩,
            ⟨(some 46), none, .call 10 [(.c (.int .i64 3))]⟩,
            ⟨(some 47), none, .call 10 [(.c (.int .i64 99))]⟩,
            ⟨(some 48), none, .call 11 [(.t 45), (.t 46), (.t 47), (.c (.int .i64 2)), (.c (.int .i64 100))]⟩,
            ⟨(some 7), none, .mv (.t 48)⟩])
          (.seq
           (.ops [⟨(some 49), none, .call 10 [(.c (.int .i64 1))]⟩,
             ⟨(some 50), none, .call 9 [(.t 49)]⟩,
             ⟨(some 8), none, .mv (.t 50)⟩])
           (.seq
            (.ops [⟨(some 51), none, .mv (.t 8)⟩,
              ⟨(some 52), none, .call 10 [(.c (.int .i64 1))]⟩,
              ⟨(some 53), none, .call 12 [(.t 51), (.t 52)]⟩,
              ⟨(some 9), none, .mv (.t 53)⟩])
            (.seq
             (.ops [⟨(some 54), none, .mv (.t 8)⟩,
               ⟨(some 55), none, .call 10 [(.c (.int .i64 2))]⟩,
               ⟨(some 56), none, .call 12 [(.t 54), (.t 55)]⟩,
               ⟨(some 10), none, .mv (.t 56)⟩])
             (.seq
              (.ops [⟨(some 57), none, .mv (.t 8)⟩,
                ⟨(some 58), none, .call 10 [(.c (.int .i64 1))]⟩,
                ⟨(some 59), none, .call 13 [(.t 57), (.t 58), (.c (.int .i64 2)), (.c (.int .i64 1))]⟩,
                ⟨(some 11), none, .mv (.t 59)⟩])
              (.seq
               (.ops [⟨(some 60), none, .call 14 []⟩,
                 ⟨(some 61), none, .mv (.t 60)⟩,
                 ⟨(some 62), (some (61, true)), .mv (.t 3)⟩,
                 ⟨(some 63), (some (61, true)), .bin .eql (.t 62) (.c (.int .i64 6))⟩,
                 ⟨(some 64), none, .pick (.t 61) (.t 63) (.c (.bool false))⟩,
                 ⟨(some 65), none, .mv (.t 64)⟩,
                 ⟨(some 66), (some (65, true)), .mv (.t 4)⟩,
                 ⟨(some 67), (some (65, true)), .bin .eql (.t 66) (.c (.int .i64 5))⟩,
                 ⟨(some 68), none, .pick (.t 65) (.t 67) (.c (.bool false))⟩,
                 ⟨(some 69), none, .mv (.t 68)⟩,
                 ⟨(some 70), (some (69, true)), .mv (.t 5)⟩,
                 ⟨(some 71), (some (69, true)), .bin .eql (.t 70) (.c (.int .i64 4))⟩,
                 ⟨(some 72), none, .pick (.t 69) (.t 71) (.c (.bool false))⟩,
                 ⟨(some 73), none, .mv (.t 72)⟩,
                 ⟨(some 74), (some (73, true)), .mv (.t 6)⟩,
                 ⟨(some 75), (some (73, true)), .bin .eql (.t 74) (.c (.int .i64 1))⟩,
                 ⟨(some 76), none, .pick (.t 73) (.t 75) (.c (.bool false))⟩,
                 ⟨(some 77), none, .mv (.t 76)⟩,
                 ⟨(some 78), (some (77, true)), .mv (.t 7)⟩,
                 ⟨(some 79), (some (77, true)), .bin .eql (.t 78) (.c (.int .i64 1))⟩,
                 ⟨(some 80), none, .pick (.t 77) (.t 79) (.c (.bool false))⟩,
                 ⟨(some 81), none, .mv (.t 80)⟩,
                 ⟨(some 82), (some (81, true)), .mv (.t 9)⟩,
                 ⟨(some 83), (some (81, true)), .bin .eql (.t 82) (.c (.int .i64 9))⟩,
                 ⟨(some 84), none, .pick (.t 81) (.t 83) (.c (.bool false))⟩,
                 ⟨(some 85), none, .mv (.t 84)⟩,
                 ⟨(some 86), (some (85, true)), .mv (.t 10)⟩,
                 ⟨(some 87), (some (85, true)), .bin .eql (.t 86) (.c (.int .i64 4))⟩,
                 ⟨(some 88), none, .pick (.t 85) (.t 87) (.c (.bool false))⟩,
                 ⟨(some 89), none, .mv (.t 88)⟩,
                 ⟨(some 90), (some (89, true)), .mv (.t 11)⟩,
                 ⟨(some 91), (some (89, true)), .bin .eql (.t 90) (.c (.int .i64 9))⟩,
                 ⟨(some 92), none, .pick (.t 89) (.t 91) (.c (.bool false))⟩,
                 ⟨(some 93), none, .mv (.t 92)⟩,
                 ⟨(some 94), (some (93, true)), .mv (.t 1)⟩,
                 ⟨(some 95), (some (93, true)), .call 15 [(.t 94)]⟩,
                 ⟨(some 96), (some (93, true)), .bin .eql (.t 95) (.c (.int .i64 16))⟩,
                 ⟨(some 97), none, .pick (.t 93) (.t 96) (.c (.bool false))⟩,
                 ⟨(some 98), none, .mv (.t 97)⟩,
                 ⟨(some 99), none, .pick (.t 98) (.c (.bool true)) (.c (.bool false))⟩,
                 ⟨(some 100), none, .mv (.t 99)⟩,
                 ⟨(some 101), none, .pick (.t 100) (.c (.bool true)) (.c (.bool false))⟩,
                 ⟨(some 102), none, .mv (.t 101)⟩,
                 ⟨(some 103), none, .pick (.t 102) (.c (.bool true)) (.c (.bool false))⟩,
                 ⟨(some 0), none, .mv (.t 103)⟩])
               (.ret)))))))))))))⟩
theorem ok3 : FnOk Try.prog 3 a3 := FnOk.of Try.prog Try.func3 (by kernel_rfl)
/-- jalousie/jalousielaw19.TreePlays -/
def a4 : AFn := ⟨68, [.tmp 4], .seq
   (.ops [⟨(some 2), none, .box 25 (.t 0)⟩,
     ⟨(some 4), none, .mv (.c (.bool false))⟩])
   (.seq
    (.seq
     (.ops [⟨(some 8), none, .call 14 []⟩,
       ⟨(some 9), none, .un .not (.t 8)⟩])
     (.cond (.t 9)
      (.seq
       (.ops [⟨(some 4), none, .mv (.c (.bool false))⟩])
       (.ret))
      (.skip)))
    (.seq
     (.seq
      (.ops [⟨(some 10), none, .mv (.t 1)⟩,
        ⟨(some 11), none, .lenL (.t 10)⟩,
        ⟨(some 12), none, .bin .gtr (.t 11) (.c (.int .i64 100))⟩])
      (.cond (.t 12)
       (.seq
        (.ops [⟨(some 4), none, .mv (.c (.bool true))⟩])
        (.ret))
       (.skip)))
     (.seq
      (.ops [⟨(some 13), none, .load (some 3) (.t 2)⟩,
        ⟨(some 14), none, .call 9 [(.t 13)]⟩,
        ⟨(some 5), none, .mv (.t 14)⟩])
      (.seq
       (.ops [⟨(some 15), none, .load (some 3) (.t 2)⟩,
         ⟨(some 16), none, .call 16 [(.t 15)]⟩,
         ⟨(some 6), none, .mv (.t 16)⟩])
       (.seq
        (.seq
         (.ops [⟨(some 7), none, .mv (.c (.int .i64 0))⟩])
         (.block 0 (.loop (.seq
            (.seq
             (.ops [⟨(some 17), none, .mv (.t 7)⟩,
               ⟨(some 18), none, .mv (.t 1)⟩,
               ⟨(some 19), none, .lenL (.t 18)⟩,
               ⟨(some 20), none, .bin .lss (.t 17) (.t 19)⟩])
             (.cond (.t 20)
              (.skip)
              (.exit 0)))
            (.seq
             (.block 1 (.seq
               (.draw [⟨⟨(some 23), none, .mv (.t 5)⟩, []⟩,
                 ⟨⟨(some 24), none, .mv (.t 6)⟩, []⟩,
                 ⟨⟨(some 25), none, .mv (.t 1)⟩, []⟩,
                 ⟨⟨(some 26), none, .mv (.t 7)⟩, []⟩,
                 ⟨⟨(some 27), none, .iaddrS 9 (.t 25) (.t 26)⟩, [2, 3]⟩,
                 ⟨⟨(some 28), none, .load (some 9) (.t 27)⟩, [4]⟩,
                 ⟨⟨(some 29), none, .call 17 [(.t 23), (.t 24), (.t 28)]⟩, [0, 1, 5]⟩,
                 ⟨⟨(some 30), none, .un .not (.t 29)⟩, [6]⟩,
                 ⟨⟨(some 31), none, .mv (.t 30)⟩, [7, 6]⟩,
                 ⟨⟨(some 32), (some (31, false)), .mv (.t 5)⟩, [8]⟩,
                 ⟨⟨(some 33), (some (31, false)), .mv (.t 1)⟩, [8]⟩,
                 ⟨⟨(some 34), (some (31, false)), .mv (.t 7)⟩, [8]⟩,
                 ⟨⟨(some 35), (some (31, false)), .iaddrS 9 (.t 33) (.t 34)⟩, [10, 11, 8]⟩,
                 ⟨⟨(some 36), (some (31, false)), .addr 1 (.t 35)⟩, [12, 8]⟩,
                 ⟨⟨(some 37), (some (31, false)), .load (some 3) (.t 36)⟩, [13, 8]⟩,
                 ⟨⟨(some 38), (some (31, false)), .call 18 [(.t 32), (.t 37)]⟩, [9, 14, 8, 8]⟩,
                 ⟨⟨(some 39), (some (31, false)), .mv (.t 6)⟩, [8]⟩,
                 ⟨⟨(some 40), (some (31, false)), .mv (.t 1)⟩, [8]⟩,
                 ⟨⟨(some 41), (some (31, false)), .mv (.t 7)⟩, [8]⟩,
                 ⟨⟨(some 42), (some (31, false)), .iaddrS 9 (.t 40) (.t 41)⟩, [17, 18, 8]⟩,
                 ⟨⟨(some 43), (some (31, false)), .addr 1 (.t 42)⟩, [19, 8]⟩,
                 ⟨⟨(some 44), (some (31, false)), .load (some 3) (.t 43)⟩, [20, 8]⟩,
                 ⟨⟨(some 45), (some (31, false)), .call 19 [(.t 39), (.t 44)]⟩, [16, 21, 15, 8]⟩,
                 ⟨⟨(some 46), (some (31, false)), .eq true 4 .bool (.t 38) (.t 45)⟩, [15, 22, 8]⟩,
                 ⟨⟨(some 47), none, .pick (.t 31) (.c (.bool true)) (.t 46)⟩, [8, 23]⟩,
                 ⟨⟨(some 48), none, .mv (.t 47)⟩, [24, 22]⟩,
                 ⟨⟨(some 49), (some (48, false)), .mv (.t 5)⟩, [25]⟩,
                 ⟨⟨(some 50), (some (48, false)), .mv (.t 1)⟩, [25]⟩,
                 ⟨⟨(some 51), (some (48, false)), .mv (.t 7)⟩, [25]⟩,
                 ⟨⟨(some 52), (some (48, false)), .iaddrS 9 (.t 50) (.t 51)⟩, [27, 28, 25]⟩,
                 ⟨⟨(some 53), (some (48, false)), .addr 4 (.t 52)⟩, [29, 25]⟩,
                 ⟨⟨(some 54), (some (48, false)), .load (some 3) (.t 53)⟩, [30, 25]⟩,
                 ⟨⟨(some 55), (some (48, false)), .call 18 [(.t 49), (.t 54)]⟩, [26, 31, 25, 25]⟩,
                 ⟨⟨(some 56), (some (48, false)), .mv (.t 6)⟩, [25]⟩,
                 ⟨⟨(some 57), (some (48, false)), .mv (.t 1)⟩, [25]⟩,
                 ⟨⟨(some 58), (some (48, false)), .mv (.t 7)⟩, [25]⟩,
                 ⟨⟨(some 59), (some (48, false)), .iaddrS 9 (.t 57) (.t 58)⟩, [34, 35, 25]⟩,
                 ⟨⟨(some 60), (some (48, false)), .addr 4 (.t 59)⟩, [36, 25]⟩,
                 ⟨⟨(some 61), (some (48, false)), .load (some 3) (.t 60)⟩, [37, 25]⟩,
                 ⟨⟨(some 62), (some (48, false)), .call 19 [(.t 56), (.t 61)]⟩, [33, 38, 32, 25]⟩,
                 ⟨⟨(some 63), (some (48, false)), .eq true 4 .bool (.t 55) (.t 62)⟩, [32, 39, 25]⟩,
                 ⟨⟨(some 64), none, .pick (.t 48) (.c (.bool true)) (.t 63)⟩, [25, 40]⟩] [0, 0, 0, 0, 12, 28, 63, 127, 255, 511, 511, 511, 3583, 7679, 15871, 32767, 511, 511, 511, 393727, 918015, 1966591, 4194303, 8388607, 16777215, 33554431, 67108863, 67108863, 67108863, 469762047, 1006632959, 2080374783, 4294967295, 67108863, 67108863, 67108863, 51606716415, 120326193151, 257765146623, 549755813887, 1099511627775, 2199023255551])
               (.cond (.t 64)
                (.seq
                 (.ops [⟨(some 4), none, .mv (.c (.bool false))⟩])
                 (.ret))
                (.skip))))
             (.ops [⟨(some 21), none, .mv (.t 7)⟩,
               ⟨(some 22), none, .bin .add (.t 21) (.c (.int .i64 1))⟩,
               ⟨(some 7), none, .mv (.t 22)⟩]))))))
        (.seq
         (.ops [⟨(some 65), none, .mv (.t 5)⟩,
           ⟨(some 66), none, .mv (.t 6)⟩,
           ⟨(some 67), none, .call 20 [(.t 65), (.t 66)]⟩,
           ⟨(some 4), none, .mv (.t 67)⟩])
         (.ret)))))))⟩
theorem ok4 : FnOk Try.prog 4 a4 := FnOk.of Try.prog Try.func4 (by kernel_rfl)
/-- jalousie/jalousielaw19.TreeNext -/
def a5 : AFn := ⟨92, [.tmp 8], .seq
   (.ops [⟨(some 4), none, .box 25 (.t 0)⟩,
     ⟨(some 6), none, .box 25 (.t 2)⟩,
     ⟨(some 8), none, .mv (.c (.bool false))⟩])
   (.seq
    (.seq
     (.ops [⟨(some 17), none, .call 14 []⟩,
       ⟨(some 18), none, .un .not (.t 17)⟩])
     (.cond (.t 18)
      (.seq
       (.ops [⟨(some 8), none, .mv (.c (.bool false))⟩])
       (.ret))
      (.skip)))
    (.seq
     (.seq
      (.ops [⟨(some 19), none, .mv (.t 1)⟩,
        ⟨(some 20), none, .lenL (.t 19)⟩,
        ⟨(some 21), none, .bin .gtr (.t 20) (.c (.int .i64 100))⟩])
      (.cond (.t 21)
       (.seq
        (.ops [⟨(some 8), none, .mv (.c (.bool true))⟩])
        (.ret))
       (.skip)))
     (.seq
      (.ops [⟨(some 22), none, .load (some 3) (.t 4)⟩,
        ⟨(some 23), none, .call 9 [(.t 22)]⟩,
        ⟨(some 9), none, .mv (.t 23)⟩])
      (.seq
       (.ops [⟨(some 24), none, .load (some 3) (.t 4)⟩,
         ⟨(some 25), none, .call 16 [(.t 24)]⟩,
         ⟨(some 10), none, .mv (.t 25)⟩])
       (.seq
        (.seq
         (.ops [⟨(some 11), none, .mv (.c (.int .i64 0))⟩])
         (.block 0 (.loop (.seq
            (.seq
             (.ops [⟨(some 26), none, .mv (.t 11)⟩,
               ⟨(some 27), none, .mv (.t 1)⟩,
               ⟨(some 28), none, .lenL (.t 27)⟩,
               ⟨(some 29), none, .bin .lss (.t 26) (.t 28)⟩])
             (.cond (.t 29)
              (.skip)
              (.exit 0)))
            (.seq
             (.block 1 (.seq
               (.ops [⟨(some 32), none, .mv (.t 9)⟩,
                 ⟨(some 33), none, .mv (.t 10)⟩,
                 ⟨(some 34), none, .mv (.t 1)⟩,
                 ⟨(some 35), none, .mv (.t 11)⟩,
                 ⟨(some 36), none, .iaddrS 9 (.t 34) (.t 35)⟩,
                 ⟨(some 37), none, .load (some 9) (.t 36)⟩,
                 ⟨(some 38), none, .call 17 [(.t 32), (.t 33), (.t 37)]⟩,
                 ⟨(some 39), none, .un .not (.t 38)⟩])
               (.cond (.t 39)
                (.seq
                 (.ops [⟨(some 8), none, .mv (.c (.bool false))⟩])
                 (.ret))
                (.skip))))
             (.ops [⟨(some 30), none, .mv (.t 11)⟩,
               ⟨(some 31), none, .bin .add (.t 30) (.c (.int .i64 1))⟩,
               ⟨(some 11), none, .mv (.t 31)⟩]))))))
        (.seq
         (.ops [⟨(some 40), none, .mv (.t 10)⟩,
           ⟨(some 41), none, .nilck (.t 40)⟩,
           ⟨(some 42), none, .addr 0 (.t 41)⟩,
           ⟨(some 43), none, .load none (.t 42)⟩,
           ⟨(some 44), none, .call 21 [(.t 43)]⟩,
           ⟨(some 12), none, .mv (.t 44)⟩])
         (.seq
          (.ops [⟨(some 46), none, .mv (.t 9)⟩,
            ⟨(some 47), none, .load (some 3) (.t 6)⟩,
            ⟨(some 48), none, .mv (.t 3)⟩,
            ⟨(some 49), none, .call 22 [(.t 46), (.t 47), (.t 48)]⟩,
            ⟨(some 45), none, .mv (.t 49)⟩,
            ⟨(some 50), none, .ext (.t 45) 0⟩,
            ⟨(some 51), none, .ext (.t 45) 1⟩,
            ⟨(some 13), none, .alloc 25 [(.int .i64 0), (.int .i64 0), (.int .i64 0)]⟩,
            ⟨none, none, .store 3 (.t 13) (.t 50)⟩,
            ⟨(some 14), none, .mv (.t 51)⟩])
          (.seq
           (.seq
            (.ops [⟨(some 15), none, .mv (.c (.int .i64 0))⟩])
            (.block 2 (.loop (.seq
               (.seq
                (.ops [⟨(some 52), none, .mv (.t 15)⟩,
                  ⟨(some 53), none, .mv (.t 12)⟩,
                  ⟨(some 54), none, .lenL (.t 53)⟩,
                  ⟨(some 55), none, .bin .lss (.t 52) (.t 54)⟩])
                (.cond (.t 55)
                 (.skip)
                 (.exit 2)))
               (.seq
                (.block 3 (.seq
                  (.draw [⟨⟨(some 58), none, .mv (.t 12)⟩, []⟩,
                    ⟨⟨(some 59), none, .mv (.t 15)⟩, []⟩,
                    ⟨⟨(some 60), none, .iaddrS 3 (.t 58) (.t 59)⟩, [0, 1]⟩,
                    ⟨⟨(some 61), none, .load (some 3) (.t 60)⟩, [2]⟩,
                    ⟨⟨(some 62), none, .load (some 3) (.t 6)⟩, []⟩,
                    ⟨⟨(some 63), none, .eq false 25 (.struct #[⟨"Label", 3, 0, false, "", "", 0⟩, ⟨"Home", 3, 1, false, "", "", 8⟩, ⟨"N", 3, 2, false, "", "", 16⟩]) (.t 61) (.t 62)⟩, [3, 4]⟩] [0, 0, 3, 7, 0, 31])
                  (.cond (.t 63)
                   (.seq
                    (.ops [⟨(some 64), none, .mv (.t 15)⟩,
                      ⟨(some 65), none, .mv (.t 3)⟩,
                      ⟨(some 66), none, .mv (.t 12)⟩,
                      ⟨(some 67), none, .lenL (.t 66)⟩,
                      ⟨(some 68), none, .bin .rem (.t 65) (.t 67)⟩,
                      ⟨(some 69), none, .bin .add (.t 64) (.t 68)⟩,
                      ⟨(some 70), none, .mv (.t 12)⟩,
                      ⟨(some 71), none, .lenL (.t 70)⟩,
                      ⟨(some 72), none, .bin .add (.t 69) (.t 71)⟩,
                      ⟨(some 73), none, .mv (.t 12)⟩,
                      ⟨(some 74), none, .lenL (.t 73)⟩,
                      ⟨(some 75), none, .bin .rem (.t 72) (.t 74)⟩,
                      ⟨(some 16), none, .mv (.t 75)⟩])
                    (.seq
                     (.draw [⟨⟨(some 76), none, .mv (.t 14)⟩, []⟩,
                       ⟨⟨(some 77), none, .mv (.t 76)⟩, [0]⟩,
                       ⟨⟨(some 78), (some (77, true)), .load (some 3) (.t 13)⟩, [1]⟩,
                       ⟨⟨(some 79), (some (77, true)), .mv (.t 12)⟩, [1]⟩,
                       ⟨⟨(some 80), (some (77, true)), .mv (.t 16)⟩, [1]⟩,
                       ⟨⟨(some 81), (some (77, true)), .iaddrS 3 (.t 79) (.t 80)⟩, [3, 4, 1]⟩,
                       ⟨⟨(some 82), (some (77, true)), .load (some 3) (.t 81)⟩, [5, 1]⟩,
                       ⟨⟨(some 83), (some (77, true)), .eq false 25 (.struct #[⟨"Label", 3, 0, false, "", "", 0⟩, ⟨"Home", 3, 1, false, "", "", 8⟩, ⟨"N", 3, 2, false, "", "", 16⟩]) (.t 78) (.t 82)⟩, [2, 6, 1]⟩,
                       ⟨⟨(some 84), none, .pick (.t 77) (.t 83) (.c (.bool false))⟩, [1, 7]⟩,
                       ⟨⟨(some 8), none, .mv (.t 84)⟩, [8, 1, 0, 1, 2, 3, 4, 5, 6, 7, 8]⟩] [0, 1, 3, 3, 3, 27, 59, 127, 255, 511])
                     (.ret)))
                   (.skip))))
                (.ops [⟨(some 56), none, .mv (.t 15)⟩,
                  ⟨(some 57), none, .bin .add (.t 56) (.c (.int .i64 1))⟩,
                  ⟨(some 15), none, .mv (.t 57)⟩]))))))
           (.seq
            (.ops [⟨(some 85), none, .mv (.t 14)⟩,
              ⟨(some 86), none, .un .not (.t 85)⟩,
              ⟨(some 87), none, .mv (.t 86)⟩,
              ⟨(some 88), (some (87, true)), .load (some 3) (.t 13)⟩,
              ⟨(some 89), (some (87, true)), .build [(.int .i64 0), (.int .i64 0), (.int .i64 0)] [(0, 1), (1, 1), (2, 1)] []⟩,
              ⟨(some 90), (some (87, true)), .eq false 25 (.struct #[⟨"Label", 3, 0, false, "", "", 0⟩, ⟨"Home", 3, 1, false, "", "", 8⟩, ⟨"N", 3, 2, false, "", "", 16⟩]) (.t 88) (.t 89)⟩,
              ⟨(some 91), none, .pick (.t 87) (.t 90) (.c (.bool false))⟩,
              ⟨(some 8), none, .mv (.t 91)⟩])
            (.ret))))))))))⟩
theorem ok5 : FnOk Try.prog 5 a5 := FnOk.of Try.prog Try.func5 (by kernel_rfl)
/-- jalousie/jalousielaw19.TreeNobody -/
def a6 : AFn := ⟨115, [.cell 6 none], .seq
   (.ops [⟨(some 3), none, .box 25 (.t 0)⟩,
     ⟨(some 4), none, .box 25 (.t 1)⟩,
     ⟨(some 6), none, .alloc 4 [(.bool false)]⟩])
   (.seq
    (.seq
     (.ops [⟨(some 13), none, .call 14 []⟩,
       ⟨(some 14), none, .un .not (.t 13)⟩])
     (.cond (.t 14)
      (.seq
       (.ops [⟨none, none, .store 1 (.t 6) (.c (.bool false))⟩])
       (.ret))
      (.skip)))
    (.seq
     (.ops [⟨(some 7), none, .mv (.c .nilptr)⟩])
     (.seq
      (.seq
       (.ops [⟨(some 15), none, .mv (.t 7)⟩,
         ⟨(some 16), none, .call 23 [(.t 15)]⟩,
         ⟨(some 17), none, .eq false 51 (.func #[39] #[] false) (.t 16) (.c .nilfn)⟩])
       (.cond (.t 17)
        (.seq
         (.ops [⟨none, none, .store 1 (.t 6) (.c (.bool false))⟩])
         (.ret))
        (.skip)))
      (.seq
       (.seq
        (.ops [⟨(some 18), none, .mv (.t 7)⟩,
          ⟨(some 19), none, .call 23 [(.t 18)]⟩])
        (.block 0 (.rangeF (.t 19) [20]
          (.skip)
          (.block 1 (.seq
            (.ops [⟨none, none, .store 1 (.t 6) (.c (.bool false))⟩])
            (.ret))))))
       (.seq
        (.ops [⟨(some 22), none, .mv (.t 7)⟩,
          ⟨(some 23), none, .mv (.t 2)⟩,
          ⟨(some 24), none, .call 24 [(.t 22), (.t 23)]⟩,
          ⟨(some 21), none, .mv (.t 24)⟩,
          ⟨(some 25), none, .ext (.t 21) 0⟩,
          ⟨(some 26), none, .ext (.t 21) 1⟩,
          ⟨(some 8), none, .alloc 54 [(.int .i64 0), (.int .i64 0), (.int .i64 0), (.int .i64 0), (.int .i64 0), (.int .i64 0), (.int .i64 0)]⟩,
          ⟨none, none, .store 7 (.t 8) (.t 25)⟩,
          ⟨(some 9), none, .mv (.t 26)⟩])
        (.seq
         (.ops [⟨(some 28), none, .mv (.t 7)⟩,
           ⟨(some 29), none, .load (some 3) (.t 3)⟩,
           ⟨(some 30), none, .mv (.t 2)⟩,
           ⟨(some 31), none, .call 22 [(.t 28), (.t 29), (.t 30)]⟩,
           ⟨(some 27), none, .mv (.t 31)⟩,
           ⟨(some 32), none, .ext (.t 27) 0⟩,
           ⟨(some 33), none, .ext (.t 27) 1⟩,
           ⟨(some 10), none, .alloc 25 [(.int .i64 0), (.int .i64 0), (.int .i64 0)]⟩,
           ⟨none, none, .store 3 (.t 10) (.t 32)⟩,
           ⟨(some 11), none, .mv (.t 33)⟩])
         (.seq
          (.seq
           (.ops [⟨(some 34), none, .mv (.t 7)⟩,
             ⟨(some 35), none, .load (some 3) (.t 3)⟩,
             ⟨(some 36), none, .load (some 3) (.t 4)⟩,
             ⟨(some 37), none, .mv (.t 2)⟩,
             ⟨(some 38), none, .mv (.t 2)⟩,
             ⟨(some 39), none, .call 11 [(.t 34), (.t 35), (.t 36), (.t 37), (.t 38)]⟩,
             ⟨(some 40), none, .bin .neq (.t 39) (.c (.int .i64 2))⟩,
             ⟨(some 41), none, .mv (.t 40)⟩,
             ⟨(some 42), (some (41, false)), .mv (.t 7)⟩,
             ⟨(some 43), (some (41, false)), .load (some 3) (.t 3)⟩,
             ⟨(some 44), (some (41, false)), .call 12 [(.t 42), (.t 43)]⟩,
             ⟨(some 45), (some (41, false)), .bin .neq (.t 44) (.c (.int .i64 2))⟩,
             ⟨(some 46), none, .pick (.t 41) (.c (.bool true)) (.t 45)⟩,
             ⟨(some 47), none, .mv (.t 46)⟩,
             ⟨(some 48), (some (47, false)), .mv (.t 7)⟩,
             ⟨(some 49), (some (47, false)), .load (some 3) (.t 3)⟩,
             ⟨(some 50), (some (47, false)), .load (some 3) (.t 4)⟩,
             ⟨(some 51), (some (47, false)), .call 25 [(.t 48), (.t 49), (.t 50)]⟩,
             ⟨(some 52), (some (47, false)), .bin .neq (.t 51) (.c (.int .i64 2))⟩,
             ⟨(some 53), none, .pick (.t 47) (.c (.bool true)) (.t 52)⟩,
             ⟨(some 54), none, .mv (.t 53)⟩,
             ⟨(some 55), (some (54, false)), .mv (.t 7)⟩,
             ⟨(some 56), (some (54, false)), .load (some 3) (.t 3)⟩,
             ⟨(some 57), (some (54, false)), .mv (.t 2)⟩,
             ⟨(some 58), (some (54, false)), .mv (.t 2)⟩,
             ⟨(some 59), (some (54, false)), .call 13 [(.t 55), (.t 56), (.t 57), (.t 58)]⟩,
             ⟨(some 60), (some (54, false)), .bin .neq (.t 59) (.c (.int .i64 2))⟩,
             ⟨(some 61), none, .pick (.t 54) (.c (.bool true)) (.t 60)⟩,
             ⟨(some 62), none, .mv (.t 61)⟩,
             ⟨(some 63), (some (62, false)), .mv (.t 9)⟩,
             ⟨(some 64), none, .pick (.t 62) (.c (.bool true)) (.t 63)⟩,
             ⟨(some 65), none, .mv (.t 64)⟩,
             ⟨(some 66), (some (65, false)), .mv (.t 11)⟩,
             ⟨(some 67), none, .pick (.t 65) (.c (.bool true)) (.t 66)⟩,
             ⟨(some 68), none, .mv (.t 67)⟩,
             ⟨(some 69), (some (68, false)), .mv (.t 7)⟩,
             ⟨(some 70), (some (68, false)), .call 15 [(.t 69)]⟩,
             ⟨(some 71), (some (68, false)), .bin .neq (.t 70) (.c (.int .i64 0))⟩,
             ⟨(some 72), none, .pick (.t 68) (.c (.bool true)) (.t 71)⟩,
             ⟨(some 73), none, .mv (.t 72)⟩,
             ⟨(some 74), (some (73, false)), .mv (.t 7)⟩,
             ⟨(some 75), (some (73, false)), .load (some 3) (.t 3)⟩,
             ⟨(some 76), (some (73, false)), .call 18 [(.t 74), (.t 75)]⟩,
             ⟨(some 77), none, .pick (.t 73) (.c (.bool true)) (.t 76)⟩])
           (.cond (.t 77)
            (.seq
             (.ops [⟨none, none, .store 1 (.t 6) (.c (.bool false))⟩])
             (.ret))
            (.skip)))
          (.seq
           (.ops [⟨(some 78), none, .build [.nilslice] [(0, 1)] []⟩,
             ⟨(some 79), none, .box 60 (.t 78)⟩,
             ⟨(some 12), none, .mv (.t 79)⟩])
           (.seq
            (.draw [⟨⟨(some 80), none, .mv (.t 12)⟩, []⟩,
              ⟨⟨(some 81), none, .call 15 [(.t 80)]⟩, [0]⟩,
              ⟨⟨(some 82), none, .bin .eql (.t 81) (.c (.int .i64 1))⟩, [1]⟩,
              ⟨⟨(some 83), none, .mv (.t 82)⟩, [2, 1]⟩,
              ⟨⟨(some 84), (some (83, true)), .mv (.t 12)⟩, [3]⟩,
              ⟨⟨(some 85), (some (83, true)), .build [(.int .i64 0), (.int .i64 0), (.int .i64 0)] [(0, 1), (1, 1), (2, 1)] []⟩, [3]⟩,
              ⟨⟨(some 86), (some (83, true)), .call 18 [(.t 84), (.t 85)]⟩, [4, 5, 3, 3]⟩,
              ⟨⟨(some 87), none, .pick (.t 83) (.t 86) (.c (.bool false))⟩, [3, 6]⟩,
              ⟨⟨(some 88), none, .mv (.t 87)⟩, [7, 6]⟩,
              ⟨⟨(some 89), (some (88, true)), .mv (.t 12)⟩, [8]⟩,
              ⟨⟨(some 90), (some (88, true)), .load (some 3) (.t 3)⟩, [8]⟩,
              ⟨⟨(some 91), (some (88, true)), .call 18 [(.t 89), (.t 90)]⟩, [9, 10, 8, 8]⟩,
              ⟨⟨(some 92), (some (88, true)), .load (some 3) (.t 3)⟩, [8]⟩,
              ⟨⟨(some 93), (some (88, true)), .build [(.int .i64 0), (.int .i64 0), (.int .i64 0)] [(0, 1), (1, 1), (2, 1)] []⟩, [8]⟩,
              ⟨⟨(some 94), (some (88, true)), .eq false 25 (.struct #[⟨"Label", 3, 0, false, "", "", 0⟩, ⟨"Home", 3, 1, false, "", "", 8⟩, ⟨"N", 3, 2, false, "", "", 16⟩]) (.t 92) (.t 93)⟩, [12, 13, 8]⟩,
              ⟨⟨(some 95), (some (88, true)), .eq false 4 .bool (.t 91) (.t 94)⟩, [11, 14, 8]⟩,
              ⟨⟨(some 96), none, .pick (.t 88) (.t 95) (.c (.bool false))⟩, [8, 15]⟩,
              ⟨⟨(some 97), none, .mv (.t 96)⟩, [16, 11]⟩,
              ⟨⟨(some 98), (some (97, true)), .mv (.t 12)⟩, [17]⟩,
              ⟨⟨(some 99), (some (97, true)), .build [(.int .i64 0), (.int .i64 0), (.int .i64 0)] [(0, 1), (1, 1), (2, 1)] []⟩, [17]⟩,
              ⟨⟨(some 100), (some (97, true)), .call 12 [(.t 98), (.t 99)]⟩, [18, 19, 17, 17]⟩,
              ⟨⟨(some 101), (some (97, true)), .bin .eql (.t 100) (.c (.int .i64 9))⟩, [20, 17]⟩,
              ⟨⟨(some 102), none, .pick (.t 97) (.t 101) (.c (.bool false))⟩, [17, 21]⟩,
              ⟨⟨(some 103), none, .mv (.t 102)⟩, [22, 20]⟩,
              ⟨⟨(some 104), (some (103, true)), .mv (.t 12)⟩, [23]⟩,
              ⟨⟨(some 105), (some (103, true)), .build [(.int .i64 0), (.int .i64 0), (.int .i64 0)] [(0, 1), (1, 1), (2, 1)] []⟩, [23]⟩,
              ⟨⟨(some 106), (some (103, true)), .call 10 [(.c (.int .i64 7))]⟩, [23, 23]⟩,
              ⟨⟨(some 107), (some (103, true)), .call 11 [(.t 104), (.t 105), (.t 106), (.c (.int .i64 2)), (.c (.int .i64 9))]⟩, [24, 25, 26, 26, 23]⟩,
              ⟨⟨(some 108), (some (103, true)), .bin .eql (.t 107) (.c (.int .i64 0))⟩, [27, 23]⟩,
              ⟨⟨(some 109), none, .pick (.t 103) (.t 108) (.c (.bool false))⟩, [23, 28]⟩,
              ⟨⟨(some 110), none, .mv (.t 109)⟩, [29, 27]⟩,
              ⟨⟨(some 111), (some (110, true)), .mv (.t 12)⟩, [30]⟩,
              ⟨⟨(some 112), (some (110, true)), .call 15 [(.t 111)]⟩, [31, 30, 30]⟩,
              ⟨⟨(some 113), (some (110, true)), .bin .eql (.t 112) (.c (.int .i64 2))⟩, [32, 30]⟩,
              ⟨⟨(some 114), none, .pick (.t 110) (.t 113) (.c (.bool false))⟩, [30, 33]⟩,
              ⟨⟨none, none, .store 1 (.t 6) (.t 114)⟩, [34, 32, 0, 1, 2, 3, 4, 5, 6, 7, 8, 9, 10, 11, 12, 13, 14, 15, 16, 17, 18, 19, 20, 21, 22, 23, 24, 25, 26, 27, 28, 29, 30, 31, 32, 33, 34]⟩] [0, 1, 3, 7, 15, 15, 63, 127, 255, 511, 511, 2047, 511, 511, 12799, 32767, 65535, 131071, 262143, 262143, 1048575, 2097151, 4194303, 8388607, 16777215, 16777215, 16777215, 134217727, 268435455, 536870911, 1073741823, 2147483647, 4294967295, 8589934591, 17179869183, 34359738367])
            (.ret))))))))))⟩
theorem ok6 : FnOk Try.prog 6 a6 := FnOk.of Try.prog Try.func6 (by kernel_rfl)
/-- jalousie/jalousielaw19.TreeBack -/
def a7 : AFn := ⟨139, [.tmp 12], .seq
   (.ops [⟨(some 6), none, .box 25 (.t 0)⟩,
     ⟨(some 8), none, .box 25 (.t 2)⟩,
     ⟨(some 9), none, .box 25 (.t 3)⟩,
     ⟨(some 12), none, .mv (.c (.bool false))⟩])
   (.seq
    (.seq
     (.ops [⟨(some 22), none, .call 14 []⟩,
       ⟨(some 23), none, .un .not (.t 22)⟩])
     (.cond (.t 23)
      (.seq
       (.ops [⟨(some 12), none, .mv (.c (.bool false))⟩])
       (.ret))
      (.skip)))
    (.seq
     (.seq
      (.ops [⟨(some 24), none, .mv (.t 1)⟩,
        ⟨(some 25), none, .lenL (.t 24)⟩,
        ⟨(some 26), none, .bin .gtr (.t 25) (.c (.int .i64 100))⟩])
      (.cond (.t 26)
       (.seq
        (.ops [⟨(some 12), none, .mv (.c (.bool true))⟩])
        (.ret))
       (.skip)))
     (.seq
      (.ops [⟨(some 27), none, .load (some 3) (.t 6)⟩,
        ⟨(some 28), none, .mv (.t 1)⟩,
        ⟨(some 29), none, .call 26 [(.t 27), (.t 28)]⟩,
        ⟨(some 13), none, .mv (.t 29)⟩])
      (.seq
       (.ops [⟨(some 30), none, .mv (.t 13)⟩,
         ⟨(some 31), none, .call 27 [(.t 30)]⟩,
         ⟨(some 14), none, .mv (.t 31)⟩])
       (.seq
        (.ops [⟨(some 15), none, .mv (.c (.int .i64 0))⟩])
        (.seq
         (.ops [⟨(some 32), none, .mv (.t 13)⟩,
           ⟨(some 33), none, .call 28 [(.t 32)]⟩,
           ⟨(some 16), none, .mv (.t 33)⟩])
         (.seq
          (.seq
           (.ops [⟨(some 17), none, .mv (.c (.int .i64 0))⟩])
           (.block 0 (.loop (.seq
              (.seq
               (.ops [⟨(some 34), none, .mv (.t 17)⟩,
                 ⟨(some 35), none, .mv (.t 14)⟩,
                 ⟨(some 36), none, .lenL (.t 35)⟩,
                 ⟨(some 37), none, .bin .lss (.t 34) (.t 36)⟩])
               (.cond (.t 37)
                (.skip)
                (.exit 0)))
              (.seq
               (.block 1 (.seq
                 (.ops [⟨(some 40), none, .mv (.t 14)⟩,
                   ⟨(some 41), none, .mv (.t 17)⟩,
                   ⟨(some 42), none, .iaddrS 7 (.t 40) (.t 41)⟩,
                   ⟨(some 43), none, .addr 0 (.t 42)⟩,
                   ⟨(some 44), none, .load none (.t 43)⟩,
                   ⟨(some 45), none, .bin .eql (.t 44) (.c (.int .i64 0))⟩])
                 (.cond (.t 45)
                  (.ops [⟨(some 46), none, .mv (.t 15)⟩,
                    ⟨(some 47), none, .bin .add (.t 46) (.c (.int .i64 1))⟩,
                    ⟨(some 15), none, .mv (.t 47)⟩])
                  (.skip))))
               (.ops [⟨(some 38), none, .mv (.t 17)⟩,
                 ⟨(some 39), none, .bin .add (.t 38) (.c (.int .i64 1))⟩,
                 ⟨(some 17), none, .mv (.t 39)⟩]))))))
          (.seq
           (.seq
            (.ops [⟨(some 48), none, .mv (.t 15)⟩,
              ⟨(some 49), none, .bin .mul (.c (.int .i64 2)) (.t 48)⟩,
              ⟨(some 50), none, .mv (.t 14)⟩,
              ⟨(some 51), none, .lenL (.t 50)⟩,
              ⟨(some 52), none, .bin .add (.t 51) (.c (.int .i64 1))⟩,
              ⟨(some 53), none, .bin .neq (.t 49) (.t 52)⟩,
              ⟨(some 54), none, .mv (.t 53)⟩,
              ⟨(some 55), (some (54, false)), .mv (.t 15)⟩,
              ⟨(some 56), (some (54, false)), .mv (.t 16)⟩,
              ⟨(some 57), (some (54, false)), .lenL (.t 56)⟩,
              ⟨(some 58), (some (54, false)), .bin .neq (.t 55) (.t 57)⟩,
              ⟨(some 59), none, .pick (.t 54) (.c (.bool true)) (.t 58)⟩,
              ⟨(some 60), none, .mv (.t 59)⟩,
              ⟨(some 61), (some (60, false)), .mv (.t 15)⟩,
              ⟨(some 62), (some (60, false)), .bin .gtr (.t 61) (.c (.int .i64 16))⟩,
              ⟨(some 63), none, .pick (.t 60) (.c (.bool true)) (.t 62)⟩])
            (.cond (.t 63)
             (.seq
              (.ops [⟨(some 12), none, .mv (.c (.bool false))⟩])
              (.ret))
             (.skip)))
           (.seq
            (.seq
             (.ops [⟨(some 18), none, .mv (.c (.int .i64 0))⟩])
             (.block 2 (.loop (.seq
                (.seq
                 (.ops [⟨(some 64), none, .mv (.t 18)⟩,
                   ⟨(some 65), none, .mv (.t 16)⟩,
                   ⟨(some 66), none, .lenL (.t 65)⟩,
                   ⟨(some 67), none, .bin .lss (.t 64) (.t 66)⟩])
                 (.cond (.t 67)
                  (.skip)
                  (.exit 2)))
                (.seq
                 (.block 3 (.seq
                   (.ops [⟨(some 19), none, .mv (.c (.int .i64 0))⟩])
                   (.block 4 (.loop (.seq
                      (.seq
                       (.ops [⟨(some 70), none, .mv (.t 19)⟩,
                         ⟨(some 71), none, .mv (.t 18)⟩,
                         ⟨(some 72), none, .bin .lss (.t 70) (.t 71)⟩])
                       (.cond (.t 72)
                        (.skip)
                        (.exit 4)))
                      (.seq
                       (.block 5 (.seq
                         (.draw [⟨⟨(some 75), none, .mv (.t 16)⟩, []⟩,
                           ⟨⟨(some 76), none, .mv (.t 18)⟩, []⟩,
                           ⟨⟨(some 77), none, .iaddrS 3 (.t 75) (.t 76)⟩, [0, 1]⟩,
                           ⟨⟨(some 78), none, .load (some 3) (.t 77)⟩, [2]⟩,
                           ⟨⟨(some 79), none, .mv (.t 16)⟩, []⟩,
                           ⟨⟨(some 80), none, .mv (.t 19)⟩, []⟩,
                           ⟨⟨(some 81), none, .iaddrS 3 (.t 79) (.t 80)⟩, [4, 5]⟩,
                           ⟨⟨(some 82), none, .load (some 3) (.t 81)⟩, [6]⟩,
                           ⟨⟨(some 83), none, .eq false 25 (.struct #[⟨"Label", 3, 0, false, "", "", 0⟩, ⟨"Home", 3, 1, false, "", "", 8⟩, ⟨"N", 3, 2, false, "", "", 16⟩]) (.t 78) (.t 82)⟩, [3, 7]⟩] [0, 0, 3, 7, 0, 0, 48, 112, 255])
                         (.cond (.t 83)
                          (.seq
                           (.ops [⟨(some 12), none, .mv (.c (.bool false))⟩])
                           (.ret))
                          (.skip))))
                       (.ops [⟨(some 73), none, .mv (.t 19)⟩,
                         ⟨(some 74), none, .bin .add (.t 73) (.c (.int .i64 1))⟩,
                         ⟨(some 19), none, .mv (.t 74)⟩])))))))
                 (.ops [⟨(some 68), none, .mv (.t 18)⟩,
                   ⟨(some 69), none, .bin .add (.t 68) (.c (.int .i64 1))⟩,
                   ⟨(some 18), none, .mv (.t 69)⟩]))))))
            (.seq
             (.seq
              (.ops [⟨(some 84), none, .mv (.t 13)⟩,
                ⟨(some 85), none, .load (some 3) (.t 8)⟩,
                ⟨(some 86), none, .load (some 3) (.t 9)⟩,
                ⟨(some 87), none, .mv (.t 4)⟩,
                ⟨(some 88), none, .mv (.t 5)⟩,
                ⟨(some 89), none, .call 11 [(.t 84), (.t 85), (.t 86), (.t 87), (.t 88)]⟩,
                ⟨(some 90), none, .bin .eql (.t 89) (.c (.int .i64 0))⟩])
              (.cond (.t 90)
               (.seq
                (.ops [⟨(some 91), none, .mv (.t 13)⟩,
                  ⟨(some 92), none, .call 15 [(.t 91)]⟩,
                  ⟨(some 93), none, .mv (.t 15)⟩,
                  ⟨(some 94), none, .bin .add (.t 93) (.c (.int .i64 1))⟩,
                  ⟨(some 95), none, .bin .neq (.t 92) (.t 94)⟩,
                  ⟨(some 96), none, .mv (.t 95)⟩,
                  ⟨(some 97), (some (96, false)), .mv (.t 13)⟩,
                  ⟨(some 98), (some (96, false)), .load (some 3) (.t 9)⟩,
                  ⟨(some 99), (some (96, false)), .call 18 [(.t 97), (.t 98)]⟩,
                  ⟨(some 100), (some (96, false)), .un .not (.t 99)⟩,
                  ⟨(some 101), none, .pick (.t 96) (.c (.bool true)) (.t 100)⟩,
                  ⟨(some 102), none, .mv (.t 101)⟩,
                  ⟨(some 103), (some (102, false)), .mv (.t 13)⟩,
                  ⟨(some 104), (some (102, false)), .load (some 3) (.t 9)⟩,
                  ⟨(some 105), (some (102, false)), .call 12 [(.t 103), (.t 104)]⟩,
                  ⟨(some 106), (some (102, false)), .bin .neq (.t 105) (.c (.int .i64 0))⟩,
                  ⟨(some 107), none, .pick (.t 102) (.c (.bool true)) (.t 106)⟩])
                (.cond (.t 107)
                 (.seq
                  (.ops [⟨(some 12), none, .mv (.c (.bool false))⟩])
                  (.ret))
                 (.skip)))
               (.skip)))
             (.seq
              (.seq
               (.draw [⟨⟨(some 108), none, .mv (.t 13)⟩, []⟩,
                 ⟨⟨(some 109), none, .load (some 3) (.t 8)⟩, []⟩,
                 ⟨⟨(some 110), none, .load (some 3) (.t 9)⟩, []⟩,
                 ⟨⟨(some 111), none, .call 25 [(.t 108), (.t 109), (.t 110)]⟩, [0, 1, 2]⟩,
                 ⟨⟨(some 112), none, .mv (.t 13)⟩, []⟩,
                 ⟨⟨(some 113), none, .load (some 3) (.t 8)⟩, []⟩,
                 ⟨⟨(some 114), none, .load (some 3) (.t 9)⟩, []⟩,
                 ⟨⟨(some 115), none, .call 25 [(.t 112), (.t 113), (.t 114)]⟩, [4, 5, 6, 3]⟩,
                 ⟨⟨(some 116), none, .bin .neq (.t 111) (.t 115)⟩, [3, 7]⟩] [0, 0, 0, 7, 0, 0, 0, 127, 255])
               (.cond (.t 116)
                (.seq
                 (.ops [⟨(some 12), none, .mv (.c (.bool false))⟩])
                 (.ret))
                (.skip)))
              (.seq
               (.ops [⟨(some 117), none, .mv (.t 13)⟩,
                 ⟨(some 118), none, .call 27 [(.t 117)]⟩,
                 ⟨(some 20), none, .mv (.t 118)⟩])
               (.seq
                (.seq
                 (.ops [⟨(some 119), none, .mv (.t 20)⟩,
                   ⟨(some 120), none, .lenL (.t 119)⟩,
                   ⟨(some 121), none, .mv (.t 14)⟩,
                   ⟨(some 122), none, .lenL (.t 121)⟩,
                   ⟨(some 123), none, .bin .neq (.t 120) (.t 122)⟩])
                 (.cond (.t 123)
                  (.seq
                   (.ops [⟨(some 12), none, .mv (.c (.bool false))⟩])
                   (.ret))
                  (.skip)))
                (.seq
                 (.seq
                  (.ops [⟨(some 21), none, .mv (.c (.int .i64 0))⟩])
                  (.block 6 (.loop (.seq
                     (.seq
                      (.ops [⟨(some 124), none, .mv (.t 21)⟩,
                        ⟨(some 125), none, .mv (.t 20)⟩,
                        ⟨(some 126), none, .lenL (.t 125)⟩,
                        ⟨(some 127), none, .bin .lss (.t 124) (.t 126)⟩])
                      (.cond (.t 127)
                       (.skip)
                       (.exit 6)))
                     (.seq
                      (.block 7 (.seq
                        (.draw [⟨⟨(some 130), none, .mv (.t 20)⟩, []⟩,
                          ⟨⟨(some 131), none, .mv (.t 21)⟩, []⟩,
                          ⟨⟨(some 132), none, .iaddrS 7 (.t 130) (.t 131)⟩, [0, 1]⟩,
                          ⟨⟨(some 133), none, .load (some 7) (.t 132)⟩, [2]⟩,
                          ⟨⟨(some 134), none, .mv (.t 14)⟩, []⟩,
                          ⟨⟨(some 135), none, .mv (.t 21)⟩, []⟩,
                          ⟨⟨(some 136), none, .iaddrS 7 (.t 134) (.t 135)⟩, [4, 5]⟩,
                          ⟨⟨(some 137), none, .load (some 7) (.t 136)⟩, [6]⟩,
                          ⟨⟨(some 138), none, .eq true 54 (.struct #[⟨"Side", 3, 0, false, "", "", 0⟩, ⟨"First", 3, 1, false, "", "", 8⟩, ⟨"Second", 3, 2, false, "", "", 16⟩, ⟨"Share", 3, 3, false, "", "", 24⟩, ⟨"Pane", 25, 4, false, "", "", 32⟩]) (.t 133) (.t 137)⟩, [3, 7]⟩] [0, 0, 3, 7, 0, 0, 48, 112, 255])
                        (.cond (.t 138)
                         (.seq
                          (.ops [⟨(some 12), none, .mv (.c (.bool false))⟩])
                          (.ret))
                         (.skip))))
                      (.ops [⟨(some 128), none, .mv (.t 21)⟩,
                        ⟨(some 129), none, .bin .add (.t 128) (.c (.int .i64 1))⟩,
                        ⟨(some 21), none, .mv (.t 129)⟩]))))))
                 (.seq
                  (.ops [⟨(some 12), none, .mv (.c (.bool true))⟩])
                  (.ret))))))))))))))))⟩
theorem ok7 : FnOk Try.prog 7 a7 := FnOk.of Try.prog Try.func7 (by kernel_rfl)
/-- jalousie/jalousielaw19.TreeTells -/
def a8 : AFn := ⟨132, [.tmp 4], .seq
   (.ops [⟨(some 2), none, .box 25 (.t 0)⟩,
     ⟨(some 4), none, .mv (.c (.bool false))⟩])
   (.seq
    (.seq
     (.ops [⟨(some 10), none, .call 14 []⟩,
       ⟨(some 11), none, .un .not (.t 10)⟩])
     (.cond (.t 11)
      (.seq
       (.ops [⟨(some 4), none, .mv (.c (.bool false))⟩])
       (.ret))
      (.skip)))
    (.seq
     (.seq
      (.ops [⟨(some 12), none, .mv (.t 1)⟩,
        ⟨(some 13), none, .lenL (.t 12)⟩,
        ⟨(some 14), none, .bin .gtr (.t 13) (.c (.int .i64 100))⟩])
      (.cond (.t 14)
       (.seq
        (.ops [⟨(some 4), none, .mv (.c (.bool true))⟩])
        (.ret))
       (.skip)))
     (.seq
      (.ops [⟨(some 15), none, .load (some 3) (.t 2)⟩,
        ⟨(some 16), none, .mv (.t 1)⟩,
        ⟨(some 17), none, .call 26 [(.t 15), (.t 16)]⟩,
        ⟨(some 18), none, .call 27 [(.t 17)]⟩,
        ⟨(some 5), none, .mv (.t 18)⟩])
      (.seq
       (.ops [⟨(some 19), none, .mv (.t 5)⟩,
         ⟨(some 20), none, .lenL (.t 19)⟩,
         ⟨(some 21), none, .bin .add (.t 20) (.c (.int .i64 1))⟩,
         ⟨(some 22), none, .mksl 3 1 8 [(.int .i64 0)] (.t 21) (.t 21)⟩,
         ⟨(some 6), none, .mv (.t 22)⟩])
       (.seq
        (.seq
         (.ops [⟨(some 7), none, .mv (.c (.int .i64 0))⟩])
         (.block 0 (.loop (.seq
            (.seq
             (.ops [⟨(some 23), none, .mv (.t 7)⟩,
               ⟨(some 24), none, .mv (.t 5)⟩,
               ⟨(some 25), none, .lenL (.t 24)⟩,
               ⟨(some 26), none, .bin .lss (.t 23) (.t 25)⟩])
             (.cond (.t 26)
              (.skip)
              (.exit 0)))
            (.seq
             (.block 1 (.seq
               (.ops [⟨(some 29), none, .mv (.t 5)⟩,
                 ⟨(some 30), none, .mv (.t 7)⟩,
                 ⟨(some 31), none, .iaddrS 7 (.t 29) (.t 30)⟩,
                 ⟨(some 32), none, .load (some 7) (.t 31)⟩,
                 ⟨(some 8), none, .alloc 54 [(.int .i64 0), (.int .i64 0), (.int .i64 0), (.int .i64 0), (.int .i64 0), (.int .i64 0), (.int .i64 0)]⟩,
                 ⟨none, none, .store 7 (.t 8) (.t 32)⟩])
               (.seq
                (.seq
                 (.ops [⟨(some 33), none, .addr 0 (.t 8)⟩,
                   ⟨(some 34), none, .load none (.t 33)⟩,
                   ⟨(some 35), none, .bin .eql (.t 34) (.c (.int .i64 0))⟩])
                 (.cond (.t 35)
                  (.seq
                   (.seq
                    (.ops [⟨(some 36), none, .addr 1 (.t 8)⟩,
                      ⟨(some 37), none, .load none (.t 36)⟩,
                      ⟨(some 38), none, .bin .neq (.t 37) (.c (.int .i64 0))⟩,
                      ⟨(some 39), none, .mv (.t 38)⟩,
                      ⟨(some 40), (some (39, false)), .addr 2 (.t 8)⟩,
                      ⟨(some 41), (some (39, false)), .load none (.t 40)⟩,
                      ⟨(some 42), (some (39, false)), .bin .neq (.t 41) (.c (.int .i64 0))⟩,
                      ⟨(some 43), none, .pick (.t 39) (.c (.bool true)) (.t 42)⟩,
                      ⟨(some 44), none, .mv (.t 43)⟩,
                      ⟨(some 45), (some (44, false)), .addr 3 (.t 8)⟩,
                      ⟨(some 46), (some (44, false)), .load none (.t 45)⟩,
                      ⟨(some 47), (some (44, false)), .bin .neq (.t 46) (.c (.int .i64 0))⟩,
                      ⟨(some 48), none, .pick (.t 44) (.c (.bool true)) (.t 47)⟩])
                    (.cond (.t 48)
                     (.seq
                      (.ops [⟨(some 4), none, .mv (.c (.bool false))⟩])
                      (.ret))
                     (.skip)))
                   (.exit 1))
                  (.skip)))
                (.seq
                 (.seq
                  (.ops [⟨(some 49), none, .addr 0 (.t 8)⟩,
                    ⟨(some 50), none, .load none (.t 49)⟩,
                    ⟨(some 51), none, .bin .lss (.t 50) (.c (.int .i64 1))⟩,
                    ⟨(some 52), none, .mv (.t 51)⟩,
                    ⟨(some 53), (some (52, false)), .addr 0 (.t 8)⟩,
                    ⟨(some 54), (some (52, false)), .load none (.t 53)⟩,
                    ⟨(some 55), (some (52, false)), .bin .gtr (.t 54) (.c (.int .i64 2))⟩,
                    ⟨(some 56), none, .pick (.t 52) (.c (.bool true)) (.t 55)⟩,
                    ⟨(some 57), none, .mv (.t 56)⟩,
                    ⟨(some 58), (some (57, false)), .addr 3 (.t 8)⟩,
                    ⟨(some 59), (some (57, false)), .load none (.t 58)⟩,
                    ⟨(some 60), (some (57, false)), .bin .lss (.t 59) (.c (.int .i64 1))⟩,
                    ⟨(some 61), none, .pick (.t 57) (.c (.bool true)) (.t 60)⟩,
                    ⟨(some 62), none, .mv (.t 61)⟩,
                    ⟨(some 63), (some (62, false)), .addr 3 (.t 8)⟩,
                    ⟨(some 64), (some (62, false)), .load none (.t 63)⟩,
                    ⟨(some 65), (some (62, false)), .bin .gtr (.t 64) (.c (.int .i64 99))⟩,
                    ⟨(some 66), none, .pick (.t 62) (.c (.bool true)) (.t 65)⟩,
                    ⟨(some 67), none, .mv (.t 66)⟩,
                    ⟨(some 68), (some (67, false)), .addr 1 (.t 8)⟩,
                    ⟨(some 69), (some (67, false)), .load none (.t 68)⟩,
                    ⟨(some 70), (some (67, false)), .mv (.t 7)⟩,
                    ⟨(some 71), (some (67, false)), .bin .add (.t 70) (.c (.int .i64 1))⟩,
                    ⟨(some 72), (some (67, false)), .bin .neq (.t 69) (.t 71)⟩,
                    ⟨(some 73), none, .pick (.t 67) (.c (.bool true)) (.t 72)⟩,
                    ⟨(some 74), none, .mv (.t 73)⟩,
                    ⟨(some 75), (some (74, false)), .addr 2 (.t 8)⟩,
                    ⟨(some 76), (some (74, false)), .load none (.t 75)⟩,
                    ⟨(some 77), (some (74, false)), .addr 1 (.t 8)⟩,
                    ⟨(some 78), (some (74, false)), .load none (.t 77)⟩,
                    ⟨(some 79), (some (74, false)), .bin .leq (.t 76) (.t 78)⟩,
                    ⟨(some 80), none, .pick (.t 74) (.c (.bool true)) (.t 79)⟩,
                    ⟨(some 81), none, .mv (.t 80)⟩,
                    ⟨(some 82), (some (81, false)), .addr 2 (.t 8)⟩,
                    ⟨(some 83), (some (81, false)), .load none (.t 82)⟩,
                    ⟨(some 84), (some (81, false)), .mv (.t 5)⟩,
                    ⟨(some 85), (some (81, false)), .lenL (.t 84)⟩,
                    ⟨(some 86), (some (81, false)), .bin .geq (.t 83) (.t 85)⟩,
                    ⟨(some 87), none, .pick (.t 81) (.c (.bool true)) (.t 86)⟩,
                    ⟨(some 88), none, .mv (.t 87)⟩,
                    ⟨(some 89), (some (88, false)), .addr 4 (.t 8)⟩,
                    ⟨(some 90), (some (88, false)), .load (some 3) (.t 89)⟩,
                    ⟨(some 91), (some (88, false)), .build [(.int .i64 0), (.int .i64 0), (.int .i64 0)] [(0, 1), (1, 1), (2, 1)] []⟩,
                    ⟨(some 92), (some (88, false)), .eq true 25 (.struct #[⟨"Label", 3, 0, false, "", "", 0⟩, ⟨"Home", 3, 1, false, "", "", 8⟩, ⟨"N", 3, 2, false, "", "", 16⟩]) (.t 90) (.t 91)⟩,
                    ⟨(some 93), none, .pick (.t 88) (.c (.bool true)) (.t 92)⟩])
                  (.cond (.t 93)
                   (.seq
                    (.ops [⟨(some 4), none, .mv (.c (.bool false))⟩])
                    (.ret))
                   (.skip)))
                 (.seq
                  (.ops [⟨(some 94), none, .mv (.t 6)⟩,
                    ⟨(some 95), none, .addr 1 (.t 8)⟩,
                    ⟨(some 96), none, .load none (.t 95)⟩,
                    ⟨(some 97), none, .iaddrS 1 (.t 94) (.t 96)⟩,
                    ⟨(some 98), none, .load none (.t 97)⟩,
                    ⟨(some 99), none, .bin .add (.t 98) (.c (.int .i64 1))⟩,
                    ⟨(some 100), none, .iaddrS 1 (.t 94) (.t 96)⟩,
                    ⟨none, none, .store 1 (.t 100) (.t 99)⟩])
                  (.ops [⟨(some 101), none, .mv (.t 6)⟩,
                    ⟨(some 102), none, .addr 2 (.t 8)⟩,
                    ⟨(some 103), none, .load none (.t 102)⟩,
                    ⟨(some 104), none, .iaddrS 1 (.t 101) (.t 103)⟩,
                    ⟨(some 105), none, .load none (.t 104)⟩,
                    ⟨(some 106), none, .bin .add (.t 105) (.c (.int .i64 1))⟩,
                    ⟨(some 107), none, .iaddrS 1 (.t 101) (.t 103)⟩,
                    ⟨none, none, .store 1 (.t 107) (.t 106)⟩]))))))
             (.ops [⟨(some 27), none, .mv (.t 7)⟩,
               ⟨(some 28), none, .bin .add (.t 27) (.c (.int .i64 1))⟩,
               ⟨(some 7), none, .mv (.t 28)⟩]))))))
        (.seq
         (.seq
          (.ops [⟨(some 9), none, .mv (.c (.int .i64 0))⟩])
          (.block 2 (.loop (.seq
             (.seq
              (.ops [⟨(some 108), none, .mv (.t 9)⟩,
                ⟨(some 109), none, .mv (.t 5)⟩,
                ⟨(some 110), none, .lenL (.t 109)⟩,
                ⟨(some 111), none, .bin .lss (.t 108) (.t 110)⟩])
              (.cond (.t 111)
               (.skip)
               (.exit 2)))
             (.seq
              (.block 3 (.seq
                (.ops [⟨(some 114), none, .mv (.t 9)⟩,
                  ⟨(some 115), none, .bin .eql (.t 114) (.c (.int .i64 0))⟩,
                  ⟨(some 116), none, .mv (.t 6)⟩,
                  ⟨(some 117), none, .mv (.t 9)⟩,
                  ⟨(some 118), none, .iaddrS 1 (.t 116) (.t 117)⟩,
                  ⟨(some 119), none, .load none (.t 118)⟩,
                  ⟨(some 120), none, .bin .eql (.t 119) (.c (.int .i64 0))⟩,
                  ⟨(some 121), none, .eq true 4 .bool (.t 115) (.t 120)⟩,
                  ⟨(some 122), none, .mv (.t 121)⟩,
                  ⟨(some 123), (some (122, false)), .mv (.t 6)⟩,
                  ⟨(some 124), (some (122, false)), .mv (.t 9)⟩,
                  ⟨(some 125), (some (122, false)), .iaddrS 1 (.t 123) (.t 124)⟩,
                  ⟨(some 126), (some (122, false)), .load none (.t 125)⟩,
                  ⟨(some 127), (some (122, false)), .bin .gtr (.t 126) (.c (.int .i64 1))⟩,
                  ⟨(some 128), none, .pick (.t 122) (.c (.bool true)) (.t 127)⟩])
                (.cond (.t 128)
                 (.seq
                  (.ops [⟨(some 4), none, .mv (.c (.bool false))⟩])
                  (.ret))
                 (.skip))))
              (.ops [⟨(some 112), none, .mv (.t 9)⟩,
                ⟨(some 113), none, .bin .add (.t 112) (.c (.int .i64 1))⟩,
                ⟨(some 9), none, .mv (.t 113)⟩]))))))
         (.seq
          (.ops [⟨(some 129), none, .mv (.t 5)⟩,
            ⟨(some 130), none, .lenL (.t 129)⟩,
            ⟨(some 131), none, .bin .gtr (.t 130) (.c (.int .i64 0))⟩,
            ⟨(some 4), none, .mv (.t 131)⟩])
          (.ret))))))))⟩
theorem ok8 : FnOk Try.prog 8 a8 := FnOk.of Try.prog Try.func8 (by kernel_rfl)
/-- jalousie/tree.New -/
def a9 : AFn := ⟨8, [.tmp 2], .seq
   (.ops [⟨(some 1), none, .box 25 (.t 0)⟩,
     ⟨(some 2), none, .mv (.c .nilptr)⟩])
   (.seq
    (.ops [⟨(some 3), none, .load (some 3) (.t 1)⟩,
      ⟨(some 4), none, .build [(.int .i64 0), (.int .i64 0), (.int .i64 0), (.int .i64 0), (.int .i64 0), (.int .i64 0), (.int .i64 0)] [(0, 1), (1, 1), (2, 1), (3, 1), (4, 3)] [(4, (.t 3))]⟩,
      ⟨(some 5), none, .bslice 54 7 1 [(.int .i64 0), (.int .i64 0), (.int .i64 0), (.int .i64 0), (.int .i64 0), (.int .i64 0), (.int .i64 0)] [(0, (.t 4))]⟩,
      ⟨(some 6), none, .build [.nilslice] [(0, 1)] [(0, (.t 5))]⟩,
      ⟨(some 7), none, .box 60 (.t 6)⟩,
      ⟨(some 2), none, .mv (.t 7)⟩])
    (.ret))⟩
theorem ok9 : FnOk Try.prog 9 a9 := FnOk.of Try.prog Try.func9 (by kernel_rfl)
/-- jalousie/jalousielaw19.name -/
def a10 : AFn := ⟨5, [.cell 2 (some 3)], .seq
   (.ops [⟨(some 2), none, .alloc 25 [(.int .i64 0), (.int .i64 0), (.int .i64 0)]⟩])
   (.seq
    (.ops [⟨(some 3), none, .mv (.t 0)⟩,
      ⟨(some 4), none, .build [(.int .i64 0), (.int .i64 0), (.int .i64 0)] [(0, 1), (1, 1), (2, 1)] [(2, (.t 3))]⟩,
      ⟨none, none, .store 3 (.t 2) (.t 4)⟩])
    (.ret))⟩
theorem ok10 : FnOk Try.prog 10 a10 := FnOk.of Try.prog Try.func10 (by kernel_rfl)
/-- (*jalousie/tree.Tree).Split -/
def a11 : AFn := ⟨76, [.tmp 10], .seq
   (.ops [⟨(some 6), none, .box 25 (.t 1)⟩,
     ⟨(some 7), none, .box 25 (.t 2)⟩,
     ⟨(some 10), none, .mv (.c (.int .i64 0))⟩])
   (.seq
    (.ops [⟨(some 12), none, .mv (.t 0)⟩,
      ⟨(some 13), none, .load (some 3) (.t 6)⟩,
      ⟨(some 14), none, .call 29 [(.t 12), (.t 13)]⟩,
      ⟨(some 11), none, .mv (.t 14)⟩])
    (.seq
     (.block 0 (.seq
       (.ops [⟨(some 16), none, .mv (.t 0)⟩,
         ⟨(some 17), none, .eq false 22 (.pointer 60) (.t 16) (.c .nilptr)⟩,
         ⟨(some 15), none, .mv (.t 17)⟩])
       (.cond (.t 15)
        (.seq
         (.ops [⟨(some 10), none, .mv (.c (.int .i64 2))⟩])
         (.ret))
        (.seq
         (.ops [⟨(some 19), none, .mv (.t 11)⟩,
           ⟨(some 20), none, .bin .lss (.t 19) (.c (.int .i64 0))⟩,
           ⟨(some 18), none, .mv (.t 20)⟩])
         (.cond (.t 18)
          (.seq
           (.ops [⟨(some 10), none, .mv (.c (.int .i64 4))⟩])
           (.ret))
          (.seq
           (.ops [⟨(some 22), none, .mv (.t 0)⟩,
             ⟨(some 23), none, .load (some 3) (.t 7)⟩,
             ⟨(some 24), none, .call 18 [(.t 22), (.t 23)]⟩,
             ⟨(some 21), none, .mv (.t 24)⟩])
           (.cond (.t 21)
            (.seq
             (.ops [⟨(some 10), none, .mv (.c (.int .i64 5))⟩])
             (.ret))
            (.seq
             (.ops [⟨(some 26), none, .mv (.t 3)⟩,
               ⟨(some 27), none, .bin .neq (.t 26) (.c (.int .i64 1))⟩,
               ⟨(some 28), none, .mv (.t 27)⟩,
               ⟨(some 29), (some (28, true)), .mv (.t 3)⟩,
               ⟨(some 30), (some (28, true)), .bin .neq (.t 29) (.c (.int .i64 2))⟩,
               ⟨(some 31), none, .pick (.t 28) (.t 30) (.c (.bool false))⟩,
               ⟨(some 32), none, .mv (.t 31)⟩,
               ⟨(some 33), (some (32, false)), .mv (.t 4)⟩,
               ⟨(some 34), (some (32, false)), .bin .lss (.t 33) (.c (.int .i64 1))⟩,
               ⟨(some 35), none, .pick (.t 32) (.c (.bool true)) (.t 34)⟩,
               ⟨(some 36), none, .mv (.t 35)⟩,
               ⟨(some 37), (some (36, false)), .mv (.t 4)⟩,
               ⟨(some 38), (some (36, false)), .bin .gtr (.t 37) (.c (.int .i64 99))⟩,
               ⟨(some 39), none, .pick (.t 36) (.c (.bool true)) (.t 38)⟩,
               ⟨(some 25), none, .mv (.t 39)⟩])
             (.cond (.t 25)
              (.seq
               (.ops [⟨(some 10), none, .mv (.c (.int .i64 1))⟩])
               (.ret))
              (.seq
               (.ops [⟨(some 41), none, .mv (.t 0)⟩,
                 ⟨(some 42), none, .call 15 [(.t 41)]⟩,
                 ⟨(some 43), none, .bin .eql (.t 42) (.c (.int .i64 16))⟩,
                 ⟨(some 40), none, .mv (.t 43)⟩])
               (.cond (.t 40)
                (.seq
                 (.ops [⟨(some 10), none, .mv (.c (.int .i64 6))⟩])
                 (.ret))
                (.skip))))))))))))
     (.seq
      (.ops [⟨(some 44), none, .mv (.t 0)⟩,
        ⟨(some 45), none, .mv (.t 11)⟩,
        ⟨(some 46), none, .bin .add (.t 45) (.c (.int .i64 1))⟩,
        ⟨(some 47), none, .call 30 [(.t 44), (.t 46), (.c (.int .i64 2))]⟩])
      (.seq
       (.draw [⟨⟨(some 48), none, .mv (.t 0)⟩, []⟩,
         ⟨⟨(some 49), none, .mv (.t 0)⟩, []⟩,
         ⟨⟨(some 50), none, .nilck (.t 49)⟩, [1]⟩,
         ⟨⟨(some 51), none, .addr 0 (.t 50)⟩, [2]⟩,
         ⟨⟨(some 52), none, .load none (.t 51)⟩, [3]⟩,
         ⟨⟨(some 53), none, .mv (.t 11)⟩, []⟩,
         ⟨⟨(some 54), none, .bin .add (.t 53) (.c (.int .i64 1))⟩, [5]⟩,
         ⟨⟨(some 55), none, .load (some 3) (.t 6)⟩, []⟩,
         ⟨⟨(some 56), none, .build [(.int .i64 0), (.int .i64 0), (.int .i64 0), (.int .i64 0), (.int .i64 0), (.int .i64 0), (.int .i64 0)] [(0, 1), (1, 1), (2, 1), (3, 1), (4, 3)] [(4, (.t 55))]⟩, [7]⟩,
         ⟨⟨(some 57), none, .load (some 3) (.t 7)⟩, []⟩,
         ⟨⟨(some 58), none, .build [(.int .i64 0), (.int .i64 0), (.int .i64 0), (.int .i64 0), (.int .i64 0), (.int .i64 0), (.int .i64 0)] [(0, 1), (1, 1), (2, 1), (3, 1), (4, 3)] [(4, (.t 57))]⟩, [9]⟩,
         ⟨⟨(some 59), none, .bslice 54 7 2 [(.int .i64 0), (.int .i64 0), (.int .i64 0), (.int .i64 0), (.int .i64 0), (.int .i64 0), (.int .i64 0)] [(0, (.t 56)), (1, (.t 58))]⟩, [8, 10]⟩,
         ⟨⟨(some 60), none, .call 31 [(.t 52), (.t 54), (.t 59)]⟩, [4, 6, 11]⟩,
         ⟨⟨(some 61), none, .nilck (.t 48)⟩, [0, 0, 1, 2, 3, 4, 5, 6, 7, 8, 9, 10, 11, 12]⟩,
         ⟨⟨(some 62), none, .addr 0 (.t 61)⟩, [13, 0, 1, 2, 3, 4, 5, 6, 7, 8, 9, 10, 11, 12]⟩,
         ⟨⟨none, none, .store 1 (.t 62) (.t 60)⟩, [14, 12, 12, 0, 1, 2, 3, 4, 5, 6, 7, 8, 9, 10, 11, 12]⟩] [0, 0, 2, 6, 14, 0, 32, 0, 128, 0, 512, 1920, 4094, 8191, 16383, 32767])
       (.seq
        (.ops [⟨(some 63), none, .mv (.t 0)⟩,
          ⟨(some 64), none, .nilck (.t 63)⟩,
          ⟨(some 65), none, .addr 0 (.t 64)⟩,
          ⟨(some 66), none, .load none (.t 65)⟩,
          ⟨(some 67), none, .mv (.t 11)⟩,
          ⟨(some 68), none, .mv (.t 3)⟩,
          ⟨(some 69), none, .mv (.t 11)⟩,
          ⟨(some 70), none, .bin .add (.t 69) (.c (.int .i64 1))⟩,
          ⟨(some 71), none, .mv (.t 11)⟩,
          ⟨(some 72), none, .bin .add (.t 71) (.c (.int .i64 2))⟩,
          ⟨(some 73), none, .mv (.t 4)⟩,
          ⟨(some 74), none, .build [(.int .i64 0), (.int .i64 0), (.int .i64 0), (.int .i64 0), (.int .i64 0), (.int .i64 0), (.int .i64 0)] [(0, 1), (1, 1), (2, 1), (3, 1), (4, 3)] [(0, (.t 68)), (1, (.t 70)), (2, (.t 72)), (3, (.t 73))]⟩,
          ⟨(some 75), none, .iaddrS 7 (.t 66) (.t 67)⟩,
          ⟨none, none, .store 7 (.t 75) (.t 74)⟩])
        (.seq
         (.ops [⟨(some 10), none, .mv (.c (.int .i64 0))⟩])
         (.ret)))))))⟩
theorem ok11 : FnOk Try.prog 11 a11 := FnOk.of Try.prog Try.func11 (by kernel_rfl)
/-- (*jalousie/tree.Tree).Close -/
def a12 : AFn := ⟨53, [.tmp 4], .seq
   (.ops [⟨(some 3), none, .box 25 (.t 1)⟩,
     ⟨(some 4), none, .mv (.c (.int .i64 0))⟩])
   (.seq
    (.ops [⟨(some 7), none, .mv (.t 0)⟩,
      ⟨(some 8), none, .load (some 3) (.t 3)⟩,
      ⟨(some 9), none, .call 29 [(.t 7), (.t 8)]⟩,
      ⟨(some 5), none, .mv (.t 9)⟩])
    (.seq
     (.block 0 (.seq
       (.ops [⟨(some 11), none, .mv (.t 0)⟩,
         ⟨(some 12), none, .eq false 22 (.pointer 60) (.t 11) (.c .nilptr)⟩,
         ⟨(some 10), none, .mv (.t 12)⟩])
       (.cond (.t 10)
        (.seq
         (.ops [⟨(some 4), none, .mv (.c (.int .i64 2))⟩])
         (.ret))
        (.seq
         (.ops [⟨(some 14), none, .mv (.t 5)⟩,
           ⟨(some 15), none, .bin .lss (.t 14) (.c (.int .i64 0))⟩,
           ⟨(some 13), none, .mv (.t 15)⟩])
         (.cond (.t 13)
          (.seq
           (.ops [⟨(some 4), none, .mv (.c (.int .i64 4))⟩])
           (.ret))
          (.seq
           (.ops [⟨(some 17), none, .mv (.t 0)⟩,
             ⟨(some 18), none, .call 15 [(.t 17)]⟩,
             ⟨(some 19), none, .bin .eql (.t 18) (.c (.int .i64 1))⟩,
             ⟨(some 16), none, .mv (.t 19)⟩])
           (.cond (.t 16)
            (.seq
             (.ops [⟨(some 4), none, .mv (.c (.int .i64 9))⟩])
             (.ret))
            (.skip))))))))
     (.seq
      (.ops [⟨(some 20), none, .mv (.t 0)⟩,
        ⟨(some 21), none, .mv (.t 5)⟩,
        ⟨(some 22), none, .call 32 [(.t 20), (.t 21)]⟩,
        ⟨(some 6), none, .mv (.t 22)⟩])
      (.seq
       (.ops [⟨(some 23), none, .mv (.t 0)⟩,
         ⟨(some 24), none, .mv (.t 0)⟩,
         ⟨(some 25), none, .nilck (.t 24)⟩,
         ⟨(some 26), none, .addr 0 (.t 25)⟩,
         ⟨(some 27), none, .load none (.t 26)⟩,
         ⟨(some 28), none, .mv (.t 5)⟩,
         ⟨(some 29), none, .mv (.t 5)⟩,
         ⟨(some 30), none, .bin .add (.t 29) (.c (.int .i64 1))⟩,
         ⟨(some 31), none, .call 33 [(.t 27), (.t 28), (.t 30)]⟩,
         ⟨(some 32), none, .nilck (.t 23)⟩,
         ⟨(some 33), none, .addr 0 (.t 32)⟩,
         ⟨none, none, .store 1 (.t 33) (.t 31)⟩])
       (.seq
        (.ops [⟨(some 34), none, .mv (.t 0)⟩,
          ⟨(some 35), none, .mv (.t 5)⟩,
          ⟨(some 36), none, .bin .add (.t 35) (.c (.int .i64 1))⟩,
          ⟨(some 37), none, .call 30 [(.t 34), (.t 36), (.c (.int .i64 (-1)))]⟩])
        (.seq
         (.ops [⟨(some 38), none, .mv (.t 0)⟩,
           ⟨(some 39), none, .mv (.t 0)⟩,
           ⟨(some 40), none, .nilck (.t 39)⟩,
           ⟨(some 41), none, .addr 0 (.t 40)⟩,
           ⟨(some 42), none, .load none (.t 41)⟩,
           ⟨(some 43), none, .mv (.t 6)⟩,
           ⟨(some 44), none, .mv (.t 6)⟩,
           ⟨(some 45), none, .bin .add (.t 44) (.c (.int .i64 1))⟩,
           ⟨(some 46), none, .call 33 [(.t 42), (.t 43), (.t 45)]⟩,
           ⟨(some 47), none, .nilck (.t 38)⟩,
           ⟨(some 48), none, .addr 0 (.t 47)⟩,
           ⟨none, none, .store 1 (.t 48) (.t 46)⟩])
         (.seq
          (.ops [⟨(some 49), none, .mv (.t 0)⟩,
            ⟨(some 50), none, .mv (.t 6)⟩,
            ⟨(some 51), none, .bin .add (.t 50) (.c (.int .i64 1))⟩,
            ⟨(some 52), none, .call 30 [(.t 49), (.t 51), (.c (.int .i64 (-1)))]⟩])
          (.seq
           (.ops [⟨(some 4), none, .mv (.c (.int .i64 0))⟩])
           (.ret)))))))))⟩
theorem ok12 : FnOk Try.prog 12 a12 := FnOk.of Try.prog Try.func12 (by kernel_rfl)
/-- (*jalousie/tree.Tree).Share -/
def a13 : AFn := ⟨88, [.tmp 8], .seq
   (.ops [⟨(some 5), none, .box 25 (.t 1)⟩,
     ⟨(some 8), none, .mv (.c (.int .i64 0))⟩])
   (.seq
    (.ops [⟨(some 12), none, .mv (.t 0)⟩,
      ⟨(some 13), none, .load (some 3) (.t 5)⟩,
      ⟨(some 14), none, .call 29 [(.t 12), (.t 13)]⟩,
      ⟨(some 9), none, .mv (.t 14)⟩])
    (.seq
     (.block 0 (.seq
       (.ops [⟨(some 16), none, .mv (.t 0)⟩,
         ⟨(some 17), none, .eq false 22 (.pointer 60) (.t 16) (.c .nilptr)⟩,
         ⟨(some 15), none, .mv (.t 17)⟩])
       (.cond (.t 15)
        (.seq
         (.ops [⟨(some 8), none, .mv (.c (.int .i64 2))⟩])
         (.ret))
        (.seq
         (.ops [⟨(some 19), none, .mv (.t 9)⟩,
           ⟨(some 20), none, .bin .lss (.t 19) (.c (.int .i64 0))⟩,
           ⟨(some 18), none, .mv (.t 20)⟩])
         (.cond (.t 18)
          (.seq
           (.ops [⟨(some 8), none, .mv (.c (.int .i64 4))⟩])
           (.ret))
          (.seq
           (.ops [⟨(some 22), none, .mv (.t 2)⟩,
             ⟨(some 23), none, .bin .neq (.t 22) (.c (.int .i64 1))⟩,
             ⟨(some 24), none, .mv (.t 23)⟩,
             ⟨(some 25), (some (24, true)), .mv (.t 2)⟩,
             ⟨(some 26), (some (24, true)), .bin .neq (.t 25) (.c (.int .i64 2))⟩,
             ⟨(some 27), none, .pick (.t 24) (.t 26) (.c (.bool false))⟩,
             ⟨(some 21), none, .mv (.t 27)⟩])
           (.cond (.t 21)
            (.seq
             (.ops [⟨(some 8), none, .mv (.c (.int .i64 1))⟩])
             (.ret))
            (.skip))))))))
     (.seq
      (.ops [⟨(some 28), none, .mv (.t 3)⟩,
        ⟨(some 29), none, .maxI (.t 28) [(.c (.int .i64 (-99)))]⟩,
        ⟨(some 30), none, .minI (.t 29) [(.c (.int .i64 99))]⟩,
        ⟨(some 3), none, .mv (.t 30)⟩])
      (.seq
       (.ops [⟨(some 31), none, .mv (.t 0)⟩,
         ⟨(some 32), none, .mv (.t 9)⟩,
         ⟨(some 33), none, .call 32 [(.t 31), (.t 32)]⟩,
         ⟨(some 10), none, .mv (.t 33)⟩])
       (.seq
        (.block 1 (.loop (.seq
           (.seq
            (.ops [⟨(some 34), none, .mv (.t 10)⟩,
              ⟨(some 35), none, .bin .geq (.t 34) (.c (.int .i64 0))⟩,
              ⟨(some 36), none, .mv (.t 35)⟩,
              ⟨(some 37), (some (36, true)), .mv (.t 0)⟩,
              ⟨(some 38), (some (36, true)), .nilck (.t 37)⟩,
              ⟨(some 39), (some (36, true)), .addr 0 (.t 38)⟩,
              ⟨(some 40), (some (36, true)), .load none (.t 39)⟩,
              ⟨(some 41), (some (36, true)), .mv (.t 10)⟩,
              ⟨(some 42), (some (36, true)), .iaddrS 7 (.t 40) (.t 41)⟩,
              ⟨(some 43), (some (36, true)), .addr 0 (.t 42)⟩,
              ⟨(some 44), (some (36, true)), .load none (.t 43)⟩,
              ⟨(some 45), (some (36, true)), .mv (.t 2)⟩,
              ⟨(some 46), (some (36, true)), .bin .neq (.t 44) (.t 45)⟩,
              ⟨(some 47), none, .pick (.t 36) (.t 46) (.c (.bool false))⟩])
            (.cond (.t 47)
             (.skip)
             (.exit 1)))
           (.seq
            (.block 2 (.ops [⟨(some 51), none, .mv (.t 10)⟩,
               ⟨(some 9), none, .mv (.t 51)⟩]))
            (.ops [⟨(some 48), none, .mv (.t 0)⟩,
              ⟨(some 49), none, .mv (.t 9)⟩,
              ⟨(some 50), none, .call 32 [(.t 48), (.t 49)]⟩,
              ⟨(some 10), none, .mv (.t 50)⟩])))))
        (.seq
         (.seq
          (.ops [⟨(some 52), none, .mv (.t 10)⟩,
            ⟨(some 53), none, .bin .lss (.t 52) (.c (.int .i64 0))⟩])
          (.cond (.t 53)
           (.seq
            (.ops [⟨(some 8), none, .mv (.c (.int .i64 9))⟩])
            (.ret))
           (.skip)))
         (.seq
          (.seq
           (.ops [⟨(some 54), none, .mv (.t 0)⟩,
             ⟨(some 55), none, .nilck (.t 54)⟩,
             ⟨(some 56), none, .addr 0 (.t 55)⟩,
             ⟨(some 57), none, .load none (.t 56)⟩,
             ⟨(some 58), none, .mv (.t 10)⟩,
             ⟨(some 59), none, .iaddrS 7 (.t 57) (.t 58)⟩,
             ⟨(some 11), none, .mv (.t 59)⟩])
           (.seq
            (.ops [⟨(some 60), none, .mv (.t 11)⟩,
              ⟨(some 61), none, .nilck (.t 60)⟩,
              ⟨(some 62), none, .addr 1 (.t 61)⟩,
              ⟨(some 63), none, .load none (.t 62)⟩,
              ⟨(some 64), none, .mv (.t 9)⟩,
              ⟨(some 65), none, .bin .eql (.t 63) (.t 64)⟩])
            (.cond (.t 65)
             (.ops [⟨(some 66), none, .mv (.t 11)⟩,
               ⟨(some 67), none, .mv (.t 11)⟩,
               ⟨(some 68), none, .nilck (.t 67)⟩,
               ⟨(some 69), none, .addr 3 (.t 68)⟩,
               ⟨(some 70), none, .load none (.t 69)⟩,
               ⟨(some 71), none, .mv (.t 3)⟩,
               ⟨(some 72), none, .bin .add (.t 70) (.t 71)⟩,
               ⟨(some 73), none, .maxI (.t 72) [(.c (.int .i64 1))]⟩,
               ⟨(some 74), none, .minI (.t 73) [(.c (.int .i64 99))]⟩,
               ⟨(some 75), none, .nilck (.t 66)⟩,
               ⟨(some 76), none, .addr 3 (.t 75)⟩,
               ⟨none, none, .store 1 (.t 76) (.t 74)⟩])
             (.ops [⟨(some 77), none, .mv (.t 11)⟩,
               ⟨(some 78), none, .mv (.t 11)⟩,
               ⟨(some 79), none, .nilck (.t 78)⟩,
               ⟨(some 80), none, .addr 3 (.t 79)⟩,
               ⟨(some 81), none, .load none (.t 80)⟩,
               ⟨(some 82), none, .mv (.t 3)⟩,
               ⟨(some 83), none, .bin .sub (.t 81) (.t 82)⟩,
               ⟨(some 84), none, .maxI (.t 83) [(.c (.int .i64 1))]⟩,
               ⟨(some 85), none, .minI (.t 84) [(.c (.int .i64 99))]⟩,
               ⟨(some 86), none, .nilck (.t 77)⟩,
               ⟨(some 87), none, .addr 3 (.t 86)⟩,
               ⟨none, none, .store 1 (.t 87) (.t 85)⟩]))))
          (.seq
           (.ops [⟨(some 8), none, .mv (.c (.int .i64 0))⟩])
           (.ret)))))))))⟩
theorem ok13 : FnOk Try.prog 13 a13 := FnOk.of Try.prog Try.func13 (by kernel_rfl)
/-- jalousie/jalousielaw19.awake -/
def a14 : AFn := ⟨109, [.tmp 0], .seq
   (.ops [⟨(some 0), none, .mv (.c (.bool false))⟩])
   (.seq
    (.ops [⟨(some 13), none, .call 10 [(.c (.int .i64 1))]⟩,
      ⟨(some 14), none, .call 9 [(.t 13)]⟩,
      ⟨(some 1), none, .mv (.t 14)⟩])
    (.seq
     (.ops [⟨(some 15), none, .mv (.t 1)⟩,
       ⟨(some 16), none, .call 10 [(.c (.int .i64 1))]⟩,
       ⟨(some 17), none, .call 10 [(.c (.int .i64 2))]⟩,
       ⟨(some 18), none, .call 11 [(.t 15), (.t 16), (.t 17), (.c (.int .i64 1)), (.c (.int .i64 50))]⟩,
       ⟨(some 2), none, .mv (.t 18)⟩])
     (.seq
      (.ops [⟨(some 19), none, .mv (.t 1)⟩,
        ⟨(some 20), none, .call 10 [(.c (.int .i64 2))]⟩,
        ⟨(some 21), none, .call 10 [(.c (.int .i64 3))]⟩,
        ⟨(some 22), none, .call 11 [(.t 19), (.t 20), (.t 21), (.c (.int .i64 2)), (.c (.int .i64 30))]⟩,
        ⟨(some 3), none, .mv (.t 22)⟩])
      (.seq
       (.ops [⟨(some 24), none, .mv (.t 1)⟩,
         ⟨(some 25), none, .call 24 [(.t 24), (.c (.int .i64 2))]⟩,
         ⟨(some 23), none, .mv (.t 25)⟩,
         ⟨(some 26), none, .ext (.t 23) 0⟩,
         ⟨(some 27), none, .ext (.t 23) 1⟩,
         ⟨(some 4), none, .alloc 54 [(.int .i64 0), (.int .i64 0), (.int .i64 0), (.int .i64 0), (.int .i64 0), (.int .i64 0), (.int .i64 0)]⟩,
         ⟨none, none, .store 7 (.t 4) (.t 26)⟩,
         ⟨(some 5), none, .mv (.t 27)⟩])
       (.seq
        (.ops [⟨(some 29), none, .mv (.t 1)⟩,
          ⟨(some 30), none, .call 10 [(.c (.int .i64 3))]⟩,
          ⟨(some 31), none, .call 22 [(.t 29), (.t 30), (.c (.int .i64 1))]⟩,
          ⟨(some 28), none, .mv (.t 31)⟩,
          ⟨(some 32), none, .ext (.t 28) 0⟩,
          ⟨(some 33), none, .ext (.t 28) 1⟩,
          ⟨(some 6), none, .alloc 25 [(.int .i64 0), (.int .i64 0), (.int .i64 0)]⟩,
          ⟨none, none, .store 3 (.t 6) (.t 32)⟩,
          ⟨(some 7), none, .mv (.t 33)⟩])
        (.seq
         (.ops [⟨(some 34), none, .mv (.t 1)⟩,
           ⟨(some 35), none, .call 10 [(.c (.int .i64 1))]⟩,
           ⟨(some 36), none, .call 10 [(.c (.int .i64 3))]⟩,
           ⟨(some 37), none, .call 25 [(.t 34), (.t 35), (.t 36)]⟩,
           ⟨(some 8), none, .mv (.t 37)⟩])
         (.seq
          (.ops [⟨(some 38), none, .mv (.t 1)⟩,
            ⟨(some 39), none, .call 10 [(.c (.int .i64 1))]⟩,
            ⟨(some 40), none, .call 13 [(.t 38), (.t 39), (.c (.int .i64 2)), (.c (.int .i64 5))]⟩,
            ⟨(some 9), none, .mv (.t 40)⟩])
          (.seq
           (.ops [⟨(some 42), none, .mv (.t 1)⟩,
             ⟨(some 43), none, .call 24 [(.t 42), (.c (.int .i64 2))]⟩,
             ⟨(some 41), none, .mv (.t 43)⟩,
             ⟨(some 44), none, .ext (.t 41) 0⟩,
             ⟨(some 45), none, .ext (.t 41) 1⟩,
             ⟨(some 10), none, .alloc 54 [(.int .i64 0), (.int .i64 0), (.int .i64 0), (.int .i64 0), (.int .i64 0), (.int .i64 0), (.int .i64 0)]⟩,
             ⟨none, none, .store 7 (.t 10) (.t 44)⟩,
             ⟨(some 11), none, .mv (.t 45)⟩])
           (.seq
            (.ops [⟨(some 46), none, .mv (.t 1)⟩,
              ⟨(some 47), none, .call 10 [(.c (.int .i64 2))]⟩,
              ⟨(some 48), none, .call 12 [(.t 46), (.t 47)]⟩,
              ⟨(some 12), none, .mv (.t 48)⟩])
            (.seq
             (.draw [⟨⟨(some 49), none, .mv (.t 2)⟩, []⟩,
               ⟨⟨(some 50), none, .bin .eql (.t 49) (.c (.int .i64 0))⟩, [0]⟩,
               ⟨⟨(some 51), none, .mv (.t 50)⟩, [1]⟩,
               ⟨⟨(some 52), (some (51, true)), .mv (.t 3)⟩, [2]⟩,
               ⟨⟨(some 53), (some (51, true)), .bin .eql (.t 52) (.c (.int .i64 0))⟩, [3, 2]⟩,
               ⟨⟨(some 54), none, .pick (.t 51) (.t 53) (.c (.bool false))⟩, [2, 4]⟩,
               ⟨⟨(some 55), none, .mv (.t 54)⟩, [5, 2]⟩,
               ⟨⟨(some 56), (some (55, true)), .mv (.t 5)⟩, [6]⟩,
               ⟨⟨(some 57), none, .pick (.t 55) (.t 56) (.c (.bool false))⟩, [6, 7]⟩,
               ⟨⟨(some 58), none, .mv (.t 57)⟩, [8, 6]⟩,
               ⟨⟨(some 59), (some (58, true)), .load (some 7) (.t 4)⟩, [9]⟩,
               ⟨⟨(some 60), (some (58, true)), .build [(.int .i64 0), (.int .i64 0), (.int .i64 0), (.int .i64 0), (.int .i64 0), (.int .i64 0), (.int .i64 0)] [(0, 1), (1, 1), (2, 1), (3, 1), (4, 3)] [(0, (.c (.int .i64 2))), (1, (.c (.int .i64 3))), (2, (.c (.int .i64 4))), (3, (.c (.int .i64 30)))]⟩, [9]⟩,
               ⟨⟨(some 61), (some (58, true)), .eq false 54 (.struct #[⟨"Side", 3, 0, false, "", "", 0⟩, ⟨"First", 3, 1, false, "", "", 8⟩, ⟨"Second", 3, 2, false, "", "", 16⟩, ⟨"Share", 3, 3, false, "", "", 24⟩, ⟨"Pane", 25, 4, false, "", "", 32⟩]) (.t 59) (.t 60)⟩, [10, 11, 9]⟩,
               ⟨⟨(some 62), none, .pick (.t 58) (.t 61) (.c (.bool false))⟩, [9, 12]⟩,
               ⟨⟨(some 63), none, .mv (.t 62)⟩, [13, 9]⟩,
               ⟨⟨(some 64), (some (63, true)), .mv (.t 7)⟩, [14]⟩,
               ⟨⟨(some 65), none, .pick (.t 63) (.t 64) (.c (.bool false))⟩, [14, 15]⟩,
               ⟨⟨(some 66), none, .mv (.t 65)⟩, [16, 14]⟩,
               ⟨⟨(some 67), (some (66, true)), .load (some 3) (.t 6)⟩, [17]⟩,
               ⟨⟨(some 68), (some (66, true)), .call 10 [(.c (.int .i64 1))]⟩, [17, 17]⟩,
               ⟨⟨(some 69), (some (66, true)), .eq false 25 (.struct #[⟨"Label", 3, 0, false, "", "", 0⟩, ⟨"Home", 3, 1, false, "", "", 8⟩, ⟨"N", 3, 2, false, "", "", 16⟩]) (.t 67) (.t 68)⟩, [18, 19, 17]⟩,
               ⟨⟨(some 70), none, .pick (.t 66) (.t 69) (.c (.bool false))⟩, [17, 20]⟩,
               ⟨⟨(some 71), none, .mv (.t 70)⟩, [21, 19]⟩,
               ⟨⟨(some 72), (some (71, true)), .mv (.t 8)⟩, [22]⟩,
               ⟨⟨(some 73), (some (71, true)), .bin .eql (.t 72) (.c (.int .i64 0))⟩, [23, 22]⟩,
               ⟨⟨(some 74), none, .pick (.t 71) (.t 73) (.c (.bool false))⟩, [22, 24]⟩,
               ⟨⟨(some 75), none, .mv (.t 74)⟩, [25, 22]⟩,
               ⟨⟨(some 76), (some (75, true)), .mv (.t 9)⟩, [26]⟩,
               ⟨⟨(some 77), (some (75, true)), .bin .eql (.t 76) (.c (.int .i64 0))⟩, [27, 26]⟩,
               ⟨⟨(some 78), none, .pick (.t 75) (.t 77) (.c (.bool false))⟩, [26, 28]⟩,
               ⟨⟨(some 79), none, .mv (.t 78)⟩, [29, 26]⟩,
               ⟨⟨(some 80), (some (79, true)), .mv (.t 11)⟩, [30]⟩,
               ⟨⟨(some 81), none, .pick (.t 79) (.t 80) (.c (.bool false))⟩, [30, 31]⟩,
               ⟨⟨(some 82), none, .mv (.t 81)⟩, [32, 30]⟩,
               ⟨⟨(some 83), (some (82, true)), .addr 3 (.t 10)⟩, [33]⟩,
               ⟨⟨(some 84), (some (82, true)), .load none (.t 83)⟩, [34, 33]⟩,
               ⟨⟨(some 85), (some (82, true)), .bin .eql (.t 84) (.c (.int .i64 25))⟩, [35, 33]⟩,
               ⟨⟨(some 86), none, .pick (.t 82) (.t 85) (.c (.bool false))⟩, [33, 36]⟩,
               ⟨⟨(some 87), none, .mv (.t 86)⟩, [37, 33]⟩,
               ⟨⟨(some 88), (some (87, true)), .mv (.t 12)⟩, [38]⟩,
               ⟨⟨(some 89), (some (87, true)), .bin .eql (.t 88) (.c (.int .i64 0))⟩, [39, 38]⟩,
               ⟨⟨(some 90), none, .pick (.t 87) (.t 89) (.c (.bool false))⟩, [38, 40]⟩,
               ⟨⟨(some 91), none, .mv (.t 90)⟩, [41, 38]⟩,
               ⟨⟨(some 92), (some (91, true)), .mv (.t 1)⟩, [42]⟩,
               ⟨⟨(some 93), (some (91, true)), .call 15 [(.t 92)]⟩, [43, 42, 42]⟩,
               ⟨⟨(some 94), (some (91, true)), .bin .eql (.t 93) (.c (.int .i64 2))⟩, [44, 42]⟩,
               ⟨⟨(some 95), none, .pick (.t 91) (.t 94) (.c (.bool false))⟩, [42, 45]⟩,
               ⟨⟨(some 96), none, .mv (.t 95)⟩, [46, 44]⟩,
               ⟨⟨(some 97), (some (96, true)), .mv (.t 1)⟩, [47]⟩,
               ⟨⟨(some 98), (some (96, true)), .call 10 [(.c (.int .i64 1))]⟩, [47, 47]⟩,
               ⟨⟨(some 99), (some (96, true)), .call 18 [(.t 97), (.t 98)]⟩, [48, 49, 49, 47]⟩,
               ⟨⟨(some 100), none, .pick (.t 96) (.t 99) (.c (.bool false))⟩, [47, 50]⟩,
               ⟨⟨(some 101), none, .mv (.t 100)⟩, [51, 50]⟩,
               ⟨⟨(some 102), (some (101, true)), .mv (.t 1)⟩, [52]⟩,
               ⟨⟨(some 103), (some (101, true)), .call 28 [(.t 102)]⟩, [53, 52, 52]⟩,
               ⟨⟨(some 104), (some (101, true)), .call 10 [(.c (.int .i64 3))]⟩, [54, 52]⟩,
               ⟨⟨(some 105), (some (101, true)), .call 10 [(.c (.int .i64 1))]⟩, [55, 52]⟩,
               ⟨⟨(some 106), (some (101, true)), .bslice 25 3 2 [(.int .i64 0), (.int .i64 0), (.int .i64 0)] [(0, (.t 104)), (1, (.t 105))]⟩, [55, 56, 52]⟩,
               ⟨⟨(some 107), (some (101, true)), .call 34 [(.t 103), (.t 106)]⟩, [54, 57, 56, 52]⟩,
               ⟨⟨(some 108), none, .pick (.t 101) (.t 107) (.c (.bool false))⟩, [52, 58]⟩,
               ⟨⟨(some 0), none, .mv (.t 108)⟩, [59, 58, 0, 1, 2, 3, 4, 5, 6, 7, 8, 9, 10, 11, 12, 13, 14, 15, 16, 17, 18, 19, 20, 21, 22, 23, 24, 25, 26, 27, 28, 29, 30, 31, 32, 33, 34, 35, 36, 37, 38, 39, 40, 41, 42, 43, 44, 45, 46, 47, 48, 49, 50, 51, 52, 53, 54, 55, 56, 57, 58, 59]⟩] [0, 1, 3, 7, 15, 31, 63, 127, 255, 511, 1023, 1023, 4095, 8191, 16383, 32767, 65535, 131071, 262143, 262143, 1048575, 2097151, 4194303, 8388607, 16777215, 33554431, 67108863, 134217727, 268435455, 536870911, 1073741823, 2147483647, 4294967295, 8589934591, 17179869183, 34359738367, 68719476735, 137438953471, 274877906943, 549755813887, 1099511627775, 2199023255551, 4398046511103, 8796093022207, 17592186044415, 35184372088831, 70368744177663, 140737488355327, 281474976710655, 281474976710655, 1125899906842623, 2251799813685247, 4503599627370495, 9007199254740991, 18014398509481983, 36028797018963967, 72057594037927935, 144115188075855871, 288230376151711743, 576460752303423487, 1152921504606846975])
             (.ret)))))))))))⟩
theorem ok14 : FnOk Try.prog 14 a14 := FnOk.of Try.prog Try.func14 (by kernel_rfl)
/-- (*jalousie/tree.Tree).Len -/
def a15 : AFn := ⟨10, [.tmp 2], .seq
   (.ops [⟨(some 2), none, .mv (.c (.int .i64 0))⟩])
   (.seq
    (.ops [⟨(some 3), none, .alloc 3 [(.int .i64 0)]⟩,
      ⟨none, none, .store 1 (.t 3) (.c (.int .i64 0))⟩])
    (.seq
     (.seq
      (.ops [⟨(some 4), none, .mv (.t 0)⟩,
        ⟨(some 5), none, .call 23 [(.t 4)]⟩])
      (.block 0 (.rangeF (.t 5) [6]
        (.skip)
        (.block 1 (.ops [⟨(some 7), none, .load none (.t 3)⟩,
           ⟨(some 8), none, .bin .add (.t 7) (.c (.int .i64 1))⟩,
           ⟨none, none, .store 1 (.t 3) (.t 8)⟩])))))
     (.seq
      (.ops [⟨(some 9), none, .load none (.t 3)⟩,
        ⟨(some 2), none, .mv (.t 9)⟩])
      (.ret))))⟩
theorem ok15 : FnOk Try.prog 15 a15 := FnOk.of Try.prog Try.func15 (by kernel_rfl)
/-- jalousie/jalousieref19.New -/
def a16 : AFn := ⟨8, [.tmp 2], .seq
   (.ops [⟨(some 1), none, .box 25 (.t 0)⟩,
     ⟨(some 2), none, .mv (.c .nilptr)⟩])
   (.seq
    (.ops [⟨(some 3), none, .load (some 3) (.t 1)⟩,
      ⟨(some 4), none, .build [(.int .i64 0), (.int .i64 0), .nilptr, .nilptr, (.int .i64 0), (.int .i64 0), (.int .i64 0)] [(0, 1), (1, 1), (2, 1), (3, 1), (4, 3)] [(4, (.t 3))]⟩,
      ⟨(some 5), none, .box 75 (.t 4)⟩,
      ⟨(some 6), none, .build [.nilptr] [(0, 1)] [(0, (.t 5))]⟩,
      ⟨(some 7), none, .box 45 (.t 6)⟩,
      ⟨(some 2), none, .mv (.t 7)⟩])
    (.ret))⟩
theorem ok16 : FnOk Try.prog 16 a16 := FnOk.of Try.prog Try.func16 (by kernel_rfl)
/-- jalousie/jalousielaw19.does -/
def a17 : AFn := ⟨77, [.tmp 6], .seq
   (.ops [⟨(some 5), none, .box 38 (.t 2)⟩,
     ⟨(some 6), none, .mv (.c (.bool false))⟩])
   (.seq
    (.seq
     (.ops [⟨(some 7), none, .addr 0 (.t 5)⟩,
       ⟨(some 8), none, .load none (.t 7)⟩])
     (.block 0 (.seq
       (.ops [⟨(some 10), none, .bin .eql (.t 8) (.c (.int .i64 0))⟩,
         ⟨(some 9), none, .mv (.t 10)⟩])
       (.cond (.t 9)
        (.seq
         (.draw [⟨⟨(some 11), none, .mv (.t 0)⟩, []⟩,
           ⟨⟨(some 12), none, .addr 1 (.t 5)⟩, []⟩,
           ⟨⟨(some 13), none, .load (some 3) (.t 12)⟩, [1]⟩,
           ⟨⟨(some 14), none, .addr 4 (.t 5)⟩, []⟩,
           ⟨⟨(some 15), none, .load (some 3) (.t 14)⟩, [3]⟩,
           ⟨⟨(some 16), none, .addr 7 (.t 5)⟩, []⟩,
           ⟨⟨(some 17), none, .load none (.t 16)⟩, [5]⟩,
           ⟨⟨(some 18), none, .addr 8 (.t 5)⟩, []⟩,
           ⟨⟨(some 19), none, .load none (.t 18)⟩, [7]⟩,
           ⟨⟨(some 20), none, .call 11 [(.t 11), (.t 13), (.t 15), (.t 17), (.t 19)]⟩, [0, 2, 4, 6, 8]⟩,
           ⟨⟨(some 21), none, .mv (.t 1)⟩, []⟩,
           ⟨⟨(some 22), none, .addr 1 (.t 5)⟩, []⟩,
           ⟨⟨(some 23), none, .load (some 3) (.t 22)⟩, [11]⟩,
           ⟨⟨(some 24), none, .addr 4 (.t 5)⟩, []⟩,
           ⟨⟨(some 25), none, .load (some 3) (.t 24)⟩, [13]⟩,
           ⟨⟨(some 26), none, .addr 7 (.t 5)⟩, []⟩,
           ⟨⟨(some 27), none, .load none (.t 26)⟩, [15]⟩,
           ⟨⟨(some 28), none, .addr 8 (.t 5)⟩, []⟩,
           ⟨⟨(some 29), none, .load none (.t 28)⟩, [17]⟩,
           ⟨⟨(some 30), none, .call 35 [(.t 21), (.t 23), (.t 25), (.t 27), (.t 29)]⟩, [10, 12, 14, 16, 18, 9]⟩,
           ⟨⟨(some 31), none, .bin .eql (.t 20) (.t 30)⟩, [9, 19]⟩,
           ⟨⟨(some 6), none, .mv (.t 31)⟩, [20, 19, 0, 1, 2, 3, 4, 5, 6, 7, 8, 9, 10, 11, 12, 13, 14, 15, 16, 17, 18, 19, 20]⟩] [0, 0, 2, 0, 8, 0, 32, 0, 128, 511, 0, 0, 2048, 0, 8192, 0, 32768, 0, 131072, 524287, 1048575, 2097151])
         (.ret))
        (.seq
         (.ops [⟨(some 33), none, .bin .eql (.t 8) (.c (.int .i64 1))⟩,
           ⟨(some 32), none, .mv (.t 33)⟩])
         (.cond (.t 32)
          (.seq
           (.draw [⟨⟨(some 34), none, .mv (.t 0)⟩, []⟩,
             ⟨⟨(some 35), none, .addr 1 (.t 5)⟩, []⟩,
             ⟨⟨(some 36), none, .load (some 3) (.t 35)⟩, [1]⟩,
             ⟨⟨(some 37), none, .call 12 [(.t 34), (.t 36)]⟩, [0, 2]⟩,
             ⟨⟨(some 38), none, .mv (.t 1)⟩, []⟩,
             ⟨⟨(some 39), none, .addr 1 (.t 5)⟩, []⟩,
             ⟨⟨(some 40), none, .load (some 3) (.t 39)⟩, [5]⟩,
             ⟨⟨(some 41), none, .call 36 [(.t 38), (.t 40)]⟩, [4, 6, 3]⟩,
             ⟨⟨(some 42), none, .bin .eql (.t 37) (.t 41)⟩, [3, 7]⟩,
             ⟨⟨(some 6), none, .mv (.t 42)⟩, [8, 7, 0, 1, 2, 3, 4, 5, 6, 7, 8]⟩] [0, 0, 2, 7, 0, 0, 32, 127, 255, 511])
           (.ret))
          (.seq
           (.ops [⟨(some 44), none, .bin .eql (.t 8) (.c (.int .i64 2))⟩,
             ⟨(some 43), none, .mv (.t 44)⟩])
           (.cond (.t 43)
            (.seq
             (.draw [⟨⟨(some 45), none, .mv (.t 0)⟩, []⟩,
               ⟨⟨(some 46), none, .addr 1 (.t 5)⟩, []⟩,
               ⟨⟨(some 47), none, .load (some 3) (.t 46)⟩, [1]⟩,
               ⟨⟨(some 48), none, .addr 4 (.t 5)⟩, []⟩,
               ⟨⟨(some 49), none, .load (some 3) (.t 48)⟩, [3]⟩,
               ⟨⟨(some 50), none, .call 25 [(.t 45), (.t 47), (.t 49)]⟩, [0, 2, 4]⟩,
               ⟨⟨(some 51), none, .mv (.t 1)⟩, []⟩,
               ⟨⟨(some 52), none, .addr 1 (.t 5)⟩, []⟩,
               ⟨⟨(some 53), none, .load (some 3) (.t 52)⟩, [7]⟩,
               ⟨⟨(some 54), none, .addr 4 (.t 5)⟩, []⟩,
               ⟨⟨(some 55), none, .load (some 3) (.t 54)⟩, [9]⟩,
               ⟨⟨(some 56), none, .call 37 [(.t 51), (.t 53), (.t 55)]⟩, [6, 8, 10, 5]⟩,
               ⟨⟨(some 57), none, .bin .eql (.t 50) (.t 56)⟩, [5, 11]⟩,
               ⟨⟨(some 6), none, .mv (.t 57)⟩, [12, 11, 0, 1, 2, 3, 4, 5, 6, 7, 8, 9, 10, 11, 12]⟩] [0, 0, 2, 0, 8, 31, 0, 0, 128, 0, 512, 2047, 4095, 8191])
             (.ret))
            (.seq
             (.ops [⟨(some 59), none, .bin .eql (.t 8) (.c (.int .i64 3))⟩,
               ⟨(some 58), none, .mv (.t 59)⟩])
             (.cond (.t 58)
              (.seq
               (.draw [⟨⟨(some 60), none, .mv (.t 0)⟩, []⟩,
                 ⟨⟨(some 61), none, .addr 1 (.t 5)⟩, []⟩,
                 ⟨⟨(some 62), none, .load (some 3) (.t 61)⟩, [1]⟩,
                 ⟨⟨(some 63), none, .addr 7 (.t 5)⟩, []⟩,
                 ⟨⟨(some 64), none, .load none (.t 63)⟩, [3]⟩,
                 ⟨⟨(some 65), none, .addr 8 (.t 5)⟩, []⟩,
                 ⟨⟨(some 66), none, .load none (.t 65)⟩, [5]⟩,
                 ⟨⟨(some 67), none, .call 13 [(.t 60), (.t 62), (.t 64), (.t 66)]⟩, [0, 2, 4, 6]⟩,
                 ⟨⟨(some 68), none, .mv (.t 1)⟩, []⟩,
                 ⟨⟨(some 69), none, .addr 1 (.t 5)⟩, []⟩,
                 ⟨⟨(some 70), none, .load (some 3) (.t 69)⟩, [9]⟩,
                 ⟨⟨(some 71), none, .addr 7 (.t 5)⟩, []⟩,
                 ⟨⟨(some 72), none, .load none (.t 71)⟩, [11]⟩,
                 ⟨⟨(some 73), none, .addr 8 (.t 5)⟩, []⟩,
                 ⟨⟨(some 74), none, .load none (.t 73)⟩, [13]⟩,
                 ⟨⟨(some 75), none, .call 38 [(.t 68), (.t 70), (.t 72), (.t 74)]⟩, [8, 10, 12, 14, 7]⟩,
                 ⟨⟨(some 76), none, .bin .eql (.t 67) (.t 75)⟩, [7, 15]⟩,
                 ⟨⟨(some 6), none, .mv (.t 76)⟩, [16, 15, 0, 1, 2, 3, 4, 5, 6, 7, 8, 9, 10, 11, 12, 13, 14, 15, 16]⟩] [0, 0, 2, 0, 8, 0, 32, 127, 0, 0, 512, 0, 2048, 0, 8192, 32767, 65535, 131071])
               (.ret))
              (.skip)))))))))))
    (.seq
     (.ops [⟨(some 6), none, .mv (.c (.bool true))⟩])
     (.ret)))⟩
theorem ok17 : FnOk Try.prog 17 a17 := FnOk.of Try.prog Try.func17 (by kernel_rfl)
/-- (*jalousie/tree.Tree).Has -/
def a18 : AFn := ⟨9, [.tmp 4], .seq
   (.ops [⟨(some 3), none, .box 25 (.t 1)⟩,
     ⟨(some 4), none, .mv (.c (.bool false))⟩])
   (.seq
    (.ops [⟨(some 5), none, .mv (.t 0)⟩,
      ⟨(some 6), none, .load (some 3) (.t 3)⟩,
      ⟨(some 7), none, .call 29 [(.t 5), (.t 6)]⟩,
      ⟨(some 8), none, .bin .geq (.t 7) (.c (.int .i64 0))⟩,
      ⟨(some 4), none, .mv (.t 8)⟩])
    (.ret))⟩
theorem ok18 : FnOk Try.prog 18 a18 := FnOk.of Try.prog Try.func18 (by kernel_rfl)
/-- (*jalousie/jalousieref19.Tree).Has -/
def a19 : AFn := ⟨12, [.tmp 4], .seq
   (.ops [⟨(some 3), none, .box 25 (.t 1)⟩,
     ⟨(some 4), none, .mv (.c (.bool false))⟩])
   (.seq
    (.draw [⟨⟨(some 5), none, .mv (.t 0)⟩, []⟩,
      ⟨⟨(some 6), none, .nilck (.t 5)⟩, [0]⟩,
      ⟨⟨(some 7), none, .addr 0 (.t 6)⟩, [1]⟩,
      ⟨⟨(some 8), none, .load none (.t 7)⟩, [2]⟩,
      ⟨⟨(some 9), none, .load (some 3) (.t 3)⟩, []⟩,
      ⟨⟨(some 10), none, .call 39 [(.t 8), (.t 9)]⟩, [3, 4]⟩,
      ⟨⟨(some 11), none, .eq true 43 (.pointer 75) (.t 10) (.c .nilptr)⟩, [5]⟩,
      ⟨⟨(some 4), none, .mv (.t 11)⟩, [6, 5, 0, 1, 2, 3, 4, 5, 6]⟩] [0, 1, 3, 7, 0, 31, 63, 127])
    (.ret))⟩
theorem ok19 : FnOk Try.prog 19 a19 := FnOk.of Try.prog Try.func19 (by kernel_rfl)
/-- jalousie/jalousielaw19.stands -/
def a20 : AFn := ⟨82, [.tmp 4], .seq
   (.ops [⟨(some 4), none, .mv (.c (.bool false))⟩])
   (.seq
    (.ops [⟨(some 14), none, .mv (.t 1)⟩,
      ⟨(some 15), none, .nilck (.t 14)⟩,
      ⟨(some 16), none, .addr 0 (.t 15)⟩,
      ⟨(some 17), none, .load none (.t 16)⟩,
      ⟨(some 18), none, .call 40 [(.t 17), (.c (.int .i64 0))]⟩,
      ⟨(some 5), none, .mv (.t 18)⟩])
    (.seq
     (.seq
      (.ops [⟨(some 6), none, .mv (.c (.int .i64 0))⟩])
      (.block 0 (.loop (.seq
         (.seq
          (.ops [⟨(some 19), none, .mv (.t 6)⟩,
            ⟨(some 20), none, .mv (.t 5)⟩,
            ⟨(some 21), none, .lenL (.t 20)⟩,
            ⟨(some 22), none, .bin .lss (.t 19) (.t 21)⟩])
          (.cond (.t 22)
           (.skip)
           (.exit 0)))
         (.seq
          (.block 1 (.seq
            (.ops [⟨(some 26), none, .mv (.t 0)⟩,
              ⟨(some 27), none, .mv (.t 6)⟩,
              ⟨(some 28), none, .call 24 [(.t 26), (.t 27)]⟩,
              ⟨(some 25), none, .mv (.t 28)⟩,
              ⟨(some 29), none, .ext (.t 25) 0⟩,
              ⟨(some 30), none, .ext (.t 25) 1⟩,
              ⟨(some 7), none, .alloc 54 [(.int .i64 0), (.int .i64 0), (.int .i64 0), (.int .i64 0), (.int .i64 0), (.int .i64 0), (.int .i64 0)]⟩,
              ⟨none, none, .store 7 (.t 7) (.t 29)⟩,
              ⟨(some 8), none, .mv (.t 30)⟩])
            (.seq
             (.draw [⟨⟨(some 31), none, .mv (.t 8)⟩, []⟩,
               ⟨⟨(some 32), none, .un .not (.t 31)⟩, [0]⟩,
               ⟨⟨(some 33), none, .mv (.t 32)⟩, [1]⟩,
               ⟨⟨(some 34), (some (33, false)), .load (some 7) (.t 7)⟩, [2]⟩,
               ⟨⟨(some 35), (some (33, false)), .mv (.t 5)⟩, [2]⟩,
               ⟨⟨(some 36), (some (33, false)), .mv (.t 6)⟩, [2]⟩,
               ⟨⟨(some 37), (some (33, false)), .iaddrS 7 (.t 35) (.t 36)⟩, [4, 5, 2]⟩,
               ⟨⟨(some 38), (some (33, false)), .load (some 7) (.t 37)⟩, [6, 2]⟩,
               ⟨⟨(some 39), (some (33, false)), .eq true 54 (.struct #[⟨"Side", 3, 0, false, "", "", 0⟩, ⟨"First", 3, 1, false, "", "", 8⟩, ⟨"Second", 3, 2, false, "", "", 16⟩, ⟨"Share", 3, 3, false, "", "", 24⟩, ⟨"Pane", 25, 4, false, "", "", 32⟩]) (.t 34) (.t 38)⟩, [3, 7, 2]⟩,
               ⟨⟨(some 40), none, .pick (.t 33) (.c (.bool true)) (.t 39)⟩, [2, 8]⟩] [0, 1, 3, 7, 7, 7, 55, 119, 255, 511])
             (.cond (.t 40)
              (.seq
               (.ops [⟨(some 4), none, .mv (.c (.bool false))⟩])
               (.ret))
              (.skip)))))
          (.ops [⟨(some 23), none, .mv (.t 6)⟩,
            ⟨(some 24), none, .bin .add (.t 23) (.c (.int .i64 1))⟩,
            ⟨(some 6), none, .mv (.t 24)⟩]))))))
     (.seq
      (.ops [⟨(some 42), none, .mv (.t 0)⟩,
        ⟨(some 43), none, .mv (.t 5)⟩,
        ⟨(some 44), none, .lenL (.t 43)⟩,
        ⟨(some 45), none, .call 24 [(.t 42), (.t 44)]⟩,
        ⟨(some 41), none, .mv (.t 45)⟩,
        ⟨(some 46), none, .ext (.t 41) 0⟩,
        ⟨(some 47), none, .ext (.t 41) 1⟩,
        ⟨(some 9), none, .alloc 54 [(.int .i64 0), (.int .i64 0), (.int .i64 0), (.int .i64 0), (.int .i64 0), (.int .i64 0), (.int .i64 0)]⟩,
        ⟨none, none, .store 7 (.t 9) (.t 46)⟩,
        ⟨(some 10), none, .mv (.t 47)⟩])
      (.seq
       (.ops [⟨(some 49), none, .mv (.t 0)⟩,
         ⟨(some 50), none, .call 24 [(.t 49), (.c (.int .i64 (-1)))]⟩,
         ⟨(some 48), none, .mv (.t 50)⟩,
         ⟨(some 51), none, .ext (.t 48) 0⟩,
         ⟨(some 52), none, .ext (.t 48) 1⟩,
         ⟨(some 11), none, .alloc 54 [(.int .i64 0), (.int .i64 0), (.int .i64 0), (.int .i64 0), (.int .i64 0), (.int .i64 0), (.int .i64 0)]⟩,
         ⟨none, none, .store 7 (.t 11) (.t 51)⟩,
         ⟨(some 12), none, .mv (.t 52)⟩])
       (.seq
        (.ops [⟨(some 53), none, .mv (.t 1)⟩,
          ⟨(some 54), none, .nilck (.t 53)⟩,
          ⟨(some 55), none, .addr 0 (.t 54)⟩,
          ⟨(some 56), none, .load none (.t 55)⟩,
          ⟨(some 57), none, .call 21 [(.t 56)]⟩,
          ⟨(some 13), none, .mv (.t 57)⟩])
        (.seq
         (.ops [⟨(some 58), none, .mv (.t 10)⟩,
           ⟨(some 59), none, .un .not (.t 58)⟩,
           ⟨(some 60), none, .mv (.t 59)⟩,
           ⟨(some 61), (some (60, true)), .mv (.t 12)⟩,
           ⟨(some 62), (some (60, true)), .un .not (.t 61)⟩,
           ⟨(some 63), none, .pick (.t 60) (.t 62) (.c (.bool false))⟩,
           ⟨(some 64), none, .mv (.t 63)⟩,
           ⟨(some 65), (some (64, true)), .load (some 7) (.t 9)⟩,
           ⟨(some 66), (some (64, true)), .build [(.int .i64 0), (.int .i64 0), (.int .i64 0), (.int .i64 0), (.int .i64 0), (.int .i64 0), (.int .i64 0)] [(0, 1), (1, 1), (2, 1), (3, 1), (4, 3)] []⟩,
           ⟨(some 67), (some (64, true)), .eq false 54 (.struct #[⟨"Side", 3, 0, false, "", "", 0⟩, ⟨"First", 3, 1, false, "", "", 8⟩, ⟨"Second", 3, 2, false, "", "", 16⟩, ⟨"Share", 3, 3, false, "", "", 24⟩, ⟨"Pane", 25, 4, false, "", "", 32⟩]) (.t 65) (.t 66)⟩,
           ⟨(some 68), none, .pick (.t 64) (.t 67) (.c (.bool false))⟩,
           ⟨(some 69), none, .mv (.t 68)⟩,
           ⟨(some 70), (some (69, true)), .mv (.t 0)⟩,
           ⟨(some 71), (some (69, true)), .call 15 [(.t 70)]⟩,
           ⟨(some 72), (some (69, true)), .mv (.t 13)⟩,
           ⟨(some 73), (some (69, true)), .lenL (.t 72)⟩,
           ⟨(some 74), (some (69, true)), .bin .eql (.t 71) (.t 73)⟩,
           ⟨(some 75), none, .pick (.t 69) (.t 74) (.c (.bool false))⟩,
           ⟨(some 76), none, .mv (.t 75)⟩,
           ⟨(some 77), (some (76, true)), .mv (.t 0)⟩,
           ⟨(some 78), (some (76, true)), .call 28 [(.t 77)]⟩,
           ⟨(some 79), (some (76, true)), .mv (.t 13)⟩,
           ⟨(some 80), (some (76, true)), .call 34 [(.t 78), (.t 79)]⟩,
           ⟨(some 81), none, .pick (.t 76) (.t 80) (.c (.bool false))⟩,
           ⟨(some 4), none, .mv (.t 81)⟩])
         (.ret)))))))⟩
theorem ok20 : FnOk Try.prog 20 a20 := FnOk.of Try.prog Try.func20 (by kernel_rfl)
/-- (*jalousie/jalousieref19.Node).Panes -/
def a21 : AFn := ⟨24, [.tmp 2], .seq
   (.ops [⟨(some 2), none, .mv (.c .nilslice)⟩])
   (.seq
    (.seq
     (.ops [⟨(some 3), none, .mv (.t 0)⟩,
       ⟨(some 4), none, .nilck (.t 3)⟩,
       ⟨(some 5), none, .addr 0 (.t 4)⟩,
       ⟨(some 6), none, .load none (.t 5)⟩,
       ⟨(some 7), none, .bin .eql (.t 6) (.c (.int .i64 0))⟩])
     (.cond (.t 7)
      (.seq
       (.ops [⟨(some 8), none, .mv (.t 0)⟩,
         ⟨(some 9), none, .nilck (.t 8)⟩,
         ⟨(some 10), none, .addr 4 (.t 9)⟩,
         ⟨(some 11), none, .load (some 3) (.t 10)⟩,
         ⟨(some 12), none, .bslice 25 3 1 [(.int .i64 0), (.int .i64 0), (.int .i64 0)] [(0, (.t 11))]⟩,
         ⟨(some 2), none, .mv (.t 12)⟩])
       (.ret))
      (.skip)))
    (.seq
     (.draw [⟨⟨(some 13), none, .mv (.t 0)⟩, []⟩,
       ⟨⟨(some 14), none, .nilck (.t 13)⟩, [0]⟩,
       ⟨⟨(some 15), none, .addr 2 (.t 14)⟩, [1]⟩,
       ⟨⟨(some 16), none, .load none (.t 15)⟩, [2]⟩,
       ⟨⟨(some 17), none, .call 21 [(.t 16)]⟩, [3]⟩,
       ⟨⟨(some 18), none, .mv (.t 0)⟩, []⟩,
       ⟨⟨(some 19), none, .nilck (.t 18)⟩, [5]⟩,
       ⟨⟨(some 20), none, .addr 3 (.t 19)⟩, [6]⟩,
       ⟨⟨(some 21), none, .load none (.t 20)⟩, [7]⟩,
       ⟨⟨(some 22), none, .call 21 [(.t 21)]⟩, [8, 4]⟩,
       ⟨⟨(some 23), none, .append 25 3 24 (.t 17) (.t 22)⟩, [4, 9, 9]⟩,
       ⟨⟨(some 2), none, .mv (.t 23)⟩, [10, 10, 0, 1, 2, 3, 4, 5, 6, 7, 8, 9, 10]⟩] [0, 1, 3, 7, 15, 0, 32, 96, 224, 511, 1023, 2047])
     (.ret)))⟩
theorem ok21 : FnOk Try.prog 21 a21 := FnOk.of Try.prog Try.func21 (by kernel_rfl)
/-- (*jalousie/tree.Tree).Next -/
def a22 : AFn := ⟨34, [.cell 6 (some 3), .tmp 7], .seq
   (.ops [⟨(some 4), none, .box 25 (.t 1)⟩,
     ⟨(some 6), none, .alloc 25 [(.int .i64 0), (.int .i64 0), (.int .i64 0)]⟩,
     ⟨(some 7), none, .mv (.c (.bool false))⟩])
   (.seq
    (.ops [⟨(some 11), none, .mv (.t 0)⟩,
      ⟨(some 12), none, .call 23 [(.t 11)]⟩,
      ⟨(some 13), none, .call 41 [(.t 12)]⟩,
      ⟨(some 8), none, .mv (.t 13)⟩])
    (.seq
     (.ops [⟨(some 14), none, .mv (.t 8)⟩,
       ⟨(some 15), none, .load (some 3) (.t 4)⟩,
       ⟨(some 16), none, .call 42 [(.t 14), (.t 15)]⟩,
       ⟨(some 9), none, .mv (.t 16)⟩])
     (.seq
      (.seq
       (.ops [⟨(some 17), none, .mv (.t 9)⟩,
         ⟨(some 18), none, .bin .lss (.t 17) (.c (.int .i64 0))⟩])
       (.cond (.t 18)
        (.seq
         (.ops [⟨(some 19), none, .build [(.int .i64 0), (.int .i64 0), (.int .i64 0)] [(0, 1), (1, 1), (2, 1)] []⟩,
           ⟨none, none, .store 3 (.t 6) (.t 19)⟩,
           ⟨(some 7), none, .mv (.c (.bool false))⟩])
         (.ret))
        (.skip)))
      (.seq
       (.ops [⟨(some 20), none, .mv (.t 8)⟩,
         ⟨(some 21), none, .lenL (.t 20)⟩,
         ⟨(some 10), none, .mv (.t 21)⟩])
       (.seq
        (.ops [⟨(some 22), none, .mv (.t 8)⟩,
          ⟨(some 23), none, .mv (.t 9)⟩,
          ⟨(some 24), none, .mv (.t 2)⟩,
          ⟨(some 25), none, .mv (.t 10)⟩,
          ⟨(some 26), none, .bin .rem (.t 24) (.t 25)⟩,
          ⟨(some 27), none, .bin .add (.t 23) (.t 26)⟩,
          ⟨(some 28), none, .mv (.t 10)⟩,
          ⟨(some 29), none, .bin .add (.t 27) (.t 28)⟩,
          ⟨(some 30), none, .mv (.t 10)⟩,
          ⟨(some 31), none, .bin .rem (.t 29) (.t 30)⟩,
          ⟨(some 32), none, .iaddrS 3 (.t 22) (.t 31)⟩,
          ⟨(some 33), none, .load (some 3) (.t 32)⟩,
          ⟨none, none, .store 3 (.t 6) (.t 33)⟩,
          ⟨(some 7), none, .mv (.c (.bool true))⟩])
        (.ret))))))⟩
theorem ok22 : FnOk Try.prog 22 a22 := FnOk.of Try.prog Try.func22 (by kernel_rfl)
/-- (*jalousie/tree.Tree).Panes -/
def a23 : AFn := ⟨4, [.tmp 2], .seq
   (.ops [⟨(some 1), none, .box 22 (.t 0)⟩,
     ⟨(some 2), none, .mv (.c .nilfn)⟩])
   (.seq
    (.ops [⟨(some 3), none, .fn (.func 43) [] [(.t 1)]⟩,
      ⟨(some 2), none, .mv (.t 3)⟩])
    (.ret))⟩
theorem ok23 : FnOk Try.prog 23 a23 := FnOk.of Try.prog Try.func23 (by kernel_rfl)
/-- (*jalousie/tree.Tree).Node -/
def a24 : AFn := ⟨22, [.cell 4 (some 7), .tmp 5], .seq
   (.ops [⟨(some 4), none, .alloc 54 [(.int .i64 0), (.int .i64 0), (.int .i64 0), (.int .i64 0), (.int .i64 0), (.int .i64 0), (.int .i64 0)]⟩,
     ⟨(some 5), none, .mv (.c (.bool false))⟩])
   (.seq
    (.ops [⟨(some 7), none, .mv (.t 0)⟩,
      ⟨(some 8), none, .call 45 [(.t 7)]⟩,
      ⟨(some 6), none, .mv (.t 8)⟩])
    (.seq
     (.seq
      (.ops [⟨(some 9), none, .mv (.t 1)⟩,
        ⟨(some 10), none, .bin .lss (.t 9) (.c (.int .i64 0))⟩,
        ⟨(some 11), none, .mv (.t 10)⟩,
        ⟨(some 12), (some (11, false)), .mv (.t 1)⟩,
        ⟨(some 13), (some (11, false)), .mv (.t 6)⟩,
        ⟨(some 14), (some (11, false)), .lenL (.t 13)⟩,
        ⟨(some 15), (some (11, false)), .bin .geq (.t 12) (.t 14)⟩,
        ⟨(some 16), none, .pick (.t 11) (.c (.bool true)) (.t 15)⟩])
      (.cond (.t 16)
       (.seq
        (.ops [⟨(some 17), none, .build [(.int .i64 0), (.int .i64 0), (.int .i64 0), (.int .i64 0), (.int .i64 0), (.int .i64 0), (.int .i64 0)] [(0, 1), (1, 1), (2, 1), (3, 1), (4, 3)] []⟩,
          ⟨none, none, .store 7 (.t 4) (.t 17)⟩,
          ⟨(some 5), none, .mv (.c (.bool false))⟩])
        (.ret))
       (.skip)))
     (.seq
      (.ops [⟨(some 18), none, .mv (.t 6)⟩,
        ⟨(some 19), none, .mv (.t 1)⟩,
        ⟨(some 20), none, .iaddrS 7 (.t 18) (.t 19)⟩,
        ⟨(some 21), none, .load (some 7) (.t 20)⟩,
        ⟨none, none, .store 7 (.t 4) (.t 21)⟩,
        ⟨(some 5), none, .mv (.c (.bool true))⟩])
      (.ret))))⟩
theorem ok24 : FnOk Try.prog 24 a24 := FnOk.of Try.prog Try.func24 (by kernel_rfl)
/-- (*jalousie/tree.Tree).Swap -/
def a25 : AFn := ⟨41, [.tmp 6], .seq
   (.ops [⟨(some 4), none, .box 25 (.t 1)⟩,
     ⟨(some 5), none, .box 25 (.t 2)⟩,
     ⟨(some 6), none, .mv (.c (.int .i64 0))⟩])
   (.seq
    (.draw [⟨⟨(some 9), none, .mv (.t 0)⟩, []⟩,
      ⟨⟨(some 10), none, .load (some 3) (.t 4)⟩, []⟩,
      ⟨⟨(some 11), none, .call 29 [(.t 9), (.t 10)]⟩, [0, 1]⟩,
      ⟨⟨(some 12), none, .mv (.t 0)⟩, []⟩,
      ⟨⟨(some 13), none, .load (some 3) (.t 5)⟩, []⟩,
      ⟨⟨(some 14), none, .call 29 [(.t 12), (.t 13)]⟩, [3, 4, 2]⟩,
      ⟨⟨(some 7), none, .mv (.t 11)⟩, [2, 5, 0, 1, 2]⟩,
      ⟨⟨(some 8), none, .mv (.t 14)⟩, [5, 6, 0, 1, 2, 3, 4, 5, 6]⟩] [0, 0, 3, 0, 0, 31, 63, 127])
    (.seq
     (.block 0 (.seq
       (.ops [⟨(some 16), none, .mv (.t 0)⟩,
         ⟨(some 17), none, .eq false 22 (.pointer 60) (.t 16) (.c .nilptr)⟩,
         ⟨(some 15), none, .mv (.t 17)⟩])
       (.cond (.t 15)
        (.seq
         (.ops [⟨(some 6), none, .mv (.c (.int .i64 2))⟩])
         (.ret))
        (.seq
         (.ops [⟨(some 19), none, .mv (.t 7)⟩,
           ⟨(some 20), none, .bin .lss (.t 19) (.c (.int .i64 0))⟩,
           ⟨(some 21), none, .mv (.t 20)⟩,
           ⟨(some 22), (some (21, false)), .mv (.t 8)⟩,
           ⟨(some 23), (some (21, false)), .bin .lss (.t 22) (.c (.int .i64 0))⟩,
           ⟨(some 24), none, .pick (.t 21) (.c (.bool true)) (.t 23)⟩,
           ⟨(some 18), none, .mv (.t 24)⟩])
         (.cond (.t 18)
          (.seq
           (.ops [⟨(some 6), none, .mv (.c (.int .i64 4))⟩])
           (.ret))
          (.skip))))))
     (.seq
      (.draw [⟨⟨(some 25), none, .mv (.t 0)⟩, []⟩,
        ⟨⟨(some 26), none, .nilck (.t 25)⟩, [0]⟩,
        ⟨⟨(some 27), none, .addr 0 (.t 26)⟩, [1]⟩,
        ⟨⟨(some 28), none, .load none (.t 27)⟩, [2]⟩,
        ⟨⟨(some 29), none, .mv (.t 7)⟩, []⟩,
        ⟨⟨(some 30), none, .mv (.t 0)⟩, []⟩,
        ⟨⟨(some 31), none, .nilck (.t 30)⟩, [5]⟩,
        ⟨⟨(some 32), none, .addr 0 (.t 31)⟩, [6]⟩,
        ⟨⟨(some 33), none, .load none (.t 32)⟩, [7]⟩,
        ⟨⟨(some 34), none, .mv (.t 8)⟩, []⟩,
        ⟨⟨(some 35), none, .load (some 3) (.t 5)⟩, []⟩,
        ⟨⟨(some 36), none, .load (some 3) (.t 4)⟩, []⟩,
        ⟨⟨(some 37), none, .iaddrS 7 (.t 28) (.t 29)⟩, [3, 4, 0, 1, 2, 3, 4, 8, 10]⟩,
        ⟨⟨(some 38), none, .addr 4 (.t 37)⟩, [12, 0, 1, 2, 3, 4, 8, 10]⟩,
        ⟨⟨none, none, .store 3 (.t 38) (.t 35)⟩, [13, 10, 0, 1, 2, 3, 4, 8, 10]⟩,
        ⟨⟨(some 39), none, .iaddrS 7 (.t 33) (.t 34)⟩, [8, 9, 0, 1, 2, 3, 4, 5, 6, 7, 8, 9, 10, 11, 12, 13, 14]⟩,
        ⟨⟨(some 40), none, .addr 4 (.t 39)⟩, [15, 0, 1, 2, 3, 4, 5, 6, 7, 8, 9, 10, 11, 12, 13, 14]⟩,
        ⟨⟨none, none, .store 3 (.t 40) (.t 36)⟩, [16, 11, 14, 0, 1, 2, 3, 4, 5, 6, 7, 8, 9, 10, 11, 12, 13, 14]⟩] [0, 1, 3, 7, 0, 0, 32, 96, 224, 0, 0, 0, 1535, 5631, 13823, 32767, 65535, 131071])
      (.seq
       (.ops [⟨(some 6), none, .mv (.c (.int .i64 0))⟩])
       (.ret)))))⟩
theorem ok25 : FnOk Try.prog 25 a25 := FnOk.of Try.prog Try.func25 (by kernel_rfl)
/-- jalousie/jalousielaw19.made -/
def a26 : AFn := ⟨59, [.tmp 4], .seq
   (.ops [⟨(some 2), none, .box 25 (.t 0)⟩,
     ⟨(some 4), none, .mv (.c .nilptr)⟩])
   (.seq
    (.ops [⟨(some 8), none, .load (some 3) (.t 2)⟩,
      ⟨(some 9), none, .call 9 [(.t 8)]⟩,
      ⟨(some 5), none, .mv (.t 9)⟩])
    (.seq
     (.seq
      (.ops [⟨(some 6), none, .mv (.c (.int .i64 0))⟩])
      (.block 0 (.loop (.seq
         (.seq
          (.ops [⟨(some 10), none, .mv (.t 6)⟩,
            ⟨(some 11), none, .mv (.t 1)⟩,
            ⟨(some 12), none, .lenL (.t 11)⟩,
            ⟨(some 13), none, .bin .lss (.t 10) (.t 12)⟩])
          (.cond (.t 13)
           (.skip)
           (.exit 0)))
         (.seq
          (.block 1 (.seq
            (.ops [⟨(some 16), none, .mv (.t 1)⟩,
              ⟨(some 17), none, .mv (.t 6)⟩,
              ⟨(some 18), none, .iaddrS 9 (.t 16) (.t 17)⟩,
              ⟨(some 19), none, .load (some 9) (.t 18)⟩,
              ⟨(some 7), none, .alloc 38 [(.int .i64 0), (.int .i64 0), (.int .i64 0), (.int .i64 0), (.int .i64 0), (.int .i64 0), (.int .i64 0), (.int .i64 0), (.int .i64 0)]⟩,
              ⟨none, none, .store 9 (.t 7) (.t 19)⟩])
            (.seq
             (.ops [⟨(some 20), none, .addr 0 (.t 7)⟩,
               ⟨(some 21), none, .load none (.t 20)⟩])
             (.block 2 (.seq
               (.ops [⟨(some 23), none, .bin .eql (.t 21) (.c (.int .i64 0))⟩,
                 ⟨(some 22), none, .mv (.t 23)⟩])
               (.cond (.t 22)
                (.ops [⟨(some 24), none, .mv (.t 5)⟩,
                  ⟨(some 25), none, .addr 1 (.t 7)⟩,
                  ⟨(some 26), none, .load (some 3) (.t 25)⟩,
                  ⟨(some 27), none, .addr 4 (.t 7)⟩,
                  ⟨(some 28), none, .load (some 3) (.t 27)⟩,
                  ⟨(some 29), none, .addr 7 (.t 7)⟩,
                  ⟨(some 30), none, .load none (.t 29)⟩,
                  ⟨(some 31), none, .addr 8 (.t 7)⟩,
                  ⟨(some 32), none, .load none (.t 31)⟩,
                  ⟨(some 33), none, .call 11 [(.t 24), (.t 26), (.t 28), (.t 30), (.t 32)]⟩])
                (.seq
                 (.ops [⟨(some 35), none, .bin .eql (.t 21) (.c (.int .i64 1))⟩,
                   ⟨(some 34), none, .mv (.t 35)⟩])
                 (.cond (.t 34)
                  (.ops [⟨(some 36), none, .mv (.t 5)⟩,
                    ⟨(some 37), none, .addr 1 (.t 7)⟩,
                    ⟨(some 38), none, .load (some 3) (.t 37)⟩,
                    ⟨(some 39), none, .call 12 [(.t 36), (.t 38)]⟩])
                  (.seq
                   (.ops [⟨(some 41), none, .bin .eql (.t 21) (.c (.int .i64 2))⟩,
                     ⟨(some 40), none, .mv (.t 41)⟩])
                   (.cond (.t 40)
                    (.ops [⟨(some 42), none, .mv (.t 5)⟩,
                      ⟨(some 43), none, .addr 1 (.t 7)⟩,
                      ⟨(some 44), none, .load (some 3) (.t 43)⟩,
                      ⟨(some 45), none, .addr 4 (.t 7)⟩,
                      ⟨(some 46), none, .load (some 3) (.t 45)⟩,
                      ⟨(some 47), none, .call 25 [(.t 42), (.t 44), (.t 46)]⟩])
                    (.seq
                     (.ops [⟨(some 49), none, .bin .eql (.t 21) (.c (.int .i64 3))⟩,
                       ⟨(some 48), none, .mv (.t 49)⟩])
                     (.cond (.t 48)
                      (.ops [⟨(some 50), none, .mv (.t 5)⟩,
                        ⟨(some 51), none, .addr 1 (.t 7)⟩,
                        ⟨(some 52), none, .load (some 3) (.t 51)⟩,
                        ⟨(some 53), none, .addr 7 (.t 7)⟩,
                        ⟨(some 54), none, .load none (.t 53)⟩,
                        ⟨(some 55), none, .addr 8 (.t 7)⟩,
                        ⟨(some 56), none, .load none (.t 55)⟩,
                        ⟨(some 57), none, .call 13 [(.t 50), (.t 52), (.t 54), (.t 56)]⟩])
                      (.skip)))))))))))))
          (.ops [⟨(some 14), none, .mv (.t 6)⟩,
            ⟨(some 15), none, .bin .add (.t 14) (.c (.int .i64 1))⟩,
            ⟨(some 6), none, .mv (.t 15)⟩]))))))
     (.seq
      (.ops [⟨(some 58), none, .mv (.t 5)⟩,
        ⟨(some 4), none, .mv (.t 58)⟩])
      (.ret))))⟩
theorem ok26 : FnOk Try.prog 26 a26 := FnOk.of Try.prog Try.func26 (by kernel_rfl)
/-- jalousie/jalousielaw19.nodes -/
def a27 : AFn := ⟨25, [.tmp 2], .seq
   (.ops [⟨(some 2), none, .mv (.c .nilslice)⟩])
   (.seq
    (.ops [⟨(some 3), none, .mv (.c .nilslice)⟩])
    (.seq
     (.seq
      (.ops [⟨(some 4), none, .mv (.c (.int .i64 0))⟩])
      (.block 0 (.loop (.seq
         (.seq
          (.ops [⟨(some 7), none, .mv (.t 4)⟩,
            ⟨(some 8), none, .bin .lss (.t 7) (.c (.int .i64 100))⟩])
          (.cond (.t 8)
           (.skip)
           (.exit 0)))
         (.seq
          (.block 1 (.seq
            (.ops [⟨(some 12), none, .mv (.t 0)⟩,
              ⟨(some 13), none, .mv (.t 4)⟩,
              ⟨(some 14), none, .call 24 [(.t 12), (.t 13)]⟩,
              ⟨(some 11), none, .mv (.t 14)⟩,
              ⟨(some 15), none, .ext (.t 11) 0⟩,
              ⟨(some 16), none, .ext (.t 11) 1⟩,
              ⟨(some 5), none, .alloc 54 [(.int .i64 0), (.int .i64 0), (.int .i64 0), (.int .i64 0), (.int .i64 0), (.int .i64 0), (.int .i64 0)]⟩,
              ⟨none, none, .store 7 (.t 5) (.t 15)⟩,
              ⟨(some 6), none, .mv (.t 16)⟩])
            (.seq
             (.seq
              (.ops [⟨(some 17), none, .mv (.t 6)⟩,
                ⟨(some 18), none, .un .not (.t 17)⟩])
              (.cond (.t 18)
               (.seq
                (.ops [⟨(some 19), none, .mv (.t 3)⟩,
                  ⟨(some 2), none, .mv (.t 19)⟩])
                (.ret))
               (.skip)))
             (.ops [⟨(some 20), none, .mv (.t 3)⟩,
               ⟨(some 21), none, .load (some 7) (.t 5)⟩,
               ⟨(some 22), none, .bslice 54 7 1 [(.int .i64 0), (.int .i64 0), (.int .i64 0), (.int .i64 0), (.int .i64 0), (.int .i64 0), (.int .i64 0)] [(0, (.t 21))]⟩,
               ⟨(some 23), none, .append 54 7 56 (.t 20) (.t 22)⟩,
               ⟨(some 3), none, .mv (.t 23)⟩]))))
          (.ops [⟨(some 9), none, .mv (.t 4)⟩,
            ⟨(some 10), none, .bin .add (.t 9) (.c (.int .i64 1))⟩,
            ⟨(some 4), none, .mv (.t 10)⟩]))))))
     (.seq
      (.ops [⟨(some 24), none, .mv (.t 3)⟩,
        ⟨(some 2), none, .mv (.t 24)⟩])
      (.ret))))⟩
theorem ok27 : FnOk Try.prog 27 a27 := FnOk.of Try.prog Try.func27 (by kernel_rfl)
/-- jalousie/jalousielaw19.panes -/
def a28 : AFn := ⟨20, [.cell 2 none], .seq
   (.ops [⟨(some 2), none, .alloc 42 [.nilslice]⟩])
   (.seq
    (.ops [⟨(some 3), none, .alloc 42 [.nilslice]⟩])
    (.seq
     (.seq
      (.ops [⟨(some 5), none, .mv (.t 0)⟩,
        ⟨(some 6), none, .call 23 [(.t 5)]⟩,
        ⟨(some 7), none, .eq false 51 (.func #[39] #[] false) (.t 6) (.c .nilfn)⟩])
      (.cond (.t 7)
       (.seq
        (.ops [⟨none, none, .store 1 (.t 2) (.c .nilslice)⟩])
        (.ret))
       (.skip)))
     (.seq
      (.seq
       (.ops [⟨(some 8), none, .mv (.t 0)⟩,
         ⟨(some 9), none, .call 23 [(.t 8)]⟩])
       (.block 0 (.rangeF (.t 9) [10]
         (.ops [⟨(some 4), none, .alloc 25 [(.int .i64 0), (.int .i64 0), (.int .i64 0)]⟩,
           ⟨none, none, .store 3 (.t 4) (.t 10)⟩])
         (.block 1 (.seq
           (.ops [⟨(some 11), none, .load none (.t 3)⟩,
             ⟨(some 12), none, .load (some 3) (.t 4)⟩,
             ⟨(some 13), none, .bslice 25 3 1 [(.int .i64 0), (.int .i64 0), (.int .i64 0)] [(0, (.t 12))]⟩,
             ⟨(some 14), none, .append 25 3 24 (.t 11) (.t 13)⟩,
             ⟨none, none, .store 1 (.t 3) (.t 14)⟩])
           (.seq
            (.ops [⟨(some 15), none, .load none (.t 3)⟩,
              ⟨(some 16), none, .lenL (.t 15)⟩,
              ⟨(some 17), none, .bin .gtr (.t 16) (.c (.int .i64 100))⟩])
            (.cond (.t 17)
             (.seq
              (.ops [⟨(some 18), none, .load none (.t 3)⟩,
                ⟨none, none, .store 1 (.t 2) (.t 18)⟩])
              (.ret))
             (.skip))))))))
      (.seq
       (.ops [⟨(some 19), none, .load none (.t 3)⟩,
         ⟨none, none, .store 1 (.t 2) (.t 19)⟩])
       (.ret)))))⟩
theorem ok28 : FnOk Try.prog 28 a28 := FnOk.of Try.prog Try.func28 (by kernel_rfl)
/-- (*jalousie/tree.Tree).leaf -/
def a29 : AFn := ⟨9, [.tmp 4], .seq
   (.ops [⟨(some 3), none, .box 25 (.t 1)⟩,
     ⟨(some 4), none, .mv (.c (.int .i64 0))⟩])
   (.seq
    (.ops [⟨(some 5), none, .mv (.t 0)⟩,
      ⟨(some 6), none, .call 45 [(.t 5)]⟩,
      ⟨(some 7), none, .fn (.func 47) [] [(.t 3)]⟩,
      ⟨(some 8), none, .call 46 [(.t 6), (.t 7)]⟩,
      ⟨(some 4), none, .mv (.t 8)⟩])
    (.ret))⟩
theorem ok29 : FnOk Try.prog 29 a29 := FnOk.of Try.prog Try.func29 (by kernel_rfl)

end Go.Proofs.Ytffmpomidfickaa.Fns
