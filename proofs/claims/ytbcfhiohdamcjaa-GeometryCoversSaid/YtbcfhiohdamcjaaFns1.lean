/- Functions of the translated code as the abstract machine reads them, printed by program; each is checked against the code. -/
import Derived.Test.YtbcfhiohdamcjaaProg
import Derived.Test.YtbcfhiohdamcjaaAmEval
namespace Go.Proofs.Ytbcfhiohdamcjaa.Fns
open Go Go.RowKit Am Go.Proofs.Ytbcfhiohdamcjaa
set_option maxRecDepth 100000
/-- (*jalousie/tree.Tree).Len -/
def a35 : AFn := ⟨10, [.tmp 2], .seq
   (.ops [⟨(some 2), none, .mv (.c (.int .i64 0))⟩])
   (.seq
    (.ops [⟨(some 3), none, .alloc 3 [(.int .i64 0)]⟩,
      ⟨none, none, .store 1 (.t 3) (.c (.int .i64 0))⟩])
    (.seq
     (.seq
      (.ops [⟨(some 4), none, .mv (.t 0)⟩,
        ⟨(some 5), none, .call 22 [(.t 4)]⟩])
      (.block 0 (.rangeF (.t 5) [6]
        (.skip)
        (.block 1 (.ops [⟨(some 7), none, .load none (.t 3)⟩,
           ⟨(some 8), none, .bin .add (.t 7) (.c (.int .i64 1))⟩,
           ⟨none, none, .store 1 (.t 3) (.t 8)⟩])))))
     (.seq
      (.ops [⟨(some 9), none, .load none (.t 3)⟩,
        ⟨(some 2), none, .mv (.t 9)⟩])
      (.ret))))⟩
theorem ok35 : FnOk Try.prog 35 a35 := FnOk.of Try.prog Try.func35 (by kernel_rfl)
/-- (*jalousie/tree.Tree).moves -/
def a36 : AFn := ⟨56, [], .seq
   (.ops [⟨(some 8), none, .mv (.t 0)⟩,
     ⟨(some 9), none, .nilck (.t 8)⟩,
     ⟨(some 10), none, .addr 0 (.t 9)⟩,
     ⟨(some 11), none, .load none (.t 10)⟩,
     ⟨(some 12), none, .lenL (.t 11)⟩,
     ⟨(some 13), none, .mv (.c (.int .i64 0))⟩])
   (.block 0 (.loop (.seq
      (.ops [⟨(some 14), none, .bin .lss (.t 13) (.t 12)⟩])
      (.seq
       (.cond (.t 14)
        (.skip)
        (.exit 0))
       (.seq
        (.block 1 (.seq
          (.ops [⟨(some 15), none, .mv (.t 13)⟩,
            ⟨(some 6), none, .mv (.t 15)⟩])
          (.seq
           (.ops [⟨(some 16), none, .mv (.t 0)⟩,
             ⟨(some 17), none, .nilck (.t 16)⟩,
             ⟨(some 18), none, .addr 0 (.t 17)⟩,
             ⟨(some 19), none, .load none (.t 18)⟩,
             ⟨(some 20), none, .mv (.t 6)⟩,
             ⟨(some 21), none, .iaddrS 7 (.t 19) (.t 20)⟩,
             ⟨(some 7), none, .mv (.t 21)⟩])
           (.seq
            (.seq
             (.ops [⟨(some 22), none, .mv (.t 7)⟩,
               ⟨(some 23), none, .nilck (.t 22)⟩,
               ⟨(some 24), none, .addr 0 (.t 23)⟩,
               ⟨(some 25), none, .load none (.t 24)⟩,
               ⟨(some 26), none, .bin .eql (.t 25) (.c (.int .i64 0))⟩])
             (.cond (.t 26)
              (.exit 1)
              (.skip)))
            (.seq
             (.seq
              (.ops [⟨(some 27), none, .mv (.t 7)⟩,
                ⟨(some 28), none, .nilck (.t 27)⟩,
                ⟨(some 29), none, .addr 1 (.t 28)⟩,
                ⟨(some 30), none, .load none (.t 29)⟩,
                ⟨(some 31), none, .mv (.t 1)⟩,
                ⟨(some 32), none, .bin .geq (.t 30) (.t 31)⟩])
              (.cond (.t 32)
               (.ops [⟨(some 33), none, .mv (.t 7)⟩,
                 ⟨(some 34), none, .nilck (.t 33)⟩,
                 ⟨(some 35), none, .addr 1 (.t 34)⟩,
                 ⟨(some 36), none, .load none (.t 35)⟩,
                 ⟨(some 37), none, .mv (.t 2)⟩,
                 ⟨(some 38), none, .bin .add (.t 36) (.t 37)⟩,
                 ⟨(some 39), none, .nilck (.t 33)⟩,
                 ⟨(some 40), none, .addr 1 (.t 39)⟩,
                 ⟨none, none, .store 1 (.t 40) (.t 38)⟩])
               (.skip)))
             (.seq
              (.ops [⟨(some 41), none, .mv (.t 7)⟩,
                ⟨(some 42), none, .nilck (.t 41)⟩,
                ⟨(some 43), none, .addr 2 (.t 42)⟩,
                ⟨(some 44), none, .load none (.t 43)⟩,
                ⟨(some 45), none, .mv (.t 1)⟩,
                ⟨(some 46), none, .bin .geq (.t 44) (.t 45)⟩])
              (.cond (.t 46)
               (.ops [⟨(some 47), none, .mv (.t 7)⟩,
                 ⟨(some 48), none, .nilck (.t 47)⟩,
                 ⟨(some 49), none, .addr 2 (.t 48)⟩,
                 ⟨(some 50), none, .load none (.t 49)⟩,
                 ⟨(some 51), none, .mv (.t 2)⟩,
                 ⟨(some 52), none, .bin .add (.t 50) (.t 51)⟩,
                 ⟨(some 53), none, .nilck (.t 47)⟩,
                 ⟨(some 54), none, .addr 2 (.t 53)⟩,
                 ⟨none, none, .store 1 (.t 54) (.t 52)⟩])
               (.skip))))))))
        (.ops [⟨(some 55), none, .bin .add (.t 13) (.c (.int .i64 1))⟩,
          ⟨(some 13), none, .mv (.t 55)⟩]))))))⟩
theorem ok36 : FnOk Try.prog 36 a36 := FnOk.of Try.prog Try.func36 (by kernel_rfl)
/-- slices.Insert[[]jalousie/tree.Node,jalousie/tree.Node] -/
def a37 : AFn := ⟨95, [.tmp 6], .seq
   (.ops [⟨(some 6), none, .mv (.c .nilslice)⟩])
   (.seq
    (.ops [⟨(some 10), none, .mv (.t 0)⟩,
      ⟨(some 11), none, .mv (.t 1)⟩,
      ⟨(some 12), none, .slice 7 (.t 10) (some (.t 11)) none none⟩])
    (.seq
     (.ops [⟨(some 13), none, .mv (.t 2)⟩,
       ⟨(some 14), none, .lenL (.t 13)⟩,
       ⟨(some 7), none, .mv (.t 14)⟩])
     (.seq
      (.seq
       (.ops [⟨(some 15), none, .mv (.t 7)⟩,
         ⟨(some 16), none, .bin .eql (.t 15) (.c (.int .i64 0))⟩])
       (.cond (.t 16)
        (.seq
         (.ops [⟨(some 17), none, .mv (.t 0)⟩,
           ⟨(some 6), none, .mv (.t 17)⟩])
         (.ret))
        (.skip)))
      (.seq
       (.ops [⟨(some 18), none, .mv (.t 0)⟩,
         ⟨(some 19), none, .lenL (.t 18)⟩,
         ⟨(some 8), none, .mv (.t 19)⟩])
       (.seq
        (.seq
         (.ops [⟨(some 20), none, .mv (.t 1)⟩,
           ⟨(some 21), none, .mv (.t 8)⟩,
           ⟨(some 22), none, .bin .eql (.t 20) (.t 21)⟩])
         (.cond (.t 22)
          (.seq
           (.ops [⟨(some 23), none, .mv (.t 0)⟩,
             ⟨(some 24), none, .mv (.t 2)⟩,
             ⟨(some 25), none, .append 55 7 56 (.t 23) (.t 24)⟩,
             ⟨(some 6), none, .mv (.t 25)⟩])
           (.ret))
          (.skip)))
        (.seq
         (.seq
          (.ops [⟨(some 26), none, .mv (.t 8)⟩,
            ⟨(some 27), none, .mv (.t 7)⟩,
            ⟨(some 28), none, .bin .add (.t 26) (.t 27)⟩,
            ⟨(some 29), none, .mv (.t 0)⟩,
            ⟨(some 30), none, .cap (.t 29)⟩,
            ⟨(some 31), none, .bin .gtr (.t 28) (.t 30)⟩])
          (.cond (.t 31)
           (.seq
            (.ops [⟨(some 32), none, .mv (.t 0)⟩,
              ⟨(some 33), none, .mv (.t 1)⟩,
              ⟨(some 34), none, .slice 7 (.t 32) none (some (.t 33)) none⟩,
              ⟨(some 35), none, .mv (.t 8)⟩,
              ⟨(some 36), none, .mv (.t 7)⟩,
              ⟨(some 37), none, .bin .add (.t 35) (.t 36)⟩,
              ⟨(some 38), none, .mv (.t 1)⟩,
              ⟨(some 39), none, .bin .sub (.t 37) (.t 38)⟩,
              ⟨(some 40), none, .appz 55 7 56 [(.int .i64 0), (.int .i64 0), (.int .i64 0), (.int .i64 0), (.int .i64 0), (.int .i64 0), (.int .i64 0)] (.t 34) (.t 39)⟩,
              ⟨(some 9), none, .mv (.t 40)⟩])
            (.seq
             (.ops [⟨(some 41), none, .mv (.t 9)⟩,
               ⟨(some 42), none, .mv (.t 1)⟩,
               ⟨(some 43), none, .slice 7 (.t 41) (some (.t 42)) none none⟩,
               ⟨(some 44), none, .mv (.t 2)⟩,
               ⟨(some 45), none, .copy 7 (.t 43) (.t 44)⟩])
             (.seq
              (.draw [⟨⟨(some 46), none, .mv (.t 9)⟩, []⟩,
                ⟨⟨(some 47), none, .mv (.t 1)⟩, []⟩,
                ⟨⟨(some 48), none, .mv (.t 7)⟩, []⟩,
                ⟨⟨(some 49), none, .bin .add (.t 47) (.t 48)⟩, [1, 2]⟩,
                ⟨⟨(some 50), none, .slice 7 (.t 46) (some (.t 49)) none none⟩, [0, 3]⟩,
                ⟨⟨(some 51), none, .mv (.t 0)⟩, []⟩,
                ⟨⟨(some 52), none, .mv (.t 1)⟩, []⟩,
                ⟨⟨(some 53), none, .slice 7 (.t 51) (some (.t 52)) none none⟩, [5, 6]⟩,
                ⟨⟨(some 54), none, .copy 7 (.t 50) (.t 53)⟩, [4, 7]⟩] [0, 0, 0, 6, 15, 0, 0, 96, 255])
              (.seq
               (.ops [⟨(some 55), none, .mv (.t 9)⟩,
                 ⟨(some 6), none, .mv (.t 55)⟩])
               (.ret)))))
           (.skip)))
         (.seq
          (.ops [⟨(some 56), none, .mv (.t 0)⟩,
            ⟨(some 57), none, .mv (.t 8)⟩,
            ⟨(some 58), none, .mv (.t 7)⟩,
            ⟨(some 59), none, .bin .add (.t 57) (.t 58)⟩,
            ⟨(some 60), none, .slice 7 (.t 56) none (some (.t 59)) none⟩,
            ⟨(some 0), none, .mv (.t 60)⟩])
          (.seq
           (.seq
            (.ops [⟨(some 61), none, .mv (.t 2)⟩,
              ⟨(some 62), none, .mv (.t 0)⟩,
              ⟨(some 63), none, .mv (.t 1)⟩,
              ⟨(some 64), none, .mv (.t 7)⟩,
              ⟨(some 65), none, .bin .add (.t 63) (.t 64)⟩,
              ⟨(some 66), none, .slice 7 (.t 62) (some (.t 65)) none none⟩,
              ⟨(some 67), none, .atom (.overlaps #[56, 56] #[4]) [(.t 61), (.t 66)]⟩,
              ⟨(some 68), none, .un .not (.t 67)⟩])
            (.cond (.t 68)
             (.seq
              (.draw [⟨⟨(some 69), none, .mv (.t 0)⟩, []⟩,
                ⟨⟨(some 70), none, .mv (.t 1)⟩, []⟩,
                ⟨⟨(some 71), none, .mv (.t 7)⟩, []⟩,
                ⟨⟨(some 72), none, .bin .add (.t 70) (.t 71)⟩, [1, 2]⟩,
                ⟨⟨(some 73), none, .slice 7 (.t 69) (some (.t 72)) none none⟩, [0, 3]⟩,
                ⟨⟨(some 74), none, .mv (.t 0)⟩, []⟩,
                ⟨⟨(some 75), none, .mv (.t 1)⟩, []⟩,
                ⟨⟨(some 76), none, .slice 7 (.t 74) (some (.t 75)) none none⟩, [5, 6]⟩,
                ⟨⟨(some 77), none, .copy 7 (.t 73) (.t 76)⟩, [4, 7]⟩] [0, 0, 0, 6, 15, 0, 0, 96, 255])
              (.seq
               (.ops [⟨(some 78), none, .mv (.t 0)⟩,
                 ⟨(some 79), none, .mv (.t 1)⟩,
                 ⟨(some 80), none, .slice 7 (.t 78) (some (.t 79)) none none⟩,
                 ⟨(some 81), none, .mv (.t 2)⟩,
                 ⟨(some 82), none, .copy 7 (.t 80) (.t 81)⟩])
               (.seq
                (.ops [⟨(some 83), none, .mv (.t 0)⟩,
                  ⟨(some 6), none, .mv (.t 83)⟩])
                (.ret))))
             (.skip)))
           (.seq
            (.ops [⟨(some 84), none, .mv (.t 0)⟩,
              ⟨(some 85), none, .mv (.t 8)⟩,
              ⟨(some 86), none, .slice 7 (.t 84) (some (.t 85)) none none⟩,
              ⟨(some 87), none, .mv (.t 2)⟩,
              ⟨(some 88), none, .copy 7 (.t 86) (.t 87)⟩])
            (.seq
             (.ops [⟨(some 89), none, .mv (.t 0)⟩,
               ⟨(some 90), none, .mv (.t 1)⟩,
               ⟨(some 91), none, .slice 7 (.t 89) (some (.t 90)) none none⟩,
               ⟨(some 92), none, .mv (.t 7)⟩,
               ⟨(some 93), none, .call 52 [(.t 91), (.t 92)]⟩])
             (.seq
              (.ops [⟨(some 94), none, .mv (.t 0)⟩,
                ⟨(some 6), none, .mv (.t 94)⟩])
              (.ret))))))))))))⟩
theorem ok37 : FnOk Try.prog 37 a37 := FnOk.of Try.prog Try.func37 (by kernel_rfl)
/-- (*jalousie/tree.Tree).Panes$1 -/
def a38 : AFn := ⟨24, [], .seq
   (.ops [⟨(some 5), none, .load none (.t 1)⟩,
     ⟨(some 6), none, .call 40 [(.t 5)]⟩,
     ⟨(some 7), none, .call 39 [(.t 6)]⟩,
     ⟨(some 8), none, .lenL (.t 7)⟩,
     ⟨(some 9), none, .mv (.c (.int .i64 0))⟩])
   (.block 0 (.loop (.seq
      (.ops [⟨(some 10), none, .bin .lss (.t 9) (.t 8)⟩])
      (.seq
       (.cond (.t 10)
        (.skip)
        (.exit 0))
       (.seq
        (.block 1 (.seq
          (.ops [⟨(some 11), none, .iaddrS 7 (.t 7) (.t 9)⟩,
            ⟨(some 12), none, .load (some 7) (.t 11)⟩,
            ⟨(some 4), none, .alloc 55 [(.int .i64 0), (.int .i64 0), (.int .i64 0), (.int .i64 0), (.int .i64 0), (.int .i64 0), (.int .i64 0)]⟩,
            ⟨none, none, .store 7 (.t 4) (.t 12)⟩])
          (.seq
           (.ops [⟨(some 13), none, .addr 0 (.t 4)⟩,
             ⟨(some 14), none, .load none (.t 13)⟩,
             ⟨(some 15), none, .bin .eql (.t 14) (.c (.int .i64 0))⟩,
             ⟨(some 16), none, .mv (.t 15)⟩,
             ⟨(some 17), (some (16, true)), .mv (.t 0)⟩,
             ⟨(some 18), (some (16, true)), .addr 4 (.t 4)⟩,
             ⟨(some 19), (some (16, true)), .load (some 3) (.t 18)⟩,
             ⟨(some 20), (some (16, true)), .callv (.t 17) [(.t 19)]⟩,
             ⟨(some 21), (some (16, true)), .un .not (.t 20)⟩,
             ⟨(some 22), none, .pick (.t 16) (.t 21) (.c (.bool false))⟩])
           (.cond (.t 22)
            (.ret)
            (.skip)))))
        (.ops [⟨(some 23), none, .bin .add (.t 9) (.c (.int .i64 1))⟩,
          ⟨(some 9), none, .mv (.t 23)⟩]))))))⟩
theorem ok38 : FnOk Try.prog 38 a38 := FnOk.of Try.prog Try.func38 (by kernel_rfl)
/-- slices.Clone[[]jalousie/tree.Node,jalousie/tree.Node] -/
def a39 : AFn := ⟨8, [.tmp 2], .seq
   (.ops [⟨(some 2), none, .mv (.c .nilslice)⟩])
   (.seq
    (.seq
     (.ops [⟨(some 3), none, .mv (.t 0)⟩,
       ⟨(some 4), none, .eq false 56 (.slice 55) (.t 3) (.c .nilslice)⟩])
     (.cond (.t 4)
      (.seq
       (.ops [⟨(some 2), none, .mv (.c .nilslice)⟩])
       (.ret))
      (.skip)))
    (.seq
     (.ops [⟨(some 5), none, .bslice 55 7 0 [(.int .i64 0), (.int .i64 0), (.int .i64 0), (.int .i64 0), (.int .i64 0), (.int .i64 0), (.int .i64 0)] []⟩,
       ⟨(some 6), none, .mv (.t 0)⟩,
       ⟨(some 7), none, .append 55 7 56 (.t 5) (.t 6)⟩,
       ⟨(some 2), none, .mv (.t 7)⟩])
     (.ret)))⟩
theorem ok39 : FnOk Try.prog 39 a39 := FnOk.of Try.prog Try.func39 (by kernel_rfl)
/-- (*jalousie/tree.Tree).nodes -/
def a40 : AFn := ⟨20, [.tmp 2], .seq
   (.ops [⟨(some 2), none, .mv (.c .nilslice)⟩])
   (.seq
    (.seq
     (.ops [⟨(some 3), none, .mv (.t 0)⟩,
       ⟨(some 4), none, .eq false 26 (.pointer 58) (.t 3) (.c .nilptr)⟩])
     (.cond (.t 4)
      (.seq
       (.ops [⟨(some 2), none, .mv (.c .nilslice)⟩])
       (.ret))
      (.skip)))
    (.seq
     (.seq
      (.ops [⟨(some 5), none, .mv (.t 0)⟩,
        ⟨(some 6), none, .nilck (.t 5)⟩,
        ⟨(some 7), none, .addr 0 (.t 6)⟩,
        ⟨(some 8), none, .load none (.t 7)⟩,
        ⟨(some 9), none, .lenL (.t 8)⟩,
        ⟨(some 10), none, .bin .eql (.t 9) (.c (.int .i64 0))⟩])
      (.cond (.t 10)
       (.ops [⟨(some 11), none, .mv (.t 0)⟩,
         ⟨(some 12), none, .build [(.int .i64 0), (.int .i64 0), (.int .i64 0), (.int .i64 0), (.int .i64 0), (.int .i64 0), (.int .i64 0)] [(0, 1), (1, 1), (2, 1), (3, 1), (4, 3)] []⟩,
         ⟨(some 13), none, .bslice 55 7 1 [(.int .i64 0), (.int .i64 0), (.int .i64 0), (.int .i64 0), (.int .i64 0), (.int .i64 0), (.int .i64 0)] [(0, (.t 12))]⟩,
         ⟨(some 14), none, .nilck (.t 11)⟩,
         ⟨(some 15), none, .addr 0 (.t 14)⟩,
         ⟨none, none, .store 1 (.t 15) (.t 13)⟩])
       (.skip)))
     (.seq
      (.ops [⟨(some 16), none, .mv (.t 0)⟩,
        ⟨(some 17), none, .nilck (.t 16)⟩,
        ⟨(some 18), none, .addr 0 (.t 17)⟩,
        ⟨(some 19), none, .load none (.t 18)⟩,
        ⟨(some 2), none, .mv (.t 19)⟩])
      (.ret))))⟩
theorem ok40 : FnOk Try.prog 40 a40 := FnOk.of Try.prog Try.func40 (by kernel_rfl)
/-- (*jalousie/jalousieref19.Node).find -/
def a41 : AFn := ⟨33, [.tmp 4], .seq
   (.ops [⟨(some 3), none, .box 32 (.t 1)⟩,
     ⟨(some 4), none, .mv (.c .nilptr)⟩])
   (.seq
    (.seq
     (.ops [⟨(some 6), none, .mv (.t 0)⟩,
       ⟨(some 7), none, .nilck (.t 6)⟩,
       ⟨(some 8), none, .addr 0 (.t 7)⟩,
       ⟨(some 9), none, .load none (.t 8)⟩,
       ⟨(some 10), none, .bin .eql (.t 9) (.c (.int .i64 0))⟩])
     (.cond (.t 10)
      (.seq
       (.seq
        (.draw [⟨⟨(some 11), none, .mv (.t 0)⟩, []⟩,
          ⟨⟨(some 12), none, .nilck (.t 11)⟩, [0]⟩,
          ⟨⟨(some 13), none, .addr 4 (.t 12)⟩, [1]⟩,
          ⟨⟨(some 14), none, .load (some 3) (.t 13)⟩, [2]⟩,
          ⟨⟨(some 15), none, .load (some 3) (.t 3)⟩, []⟩,
          ⟨⟨(some 16), none, .eq false 32 (.struct #[⟨"Label", 3, 0, false, "", "", 0⟩, ⟨"Home", 3, 1, false, "", "", 8⟩, ⟨"N", 3, 2, false, "", "", 16⟩]) (.t 14) (.t 15)⟩, [3, 4]⟩] [0, 1, 3, 7, 0, 31])
        (.cond (.t 16)
         (.seq
          (.ops [⟨(some 17), none, .mv (.t 0)⟩,
            ⟨(some 4), none, .mv (.t 17)⟩])
          (.ret))
         (.skip)))
       (.seq
        (.ops [⟨(some 4), none, .mv (.c .nilptr)⟩])
        (.ret)))
      (.skip)))
    (.seq
     (.draw [⟨⟨(some 18), none, .mv (.t 0)⟩, []⟩,
       ⟨⟨(some 19), none, .nilck (.t 18)⟩, [0]⟩,
       ⟨⟨(some 20), none, .addr 2 (.t 19)⟩, [1]⟩,
       ⟨⟨(some 21), none, .load none (.t 20)⟩, [2]⟩,
       ⟨⟨(some 22), none, .load (some 3) (.t 3)⟩, []⟩,
       ⟨⟨(some 23), none, .call 41 [(.t 21), (.t 22)]⟩, [3, 4]⟩,
       ⟨⟨(some 5), none, .mv (.t 23)⟩, [5, 5, 0, 1, 2, 3, 4, 5]⟩] [0, 1, 3, 7, 0, 31, 63])
     (.seq
      (.seq
       (.ops [⟨(some 24), none, .mv (.t 5)⟩,
         ⟨(some 25), none, .eq true 84 (.pointer 86) (.t 24) (.c .nilptr)⟩])
       (.cond (.t 25)
        (.seq
         (.ops [⟨(some 26), none, .mv (.t 5)⟩,
           ⟨(some 4), none, .mv (.t 26)⟩])
         (.ret))
        (.skip)))
      (.seq
       (.draw [⟨⟨(some 27), none, .mv (.t 0)⟩, []⟩,
         ⟨⟨(some 28), none, .nilck (.t 27)⟩, [0]⟩,
         ⟨⟨(some 29), none, .addr 3 (.t 28)⟩, [1]⟩,
         ⟨⟨(some 30), none, .load none (.t 29)⟩, [2]⟩,
         ⟨⟨(some 31), none, .load (some 3) (.t 3)⟩, []⟩,
         ⟨⟨(some 32), none, .call 41 [(.t 30), (.t 31)]⟩, [3, 4]⟩,
         ⟨⟨(some 4), none, .mv (.t 32)⟩, [5, 5, 0, 1, 2, 3, 4, 5]⟩] [0, 1, 3, 7, 0, 31, 63])
       (.ret)))))⟩
theorem ok41 : FnOk Try.prog 41 a41 := FnOk.of Try.prog Try.func41 (by kernel_rfl)
/-- (*jalousie/jalousieref19.Tree).Has -/
def a42 : AFn := ⟨12, [.tmp 4], .seq
   (.ops [⟨(some 3), none, .box 32 (.t 1)⟩,
     ⟨(some 4), none, .mv (.c (.bool false))⟩])
   (.seq
    (.draw [⟨⟨(some 5), none, .mv (.t 0)⟩, []⟩,
      ⟨⟨(some 6), none, .nilck (.t 5)⟩, [0]⟩,
      ⟨⟨(some 7), none, .addr 0 (.t 6)⟩, [1]⟩,
      ⟨⟨(some 8), none, .load none (.t 7)⟩, [2]⟩,
      ⟨⟨(some 9), none, .load (some 3) (.t 3)⟩, []⟩,
      ⟨⟨(some 10), none, .call 41 [(.t 8), (.t 9)]⟩, [3, 4]⟩,
      ⟨⟨(some 11), none, .eq true 84 (.pointer 86) (.t 10) (.c .nilptr)⟩, [5]⟩,
      ⟨⟨(some 4), none, .mv (.t 11)⟩, [6, 5, 0, 1, 2, 3, 4, 5, 6]⟩] [0, 1, 3, 7, 0, 31, 63, 127])
    (.ret))⟩
theorem ok42 : FnOk Try.prog 42 a42 := FnOk.of Try.prog Try.func42 (by kernel_rfl)
/-- (*jalousie/jalousieref19.Node).Panes -/
def a43 : AFn := ⟨24, [.tmp 2], .seq
   (.ops [⟨(some 2), none, .mv (.c .nilslice)⟩])
   (.seq
    (.seq
     (.ops [⟨(some 3), none, .mv (.t 0)⟩,
       ⟨(some 4), none, .nilck (.t 3)⟩,
       ⟨(some 5), none, .addr 0 (.t 4)⟩,
       ⟨(some 6), none, .load none (.t 5)⟩,
       ⟨(some 7), none, .bin .eql (.t 6) (.c (.int .i64 0))⟩])
     (.cond (.t 7)
      (.seq
       (.ops [⟨(some 8), none, .mv (.t 0)⟩,
         ⟨(some 9), none, .nilck (.t 8)⟩,
         ⟨(some 10), none, .addr 4 (.t 9)⟩,
         ⟨(some 11), none, .load (some 3) (.t 10)⟩,
         ⟨(some 12), none, .bslice 32 3 1 [(.int .i64 0), (.int .i64 0), (.int .i64 0)] [(0, (.t 11))]⟩,
         ⟨(some 2), none, .mv (.t 12)⟩])
       (.ret))
      (.skip)))
    (.seq
     (.draw [⟨⟨(some 13), none, .mv (.t 0)⟩, []⟩,
       ⟨⟨(some 14), none, .nilck (.t 13)⟩, [0]⟩,
       ⟨⟨(some 15), none, .addr 2 (.t 14)⟩, [1]⟩,
       ⟨⟨(some 16), none, .load none (.t 15)⟩, [2]⟩,
       ⟨⟨(some 17), none, .call 43 [(.t 16)]⟩, [3]⟩,
       ⟨⟨(some 18), none, .mv (.t 0)⟩, []⟩,
       ⟨⟨(some 19), none, .nilck (.t 18)⟩, [5]⟩,
       ⟨⟨(some 20), none, .addr 3 (.t 19)⟩, [6]⟩,
       ⟨⟨(some 21), none, .load none (.t 20)⟩, [7]⟩,
       ⟨⟨(some 22), none, .call 43 [(.t 21)]⟩, [8, 4]⟩,
       ⟨⟨(some 23), none, .append 32 3 24 (.t 17) (.t 22)⟩, [4, 9, 9]⟩,
       ⟨⟨(some 2), none, .mv (.t 23)⟩, [10, 10, 0, 1, 2, 3, 4, 5, 6, 7, 8, 9, 10]⟩] [0, 1, 3, 7, 15, 0, 32, 96, 224, 511, 1023, 2047])
     (.ret)))⟩
theorem ok43 : FnOk Try.prog 43 a43 := FnOk.of Try.prog Try.func43 (by kernel_rfl)
/-- (*jalousie/tree.Tree).above -/
def a44 : AFn := ⟨9, [.tmp 4], .seq
   (.ops [⟨(some 3), none, .box 3 (.t 1)⟩,
     ⟨(some 4), none, .mv (.c (.int .i64 0))⟩])
   (.seq
    (.ops [⟨(some 5), none, .mv (.t 0)⟩,
      ⟨(some 6), none, .call 40 [(.t 5)]⟩,
      ⟨(some 7), none, .fn (.func 53) [] [(.t 3)]⟩,
      ⟨(some 8), none, .call 49 [(.t 6), (.t 7)]⟩,
      ⟨(some 4), none, .mv (.t 8)⟩])
    (.ret))⟩
theorem ok44 : FnOk Try.prog 44 a44 := FnOk.of Try.prog Try.func44 (by kernel_rfl)
/-- slices.Delete[[]jalousie/tree.Node,jalousie/tree.Node] -/
def a45 : AFn := ⟨33, [.tmp 6], .seq
   (.ops [⟨(some 6), none, .mv (.c .nilslice)⟩])
   (.seq
    (.ops [⟨(some 8), none, .mv (.t 0)⟩,
      ⟨(some 9), none, .mv (.t 1)⟩,
      ⟨(some 10), none, .mv (.t 2)⟩,
      ⟨(some 11), none, .mv (.t 0)⟩,
      ⟨(some 12), none, .lenL (.t 11)⟩,
      ⟨(some 13), none, .slice 7 (.t 8) (some (.t 9)) (some (.t 10)) (some (.t 12))⟩])
    (.seq
     (.seq
      (.ops [⟨(some 14), none, .mv (.t 1)⟩,
        ⟨(some 15), none, .mv (.t 2)⟩,
        ⟨(some 16), none, .bin .eql (.t 14) (.t 15)⟩])
      (.cond (.t 16)
       (.seq
        (.ops [⟨(some 17), none, .mv (.t 0)⟩,
          ⟨(some 6), none, .mv (.t 17)⟩])
        (.ret))
       (.skip)))
     (.seq
      (.ops [⟨(some 18), none, .mv (.t 0)⟩,
        ⟨(some 19), none, .lenL (.t 18)⟩,
        ⟨(some 7), none, .mv (.t 19)⟩])
      (.seq
       (.draw [⟨⟨(some 20), none, .mv (.t 0)⟩, []⟩,
         ⟨⟨(some 21), none, .mv (.t 1)⟩, []⟩,
         ⟨⟨(some 22), none, .slice 7 (.t 20) none (some (.t 21)) none⟩, [0, 1]⟩,
         ⟨⟨(some 23), none, .mv (.t 0)⟩, []⟩,
         ⟨⟨(some 24), none, .mv (.t 2)⟩, []⟩,
         ⟨⟨(some 25), none, .slice 7 (.t 23) (some (.t 24)) none none⟩, [3, 4]⟩,
         ⟨⟨(some 26), none, .append 55 7 56 (.t 22) (.t 25)⟩, [2, 5]⟩,
         ⟨⟨(some 0), none, .mv (.t 26)⟩, [6, 6, 0, 1, 2, 3, 4, 5, 6]⟩] [0, 0, 3, 0, 0, 24, 63, 127])
       (.seq
        (.ops [⟨(some 27), none, .mv (.t 0)⟩,
          ⟨(some 28), none, .mv (.t 0)⟩,
          ⟨(some 29), none, .lenL (.t 28)⟩,
          ⟨(some 30), none, .mv (.t 7)⟩,
          ⟨(some 31), none, .slice 7 (.t 27) (some (.t 29)) (some (.t 30)) none⟩,
          ⟨none, none, .clearS 7 [(.int .i64 0), (.int .i64 0), (.int .i64 0), (.int .i64 0), (.int .i64 0), (.int .i64 0), (.int .i64 0)] (.t 31)⟩])
        (.seq
         (.ops [⟨(some 32), none, .mv (.t 0)⟩,
           ⟨(some 6), none, .mv (.t 32)⟩])
         (.ret)))))))⟩
theorem ok45 : FnOk Try.prog 45 a45 := FnOk.of Try.prog Try.func45 (by kernel_rfl)
/-- (*jalousie/jalousieref19.Node).close -/
def a46 : AFn := ⟨75, [], .seq
   (.ops [⟨(some 3), none, .box 32 (.t 1)⟩])
   (.seq
    (.seq
     (.ops [⟨(some 4), none, .mv (.t 0)⟩,
       ⟨(some 5), none, .nilck (.t 4)⟩,
       ⟨(some 6), none, .addr 0 (.t 5)⟩,
       ⟨(some 7), none, .load none (.t 6)⟩,
       ⟨(some 8), none, .bin .eql (.t 7) (.c (.int .i64 0))⟩])
     (.cond (.t 8)
      (.ret)
      (.skip)))
    (.seq
     (.seq
      (.draw [⟨⟨(some 9), none, .mv (.t 0)⟩, []⟩,
        ⟨⟨(some 10), none, .nilck (.t 9)⟩, [0]⟩,
        ⟨⟨(some 11), none, .addr 2 (.t 10)⟩, [1]⟩,
        ⟨⟨(some 12), none, .load none (.t 11)⟩, [2]⟩,
        ⟨⟨(some 13), none, .nilck (.t 12)⟩, [3]⟩,
        ⟨⟨(some 14), none, .addr 0 (.t 13)⟩, [4]⟩,
        ⟨⟨(some 15), none, .load none (.t 14)⟩, [5]⟩,
        ⟨⟨(some 16), none, .bin .eql (.t 15) (.c (.int .i64 0))⟩, [6]⟩,
        ⟨⟨(some 17), none, .mv (.t 16)⟩, [7]⟩,
        ⟨⟨(some 18), (some (17, true)), .mv (.t 0)⟩, [8]⟩,
        ⟨⟨(some 19), (some (17, true)), .nilck (.t 18)⟩, [9, 8]⟩,
        ⟨⟨(some 20), (some (17, true)), .addr 2 (.t 19)⟩, [10, 8]⟩,
        ⟨⟨(some 21), (some (17, true)), .load none (.t 20)⟩, [11, 8]⟩,
        ⟨⟨(some 22), (some (17, true)), .nilck (.t 21)⟩, [12, 8]⟩,
        ⟨⟨(some 23), (some (17, true)), .addr 4 (.t 22)⟩, [13, 8]⟩,
        ⟨⟨(some 24), (some (17, true)), .load (some 3) (.t 23)⟩, [14, 8]⟩,
        ⟨⟨(some 25), (some (17, true)), .load (some 3) (.t 3)⟩, [8]⟩,
        ⟨⟨(some 26), (some (17, true)), .eq false 32 (.struct #[⟨"Label", 3, 0, false, "", "", 0⟩, ⟨"Home", 3, 1, false, "", "", 8⟩, ⟨"N", 3, 2, false, "", "", 16⟩]) (.t 24) (.t 25)⟩, [15, 16, 8]⟩,
        ⟨⟨(some 27), none, .pick (.t 17) (.t 26) (.c (.bool false))⟩, [8, 17]⟩] [0, 1, 3, 7, 15, 31, 63, 127, 255, 511, 1023, 2047, 4095, 8191, 16383, 32767, 511, 131071, 262143])
      (.cond (.t 27)
       (.seq
        (.ops [⟨(some 28), none, .mv (.t 0)⟩,
          ⟨(some 29), none, .mv (.t 0)⟩,
          ⟨(some 30), none, .nilck (.t 29)⟩,
          ⟨(some 31), none, .addr 3 (.t 30)⟩,
          ⟨(some 32), none, .load none (.t 31)⟩,
          ⟨(some 33), none, .nilck (.t 32)⟩,
          ⟨(some 34), none, .load (some 7) (.t 33)⟩,
          ⟨(some 35), none, .nilck (.t 28)⟩,
          ⟨none, none, .store 7 (.t 35) (.t 34)⟩])
        (.ret))
       (.skip)))
     (.seq
      (.seq
       (.draw [⟨⟨(some 36), none, .mv (.t 0)⟩, []⟩,
         ⟨⟨(some 37), none, .nilck (.t 36)⟩, [0]⟩,
         ⟨⟨(some 38), none, .addr 3 (.t 37)⟩, [1]⟩,
         ⟨⟨(some 39), none, .load none (.t 38)⟩, [2]⟩,
         ⟨⟨(some 40), none, .nilck (.t 39)⟩, [3]⟩,
         ⟨⟨(some 41), none, .addr 0 (.t 40)⟩, [4]⟩,
         ⟨⟨(some 42), none, .load none (.t 41)⟩, [5]⟩,
         ⟨⟨(some 43), none, .bin .eql (.t 42) (.c (.int .i64 0))⟩, [6]⟩,
         ⟨⟨(some 44), none, .mv (.t 43)⟩, [7]⟩,
         ⟨⟨(some 45), (some (44, true)), .mv (.t 0)⟩, [8]⟩,
         ⟨⟨(some 46), (some (44, true)), .nilck (.t 45)⟩, [9, 8]⟩,
         ⟨⟨(some 47), (some (44, true)), .addr 3 (.t 46)⟩, [10, 8]⟩,
         ⟨⟨(some 48), (some (44, true)), .load none (.t 47)⟩, [11, 8]⟩,
         ⟨⟨(some 49), (some (44, true)), .nilck (.t 48)⟩, [12, 8]⟩,
         ⟨⟨(some 50), (some (44, true)), .addr 4 (.t 49)⟩, [13, 8]⟩,
         ⟨⟨(some 51), (some (44, true)), .load (some 3) (.t 50)⟩, [14, 8]⟩,
         ⟨⟨(some 52), (some (44, true)), .load (some 3) (.t 3)⟩, [8]⟩,
         ⟨⟨(some 53), (some (44, true)), .eq false 32 (.struct #[⟨"Label", 3, 0, false, "", "", 0⟩, ⟨"Home", 3, 1, false, "", "", 8⟩, ⟨"N", 3, 2, false, "", "", 16⟩]) (.t 51) (.t 52)⟩, [15, 16, 8]⟩,
         ⟨⟨(some 54), none, .pick (.t 44) (.t 53) (.c (.bool false))⟩, [8, 17]⟩] [0, 1, 3, 7, 15, 31, 63, 127, 255, 511, 1023, 2047, 4095, 8191, 16383, 32767, 511, 131071, 262143])
       (.cond (.t 54)
        (.seq
         (.ops [⟨(some 55), none, .mv (.t 0)⟩,
           ⟨(some 56), none, .mv (.t 0)⟩,
           ⟨(some 57), none, .nilck (.t 56)⟩,
           ⟨(some 58), none, .addr 2 (.t 57)⟩,
           ⟨(some 59), none, .load none (.t 58)⟩,
           ⟨(some 60), none, .nilck (.t 59)⟩,
           ⟨(some 61), none, .load (some 7) (.t 60)⟩,
           ⟨(some 62), none, .nilck (.t 55)⟩,
           ⟨none, none, .store 7 (.t 62) (.t 61)⟩])
         (.ret))
        (.skip)))
      (.seq
       (.draw [⟨⟨(some 63), none, .mv (.t 0)⟩, []⟩,
         ⟨⟨(some 64), none, .nilck (.t 63)⟩, [0]⟩,
         ⟨⟨(some 65), none, .addr 2 (.t 64)⟩, [1]⟩,
         ⟨⟨(some 66), none, .load none (.t 65)⟩, [2]⟩,
         ⟨⟨(some 67), none, .load (some 3) (.t 3)⟩, []⟩,
         ⟨⟨(some 68), none, .call 46 [(.t 66), (.t 67)]⟩, [3, 4]⟩] [0, 1, 3, 7, 0, 31])
       (.draw [⟨⟨(some 69), none, .mv (.t 0)⟩, []⟩,
         ⟨⟨(some 70), none, .nilck (.t 69)⟩, [0]⟩,
         ⟨⟨(some 71), none, .addr 3 (.t 70)⟩, [1]⟩,
         ⟨⟨(some 72), none, .load none (.t 71)⟩, [2]⟩,
         ⟨⟨(some 73), none, .load (some 3) (.t 3)⟩, []⟩,
         ⟨⟨(some 74), none, .call 46 [(.t 72), (.t 73)]⟩, [3, 4]⟩] [0, 1, 3, 7, 0, 31])))))⟩
theorem ok46 : FnOk Try.prog 46 a46 := FnOk.of Try.prog Try.func46 (by kernel_rfl)
/-- (*jalousie/jalousieref19.Node).share -/
def a47 : AFn := ⟨93, [.tmp 8], .seq
   (.ops [⟨(some 5), none, .box 32 (.t 1)⟩,
     ⟨(some 8), none, .mv (.c (.bool false))⟩])
   (.seq
    (.seq
     (.ops [⟨(some 10), none, .mv (.t 0)⟩,
       ⟨(some 11), none, .nilck (.t 10)⟩,
       ⟨(some 12), none, .addr 0 (.t 11)⟩,
       ⟨(some 13), none, .load none (.t 12)⟩,
       ⟨(some 14), none, .bin .eql (.t 13) (.c (.int .i64 0))⟩])
     (.cond (.t 14)
      (.seq
       (.ops [⟨(some 8), none, .mv (.c (.bool false))⟩])
       (.ret))
      (.skip)))
    (.seq
     (.draw [⟨⟨(some 15), none, .mv (.t 0)⟩, []⟩,
       ⟨⟨(some 16), none, .nilck (.t 15)⟩, [0]⟩,
       ⟨⟨(some 17), none, .addr 2 (.t 16)⟩, [1]⟩,
       ⟨⟨(some 18), none, .load none (.t 17)⟩, [2]⟩,
       ⟨⟨(some 19), none, .load (some 3) (.t 5)⟩, []⟩,
       ⟨⟨(some 20), none, .call 41 [(.t 18), (.t 19)]⟩, [3, 4]⟩,
       ⟨⟨(some 21), none, .eq true 84 (.pointer 86) (.t 20) (.c .nilptr)⟩, [5]⟩,
       ⟨⟨(some 9), none, .mv (.t 21)⟩, [6, 5, 0, 1, 2, 3, 4, 5, 6]⟩] [0, 1, 3, 7, 0, 31, 63, 127])
     (.seq
      (.seq
       (.draw [⟨⟨(some 22), none, .mv (.t 9)⟩, []⟩,
         ⟨⟨(some 23), none, .un .not (.t 22)⟩, [0]⟩,
         ⟨⟨(some 24), none, .mv (.t 23)⟩, [1]⟩,
         ⟨⟨(some 25), (some (24, true)), .mv (.t 0)⟩, [2]⟩,
         ⟨⟨(some 26), (some (24, true)), .nilck (.t 25)⟩, [3, 2]⟩,
         ⟨⟨(some 27), (some (24, true)), .addr 3 (.t 26)⟩, [4, 2]⟩,
         ⟨⟨(some 28), (some (24, true)), .load none (.t 27)⟩, [5, 2]⟩,
         ⟨⟨(some 29), (some (24, true)), .load (some 3) (.t 5)⟩, [2]⟩,
         ⟨⟨(some 30), (some (24, true)), .call 41 [(.t 28), (.t 29)]⟩, [6, 7, 2, 2]⟩,
         ⟨⟨(some 31), (some (24, true)), .eq false 84 (.pointer 86) (.t 30) (.c .nilptr)⟩, [8, 2]⟩,
         ⟨⟨(some 32), none, .pick (.t 24) (.t 31) (.c (.bool false))⟩, [2, 9]⟩] [0, 1, 3, 7, 15, 31, 63, 7, 255, 511, 1023])
       (.cond (.t 32)
        (.seq
         (.ops [⟨(some 8), none, .mv (.c (.bool false))⟩])
         (.ret))
        (.skip)))
      (.seq
       (.seq
        (.draw [⟨⟨(some 33), none, .mv (.t 9)⟩, []⟩,
          ⟨⟨(some 34), none, .mv (.t 33)⟩, [0]⟩,
          ⟨⟨(some 35), (some (34, true)), .mv (.t 0)⟩, [1]⟩,
          ⟨⟨(some 36), (some (34, true)), .nilck (.t 35)⟩, [2, 1]⟩,
          ⟨⟨(some 37), (some (34, true)), .addr 2 (.t 36)⟩, [3, 1]⟩,
          ⟨⟨(some 38), (some (34, true)), .load none (.t 37)⟩, [4, 1]⟩,
          ⟨⟨(some 39), (some (34, true)), .load (some 3) (.t 5)⟩, [1]⟩,
          ⟨⟨(some 40), (some (34, true)), .mv (.t 2)⟩, [1]⟩,
          ⟨⟨(some 41), (some (34, true)), .mv (.t 3)⟩, [1]⟩,
          ⟨⟨(some 42), (some (34, true)), .call 47 [(.t 38), (.t 39), (.t 40), (.t 41)]⟩, [5, 6, 7, 8, 1, 1]⟩,
          ⟨⟨(some 43), none, .pick (.t 34) (.t 42) (.c (.bool false))⟩, [1, 9]⟩,
          ⟨⟨(some 44), none, .mv (.t 43)⟩, [10, 9]⟩,
          ⟨⟨(some 45), (some (44, false)), .mv (.t 9)⟩, [11]⟩,
          ⟨⟨(some 46), (some (44, false)), .un .not (.t 45)⟩, [12, 11]⟩,
          ⟨⟨(some 47), (some (44, false)), .mv (.t 46)⟩, [13, 11, 11]⟩,
          ⟨⟨(some 48), (some (47, true)), .mv (.t 0)⟩, [14]⟩,
          ⟨⟨(some 49), (some (47, true)), .nilck (.t 48)⟩, [15, 14]⟩,
          ⟨⟨(some 50), (some (47, true)), .addr 3 (.t 49)⟩, [16, 14]⟩,
          ⟨⟨(some 51), (some (47, true)), .load none (.t 50)⟩, [17, 14]⟩,
          ⟨⟨(some 52), (some (47, true)), .load (some 3) (.t 5)⟩, [14]⟩,
          ⟨⟨(some 53), (some (47, true)), .mv (.t 2)⟩, [14]⟩,
          ⟨⟨(some 54), (some (47, true)), .mv (.t 3)⟩, [14]⟩,
          ⟨⟨(some 55), (some (47, true)), .call 47 [(.t 51), (.t 52), (.t 53), (.t 54)]⟩, [18, 19, 20, 21, 14, 14]⟩,
          ⟨⟨(some 56), (some (44, false)), .pick (.t 47) (.t 55) (.c (.bool false))⟩, [14, 22, 11]⟩,
          ⟨⟨(some 57), none, .pick (.t 44) (.c (.bool true)) (.t 56)⟩, [11, 23]⟩] [0, 1, 3, 7, 15, 31, 3, 3, 3, 511, 1023, 2047, 4095, 8191, 16383, 32767, 65535, 131071, 262143, 32767, 32767, 32767, 4194303, 8388607, 16777215])
        (.cond (.t 57)
         (.seq
          (.ops [⟨(some 8), none, .mv (.c (.bool true))⟩])
          (.ret))
         (.skip)))
       (.seq
        (.seq
         (.ops [⟨(some 58), none, .mv (.t 0)⟩,
           ⟨(some 59), none, .nilck (.t 58)⟩,
           ⟨(some 60), none, .addr 0 (.t 59)⟩,
           ⟨(some 61), none, .load none (.t 60)⟩,
           ⟨(some 62), none, .mv (.t 2)⟩,
           ⟨(some 63), none, .bin .neq (.t 61) (.t 62)⟩])
         (.cond (.t 63)
          (.seq
           (.ops [⟨(some 8), none, .mv (.c (.bool false))⟩])
           (.ret))
          (.skip)))
        (.seq
         (.seq
          (.ops [⟨(some 64), none, .mv (.t 9)⟩,
            ⟨(some 65), none, .un .not (.t 64)⟩])
          (.cond (.t 65)
           (.ops [⟨(some 66), none, .mv (.t 3)⟩,
             ⟨(some 67), none, .un .neg (.t 66)⟩,
             ⟨(some 3), none, .mv (.t 67)⟩])
           (.skip)))
         (.seq
          (.ops [⟨(some 68), none, .mv (.t 0)⟩,
            ⟨(some 69), none, .mv (.t 0)⟩,
            ⟨(some 70), none, .nilck (.t 69)⟩,
            ⟨(some 71), none, .addr 1 (.t 70)⟩,
            ⟨(some 72), none, .load none (.t 71)⟩,
            ⟨(some 73), none, .mv (.t 3)⟩,
            ⟨(some 74), none, .bin .add (.t 72) (.t 73)⟩,
            ⟨(some 75), none, .nilck (.t 68)⟩,
            ⟨(some 76), none, .addr 1 (.t 75)⟩,
            ⟨none, none, .store 1 (.t 76) (.t 74)⟩])
          (.seq
           (.seq
            (.ops [⟨(some 77), none, .mv (.t 0)⟩,
              ⟨(some 78), none, .nilck (.t 77)⟩,
              ⟨(some 79), none, .addr 1 (.t 78)⟩,
              ⟨(some 80), none, .load none (.t 79)⟩,
              ⟨(some 81), none, .bin .lss (.t 80) (.c (.int .i64 1))⟩])
            (.cond (.t 81)
             (.ops [⟨(some 82), none, .mv (.t 0)⟩,
               ⟨(some 83), none, .nilck (.t 82)⟩,
               ⟨(some 84), none, .addr 1 (.t 83)⟩,
               ⟨none, none, .store 1 (.t 84) (.c (.int .i64 1))⟩])
             (.skip)))
           (.seq
            (.seq
             (.ops [⟨(some 85), none, .mv (.t 0)⟩,
               ⟨(some 86), none, .nilck (.t 85)⟩,
               ⟨(some 87), none, .addr 1 (.t 86)⟩,
               ⟨(some 88), none, .load none (.t 87)⟩,
               ⟨(some 89), none, .bin .gtr (.t 88) (.c (.int .i64 99))⟩])
             (.cond (.t 89)
              (.ops [⟨(some 90), none, .mv (.t 0)⟩,
                ⟨(some 91), none, .nilck (.t 90)⟩,
                ⟨(some 92), none, .addr 1 (.t 91)⟩,
                ⟨none, none, .store 1 (.t 92) (.c (.int .i64 99))⟩])
              (.skip)))
            (.seq
             (.ops [⟨(some 8), none, .mv (.c (.bool true))⟩])
             (.ret)))))))))))⟩
theorem ok47 : FnOk Try.prog 47 a47 := FnOk.of Try.prog Try.func47 (by kernel_rfl)
/-- jalousie/geometry.cut -/
def a48 : AFn := ⟨24, [.tmp 4, .tmp 5, .tmp 6], .seq
   (.ops [⟨(some 4), none, .mv (.c (.int .i64 0))⟩,
     ⟨(some 5), none, .mv (.c (.int .i64 0))⟩,
     ⟨(some 6), none, .mv (.c (.int .i64 0))⟩])
   (.seq
    (.seq
     (.ops [⟨(some 7), none, .mv (.t 0)⟩,
       ⟨(some 8), none, .bin .lss (.t 7) (.c (.int .i64 3))⟩])
     (.cond (.t 8)
      (.seq
       (.ops [⟨(some 9), none, .mv (.t 0)⟩,
         ⟨(some 4), none, .mv (.t 9)⟩,
         ⟨(some 5), none, .mv (.c (.int .i64 0))⟩,
         ⟨(some 6), none, .mv (.c (.int .i64 0))⟩])
       (.ret))
      (.skip)))
    (.seq
     (.ops [⟨(some 10), none, .mv (.t 0)⟩,
       ⟨(some 11), none, .bin .sub (.t 10) (.c (.int .i64 1))⟩,
       ⟨(some 12), none, .mv (.t 1)⟩,
       ⟨(some 13), none, .bin .mul (.t 11) (.t 12)⟩,
       ⟨(some 14), none, .bin .quo (.t 13) (.c (.int .i64 100))⟩,
       ⟨(some 15), none, .maxI (.t 14) [(.c (.int .i64 1))]⟩,
       ⟨(some 16), none, .mv (.t 0)⟩,
       ⟨(some 17), none, .bin .sub (.t 16) (.c (.int .i64 2))⟩,
       ⟨(some 18), none, .minI (.t 15) [(.t 17)]⟩,
       ⟨(some 4), none, .mv (.t 18)⟩])
     (.seq
      (.ops [⟨(some 19), none, .mv (.t 4)⟩,
        ⟨(some 20), none, .mv (.t 0)⟩,
        ⟨(some 21), none, .bin .sub (.t 20) (.c (.int .i64 1))⟩,
        ⟨(some 22), none, .mv (.t 4)⟩,
        ⟨(some 23), none, .bin .sub (.t 21) (.t 22)⟩,
        ⟨(some 4), none, .mv (.t 19)⟩,
        ⟨(some 5), none, .mv (.c (.int .i64 1))⟩,
        ⟨(some 6), none, .mv (.t 23)⟩])
      (.ret))))⟩
theorem ok48 : FnOk Try.prog 48 a48 := FnOk.of Try.prog Try.func48 (by kernel_rfl)
/-- slices.IndexFunc[[]jalousie/tree.Node,jalousie/tree.Node] -/
def a49 : AFn := ⟨19, [.tmp 4], .seq
   (.ops [⟨(some 4), none, .mv (.c (.int .i64 0))⟩])
   (.seq
    (.seq
     (.ops [⟨(some 6), none, .mv (.t 0)⟩,
       ⟨(some 7), none, .lenL (.t 6)⟩,
       ⟨(some 8), none, .mv (.c (.int .i64 0))⟩])
     (.block 0 (.loop (.seq
        (.ops [⟨(some 9), none, .bin .lss (.t 8) (.t 7)⟩])
        (.seq
         (.cond (.t 9)
          (.skip)
          (.exit 0))
         (.seq
          (.block 1 (.seq
            (.ops [⟨(some 10), none, .mv (.t 8)⟩,
              ⟨(some 5), none, .mv (.t 10)⟩])
            (.seq
             (.ops [⟨(some 11), none, .mv (.t 1)⟩,
               ⟨(some 12), none, .mv (.t 0)⟩,
               ⟨(some 13), none, .mv (.t 5)⟩,
               ⟨(some 14), none, .iaddrS 7 (.t 12) (.t 13)⟩,
               ⟨(some 15), none, .load (some 7) (.t 14)⟩,
               ⟨(some 16), none, .callv (.t 11) [(.t 15)]⟩])
             (.cond (.t 16)
              (.seq
               (.ops [⟨(some 17), none, .mv (.t 5)⟩,
                 ⟨(some 4), none, .mv (.t 17)⟩])
               (.ret))
              (.skip)))))
          (.ops [⟨(some 18), none, .bin .add (.t 8) (.c (.int .i64 1))⟩,
            ⟨(some 8), none, .mv (.t 18)⟩])))))))
    (.seq
     (.ops [⟨(some 4), none, .mv (.c (.int .i64 (-1)))⟩])
     (.ret)))⟩
theorem ok49 : FnOk Try.prog 49 a49 := FnOk.of Try.prog Try.func49 (by kernel_rfl)
/-- (*jalousie/tree.Tree).leaf$1 -/
def a50 : AFn := ⟨13, [.tmp 3], .seq
   (.ops [⟨(some 2), none, .box 55 (.t 0)⟩,
     ⟨(some 3), none, .mv (.c (.bool false))⟩])
   (.seq
    (.ops [⟨(some 4), none, .addr 0 (.t 2)⟩,
      ⟨(some 5), none, .load none (.t 4)⟩,
      ⟨(some 6), none, .bin .eql (.t 5) (.c (.int .i64 0))⟩,
      ⟨(some 7), none, .mv (.t 6)⟩,
      ⟨(some 8), (some (7, true)), .addr 4 (.t 2)⟩,
      ⟨(some 9), (some (7, true)), .load (some 3) (.t 8)⟩,
      ⟨(some 10), (some (7, true)), .load (some 3) (.t 1)⟩,
      ⟨(some 11), (some (7, true)), .eq false 32 (.struct #[⟨"Label", 3, 0, false, "", "", 0⟩, ⟨"Home", 3, 1, false, "", "", 8⟩, ⟨"N", 3, 2, false, "", "", 16⟩]) (.t 9) (.t 10)⟩,
      ⟨(some 12), none, .pick (.t 7) (.t 11) (.c (.bool false))⟩,
      ⟨(some 3), none, .mv (.t 12)⟩])
    (.ret))⟩
theorem ok50 : FnOk Try.prog 50 a50 := FnOk.of Try.prog Try.func50 (by kernel_rfl)
/-- slices.rotateRight[jalousie/tree.Node] -/
def a52 : AFn := ⟨10, [], .ops [⟨(some 4), none, .mv (.t 0)⟩,
    ⟨(some 5), none, .mv (.t 0)⟩,
    ⟨(some 6), none, .lenL (.t 5)⟩,
    ⟨(some 7), none, .mv (.t 1)⟩,
    ⟨(some 8), none, .bin .sub (.t 6) (.t 7)⟩,
    ⟨(some 9), none, .call 54 [(.t 4), (.t 8)]⟩]⟩
theorem ok52 : FnOk Try.prog 52 a52 := FnOk.of Try.prog Try.func52 (by kernel_rfl)
/-- (*jalousie/tree.Tree).above$1 -/
def a53 : AFn := ⟨19, [.tmp 3], .seq
   (.ops [⟨(some 2), none, .box 55 (.t 0)⟩,
     ⟨(some 3), none, .mv (.c (.bool false))⟩])
   (.seq
    (.ops [⟨(some 4), none, .addr 0 (.t 2)⟩,
      ⟨(some 5), none, .load none (.t 4)⟩,
      ⟨(some 6), none, .bin .neq (.t 5) (.c (.int .i64 0))⟩,
      ⟨(some 7), none, .mv (.t 6)⟩,
      ⟨(some 8), (some (7, true)), .addr 1 (.t 2)⟩,
      ⟨(some 9), (some (7, true)), .load none (.t 8)⟩,
      ⟨(some 10), (some (7, true)), .load none (.t 1)⟩,
      ⟨(some 11), (some (7, true)), .bin .eql (.t 9) (.t 10)⟩,
      ⟨(some 12), (some (7, true)), .mv (.t 11)⟩,
      ⟨(some 13), (some (12, false)), .addr 2 (.t 2)⟩,
      ⟨(some 14), (some (12, false)), .load none (.t 13)⟩,
      ⟨(some 15), (some (12, false)), .load none (.t 1)⟩,
      ⟨(some 16), (some (12, false)), .bin .eql (.t 14) (.t 15)⟩,
      ⟨(some 17), (some (7, true)), .pick (.t 12) (.c (.bool true)) (.t 16)⟩,
      ⟨(some 18), none, .pick (.t 7) (.t 17) (.c (.bool false))⟩,
      ⟨(some 3), none, .mv (.t 18)⟩])
    (.ret))⟩
theorem ok53 : FnOk Try.prog 53 a53 := FnOk.of Try.prog Try.func53 (by kernel_rfl)
/-- slices.rotateLeft[jalousie/tree.Node] -/
def a54 : AFn := ⟨14, [], .seq
   (.ops [⟨(some 4), none, .mv (.t 0)⟩,
     ⟨(some 5), none, .mv (.t 1)⟩,
     ⟨(some 6), none, .slice 7 (.t 4) none (some (.t 5)) none⟩,
     ⟨(some 7), none, .call 55 [(.t 6)]⟩])
   (.seq
    (.ops [⟨(some 8), none, .mv (.t 0)⟩,
      ⟨(some 9), none, .mv (.t 1)⟩,
      ⟨(some 10), none, .slice 7 (.t 8) (some (.t 9)) none none⟩,
      ⟨(some 11), none, .call 55 [(.t 10)]⟩])
    (.ops [⟨(some 12), none, .mv (.t 0)⟩,
      ⟨(some 13), none, .call 55 [(.t 12)]⟩]))⟩
theorem ok54 : FnOk Try.prog 54 a54 := FnOk.of Try.prog Try.func54 (by kernel_rfl)
/-- slices.Reverse[[]jalousie/tree.Node,jalousie/tree.Node] -/
def a55 : AFn := ⟨28, [], .seq
   (.ops [⟨(some 4), none, .mv (.t 0)⟩,
     ⟨(some 5), none, .lenL (.t 4)⟩,
     ⟨(some 6), none, .bin .sub (.t 5) (.c (.int .i64 1))⟩,
     ⟨(some 2), none, .mv (.c (.int .i64 0))⟩,
     ⟨(some 3), none, .mv (.t 6)⟩])
   (.block 0 (.loop (.seq
      (.seq
       (.ops [⟨(some 7), none, .mv (.t 2)⟩,
         ⟨(some 8), none, .mv (.t 3)⟩,
         ⟨(some 9), none, .bin .lss (.t 7) (.t 8)⟩])
       (.cond (.t 9)
        (.skip)
        (.exit 0)))
      (.seq
       (.block 1 (.draw [⟨⟨(some 14), none, .mv (.t 0)⟩, []⟩,
          ⟨⟨(some 15), none, .mv (.t 2)⟩, []⟩,
          ⟨⟨(some 16), none, .mv (.t 0)⟩, []⟩,
          ⟨⟨(some 17), none, .mv (.t 3)⟩, []⟩,
          ⟨⟨(some 18), none, .mv (.t 0)⟩, []⟩,
          ⟨⟨(some 19), none, .mv (.t 3)⟩, []⟩,
          ⟨⟨(some 20), none, .iaddrS 7 (.t 18) (.t 19)⟩, [4, 5]⟩,
          ⟨⟨(some 21), none, .load (some 7) (.t 20)⟩, [6]⟩,
          ⟨⟨(some 22), none, .mv (.t 0)⟩, []⟩,
          ⟨⟨(some 23), none, .mv (.t 2)⟩, []⟩,
          ⟨⟨(some 24), none, .iaddrS 7 (.t 22) (.t 23)⟩, [8, 9]⟩,
          ⟨⟨(some 25), none, .load (some 7) (.t 24)⟩, [10]⟩,
          ⟨⟨(some 26), none, .iaddrS 7 (.t 14) (.t 15)⟩, [0, 1, 0, 1, 4, 5, 6, 7, 11]⟩,
          ⟨⟨none, none, .store 7 (.t 26) (.t 21)⟩, [12, 7, 0, 1, 4, 5, 6, 7, 11]⟩,
          ⟨⟨(some 27), none, .iaddrS 7 (.t 16) (.t 17)⟩, [2, 3, 0, 1, 2, 3, 4, 5, 6, 7, 8, 9, 10, 11, 12, 13]⟩,
          ⟨⟨none, none, .store 7 (.t 27) (.t 25)⟩, [14, 11, 13, 0, 1, 2, 3, 4, 5, 6, 7, 8, 9, 10, 11, 12, 13]⟩] [0, 0, 0, 0, 0, 0, 48, 112, 0, 0, 768, 1792, 4083, 8179, 16383, 32767]))
       (.ops [⟨(some 10), none, .mv (.t 2)⟩,
         ⟨(some 11), none, .bin .add (.t 10) (.c (.int .i64 1))⟩,
         ⟨(some 12), none, .mv (.t 3)⟩,
         ⟨(some 13), none, .bin .sub (.t 12) (.c (.int .i64 1))⟩,
         ⟨(some 2), none, .mv (.t 11)⟩,
         ⟨(some 3), none, .mv (.t 13)⟩])))))⟩
theorem ok55 : FnOk Try.prog 55 a55 := FnOk.of Try.prog Try.func55 (by kernel_rfl)

end Go.Proofs.Ytbcfhiohdamcjaa.Fns
