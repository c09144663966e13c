/- Functions of the translated code as the abstract machine reads them, printed by program; each is checked against the code. -/
import Derived.Test.YtgdmalobagncpaaDoorProg
import Derived.Test.YtgdmalobagncpaaDoorAmEval
namespace Go.Proofs.YtgdmalobagncpaaDoor.Fns
open Go Go.RowKit Am Go.Proofs.YtgdmalobagncpaaDoor
set_option maxRecDepth 100000
/-- internal/bytealg.IndexRabinKarp[string] -/
def a73 : AFn := ⟨81, [.tmp 4], .seq
   (.ops [⟨(some 4), none, .mv (.c (.int .i64 0))⟩])
   (.seq
    (.ops [⟨(some 12), none, .mv (.t 1)⟩,
      ⟨(some 13), none, .call 82 [(.t 12)]⟩,
      ⟨(some 11), none, .mv (.t 13)⟩,
      ⟨(some 14), none, .ext (.t 11) 0⟩,
      ⟨(some 15), none, .ext (.t 11) 1⟩,
      ⟨(some 5), none, .mv (.t 14)⟩,
      ⟨(some 6), none, .mv (.t 15)⟩])
    (.seq
     (.ops [⟨(some 16), none, .mv (.t 1)⟩,
       ⟨(some 17), none, .lenS (.t 16)⟩,
       ⟨(some 7), none, .mv (.t 17)⟩])
     (.seq
      (.ops [⟨(some 8), none, .mv (.c (.int .u32 0))⟩])
      (.seq
       (.seq
        (.ops [⟨(some 9), none, .mv (.c (.int .i64 0))⟩])
        (.block 0 (.loop (.seq
           (.seq
            (.ops [⟨(some 18), none, .mv (.t 9)⟩,
              ⟨(some 19), none, .mv (.t 7)⟩,
              ⟨(some 20), none, .bin .lss (.t 18) (.t 19)⟩])
            (.cond (.t 20)
             (.skip)
             (.exit 0)))
           (.seq
            (.block 1 (.ops [⟨(some 23), none, .mv (.t 8)⟩,
               ⟨(some 24), none, .bin .mul (.t 23) (.c (.int .u32 16777619))⟩,
               ⟨(some 25), none, .mv (.t 0)⟩,
               ⟨(some 26), none, .mv (.t 9)⟩,
               ⟨(some 27), none, .idxS (.t 25) (.t 26)⟩,
               ⟨(some 28), none, .convI .u32 (.t 27)⟩,
               ⟨(some 29), none, .bin .add (.t 24) (.t 28)⟩,
               ⟨(some 8), none, .mv (.t 29)⟩]))
            (.ops [⟨(some 21), none, .mv (.t 9)⟩,
              ⟨(some 22), none, .bin .add (.t 21) (.c (.int .i64 1))⟩,
              ⟨(some 9), none, .mv (.t 22)⟩]))))))
       (.seq
        (.seq
         (.ops [⟨(some 30), none, .mv (.t 8)⟩,
           ⟨(some 31), none, .mv (.t 5)⟩,
           ⟨(some 32), none, .bin .eql (.t 30) (.t 31)⟩,
           ⟨(some 33), none, .mv (.t 32)⟩,
           ⟨(some 34), (some (33, true)), .mv (.t 0)⟩,
           ⟨(some 35), (some (33, true)), .mv (.t 7)⟩,
           ⟨(some 36), (some (33, true)), .sliceS (.t 34) none (some (.t 35))⟩,
           ⟨(some 37), (some (33, true)), .mv (.t 1)⟩,
           ⟨(some 38), (some (33, true)), .bin .eql (.t 36) (.t 37)⟩,
           ⟨(some 39), none, .pick (.t 33) (.t 38) (.c (.bool false))⟩])
         (.cond (.t 39)
          (.seq
           (.ops [⟨(some 4), none, .mv (.c (.int .i64 0))⟩])
           (.ret))
          (.skip)))
        (.seq
         (.seq
          (.ops [⟨(some 40), none, .mv (.t 7)⟩,
            ⟨(some 10), none, .mv (.t 40)⟩])
          (.block 2 (.loop (.seq
             (.seq
              (.ops [⟨(some 41), none, .mv (.t 10)⟩,
                ⟨(some 42), none, .mv (.t 0)⟩,
                ⟨(some 43), none, .lenS (.t 42)⟩,
                ⟨(some 44), none, .bin .lss (.t 41) (.t 43)⟩])
              (.cond (.t 44)
               (.skip)
               (.exit 2)))
             (.block 3 (.seq
               (.ops [⟨(some 45), none, .mv (.t 8)⟩,
                 ⟨(some 46), none, .bin .mul (.t 45) (.c (.int .u32 16777619))⟩,
                 ⟨(some 8), none, .mv (.t 46)⟩])
               (.seq
                (.ops [⟨(some 47), none, .mv (.t 8)⟩,
                  ⟨(some 48), none, .mv (.t 0)⟩,
                  ⟨(some 49), none, .mv (.t 10)⟩,
                  ⟨(some 50), none, .idxS (.t 48) (.t 49)⟩,
                  ⟨(some 51), none, .convI .u32 (.t 50)⟩,
                  ⟨(some 52), none, .bin .add (.t 47) (.t 51)⟩,
                  ⟨(some 8), none, .mv (.t 52)⟩])
                (.seq
                 (.ops [⟨(some 53), none, .mv (.t 8)⟩,
                   ⟨(some 54), none, .mv (.t 6)⟩,
                   ⟨(some 55), none, .mv (.t 0)⟩,
                   ⟨(some 56), none, .mv (.t 10)⟩,
                   ⟨(some 57), none, .mv (.t 7)⟩,
                   ⟨(some 58), none, .bin .sub (.t 56) (.t 57)⟩,
                   ⟨(some 59), none, .idxS (.t 55) (.t 58)⟩,
                   ⟨(some 60), none, .convI .u32 (.t 59)⟩,
                   ⟨(some 61), none, .bin .mul (.t 54) (.t 60)⟩,
                   ⟨(some 62), none, .bin .sub (.t 53) (.t 61)⟩,
                   ⟨(some 8), none, .mv (.t 62)⟩])
                 (.seq
                  (.ops [⟨(some 63), none, .mv (.t 10)⟩,
                    ⟨(some 64), none, .bin .add (.t 63) (.c (.int .i64 1))⟩,
                    ⟨(some 10), none, .mv (.t 64)⟩])
                  (.seq
                   (.ops [⟨(some 65), none, .mv (.t 8)⟩,
                     ⟨(some 66), none, .mv (.t 5)⟩,
                     ⟨(some 67), none, .bin .eql (.t 65) (.t 66)⟩,
                     ⟨(some 68), none, .mv (.t 67)⟩,
                     ⟨(some 69), (some (68, true)), .mv (.t 0)⟩,
                     ⟨(some 70), (some (68, true)), .mv (.t 10)⟩,
                     ⟨(some 71), (some (68, true)), .mv (.t 7)⟩,
                     ⟨(some 72), (some (68, true)), .bin .sub (.t 70) (.t 71)⟩,
                     ⟨(some 73), (some (68, true)), .mv (.t 10)⟩,
                     ⟨(some 74), (some (68, true)), .sliceS (.t 69) (some (.t 72)) (some (.t 73))⟩,
                     ⟨(some 75), (some (68, true)), .mv (.t 1)⟩,
                     ⟨(some 76), (some (68, true)), .bin .eql (.t 74) (.t 75)⟩,
                     ⟨(some 77), none, .pick (.t 68) (.t 76) (.c (.bool false))⟩])
                   (.cond (.t 77)
                    (.seq
                     (.ops [⟨(some 78), none, .mv (.t 10)⟩,
                       ⟨(some 79), none, .mv (.t 7)⟩,
                       ⟨(some 80), none, .bin .sub (.t 78) (.t 79)⟩,
                       ⟨(some 4), none, .mv (.t 80)⟩])
                     (.ret))
                    (.skip))))))))))))
         (.seq
          (.ops [⟨(some 4), none, .mv (.c (.int .i64 (-1)))⟩])
          (.ret))))))))⟩
theorem ok73 : FnOk Tryd.prog 73 a73 := FnOk.of Tryd.prog Tryd.func73 (by kernel_rfl)
/-- internal/strconv.lower -/
def a74 : AFn := ⟨5, [.tmp 2], .seq
   (.ops [⟨(some 2), none, .mv (.c (.int .u8 0))⟩])
   (.seq
    (.ops [⟨(some 3), none, .mv (.t 0)⟩,
      ⟨(some 4), none, .bin .or (.t 3) (.c (.int .u8 32))⟩,
      ⟨(some 2), none, .mv (.t 4)⟩])
    (.ret))⟩
theorem ok74 : FnOk Tryd.prog 74 a74 := FnOk.of Tryd.prog Tryd.func74 (by kernel_rfl)
/-- internal/strconv.underscoreOK -/
def a75 : AFn := ⟨94, [.tmp 2], .seq
   (.ops [⟨(some 2), none, .mv (.c (.bool false))⟩])
   (.seq
    (.ops [⟨(some 3), none, .mv (.c (.int .i32 94))⟩])
    (.seq
     (.ops [⟨(some 4), none, .mv (.c (.int .i64 0))⟩])
     (.seq
      (.seq
       (.ops [⟨(some 6), none, .mv (.t 0)⟩,
         ⟨(some 7), none, .lenS (.t 6)⟩,
         ⟨(some 8), none, .bin .geq (.t 7) (.c (.int .i64 1))⟩,
         ⟨(some 9), none, .mv (.t 8)⟩,
         ⟨(some 10), (some (9, true)), .mv (.t 0)⟩,
         ⟨(some 11), (some (9, true)), .idxS (.t 10) (.c (.int .i64 0))⟩,
         ⟨(some 12), (some (9, true)), .bin .eql (.t 11) (.c (.int .u8 45))⟩,
         ⟨(some 13), (some (9, true)), .mv (.t 12)⟩,
         ⟨(some 14), (some (13, false)), .mv (.t 0)⟩,
         ⟨(some 15), (some (13, false)), .idxS (.t 14) (.c (.int .i64 0))⟩,
         ⟨(some 16), (some (13, false)), .bin .eql (.t 15) (.c (.int .u8 43))⟩,
         ⟨(some 17), (some (9, true)), .pick (.t 13) (.c (.bool true)) (.t 16)⟩,
         ⟨(some 18), none, .pick (.t 9) (.t 17) (.c (.bool false))⟩])
       (.cond (.t 18)
        (.ops [⟨(some 19), none, .mv (.t 0)⟩,
          ⟨(some 20), none, .sliceS (.t 19) (some (.c (.int .i64 1))) none⟩,
          ⟨(some 0), none, .mv (.t 20)⟩])
        (.skip)))
      (.seq
       (.ops [⟨(some 5), none, .mv (.c (.bool false))⟩])
       (.seq
        (.seq
         (.ops [⟨(some 21), none, .mv (.t 0)⟩,
           ⟨(some 22), none, .lenS (.t 21)⟩,
           ⟨(some 23), none, .bin .geq (.t 22) (.c (.int .i64 2))⟩,
           ⟨(some 24), none, .mv (.t 23)⟩,
           ⟨(some 25), (some (24, true)), .mv (.t 0)⟩,
           ⟨(some 26), (some (24, true)), .idxS (.t 25) (.c (.int .i64 0))⟩,
           ⟨(some 27), (some (24, true)), .bin .eql (.t 26) (.c (.int .u8 48))⟩,
           ⟨(some 28), none, .pick (.t 24) (.t 27) (.c (.bool false))⟩,
           ⟨(some 29), none, .mv (.t 28)⟩,
           ⟨(some 30), (some (29, true)), .mv (.t 0)⟩,
           ⟨(some 31), (some (29, true)), .idxS (.t 30) (.c (.int .i64 1))⟩,
           ⟨(some 32), (some (29, true)), .call 74 [(.t 31)]⟩,
           ⟨(some 33), (some (29, true)), .bin .eql (.t 32) (.c (.int .u8 98))⟩,
           ⟨(some 34), (some (29, true)), .mv (.t 33)⟩,
           ⟨(some 35), (some (34, false)), .mv (.t 0)⟩,
           ⟨(some 36), (some (34, false)), .idxS (.t 35) (.c (.int .i64 1))⟩,
           ⟨(some 37), (some (34, false)), .call 74 [(.t 36)]⟩,
           ⟨(some 38), (some (34, false)), .bin .eql (.t 37) (.c (.int .u8 111))⟩,
           ⟨(some 39), (some (29, true)), .pick (.t 34) (.c (.bool true)) (.t 38)⟩,
           ⟨(some 40), (some (29, true)), .mv (.t 39)⟩,
           ⟨(some 41), (some (40, false)), .mv (.t 0)⟩,
           ⟨(some 42), (some (40, false)), .idxS (.t 41) (.c (.int .i64 1))⟩,
           ⟨(some 43), (some (40, false)), .call 74 [(.t 42)]⟩,
           ⟨(some 44), (some (40, false)), .bin .eql (.t 43) (.c (.int .u8 120))⟩,
           ⟨(some 45), (some (29, true)), .pick (.t 40) (.c (.bool true)) (.t 44)⟩,
           ⟨(some 46), none, .pick (.t 29) (.t 45) (.c (.bool false))⟩])
         (.cond (.t 46)
          (.seq
           (.ops [⟨(some 4), none, .mv (.c (.int .i64 2))⟩])
           (.seq
            (.ops [⟨(some 3), none, .mv (.c (.int .i32 48))⟩])
            (.ops [⟨(some 47), none, .mv (.t 0)⟩,
              ⟨(some 48), none, .idxS (.t 47) (.c (.int .i64 1))⟩,
              ⟨(some 49), none, .call 74 [(.t 48)]⟩,
              ⟨(some 50), none, .bin .eql (.t 49) (.c (.int .u8 120))⟩,
              ⟨(some 5), none, .mv (.t 50)⟩])))
          (.skip)))
        (.seq
         (.block 0 (.loop (.seq
            (.seq
             (.ops [⟨(some 51), none, .mv (.t 4)⟩,
               ⟨(some 52), none, .mv (.t 0)⟩,
               ⟨(some 53), none, .lenS (.t 52)⟩,
               ⟨(some 54), none, .bin .lss (.t 51) (.t 53)⟩])
             (.cond (.t 54)
              (.skip)
              (.exit 0)))
            (.seq
             (.block 1 (.seq
               (.seq
                (.ops [⟨(some 57), none, .mv (.t 0)⟩,
                  ⟨(some 58), none, .mv (.t 4)⟩,
                  ⟨(some 59), none, .idxS (.t 57) (.t 58)⟩,
                  ⟨(some 60), none, .bin .leq (.c (.int .u8 48)) (.t 59)⟩,
                  ⟨(some 61), none, .mv (.t 60)⟩,
                  ⟨(some 62), (some (61, true)), .mv (.t 0)⟩,
                  ⟨(some 63), (some (61, true)), .mv (.t 4)⟩,
                  ⟨(some 64), (some (61, true)), .idxS (.t 62) (.t 63)⟩,
                  ⟨(some 65), (some (61, true)), .bin .leq (.t 64) (.c (.int .u8 57))⟩,
                  ⟨(some 66), none, .pick (.t 61) (.t 65) (.c (.bool false))⟩,
                  ⟨(some 67), none, .mv (.t 66)⟩,
                  ⟨(some 68), (some (67, false)), .mv (.t 5)⟩,
                  ⟨(some 69), (some (67, false)), .mv (.t 68)⟩,
                  ⟨(some 70), (some (69, true)), .mv (.t 0)⟩,
                  ⟨(some 71), (some (69, true)), .mv (.t 4)⟩,
                  ⟨(some 72), (some (69, true)), .idxS (.t 70) (.t 71)⟩,
                  ⟨(some 73), (some (69, true)), .call 74 [(.t 72)]⟩,
                  ⟨(some 74), (some (69, true)), .bin .leq (.c (.int .u8 97)) (.t 73)⟩,
                  ⟨(some 75), (some (67, false)), .pick (.t 69) (.t 74) (.c (.bool false))⟩,
                  ⟨(some 76), (some (67, false)), .mv (.t 75)⟩,
                  ⟨(some 77), (some (76, true)), .mv (.t 0)⟩,
                  ⟨(some 78), (some (76, true)), .mv (.t 4)⟩,
                  ⟨(some 79), (some (76, true)), .idxS (.t 77) (.t 78)⟩,
                  ⟨(some 80), (some (76, true)), .call 74 [(.t 79)]⟩,
                  ⟨(some 81), (some (76, true)), .bin .leq (.t 80) (.c (.int .u8 102))⟩,
                  ⟨(some 82), (some (67, false)), .pick (.t 76) (.t 81) (.c (.bool false))⟩,
                  ⟨(some 83), none, .pick (.t 67) (.c (.bool true)) (.t 82)⟩])
                (.cond (.t 83)
                 (.seq
                  (.ops [⟨(some 3), none, .mv (.c (.int .i32 48))⟩])
                  (.exit 1))
                 (.skip)))
               (.seq
                (.seq
                 (.ops [⟨(some 84), none, .mv (.t 0)⟩,
                   ⟨(some 85), none, .mv (.t 4)⟩,
                   ⟨(some 86), none, .idxS (.t 84) (.t 85)⟩,
                   ⟨(some 87), none, .bin .eql (.t 86) (.c (.int .u8 95))⟩])
                 (.cond (.t 87)
                  (.seq
                   (.seq
                    (.ops [⟨(some 88), none, .mv (.t 3)⟩,
                      ⟨(some 89), none, .bin .neq (.t 88) (.c (.int .i32 48))⟩])
                    (.cond (.t 89)
                     (.seq
                      (.ops [⟨(some 2), none, .mv (.c (.bool false))⟩])
                      (.ret))
                     (.skip)))
                   (.seq
                    (.ops [⟨(some 3), none, .mv (.c (.int .i32 95))⟩])
                    (.exit 1)))
                  (.skip)))
                (.seq
                 (.seq
                  (.ops [⟨(some 90), none, .mv (.t 3)⟩,
                    ⟨(some 91), none, .bin .eql (.t 90) (.c (.int .i32 95))⟩])
                  (.cond (.t 91)
                   (.seq
                    (.ops [⟨(some 2), none, .mv (.c (.bool false))⟩])
                    (.ret))
                   (.skip)))
                 (.ops [⟨(some 3), none, .mv (.c (.int .i32 33))⟩])))))
             (.ops [⟨(some 55), none, .mv (.t 4)⟩,
               ⟨(some 56), none, .bin .add (.t 55) (.c (.int .i64 1))⟩,
               ⟨(some 4), none, .mv (.t 56)⟩])))))
         (.seq
          (.ops [⟨(some 92), none, .mv (.t 3)⟩,
            ⟨(some 93), none, .bin .neq (.t 92) (.c (.int .i32 95))⟩,
            ⟨(some 2), none, .mv (.t 93)⟩])
          (.ret))))))))⟩
theorem ok75 : FnOk Tryd.prog 75 a75 := FnOk.of Tryd.prog Tryd.func75 (by kernel_rfl)
/-- internal/strconv.log10Pow2 -/
def a76 : AFn := ⟨6, [.tmp 2], .seq
   (.ops [⟨(some 2), none, .mv (.c (.int .i64 0))⟩])
   (.seq
    (.ops [⟨(some 3), none, .mv (.t 0)⟩,
      ⟨(some 4), none, .bin .mul (.t 3) (.c (.int .i64 78913))⟩,
      ⟨(some 5), none, .bin .shr (.t 4) (.c (.int .u64 18))⟩,
      ⟨(some 2), none, .mv (.t 5)⟩])
    (.ret))⟩
theorem ok76 : FnOk Tryd.prog 76 a76 := FnOk.of Tryd.prog Tryd.func76 (by kernel_rfl)
/-- math/bits.Len64 -/
def a77 : AFn := ⟨25, [.tmp 2], .seq
   (.ops [⟨(some 2), none, .mv (.c (.int .i64 0))⟩])
   (.seq
    (.seq
     (.ops [⟨(some 3), none, .mv (.t 0)⟩,
       ⟨(some 4), none, .bin .geq (.t 3) (.c (.int .u64 4294967296))⟩])
     (.cond (.t 4)
      (.seq
       (.ops [⟨(some 5), none, .mv (.t 0)⟩,
         ⟨(some 6), none, .bin .shr (.t 5) (.c (.int .u64 32))⟩,
         ⟨(some 0), none, .mv (.t 6)⟩])
       (.ops [⟨(some 2), none, .mv (.c (.int .i64 32))⟩]))
      (.skip)))
    (.seq
     (.seq
      (.ops [⟨(some 7), none, .mv (.t 0)⟩,
        ⟨(some 8), none, .bin .geq (.t 7) (.c (.int .u64 65536))⟩])
      (.cond (.t 8)
       (.seq
        (.ops [⟨(some 9), none, .mv (.t 0)⟩,
          ⟨(some 10), none, .bin .shr (.t 9) (.c (.int .u64 16))⟩,
          ⟨(some 0), none, .mv (.t 10)⟩])
        (.ops [⟨(some 11), none, .mv (.t 2)⟩,
          ⟨(some 12), none, .bin .add (.t 11) (.c (.int .i64 16))⟩,
          ⟨(some 2), none, .mv (.t 12)⟩]))
       (.skip)))
     (.seq
      (.seq
       (.ops [⟨(some 13), none, .mv (.t 0)⟩,
         ⟨(some 14), none, .bin .geq (.t 13) (.c (.int .u64 256))⟩])
       (.cond (.t 14)
        (.seq
         (.ops [⟨(some 15), none, .mv (.t 0)⟩,
           ⟨(some 16), none, .bin .shr (.t 15) (.c (.int .u64 8))⟩,
           ⟨(some 0), none, .mv (.t 16)⟩])
         (.ops [⟨(some 17), none, .mv (.t 2)⟩,
           ⟨(some 18), none, .bin .add (.t 17) (.c (.int .i64 8))⟩,
           ⟨(some 2), none, .mv (.t 18)⟩]))
        (.skip)))
      (.seq
       (.ops [⟨(some 19), none, .mv (.t 2)⟩,
         ⟨(some 20), none, .mv (.t 0)⟩,
         ⟨(some 21), none, .convI .u8 (.t 20)⟩,
         ⟨(some 22), none, .idxS (.c (.str [0, 1, 2, 2, 3, 3, 3, 3, 4, 4, 4, 4, 4, 4, 4, 4, 5, 5, 5, 5, 5, 5, 5, 5, 5, 5, 5, 5, 5, 5, 5, 5, 6, 6, 6, 6, 6, 6, 6, 6, 6, 6, 6, 6, 6, 6, 6, 6, 6, 6, 6, 6, 6, 6, 6, 6, 6, 6, 6, 6, 6, 6, 6, 6, 7, 7, 7, 7, 7, 7, 7, 7, 7, 7, 7, 7, 7, 7, 7, 7, 7, 7, 7, 7, 7, 7, 7, 7, 7, 7, 7, 7, 7, 7, 7, 7, 7, 7, 7, 7, 7, 7, 7, 7, 7, 7, 7, 7, 7, 7, 7, 7, 7, 7, 7, 7, 7, 7, 7, 7, 7, 7, 7, 7, 7, 7, 7, 7, 8, 8, 8, 8, 8, 8, 8, 8, 8, 8, 8, 8, 8, 8, 8, 8, 8, 8, 8, 8, 8, 8, 8, 8, 8, 8, 8, 8, 8, 8, 8, 8, 8, 8, 8, 8, 8, 8, 8, 8, 8, 8, 8, 8, 8, 8, 8, 8, 8, 8, 8, 8, 8, 8, 8, 8, 8, 8, 8, 8, 8, 8, 8, 8, 8, 8, 8, 8, 8, 8, 8, 8, 8, 8, 8, 8, 8, 8, 8, 8, 8, 8, 8, 8, 8, 8, 8, 8, 8, 8, 8, 8, 8, 8, 8, 8, 8, 8, 8, 8, 8, 8, 8, 8, 8, 8, 8, 8, 8, 8, 8, 8, 8, 8, 8, 8, 8, 8, 8, 8, 8, 8, 8, 8, 8, 8, 8, 8])) (.t 21)⟩,
         ⟨(some 23), none, .convI .i64 (.t 22)⟩,
         ⟨(some 24), none, .bin .add (.t 19) (.t 23)⟩,
         ⟨(some 2), none, .mv (.t 24)⟩])
       (.ret)))))⟩
theorem ok77 : FnOk Tryd.prog 77 a77 := FnOk.of Tryd.prog Tryd.func77 (by kernel_rfl)
/-- internal/strconv.bool2[int] -/
def a78 : AFn := ⟨4, [.tmp 2], .seq
   (.ops [⟨(some 2), none, .mv (.c (.int .i64 0))⟩])
   (.seq
    (.seq
     (.ops [⟨(some 3), none, .mv (.t 0)⟩])
     (.cond (.t 3)
      (.seq
       (.ops [⟨(some 2), none, .mv (.c (.int .i64 1))⟩])
       (.ret))
      (.skip)))
    (.seq
     (.ops [⟨(some 2), none, .mv (.c (.int .i64 0))⟩])
     (.ret)))⟩
theorem ok78 : FnOk Tryd.prog 78 a78 := FnOk.of Tryd.prog Tryd.func78 (by kernel_rfl)
/-- internal/strconv.isPowerOfTwo -/
def a79 : AFn := ⟨8, [.tmp 2], .seq
   (.ops [⟨(some 2), none, .mv (.c (.bool false))⟩])
   (.seq
    (.ops [⟨(some 3), none, .mv (.t 0)⟩,
      ⟨(some 4), none, .mv (.t 0)⟩,
      ⟨(some 5), none, .bin .sub (.t 4) (.c (.int .i64 1))⟩,
      ⟨(some 6), none, .bin .and (.t 3) (.t 5)⟩,
      ⟨(some 7), none, .bin .eql (.t 6) (.c (.int .i64 0))⟩,
      ⟨(some 2), none, .mv (.t 7)⟩])
    (.ret))⟩
theorem ok79 : FnOk Tryd.prog 79 a79 := FnOk.of Tryd.prog Tryd.func79 (by kernel_rfl)
/-- math/bits.TrailingZeros -/
def a80 : AFn := ⟨8, [.tmp 2], .seq
   (.ops [⟨(some 2), none, .mv (.c (.int .i64 0))⟩])
   (.seq
    (.cond (.c (.bool false))
     (.seq
      (.ops [⟨(some 3), none, .mv (.t 0)⟩,
        ⟨(some 4), none, .convI .u32 (.t 3)⟩,
        ⟨(some 5), none, .call 83 [(.t 4)]⟩,
        ⟨(some 2), none, .mv (.t 5)⟩])
      (.ret))
     (.skip))
    (.seq
     (.ops [⟨(some 6), none, .mv (.t 0)⟩,
       ⟨(some 7), none, .call 55 [(.t 6)]⟩,
       ⟨(some 2), none, .mv (.t 7)⟩])
     (.ret)))⟩
theorem ok80 : FnOk Tryd.prog 80 a80 := FnOk.of Tryd.prog Tryd.func80 (by kernel_rfl)
/-- internal/bytealg.hashStr[string] -/
def a82 : AFn := ⟨39, [.tmp 2, .tmp 3], .seq
   (.ops [⟨(some 2), none, .mv (.c (.int .u32 0))⟩,
     ⟨(some 3), none, .mv (.c (.int .u32 0))⟩])
   (.seq
    (.ops [⟨(some 4), none, .mv (.c (.int .u32 0))⟩])
    (.seq
     (.seq
      (.ops [⟨(some 5), none, .mv (.c (.int .i64 0))⟩])
      (.block 0 (.loop (.seq
         (.seq
          (.ops [⟨(some 9), none, .mv (.t 5)⟩,
            ⟨(some 10), none, .mv (.t 0)⟩,
            ⟨(some 11), none, .lenS (.t 10)⟩,
            ⟨(some 12), none, .bin .lss (.t 9) (.t 11)⟩])
          (.cond (.t 12)
           (.skip)
           (.exit 0)))
         (.seq
          (.block 1 (.ops [⟨(some 15), none, .mv (.t 4)⟩,
             ⟨(some 16), none, .bin .mul (.t 15) (.c (.int .u32 16777619))⟩,
             ⟨(some 17), none, .mv (.t 0)⟩,
             ⟨(some 18), none, .mv (.t 5)⟩,
             ⟨(some 19), none, .idxS (.t 17) (.t 18)⟩,
             ⟨(some 20), none, .convI .u32 (.t 19)⟩,
             ⟨(some 21), none, .bin .add (.t 16) (.t 20)⟩,
             ⟨(some 4), none, .mv (.t 21)⟩]))
          (.ops [⟨(some 13), none, .mv (.t 5)⟩,
            ⟨(some 14), none, .bin .add (.t 13) (.c (.int .i64 1))⟩,
            ⟨(some 5), none, .mv (.t 14)⟩]))))))
     (.seq
      (.ops [⟨(some 6), none, .mv (.c (.int .u32 1))⟩,
        ⟨(some 7), none, .mv (.c (.int .u32 16777619))⟩])
      (.seq
       (.seq
        (.ops [⟨(some 22), none, .mv (.t 0)⟩,
          ⟨(some 23), none, .lenS (.t 22)⟩,
          ⟨(some 8), none, .mv (.t 23)⟩])
        (.block 2 (.loop (.seq
           (.seq
            (.ops [⟨(some 24), none, .mv (.t 8)⟩,
              ⟨(some 25), none, .bin .gtr (.t 24) (.c (.int .i64 0))⟩])
            (.cond (.t 25)
             (.skip)
             (.exit 2)))
           (.seq
            (.block 3 (.seq
              (.seq
               (.ops [⟨(some 28), none, .mv (.t 8)⟩,
                 ⟨(some 29), none, .bin .and (.t 28) (.c (.int .i64 1))⟩,
                 ⟨(some 30), none, .bin .neq (.t 29) (.c (.int .i64 0))⟩])
               (.cond (.t 30)
                (.ops [⟨(some 31), none, .mv (.t 6)⟩,
                  ⟨(some 32), none, .mv (.t 7)⟩,
                  ⟨(some 33), none, .bin .mul (.t 31) (.t 32)⟩,
                  ⟨(some 6), none, .mv (.t 33)⟩])
                (.skip)))
              (.ops [⟨(some 34), none, .mv (.t 7)⟩,
                ⟨(some 35), none, .mv (.t 7)⟩,
                ⟨(some 36), none, .bin .mul (.t 34) (.t 35)⟩,
                ⟨(some 7), none, .mv (.t 36)⟩])))
            (.ops [⟨(some 26), none, .mv (.t 8)⟩,
              ⟨(some 27), none, .bin .shr (.t 26) (.c (.int .u64 1))⟩,
              ⟨(some 8), none, .mv (.t 27)⟩]))))))
       (.seq
        (.ops [⟨(some 37), none, .mv (.t 4)⟩,
          ⟨(some 38), none, .mv (.t 6)⟩,
          ⟨(some 2), none, .mv (.t 37)⟩,
          ⟨(some 3), none, .mv (.t 38)⟩])
        (.ret))))))⟩
theorem ok82 : FnOk Tryd.prog 82 a82 := FnOk.of Tryd.prog Tryd.func82 (by kernel_rfl)
/-- math/bits.TrailingZeros32 -/
def a83 : AFn := ⟨14, [.tmp 2], .seq
   (.ops [⟨(some 2), none, .mv (.c (.int .i64 0))⟩])
   (.seq
    (.seq
     (.ops [⟨(some 3), none, .mv (.t 0)⟩,
       ⟨(some 4), none, .bin .eql (.t 3) (.c (.int .u32 0))⟩])
     (.cond (.t 4)
      (.seq
       (.ops [⟨(some 2), none, .mv (.c (.int .i64 32))⟩])
       (.ret))
      (.skip)))
    (.seq
     (.ops [⟨(some 5), none, .mv (.t 0)⟩,
       ⟨(some 6), none, .mv (.t 0)⟩,
       ⟨(some 7), none, .un .neg (.t 6)⟩,
       ⟨(some 8), none, .bin .and (.t 5) (.t 7)⟩,
       ⟨(some 9), none, .bin .mul (.t 8) (.c (.int .u32 125613361))⟩,
       ⟨(some 10), none, .bin .shr (.t 9) (.c (.int .u64 27))⟩,
       ⟨(some 11), none, .iaddrA 32 1 (.c (.ptr (.ro 7) 0)) (.t 10)⟩,
       ⟨(some 12), none, .load none (.t 11)⟩,
       ⟨(some 13), none, .convI .i64 (.t 12)⟩,
       ⟨(some 2), none, .mv (.t 13)⟩])
     (.ret)))⟩
theorem ok83 : FnOk Tryd.prog 83 a83 := FnOk.of Tryd.prog Tryd.func83 (by kernel_rfl)
/-- gosem.cut.vars -/
def a114 : AFn := ⟨11, [], .seq
   (.ops [⟨(some 0), none, .build [(.int .u8 0), (.int .u8 0), (.int .u8 0), (.int .u8 0), (.int .u8 0), (.int .u8 0), (.int .u8 0), (.int .u8 0), (.int .u8 0), (.int .u8 0), (.int .u8 0), (.int .u8 0), (.int .u8 0), (.int .u8 0), (.int .u8 0), (.int .u8 0), (.int .u8 0), (.int .u8 0), (.int .u8 0), (.int .u8 0), (.int .u8 0), (.int .u8 0), (.int .u8 0), (.int .u8 0), (.int .u8 0), (.int .u8 0), (.int .u8 0), (.int .u8 0), (.int .u8 0), (.int .u8 0), (.int .u8 0), (.int .u8 0)] [(0, 1), (1, 1), (2, 1), (3, 1), (4, 1), (5, 1), (6, 1), (7, 1), (8, 1), (9, 1), (10, 1), (11, 1), (12, 1), (13, 1), (14, 1), (15, 1), (16, 1), (17, 1), (18, 1), (19, 1), (20, 1), (21, 1), (22, 1), (23, 1), (24, 1), (25, 1), (26, 1), (27, 1), (28, 1), (29, 1), (30, 1), (31, 1), (32, 1), (33, 1), (34, 1), (35, 1), (36, 1), (37, 1), (38, 1), (39, 1), (40, 1), (41, 1), (42, 1), (43, 1), (44, 1), (45, 1), (46, 1), (47, 1), (48, 1), (49, 1), (50, 1), (51, 1), (52, 1), (53, 1), (54, 1), (55, 1), (56, 1), (57, 1), (58, 1), (59, 1), (60, 1), (61, 1), (62, 1), (63, 1), (64, 1)] [(0, (.c (.int .u8 0))), (1, (.c (.int .u8 1))), (2, (.c (.int .u8 28))), (3, (.c (.int .u8 2))), (4, (.c (.int .u8 29))), (5, (.c (.int .u8 14))), (6, (.c (.int .u8 24))), (7, (.c (.int .u8 3))), (8, (.c (.int .u8 30))), (9, (.c (.int .u8 22))), (10, (.c (.int .u8 20))), (11, (.c (.int .u8 15))), (12, (.c (.int .u8 25))), (13, (.c (.int .u8 17))), (14, (.c (.int .u8 4))), (15, (.c (.int .u8 8))), (16, (.c (.int .u8 31))), (17, (.c (.int .u8 27))), (18, (.c (.int .u8 13))), (19, (.c (.int .u8 23))), (20, (.c (.int .u8 21))), (21, (.c (.int .u8 19))), (22, (.c (.int .u8 16))), (23, (.c (.int .u8 7))), (24, (.c (.int .u8 26))), (25, (.c (.int .u8 12))), (26, (.c (.int .u8 18))), (27, (.c (.int .u8 6))), (28, (.c (.int .u8 11))), (29, (.c (.int .u8 5))), (30, (.c (.int .u8 10))), (31, (.c (.int .u8 9)))]⟩,
     ⟨none, none, .store 32 (.c (.ptr (.ro 7) 0)) (.t 0)⟩])
   (.seq
    (.ops [⟨(some 1), none, .build [(.int .u8 0), (.int .u8 0), (.int .u8 0), (.int .u8 0), (.int .u8 0), (.int .u8 0), (.int .u8 0), (.int .u8 0), (.int .u8 0), (.int .u8 0), (.int .u8 0), (.int .u8 0), (.int .u8 0), (.int .u8 0), (.int .u8 0), (.int .u8 0), (.int .u8 0), (.int .u8 0), (.int .u8 0), (.int .u8 0), (.int .u8 0), (.int .u8 0), (.int .u8 0), (.int .u8 0), (.int .u8 0), (.int .u8 0), (.int .u8 0), (.int .u8 0), (.int .u8 0), (.int .u8 0), (.int .u8 0), (.int .u8 0), (.int .u8 0), (.int .u8 0), (.int .u8 0), (.int .u8 0), (.int .u8 0), (.int .u8 0), (.int .u8 0), (.int .u8 0), (.int .u8 0), (.int .u8 0), (.int .u8 0), (.int .u8 0), (.int .u8 0), (.int .u8 0), (.int .u8 0), (.int .u8 0), (.int .u8 0), (.int .u8 0), (.int .u8 0), (.int .u8 0), (.int .u8 0), (.int .u8 0), (.int .u8 0), (.int .u8 0), (.int .u8 0), (.int .u8 0), (.int .u8 0), (.int .u8 0), (.int .u8 0), (.int .u8 0), (.int .u8 0), (.int .u8 0)] [(0, 1), (1, 1), (2, 1), (3, 1), (4, 1), (5, 1), (6, 1), (7, 1), (8, 1), (9, 1), (10, 1), (11, 1), (12, 1), (13, 1), (14, 1), (15, 1), (16, 1), (17, 1), (18, 1), (19, 1), (20, 1), (21, 1), (22, 1), (23, 1), (24, 1), (25, 1), (26, 1), (27, 1), (28, 1), (29, 1), (30, 1), (31, 1), (32, 1), (33, 1), (34, 1), (35, 1), (36, 1), (37, 1), (38, 1), (39, 1), (40, 1), (41, 1), (42, 1), (43, 1), (44, 1), (45, 1), (46, 1), (47, 1), (48, 1), (49, 1), (50, 1), (51, 1), (52, 1), (53, 1), (54, 1), (55, 1), (56, 1), (57, 1), (58, 1), (59, 1), (60, 1), (61, 1), (62, 1), (63, 1), (64, 1), (65, 1), (66, 1), (67, 1), (68, 1), (69, 1), (70, 1), (71, 1), (72, 1), (73, 1), (74, 1), (75, 1), (76, 1), (77, 1), (78, 1), (79, 1), (80, 1), (81, 1), (82, 1), (83, 1), (84, 1), (85, 1), (86, 1), (87, 1), (88, 1), (89, 1), (90, 1), (91, 1), (92, 1), (93, 1), (94, 1), (95, 1), (96, 1), (97, 1), (98, 1), (99, 1), (100, 1), (101, 1), (102, 1), (103, 1), (104, 1), (105, 1), (106, 1), (107, 1), (108, 1), (109, 1), (110, 1), (111, 1), (112, 1), (113, 1), (114, 1), (115, 1), (116, 1), (117, 1), (118, 1), (119, 1), (120, 1), (121, 1), (122, 1), (123, 1), (124, 1), (125, 1), (126, 1), (127, 1), (128, 1)] [(0, (.c (.int .u8 0))), (1, (.c (.int .u8 1))), (2, (.c (.int .u8 56))), (3, (.c (.int .u8 2))), (4, (.c (.int .u8 57))), (5, (.c (.int .u8 49))), (6, (.c (.int .u8 28))), (7, (.c (.int .u8 3))), (8, (.c (.int .u8 61))), (9, (.c (.int .u8 58))), (10, (.c (.int .u8 42))), (11, (.c (.int .u8 50))), (12, (.c (.int .u8 38))), (13, (.c (.int .u8 29))), (14, (.c (.int .u8 17))), (15, (.c (.int .u8 4))), (16, (.c (.int .u8 62))), (17, (.c (.int .u8 47))), (18, (.c (.int .u8 59))), (19, (.c (.int .u8 36))), (20, (.c (.int .u8 45))), (21, (.c (.int .u8 43))), (22, (.c (.int .u8 51))), (23, (.c (.int .u8 22))), (24, (.c (.int .u8 53))), (25, (.c (.int .u8 39))), (26, (.c (.int .u8 33))), (27, (.c (.int .u8 30))), (28, (.c (.int .u8 24))), (29, (.c (.int .u8 18))), (30, (.c (.int .u8 12))), (31, (.c (.int .u8 5))), (32, (.c (.int .u8 63))), (33, (.c (.int .u8 55))), (34, (.c (.int .u8 48))), (35, (.c (.int .u8 27))), (36, (.c (.int .u8 60))), (37, (.c (.int .u8 41))), (38, (.c (.int .u8 37))), (39, (.c (.int .u8 16))), (40, (.c (.int .u8 46))), (41, (.c (.int .u8 35))), (42, (.c (.int .u8 44))), (43, (.c (.int .u8 21))), (44, (.c (.int .u8 52))), (45, (.c (.int .u8 32))), (46, (.c (.int .u8 23))), (47, (.c (.int .u8 11))), (48, (.c (.int .u8 54))), (49, (.c (.int .u8 26))), (50, (.c (.int .u8 40))), (51, (.c (.int .u8 15))), (52, (.c (.int .u8 34))), (53, (.c (.int .u8 20))), (54, (.c (.int .u8 31))), (55, (.c (.int .u8 10))), (56, (.c (.int .u8 25))), (57, (.c (.int .u8 14))), (58, (.c (.int .u8 19))), (59, (.c (.int .u8 9))), (60, (.c (.int .u8 13))), (61, (.c (.int .u8 8))), (62, (.c (.int .u8 7))), (63, (.c (.int .u8 6)))]⟩,
      ⟨none, none, .store 64 (.c (.ptr (.ro 2) 0)) (.t 1)⟩])
    (.seq
     (.ops [⟨(some 2), none, .build [(.int .u64 0), (.int .u64 0), (.int .u64 0), (.int .u64 0), (.int .u64 0), (.int .u64 0), (.int .u64 0), (.int .u64 0), (.int .u64 0), (.int .u64 0), (.int .u64 0), (.int .u64 0), (.int .u64 0), (.int .u64 0), (.int .u64 0), (.int .u64 0), (.int .u64 0), (.int .u64 0), (.int .u64 0), (.int .u64 0)] [(0, 1), (1, 1), (2, 1), (3, 1), (4, 1), (5, 1), (6, 1), (7, 1), (8, 1), (9, 1), (10, 1), (11, 1), (12, 1), (13, 1), (14, 1), (15, 1), (16, 1), (17, 1), (18, 1), (19, 1), (20, 1), (21, 1), (22, 1), (23, 1), (24, 1), (25, 1), (26, 1), (27, 1), (28, 1), (29, 1), (30, 1), (31, 1), (32, 1), (33, 1), (34, 1), (35, 1), (36, 1), (37, 1), (38, 1), (39, 1), (40, 1)] [(0, (.c (.int .u64 1))), (1, (.c (.int .u64 10))), (2, (.c (.int .u64 100))), (3, (.c (.int .u64 1000))), (4, (.c (.int .u64 10000))), (5, (.c (.int .u64 100000))), (6, (.c (.int .u64 1000000))), (7, (.c (.int .u64 10000000))), (8, (.c (.int .u64 100000000))), (9, (.c (.int .u64 1000000000))), (10, (.c (.int .u64 10000000000))), (11, (.c (.int .u64 100000000000))), (12, (.c (.int .u64 1000000000000))), (13, (.c (.int .u64 10000000000000))), (14, (.c (.int .u64 100000000000000))), (15, (.c (.int .u64 1000000000000000))), (16, (.c (.int .u64 10000000000000000))), (17, (.c (.int .u64 100000000000000000))), (18, (.c (.int .u64 1000000000000000000))), (19, (.c (.int .u64 10000000000000000000)))]⟩,
       ⟨none, none, .store 20 (.c (.ptr (.ro 4) 0)) (.t 2)⟩])
     (.seq
      (.ops [⟨(some 3), none, .build [(.int .u8 0), (.int .u8 0)] [(0, 1), (1, 1)] [(0, (.c (.int .u8 128))), (1, (.c (.int .u8 191)))]⟩,
        ⟨(some 4), none, .build [(.int .u8 0), (.int .u8 0)] [(0, 1), (1, 1)] [(0, (.c (.int .u8 160))), (1, (.c (.int .u8 191)))]⟩,
        ⟨(some 5), none, .build [(.int .u8 0), (.int .u8 0)] [(0, 1), (1, 1)] [(0, (.c (.int .u8 128))), (1, (.c (.int .u8 159)))]⟩,
        ⟨(some 6), none, .build [(.int .u8 0), (.int .u8 0)] [(0, 1), (1, 1)] [(0, (.c (.int .u8 144))), (1, (.c (.int .u8 191)))]⟩,
        ⟨(some 7), none, .build [(.int .u8 0), (.int .u8 0)] [(0, 1), (1, 1)] [(0, (.c (.int .u8 128))), (1, (.c (.int .u8 143)))]⟩,
        ⟨(some 8), none, .build [(.int .u8 0), (.int .u8 0), (.int .u8 0), (.int .u8 0), (.int .u8 0), (.int .u8 0), (.int .u8 0), (.int .u8 0), (.int .u8 0), (.int .u8 0), (.int .u8 0), (.int .u8 0), (.int .u8 0), (.int .u8 0), (.int .u8 0), (.int .u8 0), (.int .u8 0), (.int .u8 0), (.int .u8 0), (.int .u8 0), (.int .u8 0), (.int .u8 0), (.int .u8 0), (.int .u8 0), (.int .u8 0), (.int .u8 0), (.int .u8 0), (.int .u8 0), (.int .u8 0), (.int .u8 0), (.int .u8 0), (.int .u8 0)] [(0, 2), (2, 2), (4, 2), (6, 2), (8, 2), (10, 2), (12, 2), (14, 2), (16, 2), (18, 2), (20, 2), (22, 2), (24, 2), (26, 2), (28, 2), (30, 2), (32, 2), (34, 2), (36, 2), (38, 2), (40, 2), (42, 2), (44, 2), (46, 2), (48, 2), (50, 2), (52, 2), (54, 2), (56, 2), (58, 2), (60, 2), (62, 2), (64, 2), (66, 2), (68, 2), (70, 2), (72, 2), (74, 2), (76, 2), (78, 2), (80, 2), (82, 2), (84, 2), (86, 2), (88, 2), (90, 2), (92, 2), (94, 2)] [(0, (.t 3)), (1, (.t 4)), (2, (.t 5)), (3, (.t 6)), (4, (.t 7))]⟩,
        ⟨none, none, .store 32 (.c (.ptr (.ro 6) 0)) (.t 8)⟩])
      (.seq
       (.ops [⟨(some 9), none, .call 62 [(.c (.str [118, 97, 108, 117, 101, 32, 111, 117, 116, 32, 111, 102, 32, 114, 97, 110, 103, 101]))]⟩,
         ⟨none, none, .store 1 (.c (.ptr (.ro 1) 0)) (.t 9)⟩])
       (.ops [⟨(some 10), none, .call 62 [(.c (.str [105, 110, 118, 97, 108, 105, 100, 32, 115, 121, 110, 116, 97, 120]))]⟩,
         ⟨none, none, .store 1 (.c (.ptr (.ro 0) 0)) (.t 10)⟩])))))⟩
theorem ok114 : FnOk Tryd.prog 114 a114 := FnOk.of Tryd.prog Tryd.func114 (by kernel_rfl)

end Go.Proofs.YtgdmalobagncpaaDoor.Fns
