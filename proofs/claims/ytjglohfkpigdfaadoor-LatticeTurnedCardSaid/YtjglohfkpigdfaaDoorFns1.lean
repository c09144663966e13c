/- Functions of the translated code as the abstract machine reads them, printed by program; each is checked against the code. -/
import Derived.Test.YtjglohfkpigdfaaDoorProg
import Derived.Test.YtjglohfkpigdfaaDoorAmEval
namespace Go.Proofs.YtjglohfkpigdfaaDoor.Fns
open Go Go.RowKit Am Go.Proofs.YtjglohfkpigdfaaDoor
set_option maxRecDepth 100000
/-- jalousie/jalousieref01.Meet -/
def a29 : AFn := ⟨55, [.tmp 6], .seq
   (.ops [⟨(some 6), none, .mv (.c (.int .i64 0))⟩])
   (.seq
    (.seq
     (.ops [⟨(some 7), none, .mv (.c (.int .i64 0))⟩])
     (.block 0 (.loop (.seq
        (.seq
         (.ops [⟨(some 10), none, .mv (.t 7)⟩,
           ⟨(some 11), none, .mv (.t 0)⟩,
           ⟨(some 12), none, .lenL (.t 11)⟩,
           ⟨(some 13), none, .bin .lss (.t 10) (.t 12)⟩])
         (.cond (.t 13)
          (.skip)
          (.exit 0)))
        (.seq
         (.block 1 (.seq
           (.ops [⟨(some 16), none, .mv (.t 0)⟩,
             ⟨(some 17), none, .mv (.t 7)⟩,
             ⟨(some 18), none, .mv (.t 1)⟩,
             ⟨(some 19), none, .call 30 [(.t 16), (.t 17), (.t 18)]⟩,
             ⟨(some 20), none, .mv (.t 19)⟩,
             ⟨(some 21), (some (20, true)), .mv (.t 0)⟩,
             ⟨(some 22), (some (20, true)), .mv (.t 7)⟩,
             ⟨(some 23), (some (20, true)), .mv (.t 2)⟩,
             ⟨(some 24), (some (20, true)), .call 30 [(.t 21), (.t 22), (.t 23)]⟩,
             ⟨(some 25), none, .pick (.t 20) (.t 24) (.c (.bool false))⟩,
             ⟨(some 8), none, .mv (.t 25)⟩])
           (.seq
            (.seq
             (.ops [⟨(some 9), none, .mv (.c (.int .i64 0))⟩])
             (.block 2 (.loop (.seq
                (.seq
                 (.ops [⟨(some 26), none, .mv (.t 9)⟩,
                   ⟨(some 27), none, .mv (.t 0)⟩,
                   ⟨(some 28), none, .lenL (.t 27)⟩,
                   ⟨(some 29), none, .bin .lss (.t 26) (.t 28)⟩,
                   ⟨(some 30), none, .mv (.t 29)⟩,
                   ⟨(some 31), (some (30, true)), .mv (.t 8)⟩,
                   ⟨(some 32), none, .pick (.t 30) (.t 31) (.c (.bool false))⟩])
                 (.cond (.t 32)
                  (.skip)
                  (.exit 2)))
                (.seq
                 (.block 3 (.ops [⟨(some 35), none, .mv (.t 0)⟩,
                    ⟨(some 36), none, .mv (.t 9)⟩,
                    ⟨(some 37), none, .mv (.t 1)⟩,
                    ⟨(some 38), none, .call 30 [(.t 35), (.t 36), (.t 37)]⟩,
                    ⟨(some 39), none, .un .not (.t 38)⟩,
                    ⟨(some 40), none, .mv (.t 39)⟩,
                    ⟨(some 41), (some (40, false)), .mv (.t 0)⟩,
                    ⟨(some 42), (some (40, false)), .mv (.t 9)⟩,
                    ⟨(some 43), (some (40, false)), .mv (.t 2)⟩,
                    ⟨(some 44), (some (40, false)), .call 30 [(.t 41), (.t 42), (.t 43)]⟩,
                    ⟨(some 45), (some (40, false)), .un .not (.t 44)⟩,
                    ⟨(some 46), none, .pick (.t 40) (.c (.bool true)) (.t 45)⟩,
                    ⟨(some 47), none, .mv (.t 46)⟩,
                    ⟨(some 48), (some (47, false)), .mv (.t 0)⟩,
                    ⟨(some 49), (some (47, false)), .mv (.t 9)⟩,
                    ⟨(some 50), (some (47, false)), .mv (.t 7)⟩,
                    ⟨(some 51), (some (47, false)), .call 30 [(.t 48), (.t 49), (.t 50)]⟩,
                    ⟨(some 52), none, .pick (.t 47) (.c (.bool true)) (.t 51)⟩,
                    ⟨(some 8), none, .mv (.t 52)⟩]))
                 (.ops [⟨(some 33), none, .mv (.t 9)⟩,
                   ⟨(some 34), none, .bin .add (.t 33) (.c (.int .i64 1))⟩,
                   ⟨(some 9), none, .mv (.t 34)⟩]))))))
            (.seq
             (.ops [⟨(some 53), none, .mv (.t 8)⟩])
             (.cond (.t 53)
              (.seq
               (.ops [⟨(some 54), none, .mv (.t 7)⟩,
                 ⟨(some 6), none, .mv (.t 54)⟩])
               (.ret))
              (.skip))))))
         (.ops [⟨(some 14), none, .mv (.t 7)⟩,
           ⟨(some 15), none, .bin .add (.t 14) (.c (.int .i64 1))⟩,
           ⟨(some 7), none, .mv (.t 15)⟩]))))))
    (.seq
     (.ops [⟨(some 6), none, .mv (.c (.int .i64 (-1)))⟩])
     (.ret)))⟩
theorem ok29 : FnOk Tryd.prog 29 a29 := FnOk.of Tryd.prog Tryd.func29 (by kernel_rfl)
/-- jalousie/jalousieref01.Below -/
def a30 : AFn := ⟨34, [.tmp 6], .seq
   (.ops [⟨(some 6), none, .mv (.c (.bool false))⟩])
   (.seq
    (.ops [⟨(some 7), none, .mv (.t 1)⟩,
      ⟨(some 8), none, .bin .geq (.t 7) (.c (.int .i64 0))⟩,
      ⟨(some 9), none, .mv (.t 8)⟩,
      ⟨(some 10), (some (9, true)), .mv (.t 2)⟩,
      ⟨(some 11), (some (9, true)), .bin .geq (.t 10) (.c (.int .i64 0))⟩,
      ⟨(some 12), none, .pick (.t 9) (.t 11) (.c (.bool false))⟩,
      ⟨(some 13), none, .mv (.t 12)⟩,
      ⟨(some 14), (some (13, true)), .mv (.t 1)⟩,
      ⟨(some 15), (some (13, true)), .mv (.t 0)⟩,
      ⟨(some 16), (some (13, true)), .lenL (.t 15)⟩,
      ⟨(some 17), (some (13, true)), .bin .lss (.t 14) (.t 16)⟩,
      ⟨(some 18), none, .pick (.t 13) (.t 17) (.c (.bool false))⟩,
      ⟨(some 19), none, .mv (.t 18)⟩,
      ⟨(some 20), (some (19, true)), .mv (.t 2)⟩,
      ⟨(some 21), (some (19, true)), .mv (.t 0)⟩,
      ⟨(some 22), (some (19, true)), .lenL (.t 21)⟩,
      ⟨(some 23), (some (19, true)), .bin .lss (.t 20) (.t 22)⟩,
      ⟨(some 24), none, .pick (.t 19) (.t 23) (.c (.bool false))⟩,
      ⟨(some 25), none, .mv (.t 24)⟩,
      ⟨(some 26), (some (25, true)), .mv (.t 0)⟩,
      ⟨(some 27), (some (25, true)), .mv (.t 1)⟩,
      ⟨(some 28), (some (25, true)), .iaddrS 1 (.t 26) (.t 27)⟩,
      ⟨(some 29), (some (25, true)), .load none (.t 28)⟩,
      ⟨(some 30), (some (25, true)), .mv (.t 2)⟩,
      ⟨(some 31), (some (25, true)), .iaddrS 1 (.t 29) (.t 30)⟩,
      ⟨(some 32), (some (25, true)), .load none (.t 31)⟩,
      ⟨(some 33), none, .pick (.t 25) (.t 32) (.c (.bool false))⟩,
      ⟨(some 6), none, .mv (.t 33)⟩])
    (.ret))⟩
theorem ok30 : FnOk Tryd.prog 30 a30 := FnOk.of Tryd.prog Tryd.func30 (by kernel_rfl)
/-- math/bits.TrailingZeros64 -/
def a31 : AFn := ⟨14, [.tmp 2], .seq
   (.ops [⟨(some 2), none, .mv (.c (.int .i64 0))⟩])
   (.seq
    (.seq
     (.ops [⟨(some 3), none, .mv (.t 0)⟩,
       ⟨(some 4), none, .bin .eql (.t 3) (.c (.int .u64 0))⟩])
     (.cond (.t 4)
      (.seq
       (.ops [⟨(some 2), none, .mv (.c (.int .i64 64))⟩])
       (.ret))
      (.skip)))
    (.seq
     (.ops [⟨(some 5), none, .mv (.t 0)⟩,
       ⟨(some 6), none, .mv (.t 0)⟩,
       ⟨(some 7), none, .un .neg (.t 6)⟩,
       ⟨(some 8), none, .bin .and (.t 5) (.t 7)⟩,
       ⟨(some 9), none, .bin .mul (.t 8) (.c (.int .u64 285870213051353865))⟩,
       ⟨(some 10), none, .bin .shr (.t 9) (.c (.int .u64 58))⟩,
       ⟨(some 11), none, .iaddrA 64 1 (.c (.ptr (.ro 0) 0)) (.t 10)⟩,
       ⟨(some 12), none, .load none (.t 11)⟩,
       ⟨(some 13), none, .convI .i64 (.t 12)⟩,
       ⟨(some 2), none, .mv (.t 13)⟩])
     (.ret)))⟩
theorem ok31 : FnOk Tryd.prog 31 a31 := FnOk.of Tryd.prog Tryd.func31 (by kernel_rfl)
/-- (*sync.Once).Do -/
def a32 : AFn := ⟨12, [], .seq
   (.ops [⟨(some 4), none, .mv (.t 0)⟩,
     ⟨(some 5), none, .nilck (.t 4)⟩,
     ⟨(some 6), none, .addr 0 (.t 5)⟩,
     ⟨(some 7), none, .call 34 [(.t 6)]⟩,
     ⟨(some 8), none, .un .not (.t 7)⟩])
   (.cond (.t 8)
    (.ops [⟨(some 9), none, .mv (.t 0)⟩,
      ⟨(some 10), none, .mv (.t 1)⟩,
      ⟨(some 11), none, .call 35 [(.t 9), (.t 10)]⟩])
    (.skip))⟩
theorem ok32 : FnOk Tryd.prog 32 a32 := FnOk.of Tryd.prog Tryd.func32 (by kernel_rfl)
/-- (*jalousie/lattice.Lattice).made$1 -/
def a33 : AFn := ⟨75, [], .seq
   (.ops [⟨(some 3), none, .load none (.t 0)⟩,
     ⟨(some 4), none, .call 12 [(.t 3)]⟩,
     ⟨(some 5), none, .mv (.c (.int .i64 0))⟩])
   (.block 0 (.loop (.seq
      (.ops [⟨(some 6), none, .bin .lss (.t 5) (.t 4)⟩])
      (.seq
       (.cond (.t 6)
        (.skip)
        (.exit 0))
       (.seq
        (.block 1 (.seq
          (.ops [⟨(some 7), none, .mv (.t 5)⟩,
            ⟨(some 1), none, .mv (.t 7)⟩])
          (.seq
           (.ops [⟨(some 8), none, .load none (.t 0)⟩,
             ⟨(some 9), none, .call 12 [(.t 8)]⟩,
             ⟨(some 10), none, .mv (.c (.int .i64 0))⟩])
           (.block 2 (.loop (.seq
              (.ops [⟨(some 11), none, .bin .lss (.t 10) (.t 9)⟩])
              (.seq
               (.cond (.t 11)
                (.skip)
                (.exit 2))
               (.seq
                (.block 3 (.seq
                  (.ops [⟨(some 12), none, .mv (.t 10)⟩,
                    ⟨(some 2), none, .mv (.t 12)⟩])
                  (.seq
                   (.draw [⟨⟨(some 13), none, .load none (.t 0)⟩, []⟩,
                     ⟨⟨(some 14), none, .load none (.t 0)⟩, []⟩,
                     ⟨⟨(some 15), none, .nilck (.t 14)⟩, [1]⟩,
                     ⟨⟨(some 16), none, .addr 5 (.t 15)⟩, [2]⟩,
                     ⟨⟨(some 17), none, .load none (.t 16)⟩, [3]⟩,
                     ⟨⟨(some 18), none, .load none (.t 0)⟩, []⟩,
                     ⟨⟨(some 19), none, .nilck (.t 18)⟩, [5]⟩,
                     ⟨⟨(some 20), none, .addr 0 (.t 19)⟩, [6]⟩,
                     ⟨⟨(some 21), none, .load none (.t 20)⟩, [7]⟩,
                     ⟨⟨(some 22), none, .mv (.t 1)⟩, []⟩,
                     ⟨⟨(some 23), none, .iaddrS 1 (.t 21) (.t 22)⟩, [8, 9]⟩,
                     ⟨⟨(some 24), none, .load none (.t 23)⟩, [10]⟩,
                     ⟨⟨(some 25), none, .load none (.t 0)⟩, []⟩,
                     ⟨⟨(some 26), none, .nilck (.t 25)⟩, [12]⟩,
                     ⟨⟨(some 27), none, .addr 0 (.t 26)⟩, [13]⟩,
                     ⟨⟨(some 28), none, .load none (.t 27)⟩, [14]⟩,
                     ⟨⟨(some 29), none, .mv (.t 2)⟩, []⟩,
                     ⟨⟨(some 30), none, .iaddrS 1 (.t 28) (.t 29)⟩, [15, 16]⟩,
                     ⟨⟨(some 31), none, .load none (.t 30)⟩, [17]⟩,
                     ⟨⟨(some 32), none, .bin .and (.t 24) (.t 31)⟩, [11, 18]⟩,
                     ⟨⟨(some 33), none, .load none (.t 0)⟩, []⟩,
                     ⟨⟨(some 34), none, .nilck (.t 33)⟩, [20]⟩,
                     ⟨⟨(some 35), none, .addr 0 (.t 34)⟩, [21]⟩,
                     ⟨⟨(some 36), none, .load none (.t 35)⟩, [22]⟩,
                     ⟨⟨(some 37), none, .call 24 [(.t 32), (.t 36)]⟩, [19, 23]⟩,
                     ⟨⟨(some 38), none, .convI .i8 (.t 37)⟩, [24]⟩,
                     ⟨⟨(some 39), none, .bslice 62 1 1 [(.int .i8 0)] [(0, (.t 38))]⟩, [25]⟩,
                     ⟨⟨(some 40), none, .append 62 1 1 (.t 17) (.t 39)⟩, [4, 26, 24]⟩,
                     ⟨⟨(some 41), none, .nilck (.t 13)⟩, [0, 0, 1, 2, 3, 4, 5, 6, 7, 8, 9, 10, 11, 12, 13, 14, 15, 16, 17, 18, 19, 20, 21, 22, 23, 24, 25, 26, 27]⟩,
                     ⟨⟨(some 42), none, .addr 5 (.t 41)⟩, [28, 0, 1, 2, 3, 4, 5, 6, 7, 8, 9, 10, 11, 12, 13, 14, 15, 16, 17, 18, 19, 20, 21, 22, 23, 24, 25, 26, 27]⟩,
                     ⟨⟨none, none, .store 1 (.t 42) (.t 40)⟩, [29, 27, 27, 0, 1, 2, 3, 4, 5, 6, 7, 8, 9, 10, 11, 12, 13, 14, 15, 16, 17, 18, 19, 20, 21, 22, 23, 24, 25, 26, 27]⟩] [0, 0, 2, 6, 14, 0, 32, 96, 224, 0, 992, 2016, 0, 4096, 12288, 28672, 0, 126976, 258048, 524256, 0, 1048576, 3145728, 7340032, 16777184, 33554400, 67108832, 134217726, 268435455, 536870911, 1073741823])
                   (.draw [⟨⟨(some 43), none, .load none (.t 0)⟩, []⟩,
                     ⟨⟨(some 44), none, .load none (.t 0)⟩, []⟩,
                     ⟨⟨(some 45), none, .nilck (.t 44)⟩, [1]⟩,
                     ⟨⟨(some 46), none, .addr 6 (.t 45)⟩, [2]⟩,
                     ⟨⟨(some 47), none, .load none (.t 46)⟩, [3]⟩,
                     ⟨⟨(some 48), none, .load none (.t 0)⟩, []⟩,
                     ⟨⟨(some 49), none, .nilck (.t 48)⟩, [5]⟩,
                     ⟨⟨(some 50), none, .addr 1 (.t 49)⟩, [6]⟩,
                     ⟨⟨(some 51), none, .load none (.t 50)⟩, [7]⟩,
                     ⟨⟨(some 52), none, .mv (.t 1)⟩, []⟩,
                     ⟨⟨(some 53), none, .iaddrS 1 (.t 51) (.t 52)⟩, [8, 9]⟩,
                     ⟨⟨(some 54), none, .load none (.t 53)⟩, [10]⟩,
                     ⟨⟨(some 55), none, .load none (.t 0)⟩, []⟩,
                     ⟨⟨(some 56), none, .nilck (.t 55)⟩, [12]⟩,
                     ⟨⟨(some 57), none, .addr 1 (.t 56)⟩, [13]⟩,
                     ⟨⟨(some 58), none, .load none (.t 57)⟩, [14]⟩,
                     ⟨⟨(some 59), none, .mv (.t 2)⟩, []⟩,
                     ⟨⟨(some 60), none, .iaddrS 1 (.t 58) (.t 59)⟩, [15, 16]⟩,
                     ⟨⟨(some 61), none, .load none (.t 60)⟩, [17]⟩,
                     ⟨⟨(some 62), none, .bin .and (.t 54) (.t 61)⟩, [11, 18]⟩,
                     ⟨⟨(some 63), none, .load none (.t 0)⟩, []⟩,
                     ⟨⟨(some 64), none, .nilck (.t 63)⟩, [20]⟩,
                     ⟨⟨(some 65), none, .addr 1 (.t 64)⟩, [21]⟩,
                     ⟨⟨(some 66), none, .load none (.t 65)⟩, [22]⟩,
                     ⟨⟨(some 67), none, .call 24 [(.t 62), (.t 66)]⟩, [19, 23]⟩,
                     ⟨⟨(some 68), none, .convI .i8 (.t 67)⟩, [24]⟩,
                     ⟨⟨(some 69), none, .bslice 62 1 1 [(.int .i8 0)] [(0, (.t 68))]⟩, [25]⟩,
                     ⟨⟨(some 70), none, .append 62 1 1 (.t 47) (.t 69)⟩, [4, 26, 24]⟩,
                     ⟨⟨(some 71), none, .nilck (.t 43)⟩, [0, 0, 1, 2, 3, 4, 5, 6, 7, 8, 9, 10, 11, 12, 13, 14, 15, 16, 17, 18, 19, 20, 21, 22, 23, 24, 25, 26, 27]⟩,
                     ⟨⟨(some 72), none, .addr 6 (.t 71)⟩, [28, 0, 1, 2, 3, 4, 5, 6, 7, 8, 9, 10, 11, 12, 13, 14, 15, 16, 17, 18, 19, 20, 21, 22, 23, 24, 25, 26, 27]⟩,
                     ⟨⟨none, none, .store 1 (.t 72) (.t 70)⟩, [29, 27, 27, 0, 1, 2, 3, 4, 5, 6, 7, 8, 9, 10, 11, 12, 13, 14, 15, 16, 17, 18, 19, 20, 21, 22, 23, 24, 25, 26, 27]⟩] [0, 0, 2, 6, 14, 0, 32, 96, 224, 0, 992, 2016, 0, 4096, 12288, 28672, 0, 126976, 258048, 524256, 0, 1048576, 3145728, 7340032, 16777184, 33554400, 67108832, 134217726, 268435455, 536870911, 1073741823]))))
                (.ops [⟨(some 73), none, .bin .add (.t 10) (.c (.int .i64 1))⟩,
                  ⟨(some 10), none, .mv (.t 73)⟩])))))))))
        (.ops [⟨(some 74), none, .bin .add (.t 5) (.c (.int .i64 1))⟩,
          ⟨(some 5), none, .mv (.t 74)⟩]))))))⟩
theorem ok33 : FnOk Tryd.prog 33 a33 := FnOk.of Tryd.prog Tryd.func33 (by kernel_rfl)
/-- (*sync/atomic.Bool).Load -/
def a34 : AFn := ⟨8, [.tmp 2], .seq
   (.ops [⟨(some 2), none, .mv (.c (.bool false))⟩])
   (.seq
    (.ops [⟨(some 3), none, .mv (.t 0)⟩,
      ⟨(some 4), none, .nilck (.t 3)⟩,
      ⟨(some 5), none, .addr 0 (.t 4)⟩,
      ⟨(some 6), none, .atom (.load .u32) [(.t 5)]⟩,
      ⟨(some 7), none, .bin .neq (.t 6) (.c (.int .u32 0))⟩,
      ⟨(some 2), none, .mv (.t 7)⟩])
    (.ret))⟩
theorem ok34 : FnOk Tryd.prog 34 a34 := FnOk.of Tryd.prog Tryd.func34 (by kernel_rfl)
/-- (*sync.Once).doSlow -/
def a35 : AFn := ⟨21, [], .seq
   (.ops [⟨(some 4), none, .mv (.t 0)⟩,
     ⟨(some 5), none, .nilck (.t 4)⟩,
     ⟨(some 6), none, .addr 1 (.t 5)⟩,
     ⟨(some 7), none, .call 37 [(.t 6)]⟩])
   (.seq
    (.ops [⟨(some 8), none, .mv (.t 0)⟩,
      ⟨(some 9), none, .nilck (.t 8)⟩,
      ⟨(some 10), none, .addr 1 (.t 9)⟩,
      ⟨none, none, .bad⟩])
    (.seq
     (.ops [⟨(some 11), none, .mv (.t 0)⟩,
       ⟨(some 12), none, .nilck (.t 11)⟩,
       ⟨(some 13), none, .addr 0 (.t 12)⟩,
       ⟨(some 14), none, .call 34 [(.t 13)]⟩,
       ⟨(some 15), none, .un .not (.t 14)⟩])
     (.cond (.t 15)
      (.seq
       (.ops [⟨(some 16), none, .mv (.t 0)⟩,
         ⟨(some 17), none, .nilck (.t 16)⟩,
         ⟨(some 18), none, .addr 0 (.t 17)⟩,
         ⟨none, none, .bad⟩])
       (.ops [⟨(some 19), none, .mv (.t 1)⟩,
         ⟨(some 20), none, .callv (.t 19) []⟩]))
      (.skip))))⟩
theorem ok35 : FnOk Tryd.prog 35 a35 := FnOk.of Tryd.prog Tryd.func35 (by kernel_rfl)
/-- (*sync.Mutex).Lock -/
def a37 : AFn := ⟨6, [], .ops [⟨(some 2), none, .mv (.t 0)⟩,
    ⟨(some 3), none, .nilck (.t 2)⟩,
    ⟨(some 4), none, .addr 0 (.t 3)⟩,
    ⟨(some 5), none, .call 40 [(.t 4)]⟩]⟩
theorem ok37 : FnOk Tryd.prog 37 a37 := FnOk.of Tryd.prog Tryd.func37 (by kernel_rfl)
/-- (*sync.Mutex).Unlock -/
def a38 : AFn := ⟨6, [], .ops [⟨(some 2), none, .mv (.t 0)⟩,
    ⟨(some 3), none, .nilck (.t 2)⟩,
    ⟨(some 4), none, .addr 0 (.t 3)⟩,
    ⟨(some 5), none, .call 41 [(.t 4)]⟩]⟩
theorem ok38 : FnOk Tryd.prog 38 a38 := FnOk.of Tryd.prog Tryd.func38 (by kernel_rfl)
/-- (*sync/atomic.Bool).Store -/
def a39 : AFn := ⟨10, [], .draw [⟨⟨(some 4), none, .mv (.t 0)⟩, []⟩,
    ⟨⟨(some 5), none, .nilck (.t 4)⟩, [0]⟩,
    ⟨⟨(some 6), none, .addr 0 (.t 5)⟩, [1]⟩,
    ⟨⟨(some 7), none, .mv (.t 1)⟩, []⟩,
    ⟨⟨(some 8), none, .call 43 [(.t 7)]⟩, [3]⟩,
    ⟨⟨(some 9), none, .atom .store [(.t 6), (.t 8)]⟩, [2, 4, 4]⟩] [0, 1, 3, 0, 8, 31]⟩
theorem ok39 : FnOk Tryd.prog 39 a39 := FnOk.of Tryd.prog Tryd.func39 (by kernel_rfl)
/-- (*internal/sync.Mutex).Lock -/
def a40 : AFn := ⟨13, [], .seq
   (.ops [⟨(some 2), none, .atom .disable []⟩])
   (.seq
    (.seq
     (.ops [⟨(some 3), none, .mv (.t 0)⟩,
       ⟨(some 4), none, .nilck (.t 3)⟩,
       ⟨(some 5), none, .addr 0 (.t 4)⟩,
       ⟨(some 6), none, .atom (.cas .i32) [(.t 5), (.c (.int .i32 0)), (.c (.int .i32 1))]⟩])
     (.cond (.t 6)
      (.seq
       (.cond (.c (.bool true))
        (.seq
         (.ops [⟨(some 7), none, .atom .enable []⟩])
         (.ops [⟨(some 8), none, .mv (.t 0)⟩,
           ⟨(some 9), none, .toUnsafe (.t 8)⟩,
           ⟨(some 10), none, .atom .acquire [(.t 9)]⟩]))
        (.skip))
       (.ret))
      (.skip)))
    (.ops [⟨(some 11), none, .mv (.t 0)⟩,
      ⟨(some 12), none, .call 48 [(.t 11)]⟩]))⟩
theorem ok40 : FnOk Tryd.prog 40 a40 := FnOk.of Tryd.prog Tryd.func40 (by kernel_rfl)
/-- (*internal/sync.Mutex).Unlock -/
def a41 : AFn := ⟨21, [], .seq
   (.cond (.c (.bool true))
    (.seq
     (.ops [⟨(some 3), none, .mv (.t 0)⟩,
       ⟨(some 4), none, .nilck (.t 3)⟩,
       ⟨(some 5), none, .addr 0 (.t 4)⟩,
       ⟨(some 6), none, .load none (.t 5)⟩])
     (.seq
      (.ops [⟨(some 7), none, .mv (.t 0)⟩,
        ⟨(some 8), none, .toUnsafe (.t 7)⟩,
        ⟨(some 9), none, .atom .releaseMerge [(.t 8)]⟩])
      (.ops [⟨(some 10), none, .atom .disable []⟩])))
    (.skip))
   (.seq
    (.ops [⟨(some 11), none, .mv (.t 0)⟩,
      ⟨(some 12), none, .nilck (.t 11)⟩,
      ⟨(some 13), none, .addr 0 (.t 12)⟩,
      ⟨(some 14), none, .atom (.add .i32) [(.t 13), (.c (.int .i32 (-1)))]⟩,
      ⟨(some 2), none, .mv (.t 14)⟩])
    (.seq
     (.seq
      (.ops [⟨(some 15), none, .mv (.t 2)⟩,
        ⟨(some 16), none, .bin .neq (.t 15) (.c (.int .i32 0))⟩])
      (.cond (.t 16)
       (.ops [⟨(some 17), none, .mv (.t 0)⟩,
         ⟨(some 18), none, .mv (.t 2)⟩,
         ⟨(some 19), none, .call 51 [(.t 17), (.t 18)]⟩])
       (.skip)))
     (.ops [⟨(some 20), none, .atom .enable []⟩])))⟩
theorem ok41 : FnOk Tryd.prog 41 a41 := FnOk.of Tryd.prog Tryd.func41 (by kernel_rfl)
/-- sync/atomic.b32 -/
def a43 : AFn := ⟨4, [.tmp 2], .seq
   (.ops [⟨(some 2), none, .mv (.c (.int .u32 0))⟩])
   (.seq
    (.seq
     (.ops [⟨(some 3), none, .mv (.t 0)⟩])
     (.cond (.t 3)
      (.seq
       (.ops [⟨(some 2), none, .mv (.c (.int .u32 1))⟩])
       (.ret))
      (.skip)))
    (.seq
     (.ops [⟨(some 2), none, .mv (.c (.int .u32 0))⟩])
     (.ret)))⟩
theorem ok43 : FnOk Tryd.prog 43 a43 := FnOk.of Tryd.prog Tryd.func43 (by kernel_rfl)
/-- (*internal/sync.Mutex).lockSlow -/
def a48 : AFn := ⟨139, [], .seq
   (.ops [⟨(some 2), none, .mv (.c (.int .i64 0))⟩])
   (.seq
    (.ops [⟨(some 3), none, .mv (.c (.bool false))⟩])
    (.seq
     (.ops [⟨(some 4), none, .mv (.c (.bool false))⟩])
     (.seq
      (.ops [⟨(some 5), none, .mv (.c (.int .i64 0))⟩])
      (.seq
       (.ops [⟨(some 10), none, .mv (.t 0)⟩,
         ⟨(some 11), none, .nilck (.t 10)⟩,
         ⟨(some 12), none, .addr 0 (.t 11)⟩,
         ⟨(some 13), none, .load none (.t 12)⟩,
         ⟨(some 6), none, .mv (.t 13)⟩])
       (.seq
        (.block 0 (.loop (.block 1 (.seq
            (.seq
             (.ops [⟨(some 14), none, .mv (.t 6)⟩,
               ⟨(some 15), none, .bin .and (.t 14) (.c (.int .i32 5))⟩,
               ⟨(some 16), none, .bin .eql (.t 15) (.c (.int .i32 1))⟩,
               ⟨(some 17), none, .mv (.t 16)⟩,
               ⟨(some 18), (some (17, true)), .mv (.t 5)⟩,
               ⟨(some 19), (some (17, true)), .bad⟩,
               ⟨(some 20), none, .pick (.t 17) (.t 19) (.c (.bool false))⟩])
             (.cond (.t 20)
              (.seq
               (.seq
                (.ops [⟨(some 21), none, .mv (.t 4)⟩,
                  ⟨(some 22), none, .un .not (.t 21)⟩,
                  ⟨(some 23), none, .mv (.t 22)⟩,
                  ⟨(some 24), (some (23, true)), .mv (.t 6)⟩,
                  ⟨(some 25), (some (23, true)), .bin .and (.t 24) (.c (.int .i32 2))⟩,
                  ⟨(some 26), (some (23, true)), .bin .eql (.t 25) (.c (.int .i32 0))⟩,
                  ⟨(some 27), none, .pick (.t 23) (.t 26) (.c (.bool false))⟩,
                  ⟨(some 28), none, .mv (.t 27)⟩,
                  ⟨(some 29), (some (28, true)), .mv (.t 6)⟩,
                  ⟨(some 30), (some (28, true)), .bin .shr (.t 29) (.c (.int .u64 3))⟩,
                  ⟨(some 31), (some (28, true)), .bin .neq (.t 30) (.c (.int .i32 0))⟩,
                  ⟨(some 32), none, .pick (.t 28) (.t 31) (.c (.bool false))⟩,
                  ⟨(some 33), none, .mv (.t 32)⟩,
                  ⟨(some 34), (some (33, true)), .mv (.t 0)⟩,
                  ⟨(some 35), (some (33, true)), .nilck (.t 34)⟩,
                  ⟨(some 36), (some (33, true)), .addr 0 (.t 35)⟩,
                  ⟨(some 37), (some (33, true)), .mv (.t 6)⟩,
                  ⟨(some 38), (some (33, true)), .mv (.t 6)⟩,
                  ⟨(some 39), (some (33, true)), .bin .or (.t 38) (.c (.int .i32 2))⟩,
                  ⟨(some 40), (some (33, true)), .atom (.cas .i32) [(.t 36), (.t 37), (.t 39)]⟩,
                  ⟨(some 41), none, .pick (.t 33) (.t 40) (.c (.bool false))⟩])
                (.cond (.t 41)
                 (.ops [⟨(some 4), none, .mv (.c (.bool true))⟩])
                 (.skip)))
               (.seq
                (.ops [⟨(some 42), none, .bad⟩])
                (.seq
                 (.ops [⟨(some 43), none, .mv (.t 5)⟩,
                   ⟨(some 44), none, .bin .add (.t 43) (.c (.int .i64 1))⟩,
                   ⟨(some 5), none, .mv (.t 44)⟩])
                 (.seq
                  (.ops [⟨(some 45), none, .mv (.t 0)⟩,
                    ⟨(some 46), none, .nilck (.t 45)⟩,
                    ⟨(some 47), none, .addr 0 (.t 46)⟩,
                    ⟨(some 48), none, .load none (.t 47)⟩,
                    ⟨(some 6), none, .mv (.t 48)⟩])
                  (.exit 1)))))
              (.skip)))
            (.seq
             (.ops [⟨(some 49), none, .mv (.t 6)⟩,
               ⟨(some 7), none, .mv (.t 49)⟩])
             (.seq
              (.seq
               (.ops [⟨(some 50), none, .mv (.t 6)⟩,
                 ⟨(some 51), none, .bin .and (.t 50) (.c (.int .i32 4))⟩,
                 ⟨(some 52), none, .bin .eql (.t 51) (.c (.int .i32 0))⟩])
               (.cond (.t 52)
                (.ops [⟨(some 53), none, .mv (.t 7)⟩,
                  ⟨(some 54), none, .bin .or (.t 53) (.c (.int .i32 1))⟩,
                  ⟨(some 7), none, .mv (.t 54)⟩])
                (.skip)))
              (.seq
               (.seq
                (.ops [⟨(some 55), none, .mv (.t 6)⟩,
                  ⟨(some 56), none, .bin .and (.t 55) (.c (.int .i32 5))⟩,
                  ⟨(some 57), none, .bin .neq (.t 56) (.c (.int .i32 0))⟩])
                (.cond (.t 57)
                 (.ops [⟨(some 58), none, .mv (.t 7)⟩,
                   ⟨(some 59), none, .bin .add (.t 58) (.c (.int .i32 8))⟩,
                   ⟨(some 7), none, .mv (.t 59)⟩])
                 (.skip)))
               (.seq
                (.seq
                 (.ops [⟨(some 60), none, .mv (.t 3)⟩,
                   ⟨(some 61), none, .mv (.t 60)⟩,
                   ⟨(some 62), (some (61, true)), .mv (.t 6)⟩,
                   ⟨(some 63), (some (61, true)), .bin .and (.t 62) (.c (.int .i32 1))⟩,
                   ⟨(some 64), (some (61, true)), .bin .neq (.t 63) (.c (.int .i32 0))⟩,
                   ⟨(some 65), none, .pick (.t 61) (.t 64) (.c (.bool false))⟩])
                 (.cond (.t 65)
                  (.ops [⟨(some 66), none, .mv (.t 7)⟩,
                    ⟨(some 67), none, .bin .or (.t 66) (.c (.int .i32 4))⟩,
                    ⟨(some 7), none, .mv (.t 67)⟩])
                  (.skip)))
                (.seq
                 (.seq
                  (.ops [⟨(some 68), none, .mv (.t 4)⟩])
                  (.cond (.t 68)
                   (.seq
                    (.seq
                     (.ops [⟨(some 69), none, .mv (.t 7)⟩,
                       ⟨(some 70), none, .bin .and (.t 69) (.c (.int .i32 2))⟩,
                       ⟨(some 71), none, .bin .eql (.t 70) (.c (.int .i32 0))⟩])
                     (.cond (.t 71)
                      (.ops [⟨(some 72), none, .bad⟩])
                      (.skip)))
                    (.ops [⟨(some 73), none, .mv (.t 7)⟩,
                      ⟨(some 74), none, .bin .andNot (.t 73) (.c (.int .i32 2))⟩,
                      ⟨(some 7), none, .mv (.t 74)⟩]))
                   (.skip)))
                 (.seq
                  (.ops [⟨(some 75), none, .mv (.t 0)⟩,
                    ⟨(some 76), none, .nilck (.t 75)⟩,
                    ⟨(some 77), none, .addr 0 (.t 76)⟩,
                    ⟨(some 78), none, .mv (.t 6)⟩,
                    ⟨(some 79), none, .mv (.t 7)⟩,
                    ⟨(some 80), none, .atom (.cas .i32) [(.t 77), (.t 78), (.t 79)]⟩])
                  (.cond (.t 80)
                   (.seq
                    (.seq
                     (.ops [⟨(some 81), none, .mv (.t 6)⟩,
                       ⟨(some 82), none, .bin .and (.t 81) (.c (.int .i32 5))⟩,
                       ⟨(some 83), none, .bin .eql (.t 82) (.c (.int .i32 0))⟩])
                     (.cond (.t 83)
                      (.exit 0)
                      (.skip)))
                    (.seq
                     (.ops [⟨(some 84), none, .mv (.t 2)⟩,
                       ⟨(some 85), none, .bin .neq (.t 84) (.c (.int .i64 0))⟩,
                       ⟨(some 8), none, .mv (.t 85)⟩])
                     (.seq
                      (.seq
                       (.ops [⟨(some 86), none, .mv (.t 2)⟩,
                         ⟨(some 87), none, .bin .eql (.t 86) (.c (.int .i64 0))⟩])
                       (.cond (.t 87)
                        (.ops [⟨(some 88), none, .bad⟩,
                          ⟨(some 2), none, .mv (.t 88)⟩])
                        (.skip)))
                      (.seq
                       (.ops [⟨(some 89), none, .mv (.t 0)⟩,
                         ⟨(some 90), none, .nilck (.t 89)⟩,
                         ⟨(some 91), none, .addr 1 (.t 90)⟩,
                         ⟨(some 92), none, .mv (.t 8)⟩,
                         ⟨(some 93), none, .bad⟩])
                       (.seq
                        (.ops [⟨(some 94), none, .mv (.t 3)⟩,
                          ⟨(some 95), none, .mv (.t 94)⟩,
                          ⟨(some 96), (some (95, false)), .bad⟩,
                          ⟨(some 97), (some (95, false)), .mv (.t 2)⟩,
                          ⟨(some 98), (some (95, false)), .bin .sub (.t 96) (.t 97)⟩,
                          ⟨(some 99), (some (95, false)), .bin .gtr (.t 98) (.c (.int .i64 1000000))⟩,
                          ⟨(some 100), none, .pick (.t 95) (.c (.bool true)) (.t 99)⟩,
                          ⟨(some 3), none, .mv (.t 100)⟩])
                        (.seq
                         (.ops [⟨(some 101), none, .mv (.t 0)⟩,
                           ⟨(some 102), none, .nilck (.t 101)⟩,
                           ⟨(some 103), none, .addr 0 (.t 102)⟩,
                           ⟨(some 104), none, .load none (.t 103)⟩,
                           ⟨(some 6), none, .mv (.t 104)⟩])
                         (.seq
                          (.seq
                           (.ops [⟨(some 105), none, .mv (.t 6)⟩,
                             ⟨(some 106), none, .bin .and (.t 105) (.c (.int .i32 4))⟩,
                             ⟨(some 107), none, .bin .neq (.t 106) (.c (.int .i32 0))⟩])
                           (.cond (.t 107)
                            (.seq
                             (.seq
                              (.ops [⟨(some 108), none, .mv (.t 6)⟩,
                                ⟨(some 109), none, .bin .and (.t 108) (.c (.int .i32 3))⟩,
                                ⟨(some 110), none, .bin .neq (.t 109) (.c (.int .i32 0))⟩,
                                ⟨(some 111), none, .mv (.t 110)⟩,
                                ⟨(some 112), (some (111, false)), .mv (.t 6)⟩,
                                ⟨(some 113), (some (111, false)), .bin .shr (.t 112) (.c (.int .u64 3))⟩,
                                ⟨(some 114), (some (111, false)), .bin .eql (.t 113) (.c (.int .i32 0))⟩,
                                ⟨(some 115), none, .pick (.t 111) (.c (.bool true)) (.t 114)⟩])
                              (.cond (.t 115)
                               (.ops [⟨(some 116), none, .bad⟩])
                               (.skip)))
                             (.seq
                              (.ops [⟨(some 9), none, .mv (.c (.int .i32 (-7)))⟩])
                              (.seq
                               (.seq
                                (.ops [⟨(some 117), none, .mv (.t 3)⟩,
                                  ⟨(some 118), none, .un .not (.t 117)⟩,
                                  ⟨(some 119), none, .mv (.t 118)⟩,
                                  ⟨(some 120), (some (119, false)), .mv (.t 6)⟩,
                                  ⟨(some 121), (some (119, false)), .bin .shr (.t 120) (.c (.int .u64 3))⟩,
                                  ⟨(some 122), (some (119, false)), .bin .eql (.t 121) (.c (.int .i32 1))⟩,
                                  ⟨(some 123), none, .pick (.t 119) (.c (.bool true)) (.t 122)⟩])
                                (.cond (.t 123)
                                 (.ops [⟨(some 124), none, .mv (.t 9)⟩,
                                   ⟨(some 125), none, .bin .sub (.t 124) (.c (.int .i32 4))⟩,
                                   ⟨(some 9), none, .mv (.t 125)⟩])
                                 (.skip)))
                               (.seq
                                (.ops [⟨(some 126), none, .mv (.t 0)⟩,
                                  ⟨(some 127), none, .nilck (.t 126)⟩,
                                  ⟨(some 128), none, .addr 0 (.t 127)⟩,
                                  ⟨(some 129), none, .mv (.t 9)⟩,
                                  ⟨(some 130), none, .atom (.add .i32) [(.t 128), (.t 129)]⟩])
                                (.exit 0)))))
                            (.skip)))
                          (.seq
                           (.ops [⟨(some 4), none, .mv (.c (.bool true))⟩])
                           (.ops [⟨(some 5), none, .mv (.c (.int .i64 0))⟩])))))))))
                   (.ops [⟨(some 131), none, .mv (.t 0)⟩,
                     ⟨(some 132), none, .nilck (.t 131)⟩,
                     ⟨(some 133), none, .addr 0 (.t 132)⟩,
                     ⟨(some 134), none, .load none (.t 133)⟩,
                     ⟨(some 6), none, .mv (.t 134)⟩]))))))))))))
        (.cond (.c (.bool true))
         (.seq
          (.ops [⟨(some 135), none, .atom .enable []⟩])
          (.ops [⟨(some 136), none, .mv (.t 0)⟩,
            ⟨(some 137), none, .toUnsafe (.t 136)⟩,
            ⟨(some 138), none, .atom .acquire [(.t 137)]⟩]))
         (.skip)))))))⟩
theorem ok48 : FnOk Tryd.prog 48 a48 := FnOk.of Tryd.prog Tryd.func48 (by kernel_rfl)
/-- (*internal/sync.Mutex).unlockSlow -/
def a51 : AFn := ⟨43, [], .seq
   (.seq
    (.ops [⟨(some 5), none, .mv (.t 1)⟩,
      ⟨(some 6), none, .bin .add (.t 5) (.c (.int .i32 1))⟩,
      ⟨(some 7), none, .bin .and (.t 6) (.c (.int .i32 1))⟩,
      ⟨(some 8), none, .bin .eql (.t 7) (.c (.int .i32 0))⟩])
    (.cond (.t 8)
     (.ops [⟨(some 9), none, .bad⟩])
     (.skip)))
   (.seq
    (.ops [⟨(some 10), none, .mv (.t 1)⟩,
      ⟨(some 11), none, .bin .and (.t 10) (.c (.int .i32 4))⟩,
      ⟨(some 12), none, .bin .eql (.t 11) (.c (.int .i32 0))⟩])
    (.cond (.t 12)
     (.seq
      (.ops [⟨(some 13), none, .mv (.t 1)⟩,
        ⟨(some 4), none, .mv (.t 13)⟩])
      (.block 0 (.loop (.block 1 (.seq
          (.seq
           (.ops [⟨(some 14), none, .mv (.t 4)⟩,
             ⟨(some 15), none, .bin .shr (.t 14) (.c (.int .u64 3))⟩,
             ⟨(some 16), none, .bin .eql (.t 15) (.c (.int .i32 0))⟩,
             ⟨(some 17), none, .mv (.t 16)⟩,
             ⟨(some 18), (some (17, false)), .mv (.t 4)⟩,
             ⟨(some 19), (some (17, false)), .bin .and (.t 18) (.c (.int .i32 7))⟩,
             ⟨(some 20), (some (17, false)), .bin .neq (.t 19) (.c (.int .i32 0))⟩,
             ⟨(some 21), none, .pick (.t 17) (.c (.bool true)) (.t 20)⟩])
           (.cond (.t 21)
            (.ret)
            (.skip)))
          (.seq
           (.ops [⟨(some 22), none, .mv (.t 4)⟩,
             ⟨(some 23), none, .bin .sub (.t 22) (.c (.int .i32 8))⟩,
             ⟨(some 24), none, .bin .or (.t 23) (.c (.int .i32 2))⟩,
             ⟨(some 1), none, .mv (.t 24)⟩])
           (.seq
            (.seq
             (.ops [⟨(some 25), none, .mv (.t 0)⟩,
               ⟨(some 26), none, .nilck (.t 25)⟩,
               ⟨(some 27), none, .addr 0 (.t 26)⟩,
               ⟨(some 28), none, .mv (.t 4)⟩,
               ⟨(some 29), none, .mv (.t 1)⟩,
               ⟨(some 30), none, .atom (.cas .i32) [(.t 27), (.t 28), (.t 29)]⟩])
             (.cond (.t 30)
              (.seq
               (.ops [⟨(some 31), none, .mv (.t 0)⟩,
                 ⟨(some 32), none, .nilck (.t 31)⟩,
                 ⟨(some 33), none, .addr 1 (.t 32)⟩,
                 ⟨(some 34), none, .bad⟩])
               (.ret))
              (.skip)))
            (.ops [⟨(some 35), none, .mv (.t 0)⟩,
              ⟨(some 36), none, .nilck (.t 35)⟩,
              ⟨(some 37), none, .addr 0 (.t 36)⟩,
              ⟨(some 38), none, .load none (.t 37)⟩,
              ⟨(some 4), none, .mv (.t 38)⟩]))))))))
     (.ops [⟨(some 39), none, .mv (.t 0)⟩,
       ⟨(some 40), none, .nilck (.t 39)⟩,
       ⟨(some 41), none, .addr 1 (.t 40)⟩,
       ⟨(some 42), none, .bad⟩])))⟩
theorem ok51 : FnOk Tryd.prog 51 a51 := FnOk.of Tryd.prog Tryd.func51 (by kernel_rfl)
/-- gosem.cut.vars -/
def a78 : AFn := ⟨1, [], .ops [⟨(some 0), none, .build [(.int .u8 0), (.int .u8 0), (.int .u8 0), (.int .u8 0), (.int .u8 0), (.int .u8 0), (.int .u8 0), (.int .u8 0), (.int .u8 0), (.int .u8 0), (.int .u8 0), (.int .u8 0), (.int .u8 0), (.int .u8 0), (.int .u8 0), (.int .u8 0), (.int .u8 0), (.int .u8 0), (.int .u8 0), (.int .u8 0), (.int .u8 0), (.int .u8 0), (.int .u8 0), (.int .u8 0), (.int .u8 0), (.int .u8 0), (.int .u8 0), (.int .u8 0), (.int .u8 0), (.int .u8 0), (.int .u8 0), (.int .u8 0), (.int .u8 0), (.int .u8 0), (.int .u8 0), (.int .u8 0), (.int .u8 0), (.int .u8 0), (.int .u8 0), (.int .u8 0), (.int .u8 0), (.int .u8 0), (.int .u8 0), (.int .u8 0), (.int .u8 0), (.int .u8 0), (.int .u8 0), (.int .u8 0), (.int .u8 0), (.int .u8 0), (.int .u8 0), (.int .u8 0), (.int .u8 0), (.int .u8 0), (.int .u8 0), (.int .u8 0), (.int .u8 0), (.int .u8 0), (.int .u8 0), (.int .u8 0), (.int .u8 0), (.int .u8 0), (.int .u8 0), (.int .u8 0)] [(0, 1), (1, 1), (2, 1), (3, 1), (4, 1), (5, 1), (6, 1), (7, 1), (8, 1), (9, 1), (10, 1), (11, 1), (12, 1), (13, 1), (14, 1), (15, 1), (16, 1), (17, 1), (18, 1), (19, 1), (20, 1), (21, 1), (22, 1), (23, 1), (24, 1), (25, 1), (26, 1), (27, 1), (28, 1), (29, 1), (30, 1), (31, 1), (32, 1), (33, 1), (34, 1), (35, 1), (36, 1), (37, 1), (38, 1), (39, 1), (40, 1), (41, 1), (42, 1), (43, 1), (44, 1), (45, 1), (46, 1), (47, 1), (48, 1), (49, 1), (50, 1), (51, 1), (52, 1), (53, 1), (54, 1), (55, 1), (56, 1), (57, 1), (58, 1), (59, 1), (60, 1), (61, 1), (62, 1), (63, 1), (64, 1), (65, 1), (66, 1), (67, 1), (68, 1), (69, 1), (70, 1), (71, 1), (72, 1), (73, 1), (74, 1), (75, 1), (76, 1), (77, 1), (78, 1), (79, 1), (80, 1), (81, 1), (82, 1), (83, 1), (84, 1), (85, 1), (86, 1), (87, 1), (88, 1), (89, 1), (90, 1), (91, 1), (92, 1), (93, 1), (94, 1), (95, 1), (96, 1), (97, 1), (98, 1), (99, 1), (100, 1), (101, 1), (102, 1), (103, 1), (104, 1), (105, 1), (106, 1), (107, 1), (108, 1), (109, 1), (110, 1), (111, 1), (112, 1), (113, 1), (114, 1), (115, 1), (116, 1), (117, 1), (118, 1), (119, 1), (120, 1), (121, 1), (122, 1), (123, 1), (124, 1), (125, 1), (126, 1), (127, 1), (128, 1)] [(0, (.c (.int .u8 0))), (1, (.c (.int .u8 1))), (2, (.c (.int .u8 56))), (3, (.c (.int .u8 2))), (4, (.c (.int .u8 57))), (5, (.c (.int .u8 49))), (6, (.c (.int .u8 28))), (7, (.c (.int .u8 3))), (8, (.c (.int .u8 61))), (9, (.c (.int .u8 58))), (10, (.c (.int .u8 42))), (11, (.c (.int .u8 50))), (12, (.c (.int .u8 38))), (13, (.c (.int .u8 29))), (14, (.c (.int .u8 17))), (15, (.c (.int .u8 4))), (16, (.c (.int .u8 62))), (17, (.c (.int .u8 47))), (18, (.c (.int .u8 59))), (19, (.c (.int .u8 36))), (20, (.c (.int .u8 45))), (21, (.c (.int .u8 43))), (22, (.c (.int .u8 51))), (23, (.c (.int .u8 22))), (24, (.c (.int .u8 53))), (25, (.c (.int .u8 39))), (26, (.c (.int .u8 33))), (27, (.c (.int .u8 30))), (28, (.c (.int .u8 24))), (29, (.c (.int .u8 18))), (30, (.c (.int .u8 12))), (31, (.c (.int .u8 5))), (32, (.c (.int .u8 63))), (33, (.c (.int .u8 55))), (34, (.c (.int .u8 48))), (35, (.c (.int .u8 27))), (36, (.c (.int .u8 60))), (37, (.c (.int .u8 41))), (38, (.c (.int .u8 37))), (39, (.c (.int .u8 16))), (40, (.c (.int .u8 46))), (41, (.c (.int .u8 35))), (42, (.c (.int .u8 44))), (43, (.c (.int .u8 21))), (44, (.c (.int .u8 52))), (45, (.c (.int .u8 32))), (46, (.c (.int .u8 23))), (47, (.c (.int .u8 11))), (48, (.c (.int .u8 54))), (49, (.c (.int .u8 26))), (50, (.c (.int .u8 40))), (51, (.c (.int .u8 15))), (52, (.c (.int .u8 34))), (53, (.c (.int .u8 20))), (54, (.c (.int .u8 31))), (55, (.c (.int .u8 10))), (56, (.c (.int .u8 25))), (57, (.c (.int .u8 14))), (58, (.c (.int .u8 19))), (59, (.c (.int .u8 9))), (60, (.c (.int .u8 13))), (61, (.c (.int .u8 8))), (62, (.c (.int .u8 7))), (63, (.c (.int .u8 6)))]⟩,
    ⟨none, none, .store 64 (.c (.ptr (.ro 0) 0)) (.t 0)⟩]⟩
theorem ok78 : FnOk Tryd.prog 78 a78 := FnOk.of Tryd.prog Tryd.func78 (by kernel_rfl)

end Go.Proofs.YtjglohfkpigdfaaDoor.Fns
