/- Functions of the translated code as the abstract machine reads them, printed by program; each is checked against the code. -/
import Derived.Test.YtjncbipaikmogaaDoorProg
import Derived.Test.YtjncbipaikmogaaDoorAmEval
namespace Go.Proofs.YtjncbipaikmogaaDoor.Fns
open Go Go.RowKit Am Go.Proofs.YtjncbipaikmogaaDoor
set_option maxRecDepth 100000
/-- strings.Repeat -/
def a21 : AFn := ⟨125, [.tmp 4], .seq
   (.ops [⟨(some 4), none, .mv (.c (.str []))⟩])
   (.seq
    (.seq
     (.ops [⟨(some 11), none, .mv (.t 1)⟩])
     (.block 0 (.seq
       (.ops [⟨(some 13), none, .bin .eql (.t 11) (.c (.int .i64 0))⟩,
         ⟨(some 12), none, .mv (.t 13)⟩])
       (.cond (.t 12)
        (.seq
         (.ops [⟨(some 4), none, .mv (.c (.str []))⟩])
         (.ret))
        (.seq
         (.ops [⟨(some 15), none, .bin .eql (.t 11) (.c (.int .i64 1))⟩,
           ⟨(some 14), none, .mv (.t 15)⟩])
         (.cond (.t 14)
          (.seq
           (.ops [⟨(some 16), none, .mv (.t 0)⟩,
             ⟨(some 4), none, .mv (.t 16)⟩])
           (.ret))
          (.skip)))))))
    (.seq
     (.seq
      (.ops [⟨(some 17), none, .mv (.t 1)⟩,
        ⟨(some 18), none, .bin .lss (.t 17) (.c (.int .i64 0))⟩])
      (.cond (.t 18)
       (.ops [⟨(some 19), none, .bad⟩,
         ⟨none, none, .bad⟩])
       (.skip)))
     (.seq
      (.ops [⟨(some 21), none, .mv (.t 0)⟩,
        ⟨(some 22), none, .lenS (.t 21)⟩,
        ⟨(some 23), none, .convI .u64 (.t 22)⟩,
        ⟨(some 24), none, .mv (.t 1)⟩,
        ⟨(some 25), none, .convI .u64 (.t 24)⟩,
        ⟨(some 26), none, .call 40 [(.t 23), (.t 25)]⟩,
        ⟨(some 20), none, .mv (.t 26)⟩,
        ⟨(some 27), none, .ext (.t 20) 0⟩,
        ⟨(some 28), none, .ext (.t 20) 1⟩,
        ⟨(some 5), none, .mv (.t 27)⟩,
        ⟨(some 6), none, .mv (.t 28)⟩])
      (.seq
       (.seq
        (.ops [⟨(some 29), none, .mv (.t 5)⟩,
          ⟨(some 30), none, .bin .gtr (.t 29) (.c (.int .u64 0))⟩,
          ⟨(some 31), none, .mv (.t 30)⟩,
          ⟨(some 32), (some (31, false)), .mv (.t 6)⟩,
          ⟨(some 33), (some (31, false)), .bin .gtr (.t 32) (.c (.int .u64 9223372036854775807))⟩,
          ⟨(some 34), none, .pick (.t 31) (.c (.bool true)) (.t 33)⟩])
        (.cond (.t 34)
         (.ops [⟨(some 35), none, .bad⟩,
           ⟨none, none, .bad⟩])
         (.skip)))
       (.seq
        (.ops [⟨(some 36), none, .mv (.t 6)⟩,
          ⟨(some 37), none, .convI .i64 (.t 36)⟩,
          ⟨(some 7), none, .mv (.t 37)⟩])
        (.seq
         (.seq
          (.ops [⟨(some 38), none, .mv (.t 0)⟩,
            ⟨(some 39), none, .lenS (.t 38)⟩,
            ⟨(some 40), none, .bin .eql (.t 39) (.c (.int .i64 0))⟩])
          (.cond (.t 40)
           (.seq
            (.ops [⟨(some 4), none, .mv (.c (.str []))⟩])
            (.ret))
           (.skip)))
         (.seq
          (.seq
           (.ops [⟨(some 41), none, .mv (.t 0)⟩,
             ⟨(some 42), none, .idxS (.t 41) (.c (.int .i64 0))⟩])
           (.block 1 (.seq
             (.seq
              (.ops [⟨(some 44), none, .bin .eql (.t 42) (.c (.int .u8 32))⟩,
                ⟨(some 43), none, .mv (.t 44)⟩])
              (.cond (.t 43)
               (.skip)
               (.seq
                (.ops [⟨(some 45), none, .bin .eql (.t 42) (.c (.int .u8 45))⟩,
                  ⟨(some 43), none, .mv (.t 45)⟩])
                (.cond (.t 43)
                 (.skip)
                 (.seq
                  (.ops [⟨(some 46), none, .bin .eql (.t 42) (.c (.int .u8 48))⟩,
                    ⟨(some 43), none, .mv (.t 46)⟩])
                  (.cond (.t 43)
                   (.skip)
                   (.seq
                    (.ops [⟨(some 47), none, .bin .eql (.t 42) (.c (.int .u8 61))⟩,
                      ⟨(some 43), none, .mv (.t 47)⟩])
                    (.cond (.t 43)
                     (.skip)
                     (.ops [⟨(some 48), none, .bin .eql (.t 42) (.c (.int .u8 9))⟩,
                       ⟨(some 43), none, .mv (.t 48)⟩])))))))))
             (.cond (.t 43)
              (.block 2 (.seq
                (.ops [⟨(some 50), none, .mv (.t 7)⟩,
                  ⟨(some 51), none, .bin .leq (.t 50) (.c (.int .i64 128))⟩,
                  ⟨(some 52), none, .mv (.t 51)⟩,
                  ⟨(some 53), (some (52, true)), .mv (.t 0)⟩,
                  ⟨(some 54), (some (52, true)), .call 41 [(.c (.str [32, 32, 32, 32, 32, 32, 32, 32, 32, 32, 32, 32, 32, 32, 32, 32, 32, 32, 32, 32, 32, 32, 32, 32, 32, 32, 32, 32, 32, 32, 32, 32, 32, 32, 32, 32, 32, 32, 32, 32, 32, 32, 32, 32, 32, 32, 32, 32, 32, 32, 32, 32, 32, 32, 32, 32, 32, 32, 32, 32, 32, 32, 32, 32, 32, 32, 32, 32, 32, 32, 32, 32, 32, 32, 32, 32, 32, 32, 32, 32, 32, 32, 32, 32, 32, 32, 32, 32, 32, 32, 32, 32, 32, 32, 32, 32, 32, 32, 32, 32, 32, 32, 32, 32, 32, 32, 32, 32, 32, 32, 32, 32, 32, 32, 32, 32, 32, 32, 32, 32, 32, 32, 32, 32, 32, 32, 32, 32])), (.t 53)]⟩,
                  ⟨(some 55), none, .pick (.t 52) (.t 54) (.c (.bool false))⟩,
                  ⟨(some 49), none, .mv (.t 55)⟩])
                (.cond (.t 49)
                 (.seq
                  (.ops [⟨(some 56), none, .mv (.t 7)⟩,
                    ⟨(some 57), none, .sliceS (.c (.str [32, 32, 32, 32, 32, 32, 32, 32, 32, 32, 32, 32, 32, 32, 32, 32, 32, 32, 32, 32, 32, 32, 32, 32, 32, 32, 32, 32, 32, 32, 32, 32, 32, 32, 32, 32, 32, 32, 32, 32, 32, 32, 32, 32, 32, 32, 32, 32, 32, 32, 32, 32, 32, 32, 32, 32, 32, 32, 32, 32, 32, 32, 32, 32, 32, 32, 32, 32, 32, 32, 32, 32, 32, 32, 32, 32, 32, 32, 32, 32, 32, 32, 32, 32, 32, 32, 32, 32, 32, 32, 32, 32, 32, 32, 32, 32, 32, 32, 32, 32, 32, 32, 32, 32, 32, 32, 32, 32, 32, 32, 32, 32, 32, 32, 32, 32, 32, 32, 32, 32, 32, 32, 32, 32, 32, 32, 32, 32])) none (some (.t 56))⟩,
                    ⟨(some 4), none, .mv (.t 57)⟩])
                  (.ret))
                 (.seq
                  (.ops [⟨(some 59), none, .mv (.t 7)⟩,
                    ⟨(some 60), none, .bin .leq (.t 59) (.c (.int .i64 128))⟩,
                    ⟨(some 61), none, .mv (.t 60)⟩,
                    ⟨(some 62), (some (61, true)), .mv (.t 0)⟩,
                    ⟨(some 63), (some (61, true)), .call 41 [(.c (.str [45, 45, 45, 45, 45, 45, 45, 45, 45, 45, 45, 45, 45, 45, 45, 45, 45, 45, 45, 45, 45, 45, 45, 45, 45, 45, 45, 45, 45, 45, 45, 45, 45, 45, 45, 45, 45, 45, 45, 45, 45, 45, 45, 45, 45, 45, 45, 45, 45, 45, 45, 45, 45, 45, 45, 45, 45, 45, 45, 45, 45, 45, 45, 45, 45, 45, 45, 45, 45, 45, 45, 45, 45, 45, 45, 45, 45, 45, 45, 45, 45, 45, 45, 45, 45, 45, 45, 45, 45, 45, 45, 45, 45, 45, 45, 45, 45, 45, 45, 45, 45, 45, 45, 45, 45, 45, 45, 45, 45, 45, 45, 45, 45, 45, 45, 45, 45, 45, 45, 45, 45, 45, 45, 45, 45, 45, 45, 45])), (.t 62)]⟩,
                    ⟨(some 64), none, .pick (.t 61) (.t 63) (.c (.bool false))⟩,
                    ⟨(some 58), none, .mv (.t 64)⟩])
                  (.cond (.t 58)
                   (.seq
                    (.ops [⟨(some 65), none, .mv (.t 7)⟩,
                      ⟨(some 66), none, .sliceS (.c (.str [45, 45, 45, 45, 45, 45, 45, 45, 45, 45, 45, 45, 45, 45, 45, 45, 45, 45, 45, 45, 45, 45, 45, 45, 45, 45, 45, 45, 45, 45, 45, 45, 45, 45, 45, 45, 45, 45, 45, 45, 45, 45, 45, 45, 45, 45, 45, 45, 45, 45, 45, 45, 45, 45, 45, 45, 45, 45, 45, 45, 45, 45, 45, 45, 45, 45, 45, 45, 45, 45, 45, 45, 45, 45, 45, 45, 45, 45, 45, 45, 45, 45, 45, 45, 45, 45, 45, 45, 45, 45, 45, 45, 45, 45, 45, 45, 45, 45, 45, 45, 45, 45, 45, 45, 45, 45, 45, 45, 45, 45, 45, 45, 45, 45, 45, 45, 45, 45, 45, 45, 45, 45, 45, 45, 45, 45, 45, 45])) none (some (.t 65))⟩,
                      ⟨(some 4), none, .mv (.t 66)⟩])
                    (.ret))
                   (.seq
                    (.ops [⟨(some 68), none, .mv (.t 7)⟩,
                      ⟨(some 69), none, .bin .leq (.t 68) (.c (.int .i64 64))⟩,
                      ⟨(some 70), none, .mv (.t 69)⟩,
                      ⟨(some 71), (some (70, true)), .mv (.t 0)⟩,
                      ⟨(some 72), (some (70, true)), .call 41 [(.c (.str [48, 48, 48, 48, 48, 48, 48, 48, 48, 48, 48, 48, 48, 48, 48, 48, 48, 48, 48, 48, 48, 48, 48, 48, 48, 48, 48, 48, 48, 48, 48, 48, 48, 48, 48, 48, 48, 48, 48, 48, 48, 48, 48, 48, 48, 48, 48, 48, 48, 48, 48, 48, 48, 48, 48, 48, 48, 48, 48, 48, 48, 48, 48, 48])), (.t 71)]⟩,
                      ⟨(some 73), none, .pick (.t 70) (.t 72) (.c (.bool false))⟩,
                      ⟨(some 67), none, .mv (.t 73)⟩])
                    (.cond (.t 67)
                     (.seq
                      (.ops [⟨(some 74), none, .mv (.t 7)⟩,
                        ⟨(some 75), none, .sliceS (.c (.str [48, 48, 48, 48, 48, 48, 48, 48, 48, 48, 48, 48, 48, 48, 48, 48, 48, 48, 48, 48, 48, 48, 48, 48, 48, 48, 48, 48, 48, 48, 48, 48, 48, 48, 48, 48, 48, 48, 48, 48, 48, 48, 48, 48, 48, 48, 48, 48, 48, 48, 48, 48, 48, 48, 48, 48, 48, 48, 48, 48, 48, 48, 48, 48])) none (some (.t 74))⟩,
                        ⟨(some 4), none, .mv (.t 75)⟩])
                      (.ret))
                     (.seq
                      (.ops [⟨(some 77), none, .mv (.t 7)⟩,
                        ⟨(some 78), none, .bin .leq (.t 77) (.c (.int .i64 128))⟩,
                        ⟨(some 79), none, .mv (.t 78)⟩,
                        ⟨(some 80), (some (79, true)), .mv (.t 0)⟩,
                        ⟨(some 81), (some (79, true)), .call 41 [(.c (.str [61, 61, 61, 61, 61, 61, 61, 61, 61, 61, 61, 61, 61, 61, 61, 61, 61, 61, 61, 61, 61, 61, 61, 61, 61, 61, 61, 61, 61, 61, 61, 61, 61, 61, 61, 61, 61, 61, 61, 61, 61, 61, 61, 61, 61, 61, 61, 61, 61, 61, 61, 61, 61, 61, 61, 61, 61, 61, 61, 61, 61, 61, 61, 61, 61, 61, 61, 61, 61, 61, 61, 61, 61, 61, 61, 61, 61, 61, 61, 61, 61, 61, 61, 61, 61, 61, 61, 61, 61, 61, 61, 61, 61, 61, 61, 61, 61, 61, 61, 61, 61, 61, 61, 61, 61, 61, 61, 61, 61, 61, 61, 61, 61, 61, 61, 61, 61, 61, 61, 61, 61, 61, 61, 61, 61, 61, 61, 61])), (.t 80)]⟩,
                        ⟨(some 82), none, .pick (.t 79) (.t 81) (.c (.bool false))⟩,
                        ⟨(some 76), none, .mv (.t 82)⟩])
                      (.cond (.t 76)
                       (.seq
                        (.ops [⟨(some 83), none, .mv (.t 7)⟩,
                          ⟨(some 84), none, .sliceS (.c (.str [61, 61, 61, 61, 61, 61, 61, 61, 61, 61, 61, 61, 61, 61, 61, 61, 61, 61, 61, 61, 61, 61, 61, 61, 61, 61, 61, 61, 61, 61, 61, 61, 61, 61, 61, 61, 61, 61, 61, 61, 61, 61, 61, 61, 61, 61, 61, 61, 61, 61, 61, 61, 61, 61, 61, 61, 61, 61, 61, 61, 61, 61, 61, 61, 61, 61, 61, 61, 61, 61, 61, 61, 61, 61, 61, 61, 61, 61, 61, 61, 61, 61, 61, 61, 61, 61, 61, 61, 61, 61, 61, 61, 61, 61, 61, 61, 61, 61, 61, 61, 61, 61, 61, 61, 61, 61, 61, 61, 61, 61, 61, 61, 61, 61, 61, 61, 61, 61, 61, 61, 61, 61, 61, 61, 61, 61, 61, 61])) none (some (.t 83))⟩,
                          ⟨(some 4), none, .mv (.t 84)⟩])
                        (.ret))
                       (.seq
                        (.ops [⟨(some 86), none, .mv (.t 7)⟩,
                          ⟨(some 87), none, .bin .leq (.t 86) (.c (.int .i64 64))⟩,
                          ⟨(some 88), none, .mv (.t 87)⟩,
                          ⟨(some 89), (some (88, true)), .mv (.t 0)⟩,
                          ⟨(some 90), (some (88, true)), .call 41 [(.c (.str [9, 9, 9, 9, 9, 9, 9, 9, 9, 9, 9, 9, 9, 9, 9, 9, 9, 9, 9, 9, 9, 9, 9, 9, 9, 9, 9, 9, 9, 9, 9, 9, 9, 9, 9, 9, 9, 9, 9, 9, 9, 9, 9, 9, 9, 9, 9, 9, 9, 9, 9, 9, 9, 9, 9, 9, 9, 9, 9, 9, 9, 9, 9, 9])), (.t 89)]⟩,
                          ⟨(some 91), none, .pick (.t 88) (.t 90) (.c (.bool false))⟩,
                          ⟨(some 85), none, .mv (.t 91)⟩])
                        (.cond (.t 85)
                         (.seq
                          (.ops [⟨(some 92), none, .mv (.t 7)⟩,
                            ⟨(some 93), none, .sliceS (.c (.str [9, 9, 9, 9, 9, 9, 9, 9, 9, 9, 9, 9, 9, 9, 9, 9, 9, 9, 9, 9, 9, 9, 9, 9, 9, 9, 9, 9, 9, 9, 9, 9, 9, 9, 9, 9, 9, 9, 9, 9, 9, 9, 9, 9, 9, 9, 9, 9, 9, 9, 9, 9, 9, 9, 9, 9, 9, 9, 9, 9, 9, 9, 9, 9])) none (some (.t 92))⟩,
                            ⟨(some 4), none, .mv (.t 93)⟩])
                          (.ret))
                         (.skip))))))))))))
              (.skip)))))
          (.seq
           (.ops [⟨(some 94), none, .mv (.t 7)⟩,
             ⟨(some 8), none, .mv (.t 94)⟩])
           (.seq
            (.seq
             (.ops [⟨(some 95), none, .mv (.t 7)⟩,
               ⟨(some 96), none, .bin .gtr (.t 95) (.c (.int .i64 8192))⟩])
             (.cond (.t 96)
              (.seq
               (.ops [⟨(some 97), none, .mv (.t 0)⟩,
                 ⟨(some 98), none, .lenS (.t 97)⟩,
                 ⟨(some 99), none, .bin .quo (.c (.int .i64 8192)) (.t 98)⟩,
                 ⟨(some 100), none, .mv (.t 0)⟩,
                 ⟨(some 101), none, .lenS (.t 100)⟩,
                 ⟨(some 102), none, .bin .mul (.t 99) (.t 101)⟩,
                 ⟨(some 8), none, .mv (.t 102)⟩])
               (.seq
                (.ops [⟨(some 103), none, .mv (.t 8)⟩,
                  ⟨(some 104), none, .bin .eql (.t 103) (.c (.int .i64 0))⟩])
                (.cond (.t 104)
                 (.ops [⟨(some 105), none, .mv (.t 0)⟩,
                   ⟨(some 106), none, .lenS (.t 105)⟩,
                   ⟨(some 8), none, .mv (.t 106)⟩])
                 (.skip))))
              (.skip)))
            (.seq
             (.ops [⟨(some 9), none, .alloc 104 [.nilptr, .nilslice]⟩])
             (.seq
              (.ops [⟨(some 107), none, .mv (.t 7)⟩,
                ⟨(some 108), none, .call 42 [(.t 9), (.t 107)]⟩])
              (.seq
               (.ops [⟨(some 109), none, .mv (.t 0)⟩,
                 ⟨(some 110), none, .call 43 [(.t 9), (.t 109)]⟩])
               (.seq
                (.block 3 (.loop (.seq
                   (.seq
                    (.ops [⟨(some 111), none, .call 44 [(.t 9)]⟩,
                      ⟨(some 112), none, .mv (.t 7)⟩,
                      ⟨(some 113), none, .bin .lss (.t 111) (.t 112)⟩])
                    (.cond (.t 113)
                     (.skip)
                     (.exit 3)))
                   (.block 4 (.seq
                     (.ops [⟨(some 114), none, .mv (.t 7)⟩,
                       ⟨(some 115), none, .call 44 [(.t 9)]⟩,
                       ⟨(some 116), none, .bin .sub (.t 114) (.t 115)⟩,
                       ⟨(some 117), none, .call 44 [(.t 9)]⟩,
                       ⟨(some 118), none, .mv (.t 8)⟩,
                       ⟨(some 119), none, .minI (.t 116) [(.t 117), (.t 118)]⟩,
                       ⟨(some 10), none, .mv (.t 119)⟩])
                     (.ops [⟨(some 120), none, .call 45 [(.t 9)]⟩,
                       ⟨(some 121), none, .mv (.t 10)⟩,
                       ⟨(some 122), none, .sliceS (.t 120) none (some (.t 121))⟩,
                       ⟨(some 123), none, .call 43 [(.t 9), (.t 122)]⟩]))))))
                (.seq
                 (.ops [⟨(some 124), none, .call 45 [(.t 9)]⟩,
                   ⟨(some 4), none, .mv (.t 124)⟩])
                 (.ret)))))))))))))))⟩
theorem ok21 : FnOk Tryd.prog 21 a21 := FnOk.of Tryd.prog Tryd.func21 (by kernel_rfl)
/-- (*jalousie/buffers.Buffers).Newest -/
def a22 : AFn := ⟨27, [.tmp 4, .tmp 5], .seq
   (.ops [⟨(some 4), none, .mv (.c (.int .i64 0))⟩,
     ⟨(some 5), none, .mv (.c (.bool false))⟩])
   (.seq
    (.ops [⟨(some 7), none, .mv (.t 0)⟩,
      ⟨(some 8), none, .mv (.t 1)⟩,
      ⟨(some 9), none, .call 28 [(.t 7), (.t 8)]⟩,
      ⟨(some 6), none, .mv (.t 9)⟩])
    (.seq
     (.seq
      (.ops [⟨(some 10), none, .mv (.t 6)⟩,
        ⟨(some 11), none, .eq false 83 (.pointer 87) (.t 10) (.c .nilptr)⟩,
        ⟨(some 12), none, .mv (.t 11)⟩,
        ⟨(some 13), (some (12, false)), .mv (.t 6)⟩,
        ⟨(some 14), (some (12, false)), .nilck (.t 13)⟩,
        ⟨(some 15), (some (12, false)), .addr 0 (.t 14)⟩,
        ⟨(some 16), (some (12, false)), .load none (.t 15)⟩,
        ⟨(some 17), (some (12, false)), .lenL (.t 16)⟩,
        ⟨(some 18), (some (12, false)), .bin .eql (.t 17) (.c (.int .i64 0))⟩,
        ⟨(some 19), none, .pick (.t 12) (.c (.bool true)) (.t 18)⟩])
      (.cond (.t 19)
       (.seq
        (.ops [⟨(some 4), none, .mv (.c (.int .i64 0))⟩,
          ⟨(some 5), none, .mv (.c (.bool false))⟩])
        (.ret))
       (.skip)))
     (.seq
      (.ops [⟨(some 20), none, .mv (.t 6)⟩,
        ⟨(some 21), none, .nilck (.t 20)⟩,
        ⟨(some 22), none, .addr 0 (.t 21)⟩,
        ⟨(some 23), none, .load none (.t 22)⟩,
        ⟨(some 24), none, .iaddrS 2 (.t 23) (.c (.int .i64 0))⟩,
        ⟨(some 25), none, .addr 0 (.t 24)⟩,
        ⟨(some 26), none, .load none (.t 25)⟩,
        ⟨(some 4), none, .mv (.t 26)⟩,
        ⟨(some 5), none, .mv (.c (.bool true))⟩])
      (.ret))))⟩
theorem ok22 : FnOk Tryd.prog 22 a22 := FnOk.of Tryd.prog Tryd.func22 (by kernel_rfl)
/-- jalousie/jalousieref01.Join -/
def a23 : AFn := ⟨55, [.tmp 6], .seq
   (.ops [⟨(some 6), none, .mv (.c (.int .i64 0))⟩])
   (.seq
    (.seq
     (.ops [⟨(some 7), none, .mv (.c (.int .i64 0))⟩])
     (.block 0 (.loop (.seq
        (.seq
         (.ops [⟨(some 10), none, .mv (.t 7)⟩,
           ⟨(some 11), none, .mv (.t 0)⟩,
           ⟨(some 12), none, .lenL (.t 11)⟩,
           ⟨(some 13), none, .bin .lss (.t 10) (.t 12)⟩])
         (.cond (.t 13)
          (.skip)
          (.exit 0)))
        (.seq
         (.block 1 (.seq
           (.ops [⟨(some 16), none, .mv (.t 0)⟩,
             ⟨(some 17), none, .mv (.t 1)⟩,
             ⟨(some 18), none, .mv (.t 7)⟩,
             ⟨(some 19), none, .call 46 [(.t 16), (.t 17), (.t 18)]⟩,
             ⟨(some 20), none, .mv (.t 19)⟩,
             ⟨(some 21), (some (20, true)), .mv (.t 0)⟩,
             ⟨(some 22), (some (20, true)), .mv (.t 2)⟩,
             ⟨(some 23), (some (20, true)), .mv (.t 7)⟩,
             ⟨(some 24), (some (20, true)), .call 46 [(.t 21), (.t 22), (.t 23)]⟩,
             ⟨(some 25), none, .pick (.t 20) (.t 24) (.c (.bool false))⟩,
             ⟨(some 8), none, .mv (.t 25)⟩])
           (.seq
            (.seq
             (.ops [⟨(some 9), none, .mv (.c (.int .i64 0))⟩])
             (.block 2 (.loop (.seq
                (.seq
                 (.ops [⟨(some 26), none, .mv (.t 9)⟩,
                   ⟨(some 27), none, .mv (.t 0)⟩,
                   ⟨(some 28), none, .lenL (.t 27)⟩,
                   ⟨(some 29), none, .bin .lss (.t 26) (.t 28)⟩,
                   ⟨(some 30), none, .mv (.t 29)⟩,
                   ⟨(some 31), (some (30, true)), .mv (.t 8)⟩,
                   ⟨(some 32), none, .pick (.t 30) (.t 31) (.c (.bool false))⟩])
                 (.cond (.t 32)
                  (.skip)
                  (.exit 2)))
                (.seq
                 (.block 3 (.ops [⟨(some 35), none, .mv (.t 0)⟩,
                    ⟨(some 36), none, .mv (.t 1)⟩,
                    ⟨(some 37), none, .mv (.t 9)⟩,
                    ⟨(some 38), none, .call 46 [(.t 35), (.t 36), (.t 37)]⟩,
                    ⟨(some 39), none, .un .not (.t 38)⟩,
                    ⟨(some 40), none, .mv (.t 39)⟩,
                    ⟨(some 41), (some (40, false)), .mv (.t 0)⟩,
                    ⟨(some 42), (some (40, false)), .mv (.t 2)⟩,
                    ⟨(some 43), (some (40, false)), .mv (.t 9)⟩,
                    ⟨(some 44), (some (40, false)), .call 46 [(.t 41), (.t 42), (.t 43)]⟩,
                    ⟨(some 45), (some (40, false)), .un .not (.t 44)⟩,
                    ⟨(some 46), none, .pick (.t 40) (.c (.bool true)) (.t 45)⟩,
                    ⟨(some 47), none, .mv (.t 46)⟩,
                    ⟨(some 48), (some (47, false)), .mv (.t 0)⟩,
                    ⟨(some 49), (some (47, false)), .mv (.t 7)⟩,
                    ⟨(some 50), (some (47, false)), .mv (.t 9)⟩,
                    ⟨(some 51), (some (47, false)), .call 46 [(.t 48), (.t 49), (.t 50)]⟩,
                    ⟨(some 52), none, .pick (.t 47) (.c (.bool true)) (.t 51)⟩,
                    ⟨(some 8), none, .mv (.t 52)⟩]))
                 (.ops [⟨(some 33), none, .mv (.t 9)⟩,
                   ⟨(some 34), none, .bin .add (.t 33) (.c (.int .i64 1))⟩,
                   ⟨(some 9), none, .mv (.t 34)⟩]))))))
            (.seq
             (.ops [⟨(some 53), none, .mv (.t 8)⟩])
             (.cond (.t 53)
              (.seq
               (.ops [⟨(some 54), none, .mv (.t 7)⟩,
                 ⟨(some 6), none, .mv (.t 54)⟩])
               (.ret))
              (.skip))))))
         (.ops [⟨(some 14), none, .mv (.t 7)⟩,
           ⟨(some 15), none, .bin .add (.t 14) (.c (.int .i64 1))⟩,
           ⟨(some 7), none, .mv (.t 15)⟩]))))))
    (.seq
     (.ops [⟨(some 6), none, .mv (.c (.int .i64 (-1)))⟩])
     (.ret)))⟩
theorem ok23 : FnOk Tryd.prog 23 a23 := FnOk.of Tryd.prog Tryd.func23 (by kernel_rfl)
/-- jalousie/jalousieref01.Meet -/
def a24 : AFn := ⟨55, [.tmp 6], .seq
   (.ops [⟨(some 6), none, .mv (.c (.int .i64 0))⟩])
   (.seq
    (.seq
     (.ops [⟨(some 7), none, .mv (.c (.int .i64 0))⟩])
     (.block 0 (.loop (.seq
        (.seq
         (.ops [⟨(some 10), none, .mv (.t 7)⟩,
           ⟨(some 11), none, .mv (.t 0)⟩,
           ⟨(some 12), none, .lenL (.t 11)⟩,
           ⟨(some 13), none, .bin .lss (.t 10) (.t 12)⟩])
         (.cond (.t 13)
          (.skip)
          (.exit 0)))
        (.seq
         (.block 1 (.seq
           (.ops [⟨(some 16), none, .mv (.t 0)⟩,
             ⟨(some 17), none, .mv (.t 7)⟩,
             ⟨(some 18), none, .mv (.t 1)⟩,
             ⟨(some 19), none, .call 46 [(.t 16), (.t 17), (.t 18)]⟩,
             ⟨(some 20), none, .mv (.t 19)⟩,
             ⟨(some 21), (some (20, true)), .mv (.t 0)⟩,
             ⟨(some 22), (some (20, true)), .mv (.t 7)⟩,
             ⟨(some 23), (some (20, true)), .mv (.t 2)⟩,
             ⟨(some 24), (some (20, true)), .call 46 [(.t 21), (.t 22), (.t 23)]⟩,
             ⟨(some 25), none, .pick (.t 20) (.t 24) (.c (.bool false))⟩,
             ⟨(some 8), none, .mv (.t 25)⟩])
           (.seq
            (.seq
             (.ops [⟨(some 9), none, .mv (.c (.int .i64 0))⟩])
             (.block 2 (.loop (.seq
                (.seq
                 (.ops [⟨(some 26), none, .mv (.t 9)⟩,
                   ⟨(some 27), none, .mv (.t 0)⟩,
                   ⟨(some 28), none, .lenL (.t 27)⟩,
                   ⟨(some 29), none, .bin .lss (.t 26) (.t 28)⟩,
                   ⟨(some 30), none, .mv (.t 29)⟩,
                   ⟨(some 31), (some (30, true)), .mv (.t 8)⟩,
                   ⟨(some 32), none, .pick (.t 30) (.t 31) (.c (.bool false))⟩])
                 (.cond (.t 32)
                  (.skip)
                  (.exit 2)))
                (.seq
                 (.block 3 (.ops [⟨(some 35), none, .mv (.t 0)⟩,
                    ⟨(some 36), none, .mv (.t 9)⟩,
                    ⟨(some 37), none, .mv (.t 1)⟩,
                    ⟨(some 38), none, .call 46 [(.t 35), (.t 36), (.t 37)]⟩,
                    ⟨(some 39), none, .un .not (.t 38)⟩,
                    ⟨(some 40), none, .mv (.t 39)⟩,
                    ⟨(some 41), (some (40, false)), .mv (.t 0)⟩,
                    ⟨(some 42), (some (40, false)), .mv (.t 9)⟩,
                    ⟨(some 43), (some (40, false)), .mv (.t 2)⟩,
                    ⟨(some 44), (some (40, false)), .call 46 [(.t 41), (.t 42), (.t 43)]⟩,
                    ⟨(some 45), (some (40, false)), .un .not (.t 44)⟩,
                    ⟨(some 46), none, .pick (.t 40) (.c (.bool true)) (.t 45)⟩,
                    ⟨(some 47), none, .mv (.t 46)⟩,
                    ⟨(some 48), (some (47, false)), .mv (.t 0)⟩,
                    ⟨(some 49), (some (47, false)), .mv (.t 9)⟩,
                    ⟨(some 50), (some (47, false)), .mv (.t 7)⟩,
                    ⟨(some 51), (some (47, false)), .call 46 [(.t 48), (.t 49), (.t 50)]⟩,
                    ⟨(some 52), none, .pick (.t 47) (.c (.bool true)) (.t 51)⟩,
                    ⟨(some 8), none, .mv (.t 52)⟩]))
                 (.ops [⟨(some 33), none, .mv (.t 9)⟩,
                   ⟨(some 34), none, .bin .add (.t 33) (.c (.int .i64 1))⟩,
                   ⟨(some 9), none, .mv (.t 34)⟩]))))))
            (.seq
             (.ops [⟨(some 53), none, .mv (.t 8)⟩])
             (.cond (.t 53)
              (.seq
               (.ops [⟨(some 54), none, .mv (.t 7)⟩,
                 ⟨(some 6), none, .mv (.t 54)⟩])
               (.ret))
              (.skip))))))
         (.ops [⟨(some 14), none, .mv (.t 7)⟩,
           ⟨(some 15), none, .bin .add (.t 14) (.c (.int .i64 1))⟩,
           ⟨(some 7), none, .mv (.t 15)⟩]))))))
    (.seq
     (.ops [⟨(some 6), none, .mv (.c (.int .i64 (-1)))⟩])
     (.ret)))⟩
theorem ok24 : FnOk Tryd.prog 24 a24 := FnOk.of Tryd.prog Tryd.func24 (by kernel_rfl)
/-- (*jalousie/lattice.Lattice).order -/
def a25 : AFn := ⟨54, [.tmp 2], .seq
   (.ops [⟨(some 2), none, .mv (.c (.bool false))⟩])
   (.seq
    (.seq
     (.ops [⟨(some 6), none, .mv (.t 0)⟩,
       ⟨(some 7), none, .nilck (.t 6)⟩,
       ⟨(some 8), none, .addr 0 (.t 7)⟩,
       ⟨(some 9), none, .load none (.t 8)⟩,
       ⟨(some 10), none, .lenL (.t 9)⟩,
       ⟨(some 11), none, .mv (.c (.int .i64 0))⟩])
     (.block 0 (.loop (.seq
        (.ops [⟨(some 12), none, .bin .lss (.t 11) (.t 10)⟩])
        (.seq
         (.cond (.t 12)
          (.skip)
          (.exit 0))
         (.seq
          (.block 1 (.seq
            (.ops [⟨(some 13), none, .mv (.t 11)⟩,
              ⟨(some 14), none, .iaddrS 1 (.t 9) (.t 11)⟩,
              ⟨(some 15), none, .load none (.t 14)⟩,
              ⟨(some 3), none, .mv (.t 13)⟩,
              ⟨(some 4), none, .mv (.t 15)⟩])
            (.seq
             (.seq
              (.draw [⟨⟨(some 16), none, .mv (.t 4)⟩, []⟩,
                ⟨⟨(some 17), none, .mv (.t 3)⟩, []⟩,
                ⟨⟨(some 18), none, .bin .shr (.t 16) (.t 17)⟩, [0, 1]⟩,
                ⟨⟨(some 19), none, .bin .and (.t 18) (.c (.int .u64 1))⟩, [2]⟩,
                ⟨⟨(some 20), none, .bin .eql (.t 19) (.c (.int .u64 0))⟩, [3]⟩,
                ⟨⟨(some 21), none, .mv (.t 20)⟩, [4]⟩,
                ⟨⟨(some 22), (some (21, false)), .mv (.t 4)⟩, [5]⟩,
                ⟨⟨(some 23), (some (21, false)), .mv (.t 0)⟩, [5]⟩,
                ⟨⟨(some 24), (some (21, false)), .nilck (.t 23)⟩, [7, 5]⟩,
                ⟨⟨(some 25), (some (21, false)), .addr 1 (.t 24)⟩, [8, 5]⟩,
                ⟨⟨(some 26), (some (21, false)), .load none (.t 25)⟩, [9, 5]⟩,
                ⟨⟨(some 27), (some (21, false)), .mv (.t 3)⟩, [5]⟩,
                ⟨⟨(some 28), (some (21, false)), .iaddrS 1 (.t 26) (.t 27)⟩, [10, 11, 5]⟩,
                ⟨⟨(some 29), (some (21, false)), .load none (.t 28)⟩, [12, 5]⟩,
                ⟨⟨(some 30), (some (21, false)), .bin .and (.t 22) (.t 29)⟩, [6, 13, 5]⟩,
                ⟨⟨(some 31), (some (21, false)), .mv (.t 3)⟩, [5]⟩,
                ⟨⟨(some 32), (some (21, false)), .bin .shl (.c (.int .u64 1)) (.t 31)⟩, [15, 5]⟩,
                ⟨⟨(some 33), (some (21, false)), .bin .neq (.t 30) (.t 32)⟩, [14, 16, 5]⟩,
                ⟨⟨(some 34), none, .pick (.t 21) (.c (.bool true)) (.t 33)⟩, [5, 17]⟩] [0, 0, 3, 7, 15, 31, 63, 63, 191, 447, 959, 63, 4031, 8127, 16383, 63, 32831, 131071, 262143])
              (.cond (.t 34)
               (.seq
                (.ops [⟨(some 2), none, .mv (.c (.bool false))⟩])
                (.ret))
               (.skip)))
             (.seq
              (.ops [⟨(some 35), none, .mv (.t 4)⟩,
                ⟨(some 5), none, .mv (.t 35)⟩])
              (.block 2 (.loop (.seq
                 (.seq
                  (.ops [⟨(some 36), none, .mv (.t 5)⟩,
                    ⟨(some 37), none, .bin .neq (.t 36) (.c (.int .u64 0))⟩])
                  (.cond (.t 37)
                   (.skip)
                   (.exit 2)))
                 (.seq
                  (.block 3 (.seq
                    (.draw [⟨⟨(some 42), none, .mv (.t 0)⟩, []⟩,
                      ⟨⟨(some 43), none, .nilck (.t 42)⟩, [0]⟩,
                      ⟨⟨(some 44), none, .addr 0 (.t 43)⟩, [1]⟩,
                      ⟨⟨(some 45), none, .load none (.t 44)⟩, [2]⟩,
                      ⟨⟨(some 46), none, .mv (.t 5)⟩, []⟩,
                      ⟨⟨(some 47), none, .call 47 [(.t 46)]⟩, [4]⟩,
                      ⟨⟨(some 48), none, .iaddrS 1 (.t 45) (.t 47)⟩, [3, 5]⟩,
                      ⟨⟨(some 49), none, .load none (.t 48)⟩, [6]⟩,
                      ⟨⟨(some 50), none, .mv (.t 4)⟩, []⟩,
                      ⟨⟨(some 51), none, .bin .andNot (.t 49) (.t 50)⟩, [7, 8]⟩,
                      ⟨⟨(some 52), none, .bin .neq (.t 51) (.c (.int .u64 0))⟩, [9]⟩] [0, 1, 3, 7, 0, 16, 63, 127, 0, 511, 1023])
                    (.cond (.t 52)
                     (.seq
                      (.ops [⟨(some 2), none, .mv (.c (.bool false))⟩])
                      (.ret))
                     (.skip))))
                  (.ops [⟨(some 38), none, .mv (.t 5)⟩,
                    ⟨(some 39), none, .mv (.t 5)⟩,
                    ⟨(some 40), none, .bin .sub (.t 39) (.c (.int .u64 1))⟩,
                    ⟨(some 41), none, .bin .and (.t 38) (.t 40)⟩,
                    ⟨(some 5), none, .mv (.t 41)⟩])))))))))
          (.ops [⟨(some 53), none, .bin .add (.t 11) (.c (.int .i64 1))⟩,
            ⟨(some 11), none, .mv (.t 53)⟩])))))))
    (.seq
     (.ops [⟨(some 2), none, .mv (.c (.bool true))⟩])
     (.ret)))⟩
theorem ok25 : FnOk Tryd.prog 25 a25 := FnOk.of Tryd.prog Tryd.func25 (by kernel_rfl)
/-- jalousie/lattice.best -/
def a26 : AFn := ⟨25, [.tmp 4], .seq
   (.ops [⟨(some 4), none, .mv (.c (.int .i64 0))⟩])
   (.seq
    (.seq
     (.ops [⟨(some 7), none, .mv (.t 0)⟩,
       ⟨(some 5), none, .mv (.t 7)⟩])
     (.block 0 (.loop (.seq
        (.seq
         (.ops [⟨(some 8), none, .mv (.t 5)⟩,
           ⟨(some 9), none, .bin .neq (.t 8) (.c (.int .u64 0))⟩])
         (.cond (.t 9)
          (.skip)
          (.exit 0)))
        (.seq
         (.block 1 (.seq
           (.ops [⟨(some 14), none, .mv (.t 5)⟩,
             ⟨(some 15), none, .call 47 [(.t 14)]⟩,
             ⟨(some 6), none, .mv (.t 15)⟩])
           (.seq
            (.ops [⟨(some 16), none, .mv (.t 1)⟩,
              ⟨(some 17), none, .mv (.t 6)⟩,
              ⟨(some 18), none, .iaddrS 1 (.t 16) (.t 17)⟩,
              ⟨(some 19), none, .load none (.t 18)⟩,
              ⟨(some 20), none, .mv (.t 0)⟩,
              ⟨(some 21), none, .bin .and (.t 19) (.t 20)⟩,
              ⟨(some 22), none, .mv (.t 0)⟩,
              ⟨(some 23), none, .bin .eql (.t 21) (.t 22)⟩])
            (.cond (.t 23)
             (.seq
              (.ops [⟨(some 24), none, .mv (.t 6)⟩,
                ⟨(some 4), none, .mv (.t 24)⟩])
              (.ret))
             (.skip)))))
         (.ops [⟨(some 10), none, .mv (.t 5)⟩,
           ⟨(some 11), none, .mv (.t 5)⟩,
           ⟨(some 12), none, .bin .sub (.t 11) (.c (.int .u64 1))⟩,
           ⟨(some 13), none, .bin .and (.t 10) (.t 12)⟩,
           ⟨(some 5), none, .mv (.t 13)⟩]))))))
    (.seq
     (.ops [⟨(some 4), none, .mv (.c (.int .i64 (-1)))⟩])
     (.ret)))⟩
theorem ok26 : FnOk Tryd.prog 26 a26 := FnOk.of Tryd.prog Tryd.func26 (by kernel_rfl)
/-- (*jalousie/lattice.Lattice).Len -/
def a27 : AFn := ⟨10, [.tmp 2], .seq
   (.ops [⟨(some 2), none, .mv (.c (.int .i64 0))⟩])
   (.seq
    (.seq
     (.ops [⟨(some 3), none, .mv (.t 0)⟩,
       ⟨(some 4), none, .eq false 27 (.pointer 76) (.t 3) (.c .nilptr)⟩])
     (.cond (.t 4)
      (.seq
       (.ops [⟨(some 2), none, .mv (.c (.int .i64 0))⟩])
       (.ret))
      (.skip)))
    (.seq
     (.ops [⟨(some 5), none, .mv (.t 0)⟩,
       ⟨(some 6), none, .nilck (.t 5)⟩,
       ⟨(some 7), none, .addr 0 (.t 6)⟩,
       ⟨(some 8), none, .load none (.t 7)⟩,
       ⟨(some 9), none, .lenL (.t 8)⟩,
       ⟨(some 2), none, .mv (.t 9)⟩])
     (.ret)))⟩
theorem ok27 : FnOk Tryd.prog 27 a27 := FnOk.of Tryd.prog Tryd.func27 (by kernel_rfl)
/-- (*jalousie/buffers.Buffers).at -/
def a28 : AFn := ⟨26, [.tmp 4], .seq
   (.ops [⟨(some 4), none, .mv (.c .nilptr)⟩])
   (.seq
    (.seq
     (.ops [⟨(some 5), none, .mv (.t 0)⟩,
       ⟨(some 6), none, .eq false 31 (.pointer 82) (.t 5) (.c .nilptr)⟩,
       ⟨(some 7), none, .mv (.t 6)⟩,
       ⟨(some 8), (some (7, false)), .mv (.t 1)⟩,
       ⟨(some 9), (some (7, false)), .bin .lss (.t 8) (.c (.int .i64 0))⟩,
       ⟨(some 10), none, .pick (.t 7) (.c (.bool true)) (.t 9)⟩,
       ⟨(some 11), none, .mv (.t 10)⟩,
       ⟨(some 12), (some (11, false)), .mv (.t 1)⟩,
       ⟨(some 13), (some (11, false)), .mv (.t 0)⟩,
       ⟨(some 14), (some (11, false)), .nilck (.t 13)⟩,
       ⟨(some 15), (some (11, false)), .addr 1 (.t 14)⟩,
       ⟨(some 16), (some (11, false)), .load none (.t 15)⟩,
       ⟨(some 17), (some (11, false)), .lenL (.t 16)⟩,
       ⟨(some 18), (some (11, false)), .bin .geq (.t 12) (.t 17)⟩,
       ⟨(some 19), none, .pick (.t 11) (.c (.bool true)) (.t 18)⟩])
     (.cond (.t 19)
      (.seq
       (.ops [⟨(some 4), none, .mv (.c .nilptr)⟩])
       (.ret))
      (.skip)))
    (.seq
     (.ops [⟨(some 20), none, .mv (.t 0)⟩,
       ⟨(some 21), none, .nilck (.t 20)⟩,
       ⟨(some 22), none, .addr 1 (.t 21)⟩,
       ⟨(some 23), none, .load none (.t 22)⟩,
       ⟨(some 24), none, .mv (.t 1)⟩,
       ⟨(some 25), none, .iaddrS 2 (.t 23) (.t 24)⟩,
       ⟨(some 4), none, .mv (.t 25)⟩])
     (.ret)))⟩
theorem ok28 : FnOk Tryd.prog 28 a28 := FnOk.of Tryd.prog Tryd.func28 (by kernel_rfl)
/-- slices.Insert[[]jalousie/buffers.text,jalousie/buffers.text] -/
def a29 : AFn := ⟨95, [.tmp 6], .seq
   (.ops [⟨(some 6), none, .mv (.c .nilslice)⟩])
   (.seq
    (.ops [⟨(some 10), none, .mv (.t 0)⟩,
      ⟨(some 11), none, .mv (.t 1)⟩,
      ⟨(some 12), none, .slice 2 (.t 10) (some (.t 11)) none none⟩])
    (.seq
     (.ops [⟨(some 13), none, .mv (.t 2)⟩,
       ⟨(some 14), none, .lenL (.t 13)⟩,
       ⟨(some 7), none, .mv (.t 14)⟩])
     (.seq
      (.seq
       (.ops [⟨(some 15), none, .mv (.t 7)⟩,
         ⟨(some 16), none, .bin .eql (.t 15) (.c (.int .i64 0))⟩])
       (.cond (.t 16)
        (.seq
         (.ops [⟨(some 17), none, .mv (.t 0)⟩,
           ⟨(some 6), none, .mv (.t 17)⟩])
         (.ret))
        (.skip)))
      (.seq
       (.ops [⟨(some 18), none, .mv (.t 0)⟩,
         ⟨(some 19), none, .lenL (.t 18)⟩,
         ⟨(some 8), none, .mv (.t 19)⟩])
       (.seq
        (.seq
         (.ops [⟨(some 20), none, .mv (.t 1)⟩,
           ⟨(some 21), none, .mv (.t 8)⟩,
           ⟨(some 22), none, .bin .eql (.t 20) (.t 21)⟩])
         (.cond (.t 22)
          (.seq
           (.ops [⟨(some 23), none, .mv (.t 0)⟩,
             ⟨(some 24), none, .mv (.t 2)⟩,
             ⟨(some 25), none, .append 90 2 24 (.t 23) (.t 24)⟩,
             ⟨(some 6), none, .mv (.t 25)⟩])
           (.ret))
          (.skip)))
        (.seq
         (.seq
          (.ops [⟨(some 26), none, .mv (.t 8)⟩,
            ⟨(some 27), none, .mv (.t 7)⟩,
            ⟨(some 28), none, .bin .add (.t 26) (.t 27)⟩,
            ⟨(some 29), none, .mv (.t 0)⟩,
            ⟨(some 30), none, .cap (.t 29)⟩,
            ⟨(some 31), none, .bin .gtr (.t 28) (.t 30)⟩])
          (.cond (.t 31)
           (.seq
            (.ops [⟨(some 32), none, .mv (.t 0)⟩,
              ⟨(some 33), none, .mv (.t 1)⟩,
              ⟨(some 34), none, .slice 2 (.t 32) none (some (.t 33)) none⟩,
              ⟨(some 35), none, .mv (.t 8)⟩,
              ⟨(some 36), none, .mv (.t 7)⟩,
              ⟨(some 37), none, .bin .add (.t 35) (.t 36)⟩,
              ⟨(some 38), none, .mv (.t 1)⟩,
              ⟨(some 39), none, .bin .sub (.t 37) (.t 38)⟩,
              ⟨(some 40), none, .appz 90 2 24 [(.int .i64 0), (.str [])] (.t 34) (.t 39)⟩,
              ⟨(some 9), none, .mv (.t 40)⟩])
            (.seq
             (.ops [⟨(some 41), none, .mv (.t 9)⟩,
               ⟨(some 42), none, .mv (.t 1)⟩,
               ⟨(some 43), none, .slice 2 (.t 41) (some (.t 42)) none none⟩,
               ⟨(some 44), none, .mv (.t 2)⟩,
               ⟨(some 45), none, .copy 2 (.t 43) (.t 44)⟩])
             (.seq
              (.draw [⟨⟨(some 46), none, .mv (.t 9)⟩, []⟩,
                ⟨⟨(some 47), none, .mv (.t 1)⟩, []⟩,
                ⟨⟨(some 48), none, .mv (.t 7)⟩, []⟩,
                ⟨⟨(some 49), none, .bin .add (.t 47) (.t 48)⟩, [1, 2]⟩,
                ⟨⟨(some 50), none, .slice 2 (.t 46) (some (.t 49)) none none⟩, [0, 3]⟩,
                ⟨⟨(some 51), none, .mv (.t 0)⟩, []⟩,
                ⟨⟨(some 52), none, .mv (.t 1)⟩, []⟩,
                ⟨⟨(some 53), none, .slice 2 (.t 51) (some (.t 52)) none none⟩, [5, 6]⟩,
                ⟨⟨(some 54), none, .copy 2 (.t 50) (.t 53)⟩, [4, 7]⟩] [0, 0, 0, 6, 15, 0, 0, 96, 255])
              (.seq
               (.ops [⟨(some 55), none, .mv (.t 9)⟩,
                 ⟨(some 6), none, .mv (.t 55)⟩])
               (.ret)))))
           (.skip)))
         (.seq
          (.ops [⟨(some 56), none, .mv (.t 0)⟩,
            ⟨(some 57), none, .mv (.t 8)⟩,
            ⟨(some 58), none, .mv (.t 7)⟩,
            ⟨(some 59), none, .bin .add (.t 57) (.t 58)⟩,
            ⟨(some 60), none, .slice 2 (.t 56) none (some (.t 59)) none⟩,
            ⟨(some 0), none, .mv (.t 60)⟩])
          (.seq
           (.seq
            (.ops [⟨(some 61), none, .mv (.t 2)⟩,
              ⟨(some 62), none, .mv (.t 0)⟩,
              ⟨(some 63), none, .mv (.t 1)⟩,
              ⟨(some 64), none, .mv (.t 7)⟩,
              ⟨(some 65), none, .bin .add (.t 63) (.t 64)⟩,
              ⟨(some 66), none, .slice 2 (.t 62) (some (.t 65)) none none⟩,
              ⟨(some 67), none, .atom (.overlaps #[85, 85] #[4]) [(.t 61), (.t 66)]⟩,
              ⟨(some 68), none, .un .not (.t 67)⟩])
            (.cond (.t 68)
             (.seq
              (.draw [⟨⟨(some 69), none, .mv (.t 0)⟩, []⟩,
                ⟨⟨(some 70), none, .mv (.t 1)⟩, []⟩,
                ⟨⟨(some 71), none, .mv (.t 7)⟩, []⟩,
                ⟨⟨(some 72), none, .bin .add (.t 70) (.t 71)⟩, [1, 2]⟩,
                ⟨⟨(some 73), none, .slice 2 (.t 69) (some (.t 72)) none none⟩, [0, 3]⟩,
                ⟨⟨(some 74), none, .mv (.t 0)⟩, []⟩,
                ⟨⟨(some 75), none, .mv (.t 1)⟩, []⟩,
                ⟨⟨(some 76), none, .slice 2 (.t 74) (some (.t 75)) none none⟩, [5, 6]⟩,
                ⟨⟨(some 77), none, .copy 2 (.t 73) (.t 76)⟩, [4, 7]⟩] [0, 0, 0, 6, 15, 0, 0, 96, 255])
              (.seq
               (.ops [⟨(some 78), none, .mv (.t 0)⟩,
                 ⟨(some 79), none, .mv (.t 1)⟩,
                 ⟨(some 80), none, .slice 2 (.t 78) (some (.t 79)) none none⟩,
                 ⟨(some 81), none, .mv (.t 2)⟩,
                 ⟨(some 82), none, .copy 2 (.t 80) (.t 81)⟩])
               (.seq
                (.ops [⟨(some 83), none, .mv (.t 0)⟩,
                  ⟨(some 6), none, .mv (.t 83)⟩])
                (.ret))))
             (.skip)))
           (.seq
            (.ops [⟨(some 84), none, .mv (.t 0)⟩,
              ⟨(some 85), none, .mv (.t 8)⟩,
              ⟨(some 86), none, .slice 2 (.t 84) (some (.t 85)) none none⟩,
              ⟨(some 87), none, .mv (.t 2)⟩,
              ⟨(some 88), none, .copy 2 (.t 86) (.t 87)⟩])
            (.seq
             (.ops [⟨(some 89), none, .mv (.t 0)⟩,
               ⟨(some 90), none, .mv (.t 1)⟩,
               ⟨(some 91), none, .slice 2 (.t 89) (some (.t 90)) none none⟩,
               ⟨(some 92), none, .mv (.t 7)⟩,
               ⟨(some 93), none, .call 49 [(.t 91), (.t 92)]⟩])
             (.seq
              (.ops [⟨(some 94), none, .mv (.t 0)⟩,
                ⟨(some 6), none, .mv (.t 94)⟩])
              (.ret))))))))))))⟩
theorem ok29 : FnOk Tryd.prog 29 a29 := FnOk.of Tryd.prog Tryd.func29 (by kernel_rfl)
/-- (*jalousie/jalousieref22.Buffers).label -/
def a30 : AFn := ⟨16, [.tmp 4], .seq
   (.ops [⟨(some 4), none, .mv (.c (.bool false))⟩])
   (.seq
    (.ops [⟨(some 5), none, .mv (.t 1)⟩,
      ⟨(some 6), none, .bin .geq (.t 5) (.c (.int .i64 0))⟩,
      ⟨(some 7), none, .mv (.t 6)⟩,
      ⟨(some 8), (some (7, true)), .mv (.t 1)⟩,
      ⟨(some 9), (some (7, true)), .mv (.t 0)⟩,
      ⟨(some 10), (some (7, true)), .nilck (.t 9)⟩,
      ⟨(some 11), (some (7, true)), .addr 0 (.t 10)⟩,
      ⟨(some 12), (some (7, true)), .load none (.t 11)⟩,
      ⟨(some 13), (some (7, true)), .lenL (.t 12)⟩,
      ⟨(some 14), (some (7, true)), .bin .lss (.t 8) (.t 13)⟩,
      ⟨(some 15), none, .pick (.t 7) (.t 14) (.c (.bool false))⟩,
      ⟨(some 4), none, .mv (.t 15)⟩])
    (.ret))⟩
theorem ok30 : FnOk Tryd.prog 30 a30 := FnOk.of Tryd.prog Tryd.func30 (by kernel_rfl)
/-- (*jalousie/jalousieref22.Buffers).Room -/
def a31 : AFn := ⟨44, [.tmp 4], .seq
   (.ops [⟨(some 4), none, .mv (.c (.int .i64 0))⟩])
   (.seq
    (.seq
     (.ops [⟨(some 7), none, .mv (.t 0)⟩,
       ⟨(some 8), none, .mv (.t 1)⟩,
       ⟨(some 9), none, .call 30 [(.t 7), (.t 8)]⟩,
       ⟨(some 10), none, .un .not (.t 9)⟩])
     (.cond (.t 10)
      (.seq
       (.ops [⟨(some 4), none, .mv (.c (.int .i64 0))⟩])
       (.ret))
      (.skip)))
    (.seq
     (.ops [⟨(some 5), none, .mv (.c (.int .i64 8))⟩])
     (.seq
      (.seq
       (.ops [⟨(some 6), none, .mv (.c (.int .i64 0))⟩])
       (.block 0 (.loop (.seq
          (.seq
           (.ops [⟨(some 11), none, .mv (.t 6)⟩,
             ⟨(some 12), none, .mv (.t 0)⟩,
             ⟨(some 13), none, .nilck (.t 12)⟩,
             ⟨(some 14), none, .addr 1 (.t 13)⟩,
             ⟨(some 15), none, .load none (.t 14)⟩,
             ⟨(some 16), none, .lenL (.t 15)⟩,
             ⟨(some 17), none, .bin .lss (.t 11) (.t 16)⟩])
           (.cond (.t 17)
            (.skip)
            (.exit 0)))
          (.seq
           (.block 1 (.seq
             (.ops [⟨(some 20), none, .mv (.t 0)⟩,
               ⟨(some 21), none, .nilck (.t 20)⟩,
               ⟨(some 22), none, .addr 1 (.t 21)⟩,
               ⟨(some 23), none, .load none (.t 22)⟩,
               ⟨(some 24), none, .mv (.t 6)⟩,
               ⟨(some 25), none, .iaddrS 4 (.t 23) (.t 24)⟩,
               ⟨(some 26), none, .addr 0 (.t 25)⟩,
               ⟨(some 27), none, .load none (.t 26)⟩,
               ⟨(some 28), none, .mv (.t 1)⟩,
               ⟨(some 29), none, .bin .eql (.t 27) (.t 28)⟩,
               ⟨(some 30), none, .mv (.t 29)⟩,
               ⟨(some 31), (some (30, true)), .mv (.t 0)⟩,
               ⟨(some 32), (some (30, true)), .nilck (.t 31)⟩,
               ⟨(some 33), (some (30, true)), .addr 1 (.t 32)⟩,
               ⟨(some 34), (some (30, true)), .load none (.t 33)⟩,
               ⟨(some 35), (some (30, true)), .mv (.t 6)⟩,
               ⟨(some 36), (some (30, true)), .iaddrS 4 (.t 34) (.t 35)⟩,
               ⟨(some 37), (some (30, true)), .addr 3 (.t 36)⟩,
               ⟨(some 38), (some (30, true)), .load none (.t 37)⟩,
               ⟨(some 39), (some (30, true)), .un .not (.t 38)⟩,
               ⟨(some 40), none, .pick (.t 30) (.t 39) (.c (.bool false))⟩])
             (.cond (.t 40)
              (.ops [⟨(some 41), none, .mv (.t 5)⟩,
                ⟨(some 42), none, .bin .sub (.t 41) (.c (.int .i64 1))⟩,
                ⟨(some 5), none, .mv (.t 42)⟩])
              (.skip))))
           (.ops [⟨(some 18), none, .mv (.t 6)⟩,
             ⟨(some 19), none, .bin .add (.t 18) (.c (.int .i64 1))⟩,
             ⟨(some 6), none, .mv (.t 19)⟩]))))))
      (.seq
       (.ops [⟨(some 43), none, .mv (.t 5)⟩,
         ⟨(some 4), none, .mv (.t 43)⟩])
       (.ret)))))⟩
theorem ok31 : FnOk Tryd.prog 31 a31 := FnOk.of Tryd.prog Tryd.func31 (by kernel_rfl)
/-- (*jalousie/buffers.list).find -/
def a32 : AFn := ⟨13, [.tmp 4], .seq
   (.ops [⟨(some 3), none, .box 3 (.t 1)⟩,
     ⟨(some 4), none, .mv (.c (.int .i64 0))⟩])
   (.seq
    (.seq
     (.ops [⟨(some 5), none, .mv (.t 0)⟩,
       ⟨(some 6), none, .eq false 83 (.pointer 87) (.t 5) (.c .nilptr)⟩])
     (.cond (.t 6)
      (.seq
       (.ops [⟨(some 4), none, .mv (.c (.int .i64 (-1)))⟩])
       (.ret))
      (.skip)))
    (.seq
     (.ops [⟨(some 7), none, .mv (.t 0)⟩,
       ⟨(some 8), none, .nilck (.t 7)⟩,
       ⟨(some 9), none, .addr 0 (.t 8)⟩,
       ⟨(some 10), none, .load none (.t 9)⟩,
       ⟨(some 11), none, .fn (.func 51) [] [(.t 3)]⟩,
       ⟨(some 12), none, .call 50 [(.t 10), (.t 11)]⟩,
       ⟨(some 4), none, .mv (.t 12)⟩])
     (.ret)))⟩
theorem ok32 : FnOk Tryd.prog 32 a32 := FnOk.of Tryd.prog Tryd.func32 (by kernel_rfl)
/-- slices.Delete[[]jalousie/buffers.text,jalousie/buffers.text] -/
def a33 : AFn := ⟨33, [.tmp 6], .seq
   (.ops [⟨(some 6), none, .mv (.c .nilslice)⟩])
   (.seq
    (.ops [⟨(some 8), none, .mv (.t 0)⟩,
      ⟨(some 9), none, .mv (.t 1)⟩,
      ⟨(some 10), none, .mv (.t 2)⟩,
      ⟨(some 11), none, .mv (.t 0)⟩,
      ⟨(some 12), none, .lenL (.t 11)⟩,
      ⟨(some 13), none, .slice 2 (.t 8) (some (.t 9)) (some (.t 10)) (some (.t 12))⟩])
    (.seq
     (.seq
      (.ops [⟨(some 14), none, .mv (.t 1)⟩,
        ⟨(some 15), none, .mv (.t 2)⟩,
        ⟨(some 16), none, .bin .eql (.t 14) (.t 15)⟩])
      (.cond (.t 16)
       (.seq
        (.ops [⟨(some 17), none, .mv (.t 0)⟩,
          ⟨(some 6), none, .mv (.t 17)⟩])
        (.ret))
       (.skip)))
     (.seq
      (.ops [⟨(some 18), none, .mv (.t 0)⟩,
        ⟨(some 19), none, .lenL (.t 18)⟩,
        ⟨(some 7), none, .mv (.t 19)⟩])
      (.seq
       (.draw [⟨⟨(some 20), none, .mv (.t 0)⟩, []⟩,
         ⟨⟨(some 21), none, .mv (.t 1)⟩, []⟩,
         ⟨⟨(some 22), none, .slice 2 (.t 20) none (some (.t 21)) none⟩, [0, 1]⟩,
         ⟨⟨(some 23), none, .mv (.t 0)⟩, []⟩,
         ⟨⟨(some 24), none, .mv (.t 2)⟩, []⟩,
         ⟨⟨(some 25), none, .slice 2 (.t 23) (some (.t 24)) none none⟩, [3, 4]⟩,
         ⟨⟨(some 26), none, .append 90 2 24 (.t 22) (.t 25)⟩, [2, 5]⟩,
         ⟨⟨(some 0), none, .mv (.t 26)⟩, [6, 6, 0, 1, 2, 3, 4, 5, 6]⟩] [0, 0, 3, 0, 0, 24, 63, 127])
       (.seq
        (.ops [⟨(some 27), none, .mv (.t 0)⟩,
          ⟨(some 28), none, .mv (.t 0)⟩,
          ⟨(some 29), none, .lenL (.t 28)⟩,
          ⟨(some 30), none, .mv (.t 7)⟩,
          ⟨(some 31), none, .slice 2 (.t 27) (some (.t 29)) (some (.t 30)) none⟩,
          ⟨none, none, .clearS 2 [(.int .i64 0), (.str [])] (.t 31)⟩])
        (.seq
         (.ops [⟨(some 32), none, .mv (.t 0)⟩,
           ⟨(some 6), none, .mv (.t 32)⟩])
         (.ret)))))))⟩
theorem ok33 : FnOk Tryd.prog 33 a33 := FnOk.of Tryd.prog Tryd.func33 (by kernel_rfl)
/-- (*jalousie/jalousieref22.Buffers).find -/
def a34 : AFn := ⟨51, [.tmp 6], .seq
   (.ops [⟨(some 6), none, .mv (.c (.int .i64 0))⟩])
   (.seq
    (.seq
     (.ops [⟨(some 7), none, .mv (.c (.int .i64 0))⟩])
     (.block 0 (.loop (.seq
        (.seq
         (.ops [⟨(some 8), none, .mv (.t 7)⟩,
           ⟨(some 9), none, .mv (.t 0)⟩,
           ⟨(some 10), none, .nilck (.t 9)⟩,
           ⟨(some 11), none, .addr 1 (.t 10)⟩,
           ⟨(some 12), none, .load none (.t 11)⟩,
           ⟨(some 13), none, .lenL (.t 12)⟩,
           ⟨(some 14), none, .bin .lss (.t 8) (.t 13)⟩])
         (.cond (.t 14)
          (.skip)
          (.exit 0)))
        (.seq
         (.block 1 (.seq
           (.ops [⟨(some 17), none, .mv (.t 0)⟩,
             ⟨(some 18), none, .nilck (.t 17)⟩,
             ⟨(some 19), none, .addr 1 (.t 18)⟩,
             ⟨(some 20), none, .load none (.t 19)⟩,
             ⟨(some 21), none, .mv (.t 7)⟩,
             ⟨(some 22), none, .iaddrS 4 (.t 20) (.t 21)⟩,
             ⟨(some 23), none, .addr 0 (.t 22)⟩,
             ⟨(some 24), none, .load none (.t 23)⟩,
             ⟨(some 25), none, .mv (.t 1)⟩,
             ⟨(some 26), none, .bin .eql (.t 24) (.t 25)⟩,
             ⟨(some 27), none, .mv (.t 26)⟩,
             ⟨(some 28), (some (27, true)), .mv (.t 0)⟩,
             ⟨(some 29), (some (27, true)), .nilck (.t 28)⟩,
             ⟨(some 30), (some (27, true)), .addr 1 (.t 29)⟩,
             ⟨(some 31), (some (27, true)), .load none (.t 30)⟩,
             ⟨(some 32), (some (27, true)), .mv (.t 7)⟩,
             ⟨(some 33), (some (27, true)), .iaddrS 4 (.t 31) (.t 32)⟩,
             ⟨(some 34), (some (27, true)), .addr 1 (.t 33)⟩,
             ⟨(some 35), (some (27, true)), .load none (.t 34)⟩,
             ⟨(some 36), (some (27, true)), .mv (.t 2)⟩,
             ⟨(some 37), (some (27, true)), .bin .eql (.t 35) (.t 36)⟩,
             ⟨(some 38), none, .pick (.t 27) (.t 37) (.c (.bool false))⟩,
             ⟨(some 39), none, .mv (.t 38)⟩,
             ⟨(some 40), (some (39, true)), .mv (.t 0)⟩,
             ⟨(some 41), (some (39, true)), .nilck (.t 40)⟩,
             ⟨(some 42), (some (39, true)), .addr 1 (.t 41)⟩,
             ⟨(some 43), (some (39, true)), .load none (.t 42)⟩,
             ⟨(some 44), (some (39, true)), .mv (.t 7)⟩,
             ⟨(some 45), (some (39, true)), .iaddrS 4 (.t 43) (.t 44)⟩,
             ⟨(some 46), (some (39, true)), .addr 3 (.t 45)⟩,
             ⟨(some 47), (some (39, true)), .load none (.t 46)⟩,
             ⟨(some 48), (some (39, true)), .un .not (.t 47)⟩,
             ⟨(some 49), none, .pick (.t 39) (.t 48) (.c (.bool false))⟩])
           (.cond (.t 49)
            (.seq
             (.ops [⟨(some 50), none, .mv (.t 7)⟩,
               ⟨(some 6), none, .mv (.t 50)⟩])
             (.ret))
            (.skip))))
         (.ops [⟨(some 15), none, .mv (.t 7)⟩,
           ⟨(some 16), none, .bin .add (.t 15) (.c (.int .i64 1))⟩,
           ⟨(some 7), none, .mv (.t 16)⟩]))))))
    (.seq
     (.ops [⟨(some 6), none, .mv (.c (.int .i64 (-1)))⟩])
     (.ret)))⟩
theorem ok34 : FnOk Tryd.prog 34 a34 := FnOk.of Tryd.prog Tryd.func34 (by kernel_rfl)
/-- (*jalousie/jalousieref22.Buffers).Get -/
def a35 : AFn := ⟨23, [.tmp 6, .tmp 7], .seq
   (.ops [⟨(some 6), none, .mv (.c (.str []))⟩,
     ⟨(some 7), none, .mv (.c (.bool false))⟩])
   (.seq
    (.ops [⟨(some 9), none, .mv (.t 0)⟩,
      ⟨(some 10), none, .mv (.t 1)⟩,
      ⟨(some 11), none, .mv (.t 2)⟩,
      ⟨(some 12), none, .call 34 [(.t 9), (.t 10), (.t 11)]⟩,
      ⟨(some 8), none, .mv (.t 12)⟩])
    (.seq
     (.seq
      (.ops [⟨(some 13), none, .mv (.t 8)⟩,
        ⟨(some 14), none, .bin .lss (.t 13) (.c (.int .i64 0))⟩])
      (.cond (.t 14)
       (.seq
        (.ops [⟨(some 6), none, .mv (.c (.str []))⟩,
          ⟨(some 7), none, .mv (.c (.bool false))⟩])
        (.ret))
       (.skip)))
     (.seq
      (.ops [⟨(some 15), none, .mv (.t 0)⟩,
        ⟨(some 16), none, .nilck (.t 15)⟩,
        ⟨(some 17), none, .addr 1 (.t 16)⟩,
        ⟨(some 18), none, .load none (.t 17)⟩,
        ⟨(some 19), none, .mv (.t 8)⟩,
        ⟨(some 20), none, .iaddrS 4 (.t 18) (.t 19)⟩,
        ⟨(some 21), none, .addr 2 (.t 20)⟩,
        ⟨(some 22), none, .load none (.t 21)⟩,
        ⟨(some 6), none, .mv (.t 22)⟩,
        ⟨(some 7), none, .mv (.c (.bool true))⟩])
      (.ret))))⟩
theorem ok35 : FnOk Tryd.prog 35 a35 := FnOk.of Tryd.prog Tryd.func35 (by kernel_rfl)
/-- (*jalousie/jalousieref22.Buffers).Names -/
def a36 : AFn := ⟨50, [.tmp 4], .seq
   (.ops [⟨(some 4), none, .mv (.c .nilslice)⟩])
   (.seq
    (.ops [⟨(some 5), none, .mv (.c .nilslice)⟩])
    (.seq
     (.seq
      (.ops [⟨(some 7), none, .mv (.t 0)⟩,
        ⟨(some 8), none, .nilck (.t 7)⟩,
        ⟨(some 9), none, .addr 1 (.t 8)⟩,
        ⟨(some 10), none, .load none (.t 9)⟩,
        ⟨(some 11), none, .lenL (.t 10)⟩,
        ⟨(some 12), none, .bin .sub (.t 11) (.c (.int .i64 1))⟩,
        ⟨(some 6), none, .mv (.t 12)⟩])
      (.block 0 (.loop (.seq
         (.seq
          (.ops [⟨(some 13), none, .mv (.t 6)⟩,
            ⟨(some 14), none, .bin .geq (.t 13) (.c (.int .i64 0))⟩])
          (.cond (.t 14)
           (.skip)
           (.exit 0)))
         (.seq
          (.block 1 (.seq
            (.ops [⟨(some 17), none, .mv (.t 0)⟩,
              ⟨(some 18), none, .nilck (.t 17)⟩,
              ⟨(some 19), none, .addr 1 (.t 18)⟩,
              ⟨(some 20), none, .load none (.t 19)⟩,
              ⟨(some 21), none, .mv (.t 6)⟩,
              ⟨(some 22), none, .iaddrS 4 (.t 20) (.t 21)⟩,
              ⟨(some 23), none, .addr 0 (.t 22)⟩,
              ⟨(some 24), none, .load none (.t 23)⟩,
              ⟨(some 25), none, .mv (.t 1)⟩,
              ⟨(some 26), none, .bin .eql (.t 24) (.t 25)⟩,
              ⟨(some 27), none, .mv (.t 26)⟩,
              ⟨(some 28), (some (27, true)), .mv (.t 0)⟩,
              ⟨(some 29), (some (27, true)), .nilck (.t 28)⟩,
              ⟨(some 30), (some (27, true)), .addr 1 (.t 29)⟩,
              ⟨(some 31), (some (27, true)), .load none (.t 30)⟩,
              ⟨(some 32), (some (27, true)), .mv (.t 6)⟩,
              ⟨(some 33), (some (27, true)), .iaddrS 4 (.t 31) (.t 32)⟩,
              ⟨(some 34), (some (27, true)), .addr 3 (.t 33)⟩,
              ⟨(some 35), (some (27, true)), .load none (.t 34)⟩,
              ⟨(some 36), (some (27, true)), .un .not (.t 35)⟩,
              ⟨(some 37), none, .pick (.t 27) (.t 36) (.c (.bool false))⟩])
            (.cond (.t 37)
             (.ops [⟨(some 38), none, .mv (.t 5)⟩,
               ⟨(some 39), none, .mv (.t 0)⟩,
               ⟨(some 40), none, .nilck (.t 39)⟩,
               ⟨(some 41), none, .addr 1 (.t 40)⟩,
               ⟨(some 42), none, .load none (.t 41)⟩,
               ⟨(some 43), none, .mv (.t 6)⟩,
               ⟨(some 44), none, .iaddrS 4 (.t 42) (.t 43)⟩,
               ⟨(some 45), none, .addr 1 (.t 44)⟩,
               ⟨(some 46), none, .load none (.t 45)⟩,
               ⟨(some 47), none, .bslice 3 1 1 [(.int .i64 0)] [(0, (.t 46))]⟩,
               ⟨(some 48), none, .append 3 1 8 (.t 38) (.t 47)⟩,
               ⟨(some 5), none, .mv (.t 48)⟩])
             (.skip))))
          (.ops [⟨(some 15), none, .mv (.t 6)⟩,
            ⟨(some 16), none, .bin .sub (.t 15) (.c (.int .i64 1))⟩,
            ⟨(some 6), none, .mv (.t 16)⟩]))))))
     (.seq
      (.ops [⟨(some 49), none, .mv (.t 5)⟩,
        ⟨(some 4), none, .mv (.t 49)⟩])
      (.ret))))⟩
theorem ok36 : FnOk Tryd.prog 36 a36 := FnOk.of Tryd.prog Tryd.func36 (by kernel_rfl)
/-- (*jalousie/jalousieref22.Buffers).Seen -/
def a37 : AFn := ⟨44, [.tmp 4], .seq
   (.ops [⟨(some 4), none, .mv (.c .nilslice)⟩])
   (.seq
    (.ops [⟨(some 5), none, .mv (.c .nilslice)⟩])
    (.seq
     (.seq
      (.ops [⟨(some 6), none, .mv (.c (.int .i64 0))⟩])
      (.block 0 (.loop (.seq
         (.seq
          (.ops [⟨(some 9), none, .mv (.t 6)⟩,
            ⟨(some 10), none, .mv (.t 0)⟩,
            ⟨(some 11), none, .nilck (.t 10)⟩,
            ⟨(some 12), none, .addr 0 (.t 11)⟩,
            ⟨(some 13), none, .load none (.t 12)⟩,
            ⟨(some 14), none, .lenL (.t 13)⟩,
            ⟨(some 15), none, .bin .lss (.t 9) (.t 14)⟩])
          (.cond (.t 15)
           (.skip)
           (.exit 0)))
         (.seq
          (.block 1 (.seq
            (.seq
             (.ops [⟨(some 18), none, .mv (.t 0)⟩,
               ⟨(some 19), none, .nilck (.t 18)⟩,
               ⟨(some 20), none, .addr 0 (.t 19)⟩,
               ⟨(some 21), none, .load none (.t 20)⟩,
               ⟨(some 22), none, .mv (.t 6)⟩,
               ⟨(some 23), none, .mv (.t 1)⟩,
               ⟨(some 24), none, .call 46 [(.t 21), (.t 22), (.t 23)]⟩,
               ⟨(some 25), none, .un .not (.t 24)⟩])
             (.cond (.t 25)
              (.exit 1)
              (.skip)))
            (.seq
             (.ops [⟨(some 26), none, .mv (.t 0)⟩,
               ⟨(some 27), none, .mv (.t 6)⟩,
               ⟨(some 28), none, .call 36 [(.t 26), (.t 27)]⟩,
               ⟨(some 7), none, .mv (.t 28)⟩])
             (.seq
              (.ops [⟨(some 8), none, .mv (.c (.int .i64 0))⟩])
              (.block 2 (.loop (.seq
                 (.seq
                  (.ops [⟨(some 29), none, .mv (.t 8)⟩,
                    ⟨(some 30), none, .mv (.t 7)⟩,
                    ⟨(some 31), none, .lenL (.t 30)⟩,
                    ⟨(some 32), none, .bin .lss (.t 29) (.t 31)⟩])
                  (.cond (.t 32)
                   (.skip)
                   (.exit 2)))
                 (.seq
                  (.block 3 (.ops [⟨(some 35), none, .mv (.t 5)⟩,
                     ⟨(some 36), none, .mv (.t 6)⟩,
                     ⟨(some 37), none, .mv (.t 7)⟩,
                     ⟨(some 38), none, .mv (.t 8)⟩,
                     ⟨(some 39), none, .iaddrS 1 (.t 37) (.t 38)⟩,
                     ⟨(some 40), none, .load none (.t 39)⟩,
                     ⟨(some 41), none, .bslice 3 1 2 [(.int .i64 0)] [(0, (.t 36)), (1, (.t 40))]⟩,
                     ⟨(some 42), none, .append 3 1 8 (.t 35) (.t 41)⟩,
                     ⟨(some 5), none, .mv (.t 42)⟩]))
                  (.ops [⟨(some 33), none, .mv (.t 8)⟩,
                    ⟨(some 34), none, .bin .add (.t 33) (.c (.int .i64 1))⟩,
                    ⟨(some 8), none, .mv (.t 34)⟩])))))))))
          (.ops [⟨(some 16), none, .mv (.t 6)⟩,
            ⟨(some 17), none, .bin .add (.t 16) (.c (.int .i64 1))⟩,
            ⟨(some 6), none, .mv (.t 17)⟩]))))))
     (.seq
      (.ops [⟨(some 43), none, .mv (.t 5)⟩,
        ⟨(some 4), none, .mv (.t 43)⟩])
      (.ret))))⟩
theorem ok37 : FnOk Tryd.prog 37 a37 := FnOk.of Tryd.prog Tryd.func37 (by kernel_rfl)
/-- (*jalousie/lattice.Lattice).has -/
def a38 : AFn := ⟨13, [.tmp 4], .seq
   (.ops [⟨(some 4), none, .mv (.c (.bool false))⟩])
   (.seq
    (.ops [⟨(some 5), none, .mv (.t 1)⟩,
      ⟨(some 6), none, .bin .geq (.t 5) (.c (.int .i64 0))⟩,
      ⟨(some 7), none, .mv (.t 6)⟩,
      ⟨(some 8), (some (7, true)), .mv (.t 1)⟩,
      ⟨(some 9), (some (7, true)), .mv (.t 0)⟩,
      ⟨(some 10), (some (7, true)), .call 27 [(.t 9)]⟩,
      ⟨(some 11), (some (7, true)), .bin .lss (.t 8) (.t 10)⟩,
      ⟨(some 12), none, .pick (.t 7) (.t 11) (.c (.bool false))⟩,
      ⟨(some 4), none, .mv (.t 12)⟩])
    (.ret))⟩
theorem ok38 : FnOk Tryd.prog 38 a38 := FnOk.of Tryd.prog Tryd.func38 (by kernel_rfl)
/-- (*jalousie/lattice.Lattice).Downset -/
def a39 : AFn := ⟨22, [.tmp 4], .seq
   (.ops [⟨(some 4), none, .mv (.c .nilslice)⟩])
   (.seq
    (.ops [⟨(some 5), none, .mv (.c .nilslice)⟩])
    (.seq
     (.seq
      (.ops [⟨(some 7), none, .mv (.t 0)⟩,
        ⟨(some 8), none, .call 27 [(.t 7)]⟩,
        ⟨(some 9), none, .mv (.c (.int .i64 0))⟩])
      (.block 0 (.loop (.seq
         (.ops [⟨(some 10), none, .bin .lss (.t 9) (.t 8)⟩])
         (.seq
          (.cond (.t 10)
           (.skip)
           (.exit 0))
          (.seq
           (.block 1 (.seq
             (.ops [⟨(some 11), none, .mv (.t 9)⟩,
               ⟨(some 6), none, .mv (.t 11)⟩])
             (.seq
              (.ops [⟨(some 12), none, .mv (.t 0)⟩,
                ⟨(some 13), none, .mv (.t 6)⟩,
                ⟨(some 14), none, .mv (.t 1)⟩,
                ⟨(some 15), none, .call 17 [(.t 12), (.t 13), (.t 14)]⟩])
              (.cond (.t 15)
               (.ops [⟨(some 16), none, .mv (.t 5)⟩,
                 ⟨(some 17), none, .mv (.t 6)⟩,
                 ⟨(some 18), none, .bslice 3 1 1 [(.int .i64 0)] [(0, (.t 17))]⟩,
                 ⟨(some 19), none, .append 3 1 8 (.t 16) (.t 18)⟩,
                 ⟨(some 5), none, .mv (.t 19)⟩])
               (.skip)))))
           (.ops [⟨(some 20), none, .bin .add (.t 9) (.c (.int .i64 1))⟩,
             ⟨(some 9), none, .mv (.t 20)⟩])))))))
     (.seq
      (.ops [⟨(some 21), none, .mv (.t 5)⟩,
        ⟨(some 4), none, .mv (.t 21)⟩])
      (.ret))))⟩
theorem ok39 : FnOk Tryd.prog 39 a39 := FnOk.of Tryd.prog Tryd.func39 (by kernel_rfl)
/-- math/bits.Mul -/
def a40 : AFn := ⟨30, [.tmp 4, .tmp 5], .seq
   (.ops [⟨(some 4), none, .mv (.c (.int .u64 0))⟩,
     ⟨(some 5), none, .mv (.c (.int .u64 0))⟩])
   (.seq
    (.cond (.c (.bool false))
     (.seq
      (.ops [⟨(some 11), none, .mv (.t 0)⟩,
        ⟨(some 12), none, .convI .u32 (.t 11)⟩,
        ⟨(some 13), none, .mv (.t 1)⟩,
        ⟨(some 14), none, .convI .u32 (.t 13)⟩,
        ⟨(some 15), none, .call 52 [(.t 12), (.t 14)]⟩,
        ⟨(some 10), none, .mv (.t 15)⟩,
        ⟨(some 16), none, .ext (.t 10) 0⟩,
        ⟨(some 17), none, .ext (.t 10) 1⟩,
        ⟨(some 6), none, .mv (.t 16)⟩,
        ⟨(some 7), none, .mv (.t 17)⟩])
      (.seq
       (.ops [⟨(some 18), none, .mv (.t 6)⟩,
         ⟨(some 19), none, .convI .u64 (.t 18)⟩,
         ⟨(some 20), none, .mv (.t 7)⟩,
         ⟨(some 21), none, .convI .u64 (.t 20)⟩,
         ⟨(some 4), none, .mv (.t 19)⟩,
         ⟨(some 5), none, .mv (.t 21)⟩])
       (.ret)))
     (.skip))
    (.seq
     (.ops [⟨(some 23), none, .mv (.t 0)⟩,
       ⟨(some 24), none, .mv (.t 1)⟩,
       ⟨(some 25), none, .call 53 [(.t 23), (.t 24)]⟩,
       ⟨(some 22), none, .mv (.t 25)⟩,
       ⟨(some 26), none, .ext (.t 22) 0⟩,
       ⟨(some 27), none, .ext (.t 22) 1⟩,
       ⟨(some 8), none, .mv (.t 26)⟩,
       ⟨(some 9), none, .mv (.t 27)⟩])
     (.seq
      (.ops [⟨(some 28), none, .mv (.t 8)⟩,
        ⟨(some 29), none, .mv (.t 9)⟩,
        ⟨(some 4), none, .mv (.t 28)⟩,
        ⟨(some 5), none, .mv (.t 29)⟩])
      (.ret))))⟩
theorem ok40 : FnOk Tryd.prog 40 a40 := FnOk.of Tryd.prog Tryd.func40 (by kernel_rfl)
/-- strings.HasPrefix -/
def a41 : AFn := ⟨8, [.tmp 4], .seq
   (.ops [⟨(some 4), none, .mv (.c (.bool false))⟩])
   (.seq
    (.ops [⟨(some 5), none, .mv (.t 0)⟩,
      ⟨(some 6), none, .mv (.t 1)⟩,
      ⟨(some 7), none, .call 54 [(.t 5), (.t 6)]⟩,
      ⟨(some 4), none, .mv (.t 7)⟩])
    (.ret))⟩
theorem ok41 : FnOk Tryd.prog 41 a41 := FnOk.of Tryd.prog Tryd.func41 (by kernel_rfl)
/-- (*strings.Builder).Grow -/
def a42 : AFn := ⟨25, [], .seq
   (.ops [⟨(some 4), none, .mv (.t 0)⟩,
     ⟨(some 5), none, .call 55 [(.t 4)]⟩])
   (.seq
    (.seq
     (.ops [⟨(some 6), none, .mv (.t 1)⟩,
       ⟨(some 7), none, .bin .lss (.t 6) (.c (.int .i64 0))⟩])
     (.cond (.t 7)
      (.ops [⟨(some 8), none, .bad⟩,
        ⟨none, none, .bad⟩])
      (.skip)))
    (.seq
     (.draw [⟨⟨(some 9), none, .mv (.t 0)⟩, []⟩,
       ⟨⟨(some 10), none, .nilck (.t 9)⟩, [0]⟩,
       ⟨⟨(some 11), none, .addr 1 (.t 10)⟩, [1]⟩,
       ⟨⟨(some 12), none, .load none (.t 11)⟩, [2]⟩,
       ⟨⟨(some 13), none, .cap (.t 12)⟩, [3]⟩,
       ⟨⟨(some 14), none, .mv (.t 0)⟩, []⟩,
       ⟨⟨(some 15), none, .nilck (.t 14)⟩, [5]⟩,
       ⟨⟨(some 16), none, .addr 1 (.t 15)⟩, [6]⟩,
       ⟨⟨(some 17), none, .load none (.t 16)⟩, [7]⟩,
       ⟨⟨(some 18), none, .lenL (.t 17)⟩, [8]⟩,
       ⟨⟨(some 19), none, .bin .sub (.t 13) (.t 18)⟩, [4, 9]⟩,
       ⟨⟨(some 20), none, .mv (.t 1)⟩, []⟩,
       ⟨⟨(some 21), none, .bin .lss (.t 19) (.t 20)⟩, [10, 11]⟩] [0, 1, 3, 7, 15, 0, 32, 96, 224, 480, 1023, 0, 4095])
     (.cond (.t 21)
      (.ops [⟨(some 22), none, .mv (.t 0)⟩,
        ⟨(some 23), none, .mv (.t 1)⟩,
        ⟨(some 24), none, .call 56 [(.t 22), (.t 23)]⟩])
      (.skip))))⟩
theorem ok42 : FnOk Tryd.prog 42 a42 := FnOk.of Tryd.prog Tryd.func42 (by kernel_rfl)
/-- (*strings.Builder).WriteString -/
def a43 : AFn := ⟨19, [.tmp 4, .tmp 5], .seq
   (.ops [⟨(some 4), none, .mv (.c (.int .i64 0))⟩,
     ⟨(some 5), none, .mv (.c .niface)⟩])
   (.seq
    (.ops [⟨(some 6), none, .mv (.t 0)⟩,
      ⟨(some 7), none, .call 55 [(.t 6)]⟩])
    (.seq
     (.ops [⟨(some 8), none, .mv (.t 0)⟩,
       ⟨(some 9), none, .mv (.t 0)⟩,
       ⟨(some 10), none, .nilck (.t 9)⟩,
       ⟨(some 11), none, .addr 1 (.t 10)⟩,
       ⟨(some 12), none, .load none (.t 11)⟩,
       ⟨(some 13), none, .mv (.t 1)⟩,
       ⟨(some 14), none, .append 5 1 1 (.t 12) (.t 13)⟩,
       ⟨(some 15), none, .nilck (.t 8)⟩,
       ⟨(some 16), none, .addr 1 (.t 15)⟩,
       ⟨none, none, .store 1 (.t 16) (.t 14)⟩])
     (.seq
      (.ops [⟨(some 17), none, .mv (.t 1)⟩,
        ⟨(some 18), none, .lenS (.t 17)⟩,
        ⟨(some 4), none, .mv (.t 18)⟩,
        ⟨(some 5), none, .mv (.c .niface)⟩])
      (.ret))))⟩
theorem ok43 : FnOk Tryd.prog 43 a43 := FnOk.of Tryd.prog Tryd.func43 (by kernel_rfl)
/-- (*strings.Builder).Len -/
def a44 : AFn := ⟨8, [.tmp 2], .seq
   (.ops [⟨(some 2), none, .mv (.c (.int .i64 0))⟩])
   (.seq
    (.ops [⟨(some 3), none, .mv (.t 0)⟩,
      ⟨(some 4), none, .nilck (.t 3)⟩,
      ⟨(some 5), none, .addr 1 (.t 4)⟩,
      ⟨(some 6), none, .load none (.t 5)⟩,
      ⟨(some 7), none, .lenL (.t 6)⟩,
      ⟨(some 2), none, .mv (.t 7)⟩])
    (.ret))⟩
theorem ok44 : FnOk Tryd.prog 44 a44 := FnOk.of Tryd.prog Tryd.func44 (by kernel_rfl)
/-- (*strings.Builder).String -/
def a45 : AFn := ⟨14, [.tmp 2], .seq
   (.ops [⟨(some 2), none, .mv (.c (.str []))⟩])
   (.seq
    (.draw [⟨⟨(some 3), none, .mv (.t 0)⟩, []⟩,
      ⟨⟨(some 4), none, .nilck (.t 3)⟩, [0]⟩,
      ⟨⟨(some 5), none, .addr 1 (.t 4)⟩, [1]⟩,
      ⟨⟨(some 6), none, .load none (.t 5)⟩, [2]⟩,
      ⟨⟨(some 7), none, .bad⟩, [3]⟩,
      ⟨⟨(some 8), none, .mv (.t 0)⟩, []⟩,
      ⟨⟨(some 9), none, .nilck (.t 8)⟩, [5]⟩,
      ⟨⟨(some 10), none, .addr 1 (.t 9)⟩, [6]⟩,
      ⟨⟨(some 11), none, .load none (.t 10)⟩, [7]⟩,
      ⟨⟨(some 12), none, .lenL (.t 11)⟩, [8]⟩,
      ⟨⟨(some 13), none, .bad⟩, [4, 9]⟩,
      ⟨⟨(some 2), none, .mv (.t 13)⟩, [10, 0, 1, 2, 3, 4, 5, 6, 7, 8, 9, 10]⟩] [0, 1, 3, 7, 15, 0, 32, 96, 224, 480, 1023, 2047])
    (.ret))⟩
theorem ok45 : FnOk Tryd.prog 45 a45 := FnOk.of Tryd.prog Tryd.func45 (by kernel_rfl)
/-- jalousie/jalousieref01.Below -/
def a46 : AFn := ⟨34, [.tmp 6], .seq
   (.ops [⟨(some 6), none, .mv (.c (.bool false))⟩])
   (.seq
    (.ops [⟨(some 7), none, .mv (.t 1)⟩,
      ⟨(some 8), none, .bin .geq (.t 7) (.c (.int .i64 0))⟩,
      ⟨(some 9), none, .mv (.t 8)⟩,
      ⟨(some 10), (some (9, true)), .mv (.t 2)⟩,
      ⟨(some 11), (some (9, true)), .bin .geq (.t 10) (.c (.int .i64 0))⟩,
      ⟨(some 12), none, .pick (.t 9) (.t 11) (.c (.bool false))⟩,
      ⟨(some 13), none, .mv (.t 12)⟩,
      ⟨(some 14), (some (13, true)), .mv (.t 1)⟩,
      ⟨(some 15), (some (13, true)), .mv (.t 0)⟩,
      ⟨(some 16), (some (13, true)), .lenL (.t 15)⟩,
      ⟨(some 17), (some (13, true)), .bin .lss (.t 14) (.t 16)⟩,
      ⟨(some 18), none, .pick (.t 13) (.t 17) (.c (.bool false))⟩,
      ⟨(some 19), none, .mv (.t 18)⟩,
      ⟨(some 20), (some (19, true)), .mv (.t 2)⟩,
      ⟨(some 21), (some (19, true)), .mv (.t 0)⟩,
      ⟨(some 22), (some (19, true)), .lenL (.t 21)⟩,
      ⟨(some 23), (some (19, true)), .bin .lss (.t 20) (.t 22)⟩,
      ⟨(some 24), none, .pick (.t 19) (.t 23) (.c (.bool false))⟩,
      ⟨(some 25), none, .mv (.t 24)⟩,
      ⟨(some 26), (some (25, true)), .mv (.t 0)⟩,
      ⟨(some 27), (some (25, true)), .mv (.t 1)⟩,
      ⟨(some 28), (some (25, true)), .iaddrS 1 (.t 26) (.t 27)⟩,
      ⟨(some 29), (some (25, true)), .load none (.t 28)⟩,
      ⟨(some 30), (some (25, true)), .mv (.t 2)⟩,
      ⟨(some 31), (some (25, true)), .iaddrS 1 (.t 29) (.t 30)⟩,
      ⟨(some 32), (some (25, true)), .load none (.t 31)⟩,
      ⟨(some 33), none, .pick (.t 25) (.t 32) (.c (.bool false))⟩,
      ⟨(some 6), none, .mv (.t 33)⟩])
    (.ret))⟩
theorem ok46 : FnOk Tryd.prog 46 a46 := FnOk.of Tryd.prog Tryd.func46 (by kernel_rfl)
/-- math/bits.TrailingZeros64 -/
def a47 : AFn := ⟨14, [.tmp 2], .seq
   (.ops [⟨(some 2), none, .mv (.c (.int .i64 0))⟩])
   (.seq
    (.seq
     (.ops [⟨(some 3), none, .mv (.t 0)⟩,
       ⟨(some 4), none, .bin .eql (.t 3) (.c (.int .u64 0))⟩])
     (.cond (.t 4)
      (.seq
       (.ops [⟨(some 2), none, .mv (.c (.int .i64 64))⟩])
       (.ret))
      (.skip)))
    (.seq
     (.ops [⟨(some 5), none, .mv (.t 0)⟩,
       ⟨(some 6), none, .mv (.t 0)⟩,
       ⟨(some 7), none, .un .neg (.t 6)⟩,
       ⟨(some 8), none, .bin .and (.t 5) (.t 7)⟩,
       ⟨(some 9), none, .bin .mul (.t 8) (.c (.int .u64 285870213051353865))⟩,
       ⟨(some 10), none, .bin .shr (.t 9) (.c (.int .u64 58))⟩,
       ⟨(some 11), none, .iaddrA 64 1 (.c (.ptr (.ro 0) 0)) (.t 10)⟩,
       ⟨(some 12), none, .load none (.t 11)⟩,
       ⟨(some 13), none, .convI .i64 (.t 12)⟩,
       ⟨(some 2), none, .mv (.t 13)⟩])
     (.ret)))⟩
theorem ok47 : FnOk Tryd.prog 47 a47 := FnOk.of Tryd.prog Tryd.func47 (by kernel_rfl)
/-- slices.rotateRight[jalousie/buffers.text] -/
def a49 : AFn := ⟨10, [], .ops [⟨(some 4), none, .mv (.t 0)⟩,
    ⟨(some 5), none, .mv (.t 0)⟩,
    ⟨(some 6), none, .lenL (.t 5)⟩,
    ⟨(some 7), none, .mv (.t 1)⟩,
    ⟨(some 8), none, .bin .sub (.t 6) (.t 7)⟩,
    ⟨(some 9), none, .call 57 [(.t 4), (.t 8)]⟩]⟩
theorem ok49 : FnOk Tryd.prog 49 a49 := FnOk.of Tryd.prog Tryd.func49 (by kernel_rfl)
/-- slices.IndexFunc[[]jalousie/buffers.text,jalousie/buffers.text] -/
def a50 : AFn := ⟨19, [.tmp 4], .seq
   (.ops [⟨(some 4), none, .mv (.c (.int .i64 0))⟩])
   (.seq
    (.seq
     (.ops [⟨(some 6), none, .mv (.t 0)⟩,
       ⟨(some 7), none, .lenL (.t 6)⟩,
       ⟨(some 8), none, .mv (.c (.int .i64 0))⟩])
     (.block 0 (.loop (.seq
        (.ops [⟨(some 9), none, .bin .lss (.t 8) (.t 7)⟩])
        (.seq
         (.cond (.t 9)
          (.skip)
          (.exit 0))
         (.seq
          (.block 1 (.seq
            (.ops [⟨(some 10), none, .mv (.t 8)⟩,
              ⟨(some 5), none, .mv (.t 10)⟩])
            (.seq
             (.ops [⟨(some 11), none, .mv (.t 1)⟩,
               ⟨(some 12), none, .mv (.t 0)⟩,
               ⟨(some 13), none, .mv (.t 5)⟩,
               ⟨(some 14), none, .iaddrS 2 (.t 12) (.t 13)⟩,
               ⟨(some 15), none, .load (some 2) (.t 14)⟩,
               ⟨(some 16), none, .callv (.t 11) [(.t 15)]⟩])
             (.cond (.t 16)
              (.seq
               (.ops [⟨(some 17), none, .mv (.t 5)⟩,
                 ⟨(some 4), none, .mv (.t 17)⟩])
               (.ret))
              (.skip)))))
          (.ops [⟨(some 18), none, .bin .add (.t 8) (.c (.int .i64 1))⟩,
            ⟨(some 8), none, .mv (.t 18)⟩])))))))
    (.seq
     (.ops [⟨(some 4), none, .mv (.c (.int .i64 (-1)))⟩])
     (.ret)))⟩
theorem ok50 : FnOk Tryd.prog 50 a50 := FnOk.of Tryd.prog Tryd.func50 (by kernel_rfl)
/-- (*jalousie/buffers.list).find$1 -/
def a51 : AFn := ⟨8, [.tmp 3], .seq
   (.ops [⟨(some 2), none, .box 90 (.t 0)⟩,
     ⟨(some 3), none, .mv (.c (.bool false))⟩])
   (.seq
    (.ops [⟨(some 4), none, .addr 0 (.t 2)⟩,
      ⟨(some 5), none, .load none (.t 4)⟩,
      ⟨(some 6), none, .load none (.t 1)⟩,
      ⟨(some 7), none, .bin .eql (.t 5) (.t 6)⟩,
      ⟨(some 3), none, .mv (.t 7)⟩])
    (.ret))⟩
theorem ok51 : FnOk Tryd.prog 51 a51 := FnOk.of Tryd.prog Tryd.func51 (by kernel_rfl)
/-- math/bits.Mul32 -/
def a52 : AFn := ⟨17, [.tmp 4, .tmp 5], .seq
   (.ops [⟨(some 4), none, .mv (.c (.int .u32 0))⟩,
     ⟨(some 5), none, .mv (.c (.int .u32 0))⟩])
   (.seq
    (.ops [⟨(some 7), none, .mv (.t 0)⟩,
      ⟨(some 8), none, .convI .u64 (.t 7)⟩,
      ⟨(some 9), none, .mv (.t 1)⟩,
      ⟨(some 10), none, .convI .u64 (.t 9)⟩,
      ⟨(some 11), none, .bin .mul (.t 8) (.t 10)⟩,
      ⟨(some 6), none, .mv (.t 11)⟩])
    (.seq
     (.ops [⟨(some 12), none, .mv (.t 6)⟩,
       ⟨(some 13), none, .bin .shr (.t 12) (.c (.int .u64 32))⟩,
       ⟨(some 14), none, .convI .u32 (.t 13)⟩,
       ⟨(some 15), none, .mv (.t 6)⟩,
       ⟨(some 16), none, .convI .u32 (.t 15)⟩,
       ⟨(some 4), none, .mv (.t 14)⟩,
       ⟨(some 5), none, .mv (.t 16)⟩])
     (.ret)))⟩
theorem ok52 : FnOk Tryd.prog 52 a52 := FnOk.of Tryd.prog Tryd.func52 (by kernel_rfl)
/-- math/bits.Mul64 -/
def a53 : AFn := ⟨51, [.tmp 4, .tmp 5], .seq
   (.ops [⟨(some 4), none, .mv (.c (.int .u64 0))⟩,
     ⟨(some 5), none, .mv (.c (.int .u64 0))⟩])
   (.seq
    (.ops [⟨(some 14), none, .mv (.t 0)⟩,
      ⟨(some 15), none, .bin .and (.t 14) (.c (.int .u64 4294967295))⟩,
      ⟨(some 6), none, .mv (.t 15)⟩])
    (.seq
     (.ops [⟨(some 16), none, .mv (.t 0)⟩,
       ⟨(some 17), none, .bin .shr (.t 16) (.c (.int .u64 32))⟩,
       ⟨(some 7), none, .mv (.t 17)⟩])
     (.seq
      (.ops [⟨(some 18), none, .mv (.t 1)⟩,
        ⟨(some 19), none, .bin .and (.t 18) (.c (.int .u64 4294967295))⟩,
        ⟨(some 8), none, .mv (.t 19)⟩])
      (.seq
       (.ops [⟨(some 20), none, .mv (.t 1)⟩,
         ⟨(some 21), none, .bin .shr (.t 20) (.c (.int .u64 32))⟩,
         ⟨(some 9), none, .mv (.t 21)⟩])
       (.seq
        (.ops [⟨(some 22), none, .mv (.t 6)⟩,
          ⟨(some 23), none, .mv (.t 8)⟩,
          ⟨(some 24), none, .bin .mul (.t 22) (.t 23)⟩,
          ⟨(some 10), none, .mv (.t 24)⟩])
        (.seq
         (.ops [⟨(some 25), none, .mv (.t 7)⟩,
           ⟨(some 26), none, .mv (.t 8)⟩,
           ⟨(some 27), none, .bin .mul (.t 25) (.t 26)⟩,
           ⟨(some 28), none, .mv (.t 10)⟩,
           ⟨(some 29), none, .bin .shr (.t 28) (.c (.int .u64 32))⟩,
           ⟨(some 30), none, .bin .add (.t 27) (.t 29)⟩,
           ⟨(some 11), none, .mv (.t 30)⟩])
         (.seq
          (.ops [⟨(some 31), none, .mv (.t 11)⟩,
            ⟨(some 32), none, .bin .and (.t 31) (.c (.int .u64 4294967295))⟩,
            ⟨(some 12), none, .mv (.t 32)⟩])
          (.seq
           (.ops [⟨(some 33), none, .mv (.t 11)⟩,
             ⟨(some 34), none, .bin .shr (.t 33) (.c (.int .u64 32))⟩,
             ⟨(some 13), none, .mv (.t 34)⟩])
           (.seq
            (.ops [⟨(some 35), none, .mv (.t 12)⟩,
              ⟨(some 36), none, .mv (.t 6)⟩,
              ⟨(some 37), none, .mv (.t 9)⟩,
              ⟨(some 38), none, .bin .mul (.t 36) (.t 37)⟩,
              ⟨(some 39), none, .bin .add (.t 35) (.t 38)⟩,
              ⟨(some 12), none, .mv (.t 39)⟩])
            (.seq
             (.ops [⟨(some 40), none, .mv (.t 7)⟩,
               ⟨(some 41), none, .mv (.t 9)⟩,
               ⟨(some 42), none, .bin .mul (.t 40) (.t 41)⟩,
               ⟨(some 43), none, .mv (.t 13)⟩,
               ⟨(some 44), none, .bin .add (.t 42) (.t 43)⟩,
               ⟨(some 45), none, .mv (.t 12)⟩,
               ⟨(some 46), none, .bin .shr (.t 45) (.c (.int .u64 32))⟩,
               ⟨(some 47), none, .bin .add (.t 44) (.t 46)⟩,
               ⟨(some 4), none, .mv (.t 47)⟩])
             (.seq
              (.ops [⟨(some 48), none, .mv (.t 0)⟩,
                ⟨(some 49), none, .mv (.t 1)⟩,
                ⟨(some 50), none, .bin .mul (.t 48) (.t 49)⟩,
                ⟨(some 5), none, .mv (.t 50)⟩])
              (.ret))))))))))))⟩
theorem ok53 : FnOk Tryd.prog 53 a53 := FnOk.of Tryd.prog Tryd.func53 (by kernel_rfl)
/-- internal/stringslite.HasPrefix -/
def a54 : AFn := ⟨18, [.tmp 4], .seq
   (.ops [⟨(some 4), none, .mv (.c (.bool false))⟩])
   (.seq
    (.ops [⟨(some 5), none, .mv (.t 0)⟩,
      ⟨(some 6), none, .lenS (.t 5)⟩,
      ⟨(some 7), none, .mv (.t 1)⟩,
      ⟨(some 8), none, .lenS (.t 7)⟩,
      ⟨(some 9), none, .bin .geq (.t 6) (.t 8)⟩,
      ⟨(some 10), none, .mv (.t 9)⟩,
      ⟨(some 11), (some (10, true)), .mv (.t 0)⟩,
      ⟨(some 12), (some (10, true)), .mv (.t 1)⟩,
      ⟨(some 13), (some (10, true)), .lenS (.t 12)⟩,
      ⟨(some 14), (some (10, true)), .sliceS (.t 11) none (some (.t 13))⟩,
      ⟨(some 15), (some (10, true)), .mv (.t 1)⟩,
      ⟨(some 16), (some (10, true)), .bin .eql (.t 14) (.t 15)⟩,
      ⟨(some 17), none, .pick (.t 10) (.t 16) (.c (.bool false))⟩,
      ⟨(some 4), none, .mv (.t 17)⟩])
    (.ret))⟩
theorem ok54 : FnOk Tryd.prog 54 a54 := FnOk.of Tryd.prog Tryd.func54 (by kernel_rfl)
/-- (*strings.Builder).copyCheck -/
def a55 : AFn := ⟨20, [], .seq
   (.ops [⟨(some 2), none, .mv (.t 0)⟩,
     ⟨(some 3), none, .nilck (.t 2)⟩,
     ⟨(some 4), none, .addr 0 (.t 3)⟩,
     ⟨(some 5), none, .load none (.t 4)⟩,
     ⟨(some 6), none, .eq false 101 (.pointer 104) (.t 5) (.c .nilptr)⟩])
   (.cond (.t 6)
    (.ops [⟨(some 7), none, .mv (.t 0)⟩,
      ⟨(some 8), none, .mv (.t 0)⟩,
      ⟨(some 9), none, .toUnsafe (.t 8)⟩,
      ⟨(some 10), none, .bad⟩,
      ⟨(some 11), none, .bad⟩,
      ⟨(some 12), none, .nilck (.t 7)⟩,
      ⟨(some 13), none, .addr 0 (.t 12)⟩,
      ⟨none, none, .store 1 (.t 13) (.t 11)⟩])
    (.seq
     (.ops [⟨(some 14), none, .mv (.t 0)⟩,
       ⟨(some 15), none, .nilck (.t 14)⟩,
       ⟨(some 16), none, .addr 0 (.t 15)⟩,
       ⟨(some 17), none, .load none (.t 16)⟩,
       ⟨(some 18), none, .mv (.t 0)⟩,
       ⟨(some 19), none, .eq true 101 (.pointer 104) (.t 17) (.t 18)⟩])
     (.cond (.t 19)
      (.bad)
      (.skip))))⟩
theorem ok55 : FnOk Tryd.prog 55 a55 := FnOk.of Tryd.prog Tryd.func55 (by kernel_rfl)
/-- (*strings.Builder).grow -/
def a56 : AFn := ⟨30, [], .seq
   (.draw [⟨⟨(some 5), none, .mv (.t 0)⟩, []⟩,
     ⟨⟨(some 6), none, .nilck (.t 5)⟩, [0]⟩,
     ⟨⟨(some 7), none, .addr 1 (.t 6)⟩, [1]⟩,
     ⟨⟨(some 8), none, .load none (.t 7)⟩, [2]⟩,
     ⟨⟨(some 9), none, .cap (.t 8)⟩, [3]⟩,
     ⟨⟨(some 10), none, .bin .mul (.c (.int .i64 2)) (.t 9)⟩, [4]⟩,
     ⟨⟨(some 11), none, .mv (.t 1)⟩, []⟩,
     ⟨⟨(some 12), none, .bin .add (.t 10) (.t 11)⟩, [5, 6]⟩,
     ⟨⟨(some 13), none, .bad⟩, [7]⟩,
     ⟨⟨(some 14), none, .mv (.t 0)⟩, []⟩,
     ⟨⟨(some 15), none, .nilck (.t 14)⟩, [9]⟩,
     ⟨⟨(some 16), none, .addr 1 (.t 15)⟩, [10]⟩,
     ⟨⟨(some 17), none, .load none (.t 16)⟩, [11]⟩,
     ⟨⟨(some 18), none, .lenL (.t 17)⟩, [12]⟩,
     ⟨⟨(some 19), none, .slice 1 (.t 13) none (some (.t 18)) none⟩, [8, 13]⟩,
     ⟨⟨(some 4), none, .mv (.t 19)⟩, [14, 8, 0, 1, 2, 3, 4, 5, 6, 7, 8, 9, 10, 11, 12, 13, 14]⟩] [0, 1, 3, 7, 15, 31, 0, 127, 255, 0, 512, 1536, 3584, 7680, 16383, 32767])
   (.seq
    (.ops [⟨(some 20), none, .mv (.t 4)⟩,
      ⟨(some 21), none, .mv (.t 0)⟩,
      ⟨(some 22), none, .nilck (.t 21)⟩,
      ⟨(some 23), none, .addr 1 (.t 22)⟩,
      ⟨(some 24), none, .load none (.t 23)⟩,
      ⟨(some 25), none, .copy 1 (.t 20) (.t 24)⟩])
    (.ops [⟨(some 26), none, .mv (.t 0)⟩,
      ⟨(some 27), none, .mv (.t 4)⟩,
      ⟨(some 28), none, .nilck (.t 26)⟩,
      ⟨(some 29), none, .addr 1 (.t 28)⟩,
      ⟨none, none, .store 1 (.t 29) (.t 27)⟩]))⟩
theorem ok56 : FnOk Tryd.prog 56 a56 := FnOk.of Tryd.prog Tryd.func56 (by kernel_rfl)
/-- slices.rotateLeft[jalousie/buffers.text] -/
def a57 : AFn := ⟨14, [], .seq
   (.ops [⟨(some 4), none, .mv (.t 0)⟩,
     ⟨(some 5), none, .mv (.t 1)⟩,
     ⟨(some 6), none, .slice 2 (.t 4) none (some (.t 5)) none⟩,
     ⟨(some 7), none, .call 60 [(.t 6)]⟩])
   (.seq
    (.ops [⟨(some 8), none, .mv (.t 0)⟩,
      ⟨(some 9), none, .mv (.t 1)⟩,
      ⟨(some 10), none, .slice 2 (.t 8) (some (.t 9)) none none⟩,
      ⟨(some 11), none, .call 60 [(.t 10)]⟩])
    (.ops [⟨(some 12), none, .mv (.t 0)⟩,
      ⟨(some 13), none, .call 60 [(.t 12)]⟩]))⟩
theorem ok57 : FnOk Tryd.prog 57 a57 := FnOk.of Tryd.prog Tryd.func57 (by kernel_rfl)
/-- slices.Reverse[[]jalousie/buffers.text,jalousie/buffers.text] -/
def a60 : AFn := ⟨28, [], .seq
   (.ops [⟨(some 4), none, .mv (.t 0)⟩,
     ⟨(some 5), none, .lenL (.t 4)⟩,
     ⟨(some 6), none, .bin .sub (.t 5) (.c (.int .i64 1))⟩,
     ⟨(some 2), none, .mv (.c (.int .i64 0))⟩,
     ⟨(some 3), none, .mv (.t 6)⟩])
   (.block 0 (.loop (.seq
      (.seq
       (.ops [⟨(some 7), none, .mv (.t 2)⟩,
         ⟨(some 8), none, .mv (.t 3)⟩,
         ⟨(some 9), none, .bin .lss (.t 7) (.t 8)⟩])
       (.cond (.t 9)
        (.skip)
        (.exit 0)))
      (.seq
       (.block 1 (.draw [⟨⟨(some 14), none, .mv (.t 0)⟩, []⟩,
          ⟨⟨(some 15), none, .mv (.t 2)⟩, []⟩,
          ⟨⟨(some 16), none, .mv (.t 0)⟩, []⟩,
          ⟨⟨(some 17), none, .mv (.t 3)⟩, []⟩,
          ⟨⟨(some 18), none, .mv (.t 0)⟩, []⟩,
          ⟨⟨(some 19), none, .mv (.t 3)⟩, []⟩,
          ⟨⟨(some 20), none, .iaddrS 2 (.t 18) (.t 19)⟩, [4, 5]⟩,
          ⟨⟨(some 21), none, .load (some 2) (.t 20)⟩, [6]⟩,
          ⟨⟨(some 22), none, .mv (.t 0)⟩, []⟩,
          ⟨⟨(some 23), none, .mv (.t 2)⟩, []⟩,
          ⟨⟨(some 24), none, .iaddrS 2 (.t 22) (.t 23)⟩, [8, 9]⟩,
          ⟨⟨(some 25), none, .load (some 2) (.t 24)⟩, [10]⟩,
          ⟨⟨(some 26), none, .iaddrS 2 (.t 14) (.t 15)⟩, [0, 1, 0, 1, 4, 5, 6, 7, 11]⟩,
          ⟨⟨none, none, .store 2 (.t 26) (.t 21)⟩, [12, 7, 0, 1, 4, 5, 6, 7, 11]⟩,
          ⟨⟨(some 27), none, .iaddrS 2 (.t 16) (.t 17)⟩, [2, 3, 0, 1, 2, 3, 4, 5, 6, 7, 8, 9, 10, 11, 12, 13]⟩,
          ⟨⟨none, none, .store 2 (.t 27) (.t 25)⟩, [14, 11, 13, 0, 1, 2, 3, 4, 5, 6, 7, 8, 9, 10, 11, 12, 13]⟩] [0, 0, 0, 0, 0, 0, 48, 112, 0, 0, 768, 1792, 4083, 8179, 16383, 32767]))
       (.ops [⟨(some 10), none, .mv (.t 2)⟩,
         ⟨(some 11), none, .bin .add (.t 10) (.c (.int .i64 1))⟩,
         ⟨(some 12), none, .mv (.t 3)⟩,
         ⟨(some 13), none, .bin .sub (.t 12) (.c (.int .i64 1))⟩,
         ⟨(some 2), none, .mv (.t 11)⟩,
         ⟨(some 3), none, .mv (.t 13)⟩])))))⟩
theorem ok60 : FnOk Tryd.prog 60 a60 := FnOk.of Tryd.prog Tryd.func60 (by kernel_rfl)
/-- gosem.cut.vars -/
def a82 : AFn := ⟨1, [], .ops [⟨(some 0), none, .build [(.int .u8 0), (.int .u8 0), (.int .u8 0), (.int .u8 0), (.int .u8 0), (.int .u8 0), (.int .u8 0), (.int .u8 0), (.int .u8 0), (.int .u8 0), (.int .u8 0), (.int .u8 0), (.int .u8 0), (.int .u8 0), (.int .u8 0), (.int .u8 0), (.int .u8 0), (.int .u8 0), (.int .u8 0), (.int .u8 0), (.int .u8 0), (.int .u8 0), (.int .u8 0), (.int .u8 0), (.int .u8 0), (.int .u8 0), (.int .u8 0), (.int .u8 0), (.int .u8 0), (.int .u8 0), (.int .u8 0), (.int .u8 0), (.int .u8 0), (.int .u8 0), (.int .u8 0), (.int .u8 0), (.int .u8 0), (.int .u8 0), (.int .u8 0), (.int .u8 0), (.int .u8 0), (.int .u8 0), (.int .u8 0), (.int .u8 0), (.int .u8 0), (.int .u8 0), (.int .u8 0), (.int .u8 0), (.int .u8 0), (.int .u8 0), (.int .u8 0), (.int .u8 0), (.int .u8 0), (.int .u8 0), (.int .u8 0), (.int .u8 0), (.int .u8 0), (.int .u8 0), (.int .u8 0), (.int .u8 0), (.int .u8 0), (.int .u8 0), (.int .u8 0), (.int .u8 0)] [(0, 1), (1, 1), (2, 1), (3, 1), (4, 1), (5, 1), (6, 1), (7, 1), (8, 1), (9, 1), (10, 1), (11, 1), (12, 1), (13, 1), (14, 1), (15, 1), (16, 1), (17, 1), (18, 1), (19, 1), (20, 1), (21, 1), (22, 1), (23, 1), (24, 1), (25, 1), (26, 1), (27, 1), (28, 1), (29, 1), (30, 1), (31, 1), (32, 1), (33, 1), (34, 1), (35, 1), (36, 1), (37, 1), (38, 1), (39, 1), (40, 1), (41, 1), (42, 1), (43, 1), (44, 1), (45, 1), (46, 1), (47, 1), (48, 1), (49, 1), (50, 1), (51, 1), (52, 1), (53, 1), (54, 1), (55, 1), (56, 1), (57, 1), (58, 1), (59, 1), (60, 1), (61, 1), (62, 1), (63, 1), (64, 1), (65, 1), (66, 1), (67, 1), (68, 1), (69, 1), (70, 1), (71, 1), (72, 1), (73, 1), (74, 1), (75, 1), (76, 1), (77, 1), (78, 1), (79, 1), (80, 1), (81, 1), (82, 1), (83, 1), (84, 1), (85, 1), (86, 1), (87, 1), (88, 1), (89, 1), (90, 1), (91, 1), (92, 1), (93, 1), (94, 1), (95, 1), (96, 1), (97, 1), (98, 1), (99, 1), (100, 1), (101, 1), (102, 1), (103, 1), (104, 1), (105, 1), (106, 1), (107, 1), (108, 1), (109, 1), (110, 1), (111, 1), (112, 1), (113, 1), (114, 1), (115, 1), (116, 1), (117, 1), (118, 1), (119, 1), (120, 1), (121, 1), (122, 1), (123, 1), (124, 1), (125, 1), (126, 1), (127, 1), (128, 1)] [(0, (.c (.int .u8 0))), (1, (.c (.int .u8 1))), (2, (.c (.int .u8 56))), (3, (.c (.int .u8 2))), (4, (.c (.int .u8 57))), (5, (.c (.int .u8 49))), (6, (.c (.int .u8 28))), (7, (.c (.int .u8 3))), (8, (.c (.int .u8 61))), (9, (.c (.int .u8 58))), (10, (.c (.int .u8 42))), (11, (.c (.int .u8 50))), (12, (.c (.int .u8 38))), (13, (.c (.int .u8 29))), (14, (.c (.int .u8 17))), (15, (.c (.int .u8 4))), (16, (.c (.int .u8 62))), (17, (.c (.int .u8 47))), (18, (.c (.int .u8 59))), (19, (.c (.int .u8 36))), (20, (.c (.int .u8 45))), (21, (.c (.int .u8 43))), (22, (.c (.int .u8 51))), (23, (.c (.int .u8 22))), (24, (.c (.int .u8 53))), (25, (.c (.int .u8 39))), (26, (.c (.int .u8 33))), (27, (.c (.int .u8 30))), (28, (.c (.int .u8 24))), (29, (.c (.int .u8 18))), (30, (.c (.int .u8 12))), (31, (.c (.int .u8 5))), (32, (.c (.int .u8 63))), (33, (.c (.int .u8 55))), (34, (.c (.int .u8 48))), (35, (.c (.int .u8 27))), (36, (.c (.int .u8 60))), (37, (.c (.int .u8 41))), (38, (.c (.int .u8 37))), (39, (.c (.int .u8 16))), (40, (.c (.int .u8 46))), (41, (.c (.int .u8 35))), (42, (.c (.int .u8 44))), (43, (.c (.int .u8 21))), (44, (.c (.int .u8 52))), (45, (.c (.int .u8 32))), (46, (.c (.int .u8 23))), (47, (.c (.int .u8 11))), (48, (.c (.int .u8 54))), (49, (.c (.int .u8 26))), (50, (.c (.int .u8 40))), (51, (.c (.int .u8 15))), (52, (.c (.int .u8 34))), (53, (.c (.int .u8 20))), (54, (.c (.int .u8 31))), (55, (.c (.int .u8 10))), (56, (.c (.int .u8 25))), (57, (.c (.int .u8 14))), (58, (.c (.int .u8 19))), (59, (.c (.int .u8 9))), (60, (.c (.int .u8 13))), (61, (.c (.int .u8 8))), (62, (.c (.int .u8 7))), (63, (.c (.int .u8 6)))]⟩,
    ⟨none, none, .store 64 (.c (.ptr (.ro 0) 0)) (.t 0)⟩]⟩
theorem ok82 : FnOk Tryd.prog 82 a82 := FnOk.of Tryd.prog Tryd.func82 (by kernel_rfl)

end Go.Proofs.YtjncbipaikmogaaDoor.Fns
