/- Functions of the translated code as the abstract machine reads them, printed by program; each is checked against the code. -/
import Derived.Test.YtgdmalobagncpaaDoorProg
import Derived.Test.YtgdmalobagncpaaDoorAmEval
namespace Go.Proofs.YtgdmalobagncpaaDoor.Fns
open Go Go.RowKit Am Go.Proofs.YtgdmalobagncpaaDoor
set_option maxRecDepth 100000
/-- (*jalousie/lattice.Lattice).order -/
def a39 : AFn := ⟨54, [.tmp 2], .seq
   (.ops [⟨(some 2), none, .mv (.c (.bool false))⟩])
   (.seq
    (.seq
     (.ops [⟨(some 6), none, .mv (.t 0)⟩,
       ⟨(some 7), none, .nilck (.t 6)⟩,
       ⟨(some 8), none, .addr 0 (.t 7)⟩,
       ⟨(some 9), none, .load none (.t 8)⟩,
       ⟨(some 10), none, .lenL (.t 9)⟩,
       ⟨(some 11), none, .mv (.c (.int .i64 0))⟩])
     (.block 0 (.loop (.seq
        (.ops [⟨(some 12), none, .bin .lss (.t 11) (.t 10)⟩])
        (.seq
         (.cond (.t 12)
          (.skip)
          (.exit 0))
         (.seq
          (.block 1 (.seq
            (.ops [⟨(some 13), none, .mv (.t 11)⟩,
              ⟨(some 14), none, .iaddrS 1 (.t 9) (.t 11)⟩,
              ⟨(some 15), none, .load none (.t 14)⟩,
              ⟨(some 3), none, .mv (.t 13)⟩,
              ⟨(some 4), none, .mv (.t 15)⟩])
            (.seq
             (.seq
              (.draw [⟨⟨(some 16), none, .mv (.t 4)⟩, []⟩,
                ⟨⟨(some 17), none, .mv (.t 3)⟩, []⟩,
                ⟨⟨(some 18), none, .bin .shr (.t 16) (.t 17)⟩, [0, 1]⟩,
                ⟨⟨(some 19), none, .bin .and (.t 18) (.c (.int .u64 1))⟩, [2]⟩,
                ⟨⟨(some 20), none, .bin .eql (.t 19) (.c (.int .u64 0))⟩, [3]⟩,
                ⟨⟨(some 21), none, .mv (.t 20)⟩, [4]⟩,
                ⟨⟨(some 22), (some (21, false)), .mv (.t 4)⟩, [5]⟩,
                ⟨⟨(some 23), (some (21, false)), .mv (.t 0)⟩, [5]⟩,
                ⟨⟨(some 24), (some (21, false)), .nilck (.t 23)⟩, [7, 5]⟩,
                ⟨⟨(some 25), (some (21, false)), .addr 1 (.t 24)⟩, [8, 5]⟩,
                ⟨⟨(some 26), (some (21, false)), .load none (.t 25)⟩, [9, 5]⟩,
                ⟨⟨(some 27), (some (21, false)), .mv (.t 3)⟩, [5]⟩,
                ⟨⟨(some 28), (some (21, false)), .iaddrS 1 (.t 26) (.t 27)⟩, [10, 11, 5]⟩,
                ⟨⟨(some 29), (some (21, false)), .load none (.t 28)⟩, [12, 5]⟩,
                ⟨⟨(some 30), (some (21, false)), .bin .and (.t 22) (.t 29)⟩, [6, 13, 5]⟩,
                ⟨⟨(some 31), (some (21, false)), .mv (.t 3)⟩, [5]⟩,
                ⟨⟨(some 32), (some (21, false)), .bin .shl (.c (.int .u64 1)) (.t 31)⟩, [15, 5]⟩,
                ⟨⟨(some 33), (some (21, false)), .bin .neq (.t 30) (.t 32)⟩, [14, 16, 5]⟩,
                ⟨⟨(some 34), none, .pick (.t 21) (.c (.bool true)) (.t 33)⟩, [5, 17]⟩] [0, 0, 3, 7, 15, 31, 63, 63, 191, 447, 959, 63, 4031, 8127, 16383, 63, 32831, 131071, 262143])
              (.cond (.t 34)
               (.seq
                (.ops [⟨(some 2), none, .mv (.c (.bool false))⟩])
                (.ret))
               (.skip)))
             (.seq
              (.ops [⟨(some 35), none, .mv (.t 4)⟩,
                ⟨(some 5), none, .mv (.t 35)⟩])
              (.block 2 (.loop (.seq
                 (.seq
                  (.ops [⟨(some 36), none, .mv (.t 5)⟩,
                    ⟨(some 37), none, .bin .neq (.t 36) (.c (.int .u64 0))⟩])
                  (.cond (.t 37)
                   (.skip)
                   (.exit 2)))
                 (.seq
                  (.block 3 (.seq
                    (.draw [⟨⟨(some 42), none, .mv (.t 0)⟩, []⟩,
                      ⟨⟨(some 43), none, .nilck (.t 42)⟩, [0]⟩,
                      ⟨⟨(some 44), none, .addr 0 (.t 43)⟩, [1]⟩,
                      ⟨⟨(some 45), none, .load none (.t 44)⟩, [2]⟩,
                      ⟨⟨(some 46), none, .mv (.t 5)⟩, []⟩,
                      ⟨⟨(some 47), none, .call 55 [(.t 46)]⟩, [4]⟩,
                      ⟨⟨(some 48), none, .iaddrS 1 (.t 45) (.t 47)⟩, [3, 5]⟩,
                      ⟨⟨(some 49), none, .load none (.t 48)⟩, [6]⟩,
                      ⟨⟨(some 50), none, .mv (.t 4)⟩, []⟩,
                      ⟨⟨(some 51), none, .bin .andNot (.t 49) (.t 50)⟩, [7, 8]⟩,
                      ⟨⟨(some 52), none, .bin .neq (.t 51) (.c (.int .u64 0))⟩, [9]⟩] [0, 1, 3, 7, 0, 16, 63, 127, 0, 511, 1023])
                    (.cond (.t 52)
                     (.seq
                      (.ops [⟨(some 2), none, .mv (.c (.bool false))⟩])
                      (.ret))
                     (.skip))))
                  (.ops [⟨(some 38), none, .mv (.t 5)⟩,
                    ⟨(some 39), none, .mv (.t 5)⟩,
                    ⟨(some 40), none, .bin .sub (.t 39) (.c (.int .u64 1))⟩,
                    ⟨(some 41), none, .bin .and (.t 38) (.t 40)⟩,
                    ⟨(some 5), none, .mv (.t 41)⟩])))))))))
          (.ops [⟨(some 53), none, .bin .add (.t 11) (.c (.int .i64 1))⟩,
            ⟨(some 11), none, .mv (.t 53)⟩])))))))
    (.seq
     (.ops [⟨(some 2), none, .mv (.c (.bool true))⟩])
     (.ret)))⟩
theorem ok39 : FnOk Tryd.prog 39 a39 := FnOk.of Tryd.prog Tryd.func39 (by kernel_rfl)
/-- jalousie/lattice.best -/
def a40 : AFn := ⟨25, [.tmp 4], .seq
   (.ops [⟨(some 4), none, .mv (.c (.int .i64 0))⟩])
   (.seq
    (.seq
     (.ops [⟨(some 7), none, .mv (.t 0)⟩,
       ⟨(some 5), none, .mv (.t 7)⟩])
     (.block 0 (.loop (.seq
        (.seq
         (.ops [⟨(some 8), none, .mv (.t 5)⟩,
           ⟨(some 9), none, .bin .neq (.t 8) (.c (.int .u64 0))⟩])
         (.cond (.t 9)
          (.skip)
          (.exit 0)))
        (.seq
         (.block 1 (.seq
           (.ops [⟨(some 14), none, .mv (.t 5)⟩,
             ⟨(some 15), none, .call 55 [(.t 14)]⟩,
             ⟨(some 6), none, .mv (.t 15)⟩])
           (.seq
            (.ops [⟨(some 16), none, .mv (.t 1)⟩,
              ⟨(some 17), none, .mv (.t 6)⟩,
              ⟨(some 18), none, .iaddrS 1 (.t 16) (.t 17)⟩,
              ⟨(some 19), none, .load none (.t 18)⟩,
              ⟨(some 20), none, .mv (.t 0)⟩,
              ⟨(some 21), none, .bin .and (.t 19) (.t 20)⟩,
              ⟨(some 22), none, .mv (.t 0)⟩,
              ⟨(some 23), none, .bin .eql (.t 21) (.t 22)⟩])
            (.cond (.t 23)
             (.seq
              (.ops [⟨(some 24), none, .mv (.t 6)⟩,
                ⟨(some 4), none, .mv (.t 24)⟩])
              (.ret))
             (.skip)))))
         (.ops [⟨(some 10), none, .mv (.t 5)⟩,
           ⟨(some 11), none, .mv (.t 5)⟩,
           ⟨(some 12), none, .bin .sub (.t 11) (.c (.int .u64 1))⟩,
           ⟨(some 13), none, .bin .and (.t 10) (.t 12)⟩,
           ⟨(some 5), none, .mv (.t 13)⟩]))))))
    (.seq
     (.ops [⟨(some 4), none, .mv (.c (.int .i64 (-1)))⟩])
     (.ret)))⟩
theorem ok40 : FnOk Tryd.prog 40 a40 := FnOk.of Tryd.prog Tryd.func40 (by kernel_rfl)
/-- internal/stringslite.HasPrefix -/
def a43 : AFn := ⟨18, [.tmp 4], .seq
   (.ops [⟨(some 4), none, .mv (.c (.bool false))⟩])
   (.seq
    (.ops [⟨(some 5), none, .mv (.t 0)⟩,
      ⟨(some 6), none, .lenS (.t 5)⟩,
      ⟨(some 7), none, .mv (.t 1)⟩,
      ⟨(some 8), none, .lenS (.t 7)⟩,
      ⟨(some 9), none, .bin .geq (.t 6) (.t 8)⟩,
      ⟨(some 10), none, .mv (.t 9)⟩,
      ⟨(some 11), (some (10, true)), .mv (.t 0)⟩,
      ⟨(some 12), (some (10, true)), .mv (.t 1)⟩,
      ⟨(some 13), (some (10, true)), .lenS (.t 12)⟩,
      ⟨(some 14), (some (10, true)), .sliceS (.t 11) none (some (.t 13))⟩,
      ⟨(some 15), (some (10, true)), .mv (.t 1)⟩,
      ⟨(some 16), (some (10, true)), .bin .eql (.t 14) (.t 15)⟩,
      ⟨(some 17), none, .pick (.t 10) (.t 16) (.c (.bool false))⟩,
      ⟨(some 4), none, .mv (.t 17)⟩])
    (.ret))⟩
theorem ok43 : FnOk Tryd.prog 43 a43 := FnOk.of Tryd.prog Tryd.func43 (by kernel_rfl)
/-- strings.explode -/
def a44 : AFn := ⟨50, [.tmp 4], .seq
   (.ops [⟨(some 4), none, .mv (.c .nilslice)⟩])
   (.seq
    (.ops [⟨(some 10), none, .mv (.t 0)⟩,
      ⟨(some 11), none, .call 56 [(.t 10)]⟩,
      ⟨(some 5), none, .mv (.t 11)⟩])
    (.seq
     (.seq
      (.ops [⟨(some 12), none, .mv (.t 1)⟩,
        ⟨(some 13), none, .bin .lss (.t 12) (.c (.int .i64 0))⟩,
        ⟨(some 14), none, .mv (.t 13)⟩,
        ⟨(some 15), (some (14, false)), .mv (.t 1)⟩,
        ⟨(some 16), (some (14, false)), .mv (.t 5)⟩,
        ⟨(some 17), (some (14, false)), .bin .gtr (.t 15) (.t 16)⟩,
        ⟨(some 18), none, .pick (.t 14) (.c (.bool true)) (.t 17)⟩])
      (.cond (.t 18)
       (.ops [⟨(some 19), none, .mv (.t 5)⟩,
         ⟨(some 1), none, .mv (.t 19)⟩])
       (.skip)))
     (.seq
      (.ops [⟨(some 20), none, .mv (.t 1)⟩,
        ⟨(some 21), none, .mksl 9 1 16 [(.str [])] (.t 20) (.t 20)⟩,
        ⟨(some 6), none, .mv (.t 21)⟩])
      (.seq
       (.seq
        (.ops [⟨(some 7), none, .mv (.c (.int .i64 0))⟩])
        (.block 0 (.loop (.seq
           (.seq
            (.ops [⟨(some 22), none, .mv (.t 7)⟩,
              ⟨(some 23), none, .mv (.t 1)⟩,
              ⟨(some 24), none, .bin .sub (.t 23) (.c (.int .i64 1))⟩,
              ⟨(some 25), none, .bin .lss (.t 22) (.t 24)⟩])
            (.cond (.t 25)
             (.skip)
             (.exit 0)))
           (.seq
            (.block 1 (.seq
              (.ops [⟨(some 29), none, .mv (.t 0)⟩,
                ⟨(some 30), none, .call 57 [(.t 29)]⟩,
                ⟨(some 28), none, .mv (.t 30)⟩,
                ⟨(some 31), none, .ext (.t 28) 0⟩,
                ⟨(some 32), none, .ext (.t 28) 1⟩,
                ⟨(some 8), none, .mv (.t 31)⟩,
                ⟨(some 9), none, .mv (.t 32)⟩])
              (.seq
               (.ops [⟨(some 33), none, .mv (.t 6)⟩,
                 ⟨(some 34), none, .mv (.t 7)⟩,
                 ⟨(some 35), none, .mv (.t 0)⟩,
                 ⟨(some 36), none, .mv (.t 9)⟩,
                 ⟨(some 37), none, .sliceS (.t 35) none (some (.t 36))⟩,
                 ⟨(some 38), none, .iaddrS 1 (.t 33) (.t 34)⟩,
                 ⟨none, none, .store 1 (.t 38) (.t 37)⟩])
               (.ops [⟨(some 39), none, .mv (.t 0)⟩,
                 ⟨(some 40), none, .mv (.t 9)⟩,
                 ⟨(some 41), none, .sliceS (.t 39) (some (.t 40)) none⟩,
                 ⟨(some 0), none, .mv (.t 41)⟩]))))
            (.ops [⟨(some 26), none, .mv (.t 7)⟩,
              ⟨(some 27), none, .bin .add (.t 26) (.c (.int .i64 1))⟩,
              ⟨(some 7), none, .mv (.t 27)⟩]))))))
       (.seq
        (.seq
         (.ops [⟨(some 42), none, .mv (.t 1)⟩,
           ⟨(some 43), none, .bin .gtr (.t 42) (.c (.int .i64 0))⟩])
         (.cond (.t 43)
          (.ops [⟨(some 44), none, .mv (.t 6)⟩,
            ⟨(some 45), none, .mv (.t 1)⟩,
            ⟨(some 46), none, .bin .sub (.t 45) (.c (.int .i64 1))⟩,
            ⟨(some 47), none, .mv (.t 0)⟩,
            ⟨(some 48), none, .iaddrS 1 (.t 44) (.t 46)⟩,
            ⟨none, none, .store 1 (.t 48) (.t 47)⟩])
          (.skip)))
        (.seq
         (.ops [⟨(some 49), none, .mv (.t 6)⟩,
           ⟨(some 4), none, .mv (.t 49)⟩])
         (.ret)))))))⟩
theorem ok44 : FnOk Tryd.prog 44 a44 := FnOk.of Tryd.prog Tryd.func44 (by kernel_rfl)
/-- strings.Count -/
def a45 : AFn := ⟨34, [.tmp 4], .seq
   (.ops [⟨(some 4), none, .mv (.c (.int .i64 0))⟩])
   (.seq
    (.seq
     (.ops [⟨(some 7), none, .mv (.t 1)⟩,
       ⟨(some 8), none, .lenS (.t 7)⟩,
       ⟨(some 9), none, .bin .eql (.t 8) (.c (.int .i64 0))⟩])
     (.cond (.t 9)
      (.seq
       (.ops [⟨(some 10), none, .mv (.t 0)⟩,
         ⟨(some 11), none, .call 56 [(.t 10)]⟩,
         ⟨(some 12), none, .bin .add (.t 11) (.c (.int .i64 1))⟩,
         ⟨(some 4), none, .mv (.t 12)⟩])
       (.ret))
      (.skip)))
    (.seq
     (.seq
      (.ops [⟨(some 13), none, .mv (.t 1)⟩,
        ⟨(some 14), none, .lenS (.t 13)⟩,
        ⟨(some 15), none, .bin .eql (.t 14) (.c (.int .i64 1))⟩])
      (.cond (.t 15)
       (.seq
        (.ops [⟨(some 16), none, .mv (.t 0)⟩,
          ⟨(some 17), none, .mv (.t 1)⟩,
          ⟨(some 18), none, .idxS (.t 17) (.c (.int .i64 0))⟩,
          ⟨(some 19), none, .bad⟩,
          ⟨(some 4), none, .mv (.t 19)⟩])
        (.ret))
       (.skip)))
     (.seq
      (.ops [⟨(some 5), none, .mv (.c (.int .i64 0))⟩])
      (.block 0 (.loop (.block 1 (.seq
          (.ops [⟨(some 20), none, .mv (.t 0)⟩,
            ⟨(some 21), none, .mv (.t 1)⟩,
            ⟨(some 22), none, .call 46 [(.t 20), (.t 21)]⟩,
            ⟨(some 6), none, .mv (.t 22)⟩])
          (.seq
           (.seq
            (.ops [⟨(some 23), none, .mv (.t 6)⟩,
              ⟨(some 24), none, .bin .eql (.t 23) (.c (.int .i64 (-1)))⟩])
            (.cond (.t 24)
             (.seq
              (.ops [⟨(some 25), none, .mv (.t 5)⟩,
                ⟨(some 4), none, .mv (.t 25)⟩])
              (.ret))
             (.skip)))
           (.seq
            (.ops [⟨(some 26), none, .mv (.t 5)⟩,
              ⟨(some 27), none, .bin .add (.t 26) (.c (.int .i64 1))⟩,
              ⟨(some 5), none, .mv (.t 27)⟩])
            (.ops [⟨(some 28), none, .mv (.t 0)⟩,
              ⟨(some 29), none, .mv (.t 6)⟩,
              ⟨(some 30), none, .mv (.t 1)⟩,
              ⟨(some 31), none, .lenS (.t 30)⟩,
              ⟨(some 32), none, .bin .add (.t 29) (.t 31)⟩,
              ⟨(some 33), none, .sliceS (.t 28) (some (.t 32)) none⟩,
              ⟨(some 0), none, .mv (.t 33)⟩]))))))))))⟩
theorem ok45 : FnOk Tryd.prog 45 a45 := FnOk.of Tryd.prog Tryd.func45 (by kernel_rfl)
/-- strings.Index -/
def a46 : AFn := ⟨8, [.tmp 4], .seq
   (.ops [⟨(some 4), none, .mv (.c (.int .i64 0))⟩])
   (.seq
    (.ops [⟨(some 5), none, .mv (.t 0)⟩,
      ⟨(some 6), none, .mv (.t 1)⟩,
      ⟨(some 7), none, .call 59 [(.t 5), (.t 6)]⟩,
      ⟨(some 4), none, .mv (.t 7)⟩])
    (.ret))⟩
theorem ok46 : FnOk Tryd.prog 46 a46 := FnOk.of Tryd.prog Tryd.func46 (by kernel_rfl)
/-- internal/strconv.ParseInt -/
def a47 : AFn := ⟨73, [.tmp 6, .tmp 7], .seq
   (.ops [⟨(some 6), none, .mv (.c (.int .i64 0))⟩,
     ⟨(some 7), none, .mv (.c .niface)⟩])
   (.seq
    (.seq
     (.ops [⟨(some 12), none, .mv (.t 0)⟩,
       ⟨(some 13), none, .bin .eql (.t 12) (.c (.str []))⟩])
     (.cond (.t 13)
      (.seq
       (.ops [⟨(some 14), none, .bad⟩,
         ⟨(some 6), none, .mv (.c (.int .i64 0))⟩,
         ⟨(some 7), none, .mv (.t 14)⟩])
       (.ret))
      (.skip)))
    (.seq
     (.ops [⟨(some 8), none, .mv (.c (.bool false))⟩])
     (.seq
      (.seq
       (.ops [⟨(some 15), none, .mv (.t 0)⟩,
         ⟨(some 16), none, .idxS (.t 15) (.c (.int .i64 0))⟩])
       (.block 0 (.seq
         (.ops [⟨(some 18), none, .bin .eql (.t 16) (.c (.int .u8 43))⟩,
           ⟨(some 17), none, .mv (.t 18)⟩])
         (.cond (.t 17)
          (.ops [⟨(some 19), none, .mv (.t 0)⟩,
            ⟨(some 20), none, .sliceS (.t 19) (some (.c (.int .i64 1))) none⟩,
            ⟨(some 0), none, .mv (.t 20)⟩])
          (.seq
           (.ops [⟨(some 22), none, .bin .eql (.t 16) (.c (.int .u8 45))⟩,
             ⟨(some 21), none, .mv (.t 22)⟩])
           (.cond (.t 21)
            (.seq
             (.ops [⟨(some 23), none, .mv (.t 0)⟩,
               ⟨(some 24), none, .sliceS (.t 23) (some (.c (.int .i64 1))) none⟩,
               ⟨(some 0), none, .mv (.t 24)⟩])
             (.ops [⟨(some 8), none, .mv (.c (.bool true))⟩]))
            (.skip)))))))
      (.seq
       (.ops [⟨(some 9), none, .mv (.c (.int .u64 0))⟩])
       (.seq
        (.ops [⟨(some 26), none, .mv (.t 0)⟩,
          ⟨(some 27), none, .mv (.t 1)⟩,
          ⟨(some 28), none, .mv (.t 2)⟩,
          ⟨(some 29), none, .call 60 [(.t 26), (.t 27), (.t 28)]⟩,
          ⟨(some 25), none, .mv (.t 29)⟩,
          ⟨(some 30), none, .ext (.t 25) 0⟩,
          ⟨(some 31), none, .ext (.t 25) 1⟩,
          ⟨(some 9), none, .mv (.t 30)⟩,
          ⟨(some 7), none, .mv (.t 31)⟩])
        (.seq
         (.seq
          (.ops [⟨(some 32), none, .mv (.t 7)⟩,
            ⟨(some 33), none, .eq true 55 (.interface #[("Error", 80)]) (.t 32) (.c .niface)⟩,
            ⟨(some 34), none, .mv (.t 33)⟩,
            ⟨(some 35), (some (34, true)), .mv (.t 7)⟩,
            ⟨(some 36), (some (34, true)), .bad⟩,
            ⟨(some 37), (some (34, true)), .eq true 55 (.interface #[("Error", 80)]) (.t 35) (.t 36)⟩,
            ⟨(some 38), none, .pick (.t 34) (.t 37) (.c (.bool false))⟩])
          (.cond (.t 38)
           (.seq
            (.ops [⟨(some 39), none, .mv (.t 7)⟩,
              ⟨(some 6), none, .mv (.c (.int .i64 0))⟩,
              ⟨(some 7), none, .mv (.t 39)⟩])
            (.ret))
           (.skip)))
         (.seq
          (.seq
           (.ops [⟨(some 40), none, .mv (.t 2)⟩,
             ⟨(some 41), none, .bin .eql (.t 40) (.c (.int .i64 0))⟩])
           (.cond (.t 41)
            (.ops [⟨(some 2), none, .mv (.c (.int .i64 64))⟩])
            (.skip)))
          (.seq
           (.ops [⟨(some 42), none, .mv (.t 2)⟩,
             ⟨(some 43), none, .bin .sub (.t 42) (.c (.int .i64 1))⟩,
             ⟨(some 44), none, .convI .u64 (.t 43)⟩,
             ⟨(some 45), none, .bin .shl (.c (.int .u64 1)) (.t 44)⟩,
             ⟨(some 10), none, .mv (.t 45)⟩])
           (.seq
            (.seq
             (.ops [⟨(some 46), none, .mv (.t 8)⟩,
               ⟨(some 47), none, .un .not (.t 46)⟩,
               ⟨(some 48), none, .mv (.t 47)⟩,
               ⟨(some 49), (some (48, true)), .mv (.t 9)⟩,
               ⟨(some 50), (some (48, true)), .mv (.t 10)⟩,
               ⟨(some 51), (some (48, true)), .bin .geq (.t 49) (.t 50)⟩,
               ⟨(some 52), none, .pick (.t 48) (.t 51) (.c (.bool false))⟩])
             (.cond (.t 52)
              (.seq
               (.ops [⟨(some 53), none, .mv (.t 10)⟩,
                 ⟨(some 54), none, .bin .sub (.t 53) (.c (.int .u64 1))⟩,
                 ⟨(some 55), none, .convI .i64 (.t 54)⟩,
                 ⟨(some 56), none, .bad⟩,
                 ⟨(some 6), none, .mv (.t 55)⟩,
                 ⟨(some 7), none, .mv (.t 56)⟩])
               (.ret))
              (.skip)))
            (.seq
             (.seq
              (.ops [⟨(some 57), none, .mv (.t 8)⟩,
                ⟨(some 58), none, .mv (.t 57)⟩,
                ⟨(some 59), (some (58, true)), .mv (.t 9)⟩,
                ⟨(some 60), (some (58, true)), .mv (.t 10)⟩,
                ⟨(some 61), (some (58, true)), .bin .gtr (.t 59) (.t 60)⟩,
                ⟨(some 62), none, .pick (.t 58) (.t 61) (.c (.bool false))⟩])
              (.cond (.t 62)
               (.seq
                (.ops [⟨(some 63), none, .mv (.t 10)⟩,
                  ⟨(some 64), none, .convI .i64 (.t 63)⟩,
                  ⟨(some 65), none, .un .neg (.t 64)⟩,
                  ⟨(some 66), none, .bad⟩,
                  ⟨(some 6), none, .mv (.t 65)⟩,
                  ⟨(some 7), none, .mv (.t 66)⟩])
                (.ret))
               (.skip)))
             (.seq
              (.ops [⟨(some 67), none, .mv (.t 9)⟩,
                ⟨(some 68), none, .convI .i64 (.t 67)⟩,
                ⟨(some 11), none, .mv (.t 68)⟩])
              (.seq
               (.seq
                (.ops [⟨(some 69), none, .mv (.t 8)⟩])
                (.cond (.t 69)
                 (.ops [⟨(some 70), none, .mv (.t 11)⟩,
                   ⟨(some 71), none, .un .neg (.t 70)⟩,
                   ⟨(some 11), none, .mv (.t 71)⟩])
                 (.skip)))
               (.seq
                (.ops [⟨(some 72), none, .mv (.t 11)⟩,
                  ⟨(some 6), none, .mv (.t 72)⟩,
                  ⟨(some 7), none, .mv (.c .niface)⟩])
                (.ret))))))))))))))⟩
theorem ok47 : FnOk Tryd.prog 47 a47 := FnOk.of Tryd.prog Tryd.func47 (by kernel_rfl)
/-- strconv.syntaxError -/
def a48 : AFn := ⟨11, [.tmp 4], .seq
   (.ops [⟨(some 4), none, .mv (.c .nilptr)⟩])
   (.seq
    (.draw [⟨⟨(some 5), none, .mv (.t 0)⟩, []⟩,
      ⟨⟨(some 6), none, .mv (.t 1)⟩, []⟩,
      ⟨⟨(some 7), none, .call 61 [(.t 6)]⟩, [1]⟩,
      ⟨⟨(some 8), none, .load none (.c (.ptr (.ro 0) 0))⟩, []⟩,
      ⟨⟨(some 9), none, .build [(.str []), (.str []), .niface] [(0, 1), (1, 1), (2, 1)] [(0, (.t 5)), (1, (.t 7)), (2, (.t 8))]⟩, [0, 2, 3]⟩,
      ⟨⟨(some 10), none, .box 122 (.t 9)⟩, [4]⟩,
      ⟨⟨(some 4), none, .mv (.t 10)⟩, [5, 2, 0, 1, 2, 3, 4, 5]⟩] [0, 0, 2, 0, 15, 31, 63])
    (.ret))⟩
theorem ok48 : FnOk Tryd.prog 48 a48 := FnOk.of Tryd.prog Tryd.func48 (by kernel_rfl)
/-- strconv.rangeError -/
def a49 : AFn := ⟨11, [.tmp 4], .seq
   (.ops [⟨(some 4), none, .mv (.c .nilptr)⟩])
   (.seq
    (.draw [⟨⟨(some 5), none, .mv (.t 0)⟩, []⟩,
      ⟨⟨(some 6), none, .mv (.t 1)⟩, []⟩,
      ⟨⟨(some 7), none, .call 61 [(.t 6)]⟩, [1]⟩,
      ⟨⟨(some 8), none, .load none (.c (.ptr (.ro 1) 0))⟩, []⟩,
      ⟨⟨(some 9), none, .build [(.str []), (.str []), .niface] [(0, 1), (1, 1), (2, 1)] [(0, (.t 5)), (1, (.t 7)), (2, (.t 8))]⟩, [0, 2, 3]⟩,
      ⟨⟨(some 10), none, .box 122 (.t 9)⟩, [4]⟩,
      ⟨⟨(some 4), none, .mv (.t 10)⟩, [5, 2, 0, 1, 2, 3, 4, 5]⟩] [0, 0, 2, 0, 15, 31, 63])
    (.ret))⟩
theorem ok49 : FnOk Tryd.prog 49 a49 := FnOk.of Tryd.prog Tryd.func49 (by kernel_rfl)
/-- strconv.baseError -/
def a50 : AFn := ⟨16, [.tmp 6], .seq
   (.ops [⟨(some 6), none, .mv (.c .nilptr)⟩])
   (.seq
    (.ops [⟨(some 7), none, .mv (.t 0)⟩,
      ⟨(some 8), none, .mv (.t 1)⟩,
      ⟨(some 9), none, .call 61 [(.t 8)]⟩,
      ⟨(some 10), none, .mv (.t 2)⟩,
      ⟨(some 11), none, .call 21 [(.t 10)]⟩,
      ⟨(some 12), none, .bin .add (.c (.str [105, 110, 118, 97, 108, 105, 100, 32, 98, 97, 115, 101, 32])) (.t 11)⟩,
      ⟨(some 13), none, .call 62 [(.t 12)]⟩,
      ⟨(some 14), none, .build [(.str []), (.str []), .niface] [(0, 1), (1, 1), (2, 1)] [(0, (.t 7)), (1, (.t 9)), (2, (.t 13))]⟩,
      ⟨(some 15), none, .box 122 (.t 14)⟩,
      ⟨(some 6), none, .mv (.t 15)⟩])
    (.ret))⟩
theorem ok50 : FnOk Tryd.prog 50 a50 := FnOk.of Tryd.prog Tryd.func50 (by kernel_rfl)
/-- strconv.bitSizeError -/
def a51 : AFn := ⟨16, [.tmp 6], .seq
   (.ops [⟨(some 6), none, .mv (.c .nilptr)⟩])
   (.seq
    (.ops [⟨(some 7), none, .mv (.t 0)⟩,
      ⟨(some 8), none, .mv (.t 1)⟩,
      ⟨(some 9), none, .call 61 [(.t 8)]⟩,
      ⟨(some 10), none, .mv (.t 2)⟩,
      ⟨(some 11), none, .call 21 [(.t 10)]⟩,
      ⟨(some 12), none, .bin .add (.c (.str [105, 110, 118, 97, 108, 105, 100, 32, 98, 105, 116, 32, 115, 105, 122, 101, 32])) (.t 11)⟩,
      ⟨(some 13), none, .call 62 [(.t 12)]⟩,
      ⟨(some 14), none, .build [(.str []), (.str []), .niface] [(0, 1), (1, 1), (2, 1)] [(0, (.t 7)), (1, (.t 9)), (2, (.t 13))]⟩,
      ⟨(some 15), none, .box 122 (.t 14)⟩,
      ⟨(some 6), none, .mv (.t 15)⟩])
    (.ret))⟩
theorem ok51 : FnOk Tryd.prog 51 a51 := FnOk.of Tryd.prog Tryd.func51 (by kernel_rfl)
/-- internal/strconv.FormatInt -/
def a52 : AFn := ⟨54, [.tmp 4], .seq
   (.ops [⟨(some 4), none, .mv (.c (.str []))⟩])
   (.seq
    (.seq
     (.ops [⟨(some 10), none, .mv (.t 1)⟩,
       ⟨(some 11), none, .bin .eql (.t 10) (.c (.int .i64 10))⟩])
     (.cond (.t 11)
      (.seq
       (.seq
        (.ops [⟨(some 12), none, .mv (.t 0)⟩,
          ⟨(some 13), none, .bin .leq (.c (.int .i64 0)) (.t 12)⟩,
          ⟨(some 14), none, .mv (.t 13)⟩,
          ⟨(some 15), (some (14, true)), .mv (.t 0)⟩,
          ⟨(some 16), (some (14, true)), .bin .lss (.t 15) (.c (.int .i64 100))⟩,
          ⟨(some 17), none, .pick (.t 14) (.t 16) (.c (.bool false))⟩])
        (.cond (.t 17)
         (.seq
          (.ops [⟨(some 18), none, .mv (.t 0)⟩,
            ⟨(some 19), none, .call 63 [(.t 18)]⟩,
            ⟨(some 4), none, .mv (.t 19)⟩])
          (.ret))
         (.skip)))
       (.seq
        (.ops [⟨(some 5), none, .alloc 124 [(.int .u8 0), (.int .u8 0), (.int .u8 0), (.int .u8 0), (.int .u8 0), (.int .u8 0), (.int .u8 0), (.int .u8 0), (.int .u8 0), (.int .u8 0), (.int .u8 0), (.int .u8 0), (.int .u8 0), (.int .u8 0), (.int .u8 0), (.int .u8 0), (.int .u8 0), (.int .u8 0), (.int .u8 0), (.int .u8 0), (.int .u8 0), (.int .u8 0), (.int .u8 0), (.int .u8 0)]⟩])
        (.seq
         (.ops [⟨(some 20), none, .mv (.t 0)⟩,
           ⟨(some 21), none, .convI .u64 (.t 20)⟩,
           ⟨(some 6), none, .mv (.t 21)⟩])
         (.seq
          (.seq
           (.ops [⟨(some 22), none, .mv (.t 0)⟩,
             ⟨(some 23), none, .bin .lss (.t 22) (.c (.int .i64 0))⟩])
           (.cond (.t 23)
            (.ops [⟨(some 24), none, .mv (.t 6)⟩,
              ⟨(some 25), none, .un .neg (.t 24)⟩,
              ⟨(some 6), none, .mv (.t 25)⟩])
            (.skip)))
          (.seq
           (.ops [⟨(some 26), none, .mv (.t 6)⟩,
             ⟨(some 27), none, .call 64 [(.t 26)]⟩,
             ⟨(some 7), none, .mv (.t 27)⟩])
           (.seq
            (.ops [⟨(some 28), none, .mv (.t 7)⟩,
              ⟨(some 29), none, .bin .add (.c (.int .i64 1)) (.t 28)⟩,
              ⟨(some 30), none, .sliceA 24 1 (.t 5) (some (.c (.int .i64 1))) (some (.t 29))⟩,
              ⟨(some 31), none, .mv (.t 6)⟩,
              ⟨(some 32), none, .call 65 [(.t 30), (.t 31)]⟩])
            (.seq
             (.seq
              (.ops [⟨(some 33), none, .mv (.t 0)⟩,
                ⟨(some 34), none, .bin .lss (.t 33) (.c (.int .i64 0))⟩])
              (.cond (.t 34)
               (.seq
                (.ops [⟨(some 35), none, .iaddrA 24 1 (.t 5) (.c (.int .i64 0))⟩,
                  ⟨none, none, .store 1 (.t 35) (.c (.int .u8 45))⟩])
                (.seq
                 (.ops [⟨(some 36), none, .mv (.t 7)⟩,
                   ⟨(some 37), none, .bin .add (.c (.int .i64 1)) (.t 36)⟩,
                   ⟨(some 38), none, .sliceA 24 1 (.t 5) none (some (.t 37))⟩,
                   ⟨(some 39), none, .strOf (.t 38)⟩,
                   ⟨(some 4), none, .mv (.t 39)⟩])
                 (.ret)))
               (.skip)))
             (.seq
              (.ops [⟨(some 40), none, .mv (.t 7)⟩,
                ⟨(some 41), none, .bin .add (.c (.int .i64 1)) (.t 40)⟩,
                ⟨(some 42), none, .sliceA 24 1 (.t 5) (some (.c (.int .i64 1))) (some (.t 41))⟩,
                ⟨(some 43), none, .strOf (.t 42)⟩,
                ⟨(some 4), none, .mv (.t 43)⟩])
              (.ret)))))))))
      (.skip)))
    (.seq
     (.ops [⟨(some 45), none, .mv (.t 0)⟩,
       ⟨(some 46), none, .convI .u64 (.t 45)⟩,
       ⟨(some 47), none, .mv (.t 1)⟩,
       ⟨(some 48), none, .mv (.t 0)⟩,
       ⟨(some 49), none, .bin .lss (.t 48) (.c (.int .i64 0))⟩,
       ⟨(some 50), none, .call 66 [(.c .nilslice), (.t 46), (.t 47), (.t 49), (.c (.bool false))]⟩,
       ⟨(some 44), none, .mv (.t 50)⟩,
       ⟨(some 51), none, .ext (.t 44) 0⟩,
       ⟨(some 52), none, .ext (.t 44) 1⟩,
       ⟨(some 8), none, .mv (.t 51)⟩,
       ⟨(some 9), none, .mv (.t 52)⟩])
     (.seq
      (.ops [⟨(some 53), none, .mv (.t 9)⟩,
        ⟨(some 4), none, .mv (.t 53)⟩])
      (.ret))))⟩
theorem ok52 : FnOk Tryd.prog 52 a52 := FnOk.of Tryd.prog Tryd.func52 (by kernel_rfl)
/-- (*strings.Builder).copyCheck -/
def a53 : AFn := ⟨20, [], .seq
   (.ops [⟨(some 2), none, .mv (.t 0)⟩,
     ⟨(some 3), none, .nilck (.t 2)⟩,
     ⟨(some 4), none, .addr 0 (.t 3)⟩,
     ⟨(some 5), none, .load none (.t 4)⟩,
     ⟨(some 6), none, .eq false 75 (.pointer 78) (.t 5) (.c .nilptr)⟩])
   (.cond (.t 6)
    (.ops [⟨(some 7), none, .mv (.t 0)⟩,
      ⟨(some 8), none, .mv (.t 0)⟩,
      ⟨(some 9), none, .toUnsafe (.t 8)⟩,
      ⟨(some 10), none, .bad⟩,
      ⟨(some 11), none, .bad⟩,
      ⟨(some 12), none, .nilck (.t 7)⟩,
      ⟨(some 13), none, .addr 0 (.t 12)⟩,
      ⟨none, none, .store 1 (.t 13) (.t 11)⟩])
    (.seq
     (.ops [⟨(some 14), none, .mv (.t 0)⟩,
       ⟨(some 15), none, .nilck (.t 14)⟩,
       ⟨(some 16), none, .addr 0 (.t 15)⟩,
       ⟨(some 17), none, .load none (.t 16)⟩,
       ⟨(some 18), none, .mv (.t 0)⟩,
       ⟨(some 19), none, .eq true 75 (.pointer 78) (.t 17) (.t 18)⟩])
     (.cond (.t 19)
      (.bad)
      (.skip))))⟩
theorem ok53 : FnOk Tryd.prog 53 a53 := FnOk.of Tryd.prog Tryd.func53 (by kernel_rfl)
/-- (*strings.Builder).grow -/
def a54 : AFn := ⟨30, [], .seq
   (.draw [⟨⟨(some 5), none, .mv (.t 0)⟩, []⟩,
     ⟨⟨(some 6), none, .nilck (.t 5)⟩, [0]⟩,
     ⟨⟨(some 7), none, .addr 1 (.t 6)⟩, [1]⟩,
     ⟨⟨(some 8), none, .load none (.t 7)⟩, [2]⟩,
     ⟨⟨(some 9), none, .cap (.t 8)⟩, [3]⟩,
     ⟨⟨(some 10), none, .bin .mul (.c (.int .i64 2)) (.t 9)⟩, [4]⟩,
     ⟨⟨(some 11), none, .mv (.t 1)⟩, []⟩,
     ⟨⟨(some 12), none, .bin .add (.t 10) (.t 11)⟩, [5, 6]⟩,
     ⟨⟨(some 13), none, .bad⟩, [7]⟩,
     ⟨⟨(some 14), none, .mv (.t 0)⟩, []⟩,
     ⟨⟨(some 15), none, .nilck (.t 14)⟩, [9]⟩,
     ⟨⟨(some 16), none, .addr 1 (.t 15)⟩, [10]⟩,
     ⟨⟨(some 17), none, .load none (.t 16)⟩, [11]⟩,
     ⟨⟨(some 18), none, .lenL (.t 17)⟩, [12]⟩,
     ⟨⟨(some 19), none, .slice 1 (.t 13) none (some (.t 18)) none⟩, [8, 13]⟩,
     ⟨⟨(some 4), none, .mv (.t 19)⟩, [14, 8, 0, 1, 2, 3, 4, 5, 6, 7, 8, 9, 10, 11, 12, 13, 14]⟩] [0, 1, 3, 7, 15, 31, 0, 127, 255, 0, 512, 1536, 3584, 7680, 16383, 32767])
   (.seq
    (.ops [⟨(some 20), none, .mv (.t 4)⟩,
      ⟨(some 21), none, .mv (.t 0)⟩,
      ⟨(some 22), none, .nilck (.t 21)⟩,
      ⟨(some 23), none, .addr 1 (.t 22)⟩,
      ⟨(some 24), none, .load none (.t 23)⟩,
      ⟨(some 25), none, .copy 1 (.t 20) (.t 24)⟩])
    (.ops [⟨(some 26), none, .mv (.t 0)⟩,
      ⟨(some 27), none, .mv (.t 4)⟩,
      ⟨(some 28), none, .nilck (.t 26)⟩,
      ⟨(some 29), none, .addr 1 (.t 28)⟩,
      ⟨none, none, .store 1 (.t 29) (.t 27)⟩]))⟩
theorem ok54 : FnOk Tryd.prog 54 a54 := FnOk.of Tryd.prog Tryd.func54 (by kernel_rfl)
/-- math/bits.TrailingZeros64 -/
def a55 : AFn := ⟨14, [.tmp 2], .seq
   (.ops [⟨(some 2), none, .mv (.c (.int .i64 0))⟩])
   (.seq
    (.seq
     (.ops [⟨(some 3), none, .mv (.t 0)⟩,
       ⟨(some 4), none, .bin .eql (.t 3) (.c (.int .u64 0))⟩])
     (.cond (.t 4)
      (.seq
       (.ops [⟨(some 2), none, .mv (.c (.int .i64 64))⟩])
       (.ret))
      (.skip)))
    (.seq
     (.ops [⟨(some 5), none, .mv (.t 0)⟩,
       ⟨(some 6), none, .mv (.t 0)⟩,
       ⟨(some 7), none, .un .neg (.t 6)⟩,
       ⟨(some 8), none, .bin .and (.t 5) (.t 7)⟩,
       ⟨(some 9), none, .bin .mul (.t 8) (.c (.int .u64 285870213051353865))⟩,
       ⟨(some 10), none, .bin .shr (.t 9) (.c (.int .u64 58))⟩,
       ⟨(some 11), none, .iaddrA 64 1 (.c (.ptr (.ro 2) 0)) (.t 10)⟩,
       ⟨(some 12), none, .load none (.t 11)⟩,
       ⟨(some 13), none, .convI .i64 (.t 12)⟩,
       ⟨(some 2), none, .mv (.t 13)⟩])
     (.ret)))⟩
theorem ok55 : FnOk Tryd.prog 55 a55 := FnOk.of Tryd.prog Tryd.func55 (by kernel_rfl)
/-- unicode/utf8.RuneCountInString -/
def a56 : AFn := ⟨10, [.tmp 2], .seq
   (.ops [⟨(some 2), none, .mv (.c (.int .i64 0))⟩])
   (.seq
    (.seq
     (.ops [⟨(some 3), none, .mv (.t 0)⟩,
       ⟨(some 4), none, .rangeS (.t 3)⟩])
     (.block 0 (.loop (.seq
        (.ops [⟨(some 5), none, .nextS (.t 4)⟩,
          ⟨(some 6), none, .ext (.t 5) 0⟩])
        (.seq
         (.cond (.t 6)
          (.skip)
          (.exit 0))
         (.block 1 (.ops [⟨(some 7), none, .mv (.t 2)⟩,
            ⟨(some 8), none, .bin .add (.t 7) (.c (.int .i64 1))⟩,
            ⟨(some 2), none, .mv (.t 8)⟩])))))))
    (.seq
     (.ops [⟨(some 9), none, .mv (.t 2)⟩,
       ⟨(some 2), none, .mv (.t 9)⟩])
     (.ret)))⟩
theorem ok56 : FnOk Tryd.prog 56 a56 := FnOk.of Tryd.prog Tryd.func56 (by kernel_rfl)
/-- unicode/utf8.DecodeRuneInString -/
def a57 : AFn := ⟨19, [.tmp 2, .tmp 3], .seq
   (.ops [⟨(some 2), none, .mv (.c (.int .i32 0))⟩,
     ⟨(some 3), none, .mv (.c (.int .i64 0))⟩])
   (.seq
    (.seq
     (.ops [⟨(some 4), none, .mv (.t 0)⟩,
       ⟨(some 5), none, .bin .neq (.t 4) (.c (.str []))⟩,
       ⟨(some 6), none, .mv (.t 5)⟩,
       ⟨(some 7), (some (6, true)), .mv (.t 0)⟩,
       ⟨(some 8), (some (6, true)), .idxS (.t 7) (.c (.int .i64 0))⟩,
       ⟨(some 9), (some (6, true)), .bin .lss (.t 8) (.c (.int .u8 128))⟩,
       ⟨(some 10), none, .pick (.t 6) (.t 9) (.c (.bool false))⟩])
     (.cond (.t 10)
      (.seq
       (.ops [⟨(some 11), none, .mv (.t 0)⟩,
         ⟨(some 12), none, .idxS (.t 11) (.c (.int .i64 0))⟩,
         ⟨(some 13), none, .convI .i32 (.t 12)⟩,
         ⟨(some 2), none, .mv (.t 13)⟩,
         ⟨(some 3), none, .mv (.c (.int .i64 1))⟩])
       (.ret))
      (.ops [⟨(some 15), none, .mv (.t 0)⟩,
        ⟨(some 16), none, .call 69 [(.t 15)]⟩,
        ⟨(some 14), none, .mv (.t 16)⟩,
        ⟨(some 17), none, .ext (.t 14) 0⟩,
        ⟨(some 18), none, .ext (.t 14) 1⟩,
        ⟨(some 2), none, .mv (.t 17)⟩,
        ⟨(some 3), none, .mv (.t 18)⟩])))
    (.ret))⟩
theorem ok57 : FnOk Tryd.prog 57 a57 := FnOk.of Tryd.prog Tryd.func57 (by kernel_rfl)
/-- internal/stringslite.Index -/
def a59 : AFn := ⟨143, [.tmp 4], .seq
   (.ops [⟨(some 4), none, .mv (.c (.int .i64 0))⟩])
   (.seq
    (.ops [⟨(some 14), none, .mv (.t 1)⟩,
      ⟨(some 15), none, .lenS (.t 14)⟩,
      ⟨(some 5), none, .mv (.t 15)⟩])
    (.seq
     (.block 0 (.seq
       (.ops [⟨(some 17), none, .mv (.t 5)⟩,
         ⟨(some 18), none, .bin .eql (.t 17) (.c (.int .i64 0))⟩,
         ⟨(some 19), none, .mv (.t 18)⟩,
         ⟨(some 20), (some (19, false)), .mv (.t 1)⟩,
         ⟨(some 21), (some (19, false)), .mv (.t 0)⟩,
         ⟨(some 22), (some (19, false)), .bin .eql (.t 20) (.t 21)⟩,
         ⟨(some 23), none, .pick (.t 19) (.c (.bool true)) (.t 22)⟩,
         ⟨(some 16), none, .mv (.t 23)⟩])
       (.cond (.t 16)
        (.seq
         (.ops [⟨(some 4), none, .mv (.c (.int .i64 0))⟩])
         (.ret))
        (.seq
         (.ops [⟨(some 25), none, .mv (.t 5)⟩,
           ⟨(some 26), none, .bin .eql (.t 25) (.c (.int .i64 1))⟩,
           ⟨(some 24), none, .mv (.t 26)⟩])
         (.cond (.t 24)
          (.seq
           (.ops [⟨(some 27), none, .mv (.t 0)⟩,
             ⟨(some 28), none, .mv (.t 1)⟩,
             ⟨(some 29), none, .idxS (.t 28) (.c (.int .i64 0))⟩,
             ⟨(some 30), none, .call 70 [(.t 27), (.t 29)]⟩,
             ⟨(some 4), none, .mv (.t 30)⟩])
           (.ret))
          (.seq
           (.ops [⟨(some 32), none, .mv (.t 5)⟩,
             ⟨(some 33), none, .mv (.t 0)⟩,
             ⟨(some 34), none, .lenS (.t 33)⟩,
             ⟨(some 35), none, .bin .geq (.t 32) (.t 34)⟩,
             ⟨(some 31), none, .mv (.t 35)⟩])
           (.cond (.t 31)
            (.seq
             (.ops [⟨(some 4), none, .mv (.c (.int .i64 (-1)))⟩])
             (.ret))
            (.seq
             (.ops [⟨(some 37), none, .mv (.t 5)⟩,
               ⟨(some 38), none, .load none (.c (.ptr (.ro 3) 0))⟩,
               ⟨(some 39), none, .bin .leq (.t 37) (.t 38)⟩,
               ⟨(some 40), none, .mv (.t 39)⟩,
               ⟨(some 41), (some (40, true)), .mv (.t 0)⟩,
               ⟨(some 42), (some (40, true)), .lenS (.t 41)⟩,
               ⟨(some 43), (some (40, true)), .bin .leq (.t 42) (.c (.int .i64 64))⟩,
               ⟨(some 44), none, .pick (.t 40) (.t 43) (.c (.bool false))⟩,
               ⟨(some 36), none, .mv (.t 44)⟩])
             (.cond (.t 36)
              (.seq
               (.ops [⟨(some 45), none, .mv (.t 0)⟩,
                 ⟨(some 46), none, .mv (.t 1)⟩,
                 ⟨(some 47), none, .bad⟩,
                 ⟨(some 4), none, .mv (.t 47)⟩])
               (.ret))
              (.skip))))))))))
     (.seq
      (.ops [⟨(some 48), none, .mv (.t 1)⟩,
        ⟨(some 49), none, .idxS (.t 48) (.c (.int .i64 0))⟩,
        ⟨(some 6), none, .mv (.t 49)⟩])
      (.seq
       (.ops [⟨(some 50), none, .mv (.t 1)⟩,
         ⟨(some 51), none, .idxS (.t 50) (.c (.int .i64 1))⟩,
         ⟨(some 7), none, .mv (.t 51)⟩])
       (.seq
        (.ops [⟨(some 8), none, .mv (.c (.int .i64 0))⟩])
        (.seq
         (.ops [⟨(some 52), none, .mv (.t 0)⟩,
           ⟨(some 53), none, .lenS (.t 52)⟩,
           ⟨(some 54), none, .mv (.t 5)⟩,
           ⟨(some 55), none, .bin .sub (.t 53) (.t 54)⟩,
           ⟨(some 56), none, .bin .add (.t 55) (.c (.int .i64 1))⟩,
           ⟨(some 9), none, .mv (.t 56)⟩])
         (.seq
          (.ops [⟨(some 10), none, .mv (.c (.int .i64 0))⟩])
          (.seq
           (.block 1 (.loop (.seq
              (.seq
               (.ops [⟨(some 57), none, .mv (.t 8)⟩,
                 ⟨(some 58), none, .mv (.t 9)⟩,
                 ⟨(some 59), none, .bin .lss (.t 57) (.t 58)⟩])
               (.cond (.t 59)
                (.skip)
                (.exit 1)))
              (.block 2 (.seq
                (.seq
                 (.ops [⟨(some 60), none, .mv (.t 0)⟩,
                   ⟨(some 61), none, .mv (.t 8)⟩,
                   ⟨(some 62), none, .idxS (.t 60) (.t 61)⟩,
                   ⟨(some 63), none, .mv (.t 6)⟩,
                   ⟨(some 64), none, .bin .neq (.t 62) (.t 63)⟩])
                 (.cond (.t 64)
                  (.seq
                   (.ops [⟨(some 65), none, .mv (.t 0)⟩,
                     ⟨(some 66), none, .mv (.t 8)⟩,
                     ⟨(some 67), none, .bin .add (.t 66) (.c (.int .i64 1))⟩,
                     ⟨(some 68), none, .mv (.t 9)⟩,
                     ⟨(some 69), none, .sliceS (.t 65) (some (.t 67)) (some (.t 68))⟩,
                     ⟨(some 70), none, .mv (.t 6)⟩,
                     ⟨(some 71), none, .call 70 [(.t 69), (.t 70)]⟩,
                     ⟨(some 11), none, .mv (.t 71)⟩])
                   (.seq
                    (.seq
                     (.ops [⟨(some 72), none, .mv (.t 11)⟩,
                       ⟨(some 73), none, .bin .lss (.t 72) (.c (.int .i64 0))⟩])
                     (.cond (.t 73)
                      (.seq
                       (.ops [⟨(some 4), none, .mv (.c (.int .i64 (-1)))⟩])
                       (.ret))
                      (.skip)))
                    (.ops [⟨(some 74), none, .mv (.t 8)⟩,
                      ⟨(some 75), none, .mv (.t 11)⟩,
                      ⟨(some 76), none, .bin .add (.t 75) (.c (.int .i64 1))⟩,
                      ⟨(some 77), none, .bin .add (.t 74) (.t 76)⟩,
                      ⟨(some 8), none, .mv (.t 77)⟩])))
                  (.skip)))
                (.seq
                 (.seq
                  (.ops [⟨(some 78), none, .mv (.t 0)⟩,
                    ⟨(some 79), none, .mv (.t 8)⟩,
                    ⟨(some 80), none, .bin .add (.t 79) (.c (.int .i64 1))⟩,
                    ⟨(some 81), none, .idxS (.t 78) (.t 80)⟩,
                    ⟨(some 82), none, .mv (.t 7)⟩,
                    ⟨(some 83), none, .bin .eql (.t 81) (.t 82)⟩,
                    ⟨(some 84), none, .mv (.t 83)⟩,
                    ⟨(some 85), (some (84, true)), .mv (.t 0)⟩,
                    ⟨(some 86), (some (84, true)), .mv (.t 8)⟩,
                    ⟨(some 87), (some (84, true)), .mv (.t 8)⟩,
                    ⟨(some 88), (some (84, true)), .mv (.t 5)⟩,
                    ⟨(some 89), (some (84, true)), .bin .add (.t 87) (.t 88)⟩,
                    ⟨(some 90), (some (84, true)), .sliceS (.t 85) (some (.t 86)) (some (.t 89))⟩,
                    ⟨(some 91), (some (84, true)), .mv (.t 1)⟩,
                    ⟨(some 92), (some (84, true)), .bin .eql (.t 90) (.t 91)⟩,
                    ⟨(some 93), none, .pick (.t 84) (.t 92) (.c (.bool false))⟩])
                  (.cond (.t 93)
                   (.seq
                    (.ops [⟨(some 94), none, .mv (.t 8)⟩,
                      ⟨(some 4), none, .mv (.t 94)⟩])
                    (.ret))
                   (.skip)))
                 (.seq
                  (.ops [⟨(some 95), none, .mv (.t 8)⟩,
                    ⟨(some 96), none, .bin .add (.t 95) (.c (.int .i64 1))⟩,
                    ⟨(some 8), none, .mv (.t 96)⟩])
                  (.seq
                   (.ops [⟨(some 97), none, .mv (.t 10)⟩,
                     ⟨(some 98), none, .bin .add (.t 97) (.c (.int .i64 1))⟩,
                     ⟨(some 10), none, .mv (.t 98)⟩])
                   (.seq
                    (.ops [⟨(some 99), none, .mv (.t 5)⟩,
                      ⟨(some 100), none, .load none (.c (.ptr (.ro 3) 0))⟩,
                      ⟨(some 101), none, .bin .leq (.t 99) (.t 100)⟩,
                      ⟨(some 102), none, .mv (.t 101)⟩,
                      ⟨(some 103), (some (102, true)), .mv (.t 10)⟩,
                      ⟨(some 104), (some (102, true)), .mv (.t 8)⟩,
                      ⟨(some 105), (some (102, true)), .call 72 [(.t 104)]⟩,
                      ⟨(some 106), (some (102, true)), .bin .gtr (.t 103) (.t 105)⟩,
                      ⟨(some 107), none, .pick (.t 102) (.t 106) (.c (.bool false))⟩])
                    (.cond (.t 107)
                     (.seq
                      (.ops [⟨(some 108), none, .mv (.t 0)⟩,
                        ⟨(some 109), none, .mv (.t 8)⟩,
                        ⟨(some 110), none, .sliceS (.t 108) (some (.t 109)) none⟩,
                        ⟨(some 111), none, .mv (.t 1)⟩,
                        ⟨(some 112), none, .bad⟩,
                        ⟨(some 12), none, .mv (.t 112)⟩])
                      (.seq
                       (.seq
                        (.ops [⟨(some 113), none, .mv (.t 12)⟩,
                          ⟨(some 114), none, .bin .geq (.t 113) (.c (.int .i64 0))⟩])
                        (.cond (.t 114)
                         (.seq
                          (.ops [⟨(some 115), none, .mv (.t 12)⟩,
                            ⟨(some 116), none, .mv (.t 8)⟩,
                            ⟨(some 117), none, .bin .add (.t 115) (.t 116)⟩,
                            ⟨(some 4), none, .mv (.t 117)⟩])
                          (.ret))
                         (.skip)))
                       (.seq
                        (.ops [⟨(some 4), none, .mv (.c (.int .i64 (-1)))⟩])
                        (.ret))))
                     (.seq
                      (.ops [⟨(some 118), none, .mv (.t 5)⟩,
                        ⟨(some 119), none, .load none (.c (.ptr (.ro 3) 0))⟩,
                        ⟨(some 120), none, .bin .gtr (.t 118) (.t 119)⟩,
                        ⟨(some 121), none, .mv (.t 120)⟩,
                        ⟨(some 122), (some (121, true)), .mv (.t 10)⟩,
                        ⟨(some 123), (some (121, true)), .mv (.t 8)⟩,
                        ⟨(some 124), (some (121, true)), .bin .shr (.t 123) (.c (.int .u64 4))⟩,
                        ⟨(some 125), (some (121, true)), .bin .add (.c (.int .i64 4)) (.t 124)⟩,
                        ⟨(some 126), (some (121, true)), .bin .geq (.t 122) (.t 125)⟩,
                        ⟨(some 127), none, .pick (.t 121) (.t 126) (.c (.bool false))⟩,
                        ⟨(some 128), none, .mv (.t 127)⟩,
                        ⟨(some 129), (some (128, true)), .mv (.t 8)⟩,
                        ⟨(some 130), (some (128, true)), .mv (.t 9)⟩,
                        ⟨(some 131), (some (128, true)), .bin .lss (.t 129) (.t 130)⟩,
                        ⟨(some 132), none, .pick (.t 128) (.t 131) (.c (.bool false))⟩])
                      (.cond (.t 132)
                       (.seq
                        (.ops [⟨(some 133), none, .mv (.t 0)⟩,
                          ⟨(some 134), none, .mv (.t 8)⟩,
                          ⟨(some 135), none, .sliceS (.t 133) (some (.t 134)) none⟩,
                          ⟨(some 136), none, .mv (.t 1)⟩,
                          ⟨(some 137), none, .call 73 [(.t 135), (.t 136)]⟩,
                          ⟨(some 13), none, .mv (.t 137)⟩])
                        (.seq
                         (.seq
                          (.ops [⟨(some 138), none, .mv (.t 13)⟩,
                            ⟨(some 139), none, .bin .lss (.t 138) (.c (.int .i64 0))⟩])
                          (.cond (.t 139)
                           (.seq
                            (.ops [⟨(some 4), none, .mv (.c (.int .i64 (-1)))⟩])
                            (.ret))
                           (.skip)))
                         (.seq
                          (.ops [⟨(some 140), none, .mv (.t 8)⟩,
                            ⟨(some 141), none, .mv (.t 13)⟩,
                            ⟨(some 142), none, .bin .add (.t 140) (.t 141)⟩,
                            ⟨(some 4), none, .mv (.t 142)⟩])
                          (.ret))))
                       (.skip)))))))))))))
           (.seq
            (.ops [⟨(some 4), none, .mv (.c (.int .i64 (-1)))⟩])
            (.ret))))))))))⟩
theorem ok59 : FnOk Tryd.prog 59 a59 := FnOk.of Tryd.prog Tryd.func59 (by kernel_rfl)
/-- internal/strconv.ParseUint -/
def a60 : AFn := ⟨172, [.tmp 6, .tmp 7], .seq
   (.ops [⟨(some 6), none, .mv (.c (.int .u64 0))⟩,
     ⟨(some 7), none, .mv (.c .niface)⟩])
   (.seq
    (.seq
     (.ops [⟨(some 18), none, .mv (.t 0)⟩,
       ⟨(some 19), none, .bin .eql (.t 18) (.c (.str []))⟩])
     (.cond (.t 19)
      (.seq
       (.ops [⟨(some 20), none, .bad⟩,
         ⟨(some 6), none, .mv (.c (.int .u64 0))⟩,
         ⟨(some 7), none, .mv (.t 20)⟩])
       (.ret))
      (.skip)))
    (.seq
     (.ops [⟨(some 21), none, .mv (.t 1)⟩,
       ⟨(some 22), none, .bin .eql (.t 21) (.c (.int .i64 0))⟩,
       ⟨(some 8), none, .mv (.t 22)⟩])
     (.seq
      (.ops [⟨(some 23), none, .mv (.t 0)⟩,
        ⟨(some 9), none, .mv (.t 23)⟩])
      (.seq
       (.block 0 (.seq
         (.ops [⟨(some 26), none, .mv (.t 1)⟩,
           ⟨(some 27), none, .bin .leq (.c (.int .i64 2)) (.t 26)⟩,
           ⟨(some 28), none, .mv (.t 27)⟩,
           ⟨(some 29), (some (28, true)), .mv (.t 1)⟩,
           ⟨(some 30), (some (28, true)), .bin .leq (.t 29) (.c (.int .i64 36))⟩,
           ⟨(some 31), none, .pick (.t 28) (.t 30) (.c (.bool false))⟩,
           ⟨(some 25), none, .mv (.t 31)⟩])
         (.cond (.t 25)
          (.skip)
          (.seq
           (.ops [⟨(some 33), none, .mv (.t 1)⟩,
             ⟨(some 34), none, .bin .eql (.t 33) (.c (.int .i64 0))⟩,
             ⟨(some 32), none, .mv (.t 34)⟩])
           (.cond (.t 32)
            (.seq
             (.ops [⟨(some 1), none, .mv (.c (.int .i64 10))⟩])
             (.seq
              (.ops [⟨(some 35), none, .mv (.t 0)⟩,
                ⟨(some 36), none, .idxS (.t 35) (.c (.int .i64 0))⟩,
                ⟨(some 37), none, .bin .eql (.t 36) (.c (.int .u8 48))⟩])
              (.cond (.t 37)
               (.block 1 (.seq
                 (.ops [⟨(some 41), none, .mv (.t 0)⟩,
                   ⟨(some 42), none, .lenS (.t 41)⟩,
                   ⟨(some 43), none, .bin .geq (.t 42) (.c (.int .i64 3))⟩,
                   ⟨(some 44), none, .mv (.t 43)⟩,
                   ⟨(some 45), (some (44, true)), .mv (.t 0)⟩,
                   ⟨(some 46), (some (44, true)), .idxS (.t 45) (.c (.int .i64 1))⟩,
                   ⟨(some 47), (some (44, true)), .call 74 [(.t 46)]⟩,
                   ⟨(some 48), (some (44, true)), .bin .eql (.t 47) (.c (.int .u8 98))⟩,
                   ⟨(some 49), none, .pick (.t 44) (.t 48) (.c (.bool false))⟩,
                   ⟨(some 40), none, .mv (.t 49)⟩])
                 (.cond (.t 40)
                  (.seq
                   (.ops [⟨(some 1), none, .mv (.c (.int .i64 2))⟩])
                   (.ops [⟨(some 50), none, .mv (.t 0)⟩,
                     ⟨(some 51), none, .sliceS (.t 50) (some (.c (.int .i64 2))) none⟩,
                     ⟨(some 0), none, .mv (.t 51)⟩]))
                  (.seq
                   (.ops [⟨(some 53), none, .mv (.t 0)⟩,
                     ⟨(some 54), none, .lenS (.t 53)⟩,
                     ⟨(some 55), none, .bin .geq (.t 54) (.c (.int .i64 3))⟩,
                     ⟨(some 56), none, .mv (.t 55)⟩,
                     ⟨(some 57), (some (56, true)), .mv (.t 0)⟩,
                     ⟨(some 58), (some (56, true)), .idxS (.t 57) (.c (.int .i64 1))⟩,
                     ⟨(some 59), (some (56, true)), .call 74 [(.t 58)]⟩,
                     ⟨(some 60), (some (56, true)), .bin .eql (.t 59) (.c (.int .u8 111))⟩,
                     ⟨(some 61), none, .pick (.t 56) (.t 60) (.c (.bool false))⟩,
                     ⟨(some 52), none, .mv (.t 61)⟩])
                   (.cond (.t 52)
                    (.seq
                     (.ops [⟨(some 1), none, .mv (.c (.int .i64 8))⟩])
                     (.ops [⟨(some 62), none, .mv (.t 0)⟩,
                       ⟨(some 63), none, .sliceS (.t 62) (some (.c (.int .i64 2))) none⟩,
                       ⟨(some 0), none, .mv (.t 63)⟩]))
                    (.seq
                     (.ops [⟨(some 65), none, .mv (.t 0)⟩,
                       ⟨(some 66), none, .lenS (.t 65)⟩,
                       ⟨(some 67), none, .bin .geq (.t 66) (.c (.int .i64 3))⟩,
                       ⟨(some 68), none, .mv (.t 67)⟩,
                       ⟨(some 69), (some (68, true)), .mv (.t 0)⟩,
                       ⟨(some 70), (some (68, true)), .idxS (.t 69) (.c (.int .i64 1))⟩,
                       ⟨(some 71), (some (68, true)), .call 74 [(.t 70)]⟩,
                       ⟨(some 72), (some (68, true)), .bin .eql (.t 71) (.c (.int .u8 120))⟩,
                       ⟨(some 73), none, .pick (.t 68) (.t 72) (.c (.bool false))⟩,
                       ⟨(some 64), none, .mv (.t 73)⟩])
                     (.cond (.t 64)
                      (.seq
                       (.ops [⟨(some 1), none, .mv (.c (.int .i64 16))⟩])
                       (.ops [⟨(some 74), none, .mv (.t 0)⟩,
                         ⟨(some 75), none, .sliceS (.t 74) (some (.c (.int .i64 2))) none⟩,
                         ⟨(some 0), none, .mv (.t 75)⟩]))
                      (.seq
                       (.ops [⟨(some 1), none, .mv (.c (.int .i64 8))⟩])
                       (.ops [⟨(some 38), none, .mv (.t 0)⟩,
                         ⟨(some 39), none, .sliceS (.t 38) (some (.c (.int .i64 1))) none⟩,
                         ⟨(some 0), none, .mv (.t 39)⟩])))))))))
               (.skip))))
            (.seq
             (.ops [⟨(some 24), none, .bad⟩,
               ⟨(some 6), none, .mv (.c (.int .u64 0))⟩,
               ⟨(some 7), none, .mv (.t 24)⟩])
             (.ret)))))))
       (.seq
        (.seq
         (.ops [⟨(some 76), none, .mv (.t 2)⟩,
           ⟨(some 77), none, .bin .eql (.t 76) (.c (.int .i64 0))⟩])
         (.cond (.t 77)
          (.ops [⟨(some 2), none, .mv (.c (.int .i64 64))⟩])
          (.seq
           (.ops [⟨(some 78), none, .mv (.t 2)⟩,
             ⟨(some 79), none, .bin .lss (.t 78) (.c (.int .i64 0))⟩,
             ⟨(some 80), none, .mv (.t 79)⟩,
             ⟨(some 81), (some (80, false)), .mv (.t 2)⟩,
             ⟨(some 82), (some (80, false)), .bin .gtr (.t 81) (.c (.int .i64 64))⟩,
             ⟨(some 83), none, .pick (.t 80) (.c (.bool true)) (.t 82)⟩])
           (.cond (.t 83)
            (.seq
             (.ops [⟨(some 84), none, .bad⟩,
               ⟨(some 6), none, .mv (.c (.int .u64 0))⟩,
               ⟨(some 7), none, .mv (.t 84)⟩])
             (.ret))
            (.skip)))))
        (.seq
         (.ops [⟨(some 10), none, .mv (.c (.int .u64 0))⟩])
         (.seq
          (.seq
           (.ops [⟨(some 85), none, .mv (.t 1)⟩])
           (.block 2 (.seq
             (.ops [⟨(some 91), none, .bin .eql (.t 85) (.c (.int .i64 10))⟩,
               ⟨(some 90), none, .mv (.t 91)⟩])
             (.cond (.t 90)
              (.ops [⟨(some 10), none, .mv (.c (.int .u64 1844674407370955162))⟩])
              (.seq
               (.ops [⟨(some 93), none, .bin .eql (.t 85) (.c (.int .i64 16))⟩,
                 ⟨(some 92), none, .mv (.t 93)⟩])
               (.cond (.t 92)
                (.ops [⟨(some 10), none, .mv (.c (.int .u64 1152921504606846976))⟩])
                (.ops [⟨(some 86), none, .mv (.t 1)⟩,
                  ⟨(some 87), none, .convI .u64 (.t 86)⟩,
                  ⟨(some 88), none, .bin .quo (.c (.int .u64 18446744073709551615)) (.t 87)⟩,
                  ⟨(some 89), none, .bin .add (.t 88) (.c (.int .u64 1))⟩,
                  ⟨(some 10), none, .mv (.t 89)⟩])))))))
          (.seq
           (.ops [⟨(some 94), none, .mv (.t 2)⟩,
             ⟨(some 95), none, .convI .u64 (.t 94)⟩,
             ⟨(some 96), none, .bin .shl (.c (.int .u64 1)) (.t 95)⟩,
             ⟨(some 97), none, .bin .sub (.t 96) (.c (.int .u64 1))⟩,
             ⟨(some 11), none, .mv (.t 97)⟩])
           (.seq
            (.ops [⟨(some 12), none, .mv (.c (.bool false))⟩])
            (.seq
             (.ops [⟨(some 13), none, .mv (.c (.int .u64 0))⟩])
             (.seq
              (.seq
               (.ops [⟨(some 98), none, .mv (.t 0)⟩,
                 ⟨(some 99), none, .bad⟩,
                 ⟨(some 100), none, .lenL (.t 99)⟩,
                 ⟨(some 101), none, .mv (.c (.int .i64 0))⟩])
               (.block 3 (.loop (.seq
                  (.ops [⟨(some 102), none, .bin .lss (.t 101) (.t 100)⟩])
                  (.seq
                   (.cond (.t 102)
                    (.skip)
                    (.exit 3))
                   (.seq
                    (.block 4 (.seq
                      (.ops [⟨(some 103), none, .iaddrS 1 (.t 99) (.t 101)⟩,
                        ⟨(some 104), none, .load none (.t 103)⟩,
                        ⟨(some 15), none, .mv (.t 104)⟩])
                      (.seq
                       (.ops [⟨(some 16), none, .mv (.c (.int .u8 0))⟩])
                       (.seq
                        (.block 5 (.seq
                          (.ops [⟨(some 107), none, .mv (.t 15)⟩,
                            ⟨(some 108), none, .bin .eql (.t 107) (.c (.int .u8 95))⟩,
                            ⟨(some 109), none, .mv (.t 108)⟩,
                            ⟨(some 110), (some (109, true)), .mv (.t 8)⟩,
                            ⟨(some 111), none, .pick (.t 109) (.t 110) (.c (.bool false))⟩,
                            ⟨(some 106), none, .mv (.t 111)⟩])
                          (.cond (.t 106)
                           (.seq
                            (.ops [⟨(some 12), none, .mv (.c (.bool true))⟩])
                            (.exit 4))
                           (.seq
                            (.ops [⟨(some 113), none, .mv (.t 15)⟩,
                              ⟨(some 114), none, .bin .leq (.c (.int .u8 48)) (.t 113)⟩,
                              ⟨(some 115), none, .mv (.t 114)⟩,
                              ⟨(some 116), (some (115, true)), .mv (.t 15)⟩,
                              ⟨(some 117), (some (115, true)), .bin .leq (.t 116) (.c (.int .u8 57))⟩,
                              ⟨(some 118), none, .pick (.t 115) (.t 117) (.c (.bool false))⟩,
                              ⟨(some 112), none, .mv (.t 118)⟩])
                            (.cond (.t 112)
                             (.ops [⟨(some 119), none, .mv (.t 15)⟩,
                               ⟨(some 120), none, .bin .sub (.t 119) (.c (.int .u8 48))⟩,
                               ⟨(some 16), none, .mv (.t 120)⟩])
                             (.seq
                              (.ops [⟨(some 122), none, .mv (.t 15)⟩,
                                ⟨(some 123), none, .call 74 [(.t 122)]⟩,
                                ⟨(some 124), none, .bin .leq (.c (.int .u8 97)) (.t 123)⟩,
                                ⟨(some 125), none, .mv (.t 124)⟩,
                                ⟨(some 126), (some (125, true)), .mv (.t 15)⟩,
                                ⟨(some 127), (some (125, true)), .call 74 [(.t 126)]⟩,
                                ⟨(some 128), (some (125, true)), .bin .leq (.t 127) (.c (.int .u8 122))⟩,
                                ⟨(some 129), none, .pick (.t 125) (.t 128) (.c (.bool false))⟩,
                                ⟨(some 121), none, .mv (.t 129)⟩])
                              (.cond (.t 121)
                               (.ops [⟨(some 130), none, .mv (.t 15)⟩,
                                 ⟨(some 131), none, .call 74 [(.t 130)]⟩,
                                 ⟨(some 132), none, .bin .sub (.t 131) (.c (.int .u8 97))⟩,
                                 ⟨(some 133), none, .bin .add (.t 132) (.c (.int .u8 10))⟩,
                                 ⟨(some 16), none, .mv (.t 133)⟩])
                               (.seq
                                (.ops [⟨(some 105), none, .bad⟩,
                                  ⟨(some 6), none, .mv (.c (.int .u64 0))⟩,
                                  ⟨(some 7), none, .mv (.t 105)⟩])
                                (.ret)))))))))
                        (.seq
                         (.seq
                          (.ops [⟨(some 134), none, .mv (.t 16)⟩,
                            ⟨(some 135), none, .mv (.t 1)⟩,
                            ⟨(some 136), none, .convI .u8 (.t 135)⟩,
                            ⟨(some 137), none, .bin .geq (.t 134) (.t 136)⟩])
                          (.cond (.t 137)
                           (.seq
                            (.ops [⟨(some 138), none, .bad⟩,
                              ⟨(some 6), none, .mv (.c (.int .u64 0))⟩,
                              ⟨(some 7), none, .mv (.t 138)⟩])
                            (.ret))
                           (.skip)))
                         (.seq
                          (.seq
                           (.ops [⟨(some 139), none, .mv (.t 13)⟩,
                             ⟨(some 140), none, .mv (.t 10)⟩,
                             ⟨(some 141), none, .bin .geq (.t 139) (.t 140)⟩])
                           (.cond (.t 141)
                            (.seq
                             (.ops [⟨(some 142), none, .mv (.t 11)⟩,
                               ⟨(some 143), none, .bad⟩,
                               ⟨(some 6), none, .mv (.t 142)⟩,
                               ⟨(some 7), none, .mv (.t 143)⟩])
                             (.ret))
                            (.skip)))
                          (.seq
                           (.ops [⟨(some 144), none, .mv (.t 13)⟩,
                             ⟨(some 145), none, .mv (.t 1)⟩,
                             ⟨(some 146), none, .convI .u64 (.t 145)⟩,
                             ⟨(some 147), none, .bin .mul (.t 144) (.t 146)⟩,
                             ⟨(some 13), none, .mv (.t 147)⟩])
                           (.seq
                            (.ops [⟨(some 148), none, .mv (.t 13)⟩,
                              ⟨(some 149), none, .mv (.t 16)⟩,
                              ⟨(some 150), none, .convI .u64 (.t 149)⟩,
                              ⟨(some 151), none, .bin .add (.t 148) (.t 150)⟩,
                              ⟨(some 17), none, .mv (.t 151)⟩])
                            (.seq
                             (.seq
                              (.ops [⟨(some 152), none, .mv (.t 17)⟩,
                                ⟨(some 153), none, .mv (.t 13)⟩,
                                ⟨(some 154), none, .bin .lss (.t 152) (.t 153)⟩,
                                ⟨(some 155), none, .mv (.t 154)⟩,
                                ⟨(some 156), (some (155, false)), .mv (.t 17)⟩,
                                ⟨(some 157), (some (155, false)), .mv (.t 11)⟩,
                                ⟨(some 158), (some (155, false)), .bin .gtr (.t 156) (.t 157)⟩,
                                ⟨(some 159), none, .pick (.t 155) (.c (.bool true)) (.t 158)⟩])
                              (.cond (.t 159)
                               (.seq
                                (.ops [⟨(some 160), none, .mv (.t 11)⟩,
                                  ⟨(some 161), none, .bad⟩,
                                  ⟨(some 6), none, .mv (.t 160)⟩,
                                  ⟨(some 7), none, .mv (.t 161)⟩])
                                (.ret))
                               (.skip)))
                             (.ops [⟨(some 162), none, .mv (.t 17)⟩,
                               ⟨(some 13), none, .mv (.t 162)⟩]))))))))))
                    (.ops [⟨(some 163), none, .bin .add (.t 101) (.c (.int .i64 1))⟩,
                      ⟨(some 101), none, .mv (.t 163)⟩])))))))
              (.seq
               (.seq
                (.ops [⟨(some 164), none, .mv (.t 12)⟩,
                  ⟨(some 165), none, .mv (.t 164)⟩,
                  ⟨(some 166), (some (165, true)), .mv (.t 9)⟩,
                  ⟨(some 167), (some (165, true)), .call 75 [(.t 166)]⟩,
                  ⟨(some 168), (some (165, true)), .un .not (.t 167)⟩,
                  ⟨(some 169), none, .pick (.t 165) (.t 168) (.c (.bool false))⟩])
                (.cond (.t 169)
                 (.seq
                  (.ops [⟨(some 170), none, .bad⟩,
                    ⟨(some 6), none, .mv (.c (.int .u64 0))⟩,
                    ⟨(some 7), none, .mv (.t 170)⟩])
                  (.ret))
                 (.skip)))
               (.seq
                (.ops [⟨(some 171), none, .mv (.t 13)⟩,
                  ⟨(some 6), none, .mv (.t 171)⟩,
                  ⟨(some 7), none, .mv (.c .niface)⟩])
                (.ret))))))))))))))⟩
theorem ok60 : FnOk Tryd.prog 60 a60 := FnOk.of Tryd.prog Tryd.func60 (by kernel_rfl)
/-- internal/stringslite.Clone -/
def a61 : AFn := ⟨18, [.tmp 2], .seq
   (.ops [⟨(some 2), none, .mv (.c (.str []))⟩])
   (.seq
    (.seq
     (.ops [⟨(some 4), none, .mv (.t 0)⟩,
       ⟨(some 5), none, .lenS (.t 4)⟩,
       ⟨(some 6), none, .bin .eql (.t 5) (.c (.int .i64 0))⟩])
     (.cond (.t 6)
      (.seq
       (.ops [⟨(some 2), none, .mv (.c (.str []))⟩])
       (.ret))
      (.skip)))
    (.seq
     (.ops [⟨(some 7), none, .mv (.t 0)⟩,
       ⟨(some 8), none, .lenS (.t 7)⟩,
       ⟨(some 9), none, .mksl 5 1 1 [(.int .u8 0)] (.t 8) (.t 8)⟩,
       ⟨(some 3), none, .mv (.t 9)⟩])
     (.seq
      (.ops [⟨(some 10), none, .mv (.t 3)⟩,
        ⟨(some 11), none, .mv (.t 0)⟩,
        ⟨(some 12), none, .copy 1 (.t 10) (.t 11)⟩])
      (.seq
       (.ops [⟨(some 13), none, .mv (.t 3)⟩,
         ⟨(some 14), none, .iaddrS 1 (.t 13) (.c (.int .i64 0))⟩,
         ⟨(some 15), none, .mv (.t 3)⟩,
         ⟨(some 16), none, .lenL (.t 15)⟩,
         ⟨(some 17), none, .bad⟩,
         ⟨(some 2), none, .mv (.t 17)⟩])
       (.ret)))))⟩
theorem ok61 : FnOk Tryd.prog 61 a61 := FnOk.of Tryd.prog Tryd.func61 (by kernel_rfl)
/-- errors.New -/
def a62 : AFn := ⟨7, [.tmp 2], .seq
   (.ops [⟨(some 2), none, .mv (.c .niface)⟩])
   (.seq
    (.ops [⟨(some 3), none, .mv (.t 0)⟩,
      ⟨(some 4), none, .build [(.str [])] [(0, 1)] [(0, (.t 3))]⟩,
      ⟨(some 5), none, .box 136 (.t 4)⟩,
      ⟨(some 6), none, .bad⟩,
      ⟨(some 2), none, .mv (.t 6)⟩])
    (.ret))⟩
theorem ok62 : FnOk Tryd.prog 62 a62 := FnOk.of Tryd.prog Tryd.func62 (by kernel_rfl)
/-- internal/strconv.small -/
def a63 : AFn := ⟨15, [.tmp 2], .seq
   (.ops [⟨(some 2), none, .mv (.c (.str []))⟩])
   (.seq
    (.seq
     (.ops [⟨(some 3), none, .mv (.t 0)⟩,
       ⟨(some 4), none, .bin .lss (.t 3) (.c (.int .i64 10))⟩])
     (.cond (.t 4)
      (.seq
       (.ops [⟨(some 5), none, .mv (.t 0)⟩,
         ⟨(some 6), none, .mv (.t 0)⟩,
         ⟨(some 7), none, .bin .add (.t 6) (.c (.int .i64 1))⟩,
         ⟨(some 8), none, .sliceS (.c (.str [48, 49, 50, 51, 52, 53, 54, 55, 56, 57, 97, 98, 99, 100, 101, 102, 103, 104, 105, 106, 107, 108, 109, 110, 111, 112, 113, 114, 115, 116, 117, 118, 119, 120, 121, 122])) (some (.t 5)) (some (.t 7))⟩,
         ⟨(some 2), none, .mv (.t 8)⟩])
       (.ret))
      (.skip)))
    (.seq
     (.ops [⟨(some 9), none, .mv (.t 0)⟩,
       ⟨(some 10), none, .bin .mul (.t 9) (.c (.int .i64 2))⟩,
       ⟨(some 11), none, .mv (.t 0)⟩,
       ⟨(some 12), none, .bin .mul (.t 11) (.c (.int .i64 2))⟩,
       ⟨(some 13), none, .bin .add (.t 12) (.c (.int .i64 2))⟩,
       ⟨(some 14), none, .sliceS (.c (.str [48, 48, 48, 49, 48, 50, 48, 51, 48, 52, 48, 53, 48, 54, 48, 55, 48, 56, 48, 57, 49, 48, 49, 49, 49, 50, 49, 51, 49, 52, 49, 53, 49, 54, 49, 55, 49, 56, 49, 57, 50, 48, 50, 49, 50, 50, 50, 51, 50, 52, 50, 53, 50, 54, 50, 55, 50, 56, 50, 57, 51, 48, 51, 49, 51, 50, 51, 51, 51, 52, 51, 53, 51, 54, 51, 55, 51, 56, 51, 57, 52, 48, 52, 49, 52, 50, 52, 51, 52, 52, 52, 53, 52, 54, 52, 55, 52, 56, 52, 57, 53, 48, 53, 49, 53, 50, 53, 51, 53, 52, 53, 53, 53, 54, 53, 55, 53, 56, 53, 57, 54, 48, 54, 49, 54, 50, 54, 51, 54, 52, 54, 53, 54, 54, 54, 55, 54, 56, 54, 57, 55, 48, 55, 49, 55, 50, 55, 51, 55, 52, 55, 53, 55, 54, 55, 55, 55, 56, 55, 57, 56, 48, 56, 49, 56, 50, 56, 51, 56, 52, 56, 53, 56, 54, 56, 55, 56, 56, 56, 57, 57, 48, 57, 49, 57, 50, 57, 51, 57, 52, 57, 53, 57, 54, 57, 55, 57, 56, 57, 57])) (some (.t 10)) (some (.t 13))⟩,
       ⟨(some 2), none, .mv (.t 14)⟩])
     (.ret)))⟩
theorem ok63 : FnOk Tryd.prog 63 a63 := FnOk.of Tryd.prog Tryd.func63 (by kernel_rfl)
/-- internal/strconv.numDigits -/
def a64 : AFn := ⟨15, [.tmp 2], .seq
   (.ops [⟨(some 2), none, .mv (.c (.int .i64 0))⟩])
   (.seq
    (.ops [⟨(some 4), none, .mv (.t 0)⟩,
      ⟨(some 5), none, .call 77 [(.t 4)]⟩,
      ⟨(some 6), none, .call 76 [(.t 5)]⟩,
      ⟨(some 3), none, .mv (.t 6)⟩])
    (.seq
     (.ops [⟨(some 7), none, .mv (.t 3)⟩,
       ⟨(some 8), none, .mv (.t 0)⟩,
       ⟨(some 9), none, .mv (.t 3)⟩,
       ⟨(some 10), none, .iaddrA 20 1 (.c (.ptr (.ro 4) 0)) (.t 9)⟩,
       ⟨(some 11), none, .load none (.t 10)⟩,
       ⟨(some 12), none, .bin .geq (.t 8) (.t 11)⟩,
       ⟨(some 13), none, .call 78 [(.t 12)]⟩,
       ⟨(some 14), none, .bin .add (.t 7) (.t 13)⟩,
       ⟨(some 2), none, .mv (.t 14)⟩])
     (.ret)))⟩
theorem ok64 : FnOk Tryd.prog 64 a64 := FnOk.of Tryd.prog Tryd.func64 (by kernel_rfl)
/-- internal/strconv.formatBase10 -/
def a65 : AFn := ⟨167, [], .seq
   (.ops [⟨(some 17), none, .mv (.t 0)⟩,
     ⟨(some 18), none, .lenL (.t 17)⟩,
     ⟨(some 4), none, .mv (.t 18)⟩])
   (.seq
    (.block 0 (.loop (.seq
       (.seq
        (.ops [⟨(some 19), none, .mv (.t 4)⟩,
          ⟨(some 20), none, .bin .geq (.t 19) (.c (.int .i64 8))⟩])
        (.cond (.t 20)
         (.skip)
         (.exit 0)))
       (.block 1 (.seq
         (.ops [⟨(some 21), none, .mv (.t 1)⟩,
           ⟨(some 22), none, .bin .rem (.t 21) (.c (.int .u64 100000000))⟩,
           ⟨(some 23), none, .convI .u32 (.t 22)⟩,
           ⟨(some 5), none, .mv (.t 23)⟩])
         (.seq
          (.ops [⟨(some 24), none, .mv (.t 1)⟩,
            ⟨(some 25), none, .bin .quo (.t 24) (.c (.int .u64 100000000))⟩,
            ⟨(some 1), none, .mv (.t 25)⟩])
          (.seq
           (.ops [⟨(some 26), none, .mv (.t 5)⟩,
             ⟨(some 27), none, .bin .quo (.t 26) (.c (.int .u32 10000))⟩,
             ⟨(some 28), none, .mv (.t 5)⟩,
             ⟨(some 29), none, .bin .rem (.t 28) (.c (.int .u32 10000))⟩,
             ⟨(some 6), none, .mv (.t 27)⟩,
             ⟨(some 7), none, .mv (.t 29)⟩])
           (.seq
            (.ops [⟨(some 30), none, .mv (.t 7)⟩,
              ⟨(some 31), none, .bin .quo (.t 30) (.c (.int .u32 100))⟩,
              ⟨(some 32), none, .bin .mul (.t 31) (.c (.int .u32 2))⟩,
              ⟨(some 33), none, .mv (.t 7)⟩,
              ⟨(some 34), none, .bin .rem (.t 33) (.c (.int .u32 100))⟩,
              ⟨(some 35), none, .bin .mul (.t 34) (.c (.int .u32 2))⟩,
              ⟨(some 8), none, .mv (.t 32)⟩,
              ⟨(some 9), none, .mv (.t 35)⟩])
            (.seq
             (.ops [⟨(some 36), none, .mv (.t 6)⟩,
               ⟨(some 37), none, .bin .quo (.t 36) (.c (.int .u32 100))⟩,
               ⟨(some 38), none, .bin .mul (.t 37) (.c (.int .u32 2))⟩,
               ⟨(some 39), none, .mv (.t 6)⟩,
               ⟨(some 40), none, .bin .rem (.t 39) (.c (.int .u32 100))⟩,
               ⟨(some 41), none, .bin .mul (.t 40) (.c (.int .u32 2))⟩,
               ⟨(some 10), none, .mv (.t 38)⟩,
               ⟨(some 11), none, .mv (.t 41)⟩])
             (.seq
              (.draw [⟨⟨(some 42), none, .mv (.t 0)⟩, []⟩,
                ⟨⟨(some 43), none, .mv (.t 4)⟩, []⟩,
                ⟨⟨(some 44), none, .bin .sub (.t 43) (.c (.int .i64 1))⟩, [1]⟩,
                ⟨⟨(some 45), none, .mv (.t 0)⟩, []⟩,
                ⟨⟨(some 46), none, .mv (.t 4)⟩, []⟩,
                ⟨⟨(some 47), none, .bin .sub (.t 46) (.c (.int .i64 2))⟩, [4]⟩,
                ⟨⟨(some 48), none, .mv (.t 9)⟩, []⟩,
                ⟨⟨(some 49), none, .bin .add (.t 48) (.c (.int .u32 1))⟩, [6]⟩,
                ⟨⟨(some 50), none, .idxS (.c (.str [48, 48, 48, 49, 48, 50, 48, 51, 48, 52, 48, 53, 48, 54, 48, 55, 48, 56, 48, 57, 49, 48, 49, 49, 49, 50, 49, 51, 49, 52, 49, 53, 49, 54, 49, 55, 49, 56, 49, 57, 50, 48, 50, 49, 50, 50, 50, 51, 50, 52, 50, 53, 50, 54, 50, 55, 50, 56, 50, 57, 51, 48, 51, 49, 51, 50, 51, 51, 51, 52, 51, 53, 51, 54, 51, 55, 51, 56, 51, 57, 52, 48, 52, 49, 52, 50, 52, 51, 52, 52, 52, 53, 52, 54, 52, 55, 52, 56, 52, 57, 53, 48, 53, 49, 53, 50, 53, 51, 53, 52, 53, 53, 53, 54, 53, 55, 53, 56, 53, 57, 54, 48, 54, 49, 54, 50, 54, 51, 54, 52, 54, 53, 54, 54, 54, 55, 54, 56, 54, 57, 55, 48, 55, 49, 55, 50, 55, 51, 55, 52, 55, 53, 55, 54, 55, 55, 55, 56, 55, 57, 56, 48, 56, 49, 56, 50, 56, 51, 56, 52, 56, 53, 56, 54, 56, 55, 56, 56, 56, 57, 57, 48, 57, 49, 57, 50, 57, 51, 57, 52, 57, 53, 57, 54, 57, 55, 57, 56, 57, 57])) (.t 49)⟩, [7]⟩,
                ⟨⟨(some 51), none, .mv (.t 9)⟩, []⟩,
                ⟨⟨(some 52), none, .idxS (.c (.str [48, 48, 48, 49, 48, 50, 48, 51, 48, 52, 48, 53, 48, 54, 48, 55, 48, 56, 48, 57, 49, 48, 49, 49, 49, 50, 49, 51, 49, 52, 49, 53, 49, 54, 49, 55, 49, 56, 49, 57, 50, 48, 50, 49, 50, 50, 50, 51, 50, 52, 50, 53, 50, 54, 50, 55, 50, 56, 50, 57, 51, 48, 51, 49, 51, 50, 51, 51, 51, 52, 51, 53, 51, 54, 51, 55, 51, 56, 51, 57, 52, 48, 52, 49, 52, 50, 52, 51, 52, 52, 52, 53, 52, 54, 52, 55, 52, 56, 52, 57, 53, 48, 53, 49, 53, 50, 53, 51, 53, 52, 53, 53, 53, 54, 53, 55, 53, 56, 53, 57, 54, 48, 54, 49, 54, 50, 54, 51, 54, 52, 54, 53, 54, 54, 54, 55, 54, 56, 54, 57, 55, 48, 55, 49, 55, 50, 55, 51, 55, 52, 55, 53, 55, 54, 55, 55, 55, 56, 55, 57, 56, 48, 56, 49, 56, 50, 56, 51, 56, 52, 56, 53, 56, 54, 56, 55, 56, 56, 56, 57, 57, 48, 57, 49, 57, 50, 57, 51, 57, 52, 57, 53, 57, 54, 57, 55, 57, 56, 57, 57])) (.t 51)⟩, [9]⟩,
                ⟨⟨(some 53), none, .iaddrS 1 (.t 42) (.t 44)⟩, [0, 2, 0, 1, 2, 6, 7, 8]⟩,
                ⟨⟨none, none, .store 1 (.t 53) (.t 50)⟩, [11, 8, 0, 1, 2, 6, 7, 8]⟩,
                ⟨⟨(some 54), none, .iaddrS 1 (.t 45) (.t 47)⟩, [3, 5, 0, 1, 2, 3, 4, 5, 6, 7, 8, 9, 10, 11, 12]⟩,
                ⟨⟨none, none, .store 1 (.t 54) (.t 52)⟩, [13, 10, 12, 0, 1, 2, 3, 4, 5, 6, 7, 8, 9, 10, 11, 12]⟩] [0, 0, 2, 0, 0, 16, 0, 64, 192, 0, 512, 455, 2503, 8191, 16383])
              (.seq
               (.draw [⟨⟨(some 55), none, .mv (.t 0)⟩, []⟩,
                 ⟨⟨(some 56), none, .mv (.t 4)⟩, []⟩,
                 ⟨⟨(some 57), none, .bin .sub (.t 56) (.c (.int .i64 3))⟩, [1]⟩,
                 ⟨⟨(some 58), none, .mv (.t 0)⟩, []⟩,
                 ⟨⟨(some 59), none, .mv (.t 4)⟩, []⟩,
                 ⟨⟨(some 60), none, .bin .sub (.t 59) (.c (.int .i64 4))⟩, [4]⟩,
                 ⟨⟨(some 61), none, .mv (.t 8)⟩, []⟩,
                 ⟨⟨(some 62), none, .bin .add (.t 61) (.c (.int .u32 1))⟩, [6]⟩,
                 ⟨⟨(some 63), none, .idxS (.c (.str [48, 48, 48, 49, 48, 50, 48, 51, 48, 52, 48, 53, 48, 54, 48, 55, 48, 56, 48, 57, 49, 48, 49, 49, 49, 50, 49, 51, 49, 52, 49, 53, 49, 54, 49, 55, 49, 56, 49, 57, 50, 48, 50, 49, 50, 50, 50, 51, 50, 52, 50, 53, 50, 54, 50, 55, 50, 56, 50, 57, 51, 48, 51, 49, 51, 50, 51, 51, 51, 52, 51, 53, 51, 54, 51, 55, 51, 56, 51, 57, 52, 48, 52, 49, 52, 50, 52, 51, 52, 52, 52, 53, 52, 54, 52, 55, 52, 56, 52, 57, 53, 48, 53, 49, 53, 50, 53, 51, 53, 52, 53, 53, 53, 54, 53, 55, 53, 56, 53, 57, 54, 48, 54, 49, 54, 50, 54, 51, 54, 52, 54, 53, 54, 54, 54, 55, 54, 56, 54, 57, 55, 48, 55, 49, 55, 50, 55, 51, 55, 52, 55, 53, 55, 54, 55, 55, 55, 56, 55, 57, 56, 48, 56, 49, 56, 50, 56, 51, 56, 52, 56, 53, 56, 54, 56, 55, 56, 56, 56, 57, 57, 48, 57, 49, 57, 50, 57, 51, 57, 52, 57, 53, 57, 54, 57, 55, 57, 56, 57, 57])) (.t 62)⟩, [7]⟩,
                 ⟨⟨(some 64), none, .mv (.t 8)⟩, []⟩,
                 ⟨⟨(some 65), none, .idxS (.c (.str [48, 48, 48, 49, 48, 50, 48, 51, 48, 52, 48, 53, 48, 54, 48, 55, 48, 56, 48, 57, 49, 48, 49, 49, 49, 50, 49, 51, 49, 52, 49, 53, 49, 54, 49, 55, 49, 56, 49, 57, 50, 48, 50, 49, 50, 50, 50, 51, 50, 52, 50, 53, 50, 54, 50, 55, 50, 56, 50, 57, 51, 48, 51, 49, 51, 50, 51, 51, 51, 52, 51, 53, 51, 54, 51, 55, 51, 56, 51, 57, 52, 48, 52, 49, 52, 50, 52, 51, 52, 52, 52, 53, 52, 54, 52, 55, 52, 56, 52, 57, 53, 48, 53, 49, 53, 50, 53, 51, 53, 52, 53, 53, 53, 54, 53, 55, 53, 56, 53, 57, 54, 48, 54, 49, 54, 50, 54, 51, 54, 52, 54, 53, 54, 54, 54, 55, 54, 56, 54, 57, 55, 48, 55, 49, 55, 50, 55, 51, 55, 52, 55, 53, 55, 54, 55, 55, 55, 56, 55, 57, 56, 48, 56, 49, 56, 50, 56, 51, 56, 52, 56, 53, 56, 54, 56, 55, 56, 56, 56, 57, 57, 48, 57, 49, 57, 50, 57, 51, 57, 52, 57, 53, 57, 54, 57, 55, 57, 56, 57, 57])) (.t 64)⟩, [9]⟩,
                 ⟨⟨(some 66), none, .iaddrS 1 (.t 55) (.t 57)⟩, [0, 2, 0, 1, 2, 6, 7, 8]⟩,
                 ⟨⟨none, none, .store 1 (.t 66) (.t 63)⟩, [11, 8, 0, 1, 2, 6, 7, 8]⟩,
                 ⟨⟨(some 67), none, .iaddrS 1 (.t 58) (.t 60)⟩, [3, 5, 0, 1, 2, 3, 4, 5, 6, 7, 8, 9, 10, 11, 12]⟩,
                 ⟨⟨none, none, .store 1 (.t 67) (.t 65)⟩, [13, 10, 12, 0, 1, 2, 3, 4, 5, 6, 7, 8, 9, 10, 11, 12]⟩] [0, 0, 2, 0, 0, 16, 0, 64, 192, 0, 512, 455, 2503, 8191, 16383])
               (.seq
                (.draw [⟨⟨(some 68), none, .mv (.t 0)⟩, []⟩,
                  ⟨⟨(some 69), none, .mv (.t 4)⟩, []⟩,
                  ⟨⟨(some 70), none, .bin .sub (.t 69) (.c (.int .i64 5))⟩, [1]⟩,
                  ⟨⟨(some 71), none, .mv (.t 0)⟩, []⟩,
                  ⟨⟨(some 72), none, .mv (.t 4)⟩, []⟩,
                  ⟨⟨(some 73), none, .bin .sub (.t 72) (.c (.int .i64 6))⟩, [4]⟩,
                  ⟨⟨(some 74), none, .mv (.t 11)⟩, []⟩,
                  ⟨⟨(some 75), none, .bin .add (.t 74) (.c (.int .u32 1))⟩, [6]⟩,
                  ⟨⟨(some 76), none, .idxS (.c (.str [48, 48, 48, 49, 48, 50, 48, 51, 48, 52, 48, 53, 48, 54, 48, 55, 48, 56, 48, 57, 49, 48, 49, 49, 49, 50, 49, 51, 49, 52, 49, 53, 49, 54, 49, 55, 49, 56, 49, 57, 50, 48, 50, 49, 50, 50, 50, 51, 50, 52, 50, 53, 50, 54, 50, 55, 50, 56, 50, 57, 51, 48, 51, 49, 51, 50, 51, 51, 51, 52, 51, 53, 51, 54, 51, 55, 51, 56, 51, 57, 52, 48, 52, 49, 52, 50, 52, 51, 52, 52, 52, 53, 52, 54, 52, 55, 52, 56, 52, 57, 53, 48, 53, 49, 53, 50, 53, 51, 53, 52, 53, 53, 53, 54, 53, 55, 53, 56, 53, 57, 54, 48, 54, 49, 54, 50, 54, 51, 54, 52, 54, 53, 54, 54, 54, 55, 54, 56, 54, 57, 55, 48, 55, 49, 55, 50, 55, 51, 55, 52, 55, 53, 55, 54, 55, 55, 55, 56, 55, 57, 56, 48, 56, 49, 56, 50, 56, 51, 56, 52, 56, 53, 56, 54, 56, 55, 56, 56, 56, 57, 57, 48, 57, 49, 57, 50, 57, 51, 57, 52, 57, 53, 57, 54, 57, 55, 57, 56, 57, 57])) (.t 75)⟩, [7]⟩,
                  ⟨⟨(some 77), none, .mv (.t 11)⟩, []⟩,
                  ⟨⟨(some 78), none, .idxS (.c (.str [48, 48, 48, 49, 48, 50, 48, 51, 48, 52, 48, 53, 48, 54, 48, 55, 48, 56, 48, 57, 49, 48, 49, 49, 49, 50, 49, 51, 49, 52, 49, 53, 49, 54, 49, 55, 49, 56, 49, 57, 50, 48, 50, 49, 50, 50, 50, 51, 50, 52, 50, 53, 50, 54, 50, 55, 50, 56, 50, 57, 51, 48, 51, 49, 51, 50, 51, 51, 51, 52, 51, 53, 51, 54, 51, 55, 51, 56, 51, 57, 52, 48, 52, 49, 52, 50, 52, 51, 52, 52, 52, 53, 52, 54, 52, 55, 52, 56, 52, 57, 53, 48, 53, 49, 53, 50, 53, 51, 53, 52, 53, 53, 53, 54, 53, 55, 53, 56, 53, 57, 54, 48, 54, 49, 54, 50, 54, 51, 54, 52, 54, 53, 54, 54, 54, 55, 54, 56, 54, 57, 55, 48, 55, 49, 55, 50, 55, 51, 55, 52, 55, 53, 55, 54, 55, 55, 55, 56, 55, 57, 56, 48, 56, 49, 56, 50, 56, 51, 56, 52, 56, 53, 56, 54, 56, 55, 56, 56, 56, 57, 57, 48, 57, 49, 57, 50, 57, 51, 57, 52, 57, 53, 57, 54, 57, 55, 57, 56, 57, 57])) (.t 77)⟩, [9]⟩,
                  ⟨⟨(some 79), none, .iaddrS 1 (.t 68) (.t 70)⟩, [0, 2, 0, 1, 2, 6, 7, 8]⟩,
                  ⟨⟨none, none, .store 1 (.t 79) (.t 76)⟩, [11, 8, 0, 1, 2, 6, 7, 8]⟩,
                  ⟨⟨(some 80), none, .iaddrS 1 (.t 71) (.t 73)⟩, [3, 5, 0, 1, 2, 3, 4, 5, 6, 7, 8, 9, 10, 11, 12]⟩,
                  ⟨⟨none, none, .store 1 (.t 80) (.t 78)⟩, [13, 10, 12, 0, 1, 2, 3, 4, 5, 6, 7, 8, 9, 10, 11, 12]⟩] [0, 0, 2, 0, 0, 16, 0, 64, 192, 0, 512, 455, 2503, 8191, 16383])
                (.seq
                 (.draw [⟨⟨(some 81), none, .mv (.t 0)⟩, []⟩,
                   ⟨⟨(some 82), none, .mv (.t 4)⟩, []⟩,
                   ⟨⟨(some 83), none, .bin .sub (.t 82) (.c (.int .i64 7))⟩, [1]⟩,
                   ⟨⟨(some 84), none, .mv (.t 0)⟩, []⟩,
                   ⟨⟨(some 85), none, .mv (.t 4)⟩, []⟩,
                   ⟨⟨(some 86), none, .bin .sub (.t 85) (.c (.int .i64 8))⟩, [4]⟩,
                   ⟨⟨(some 87), none, .mv (.t 10)⟩, []⟩,
                   ⟨⟨(some 88), none, .bin .add (.t 87) (.c (.int .u32 1))⟩, [6]⟩,
                   ⟨⟨(some 89), none, .idxS (.c (.str [48, 48, 48, 49, 48, 50, 48, 51, 48, 52, 48, 53, 48, 54, 48, 55, 48, 56, 48, 57, 49, 48, 49, 49, 49, 50, 49, 51, 49, 52, 49, 53, 49, 54, 49, 55, 49, 56, 49, 57, 50, 48, 50, 49, 50, 50, 50, 51, 50, 52, 50, 53, 50, 54, 50, 55, 50, 56, 50, 57, 51, 48, 51, 49, 51, 50, 51, 51, 51, 52, 51, 53, 51, 54, 51, 55, 51, 56, 51, 57, 52, 48, 52, 49, 52, 50, 52, 51, 52, 52, 52, 53, 52, 54, 52, 55, 52, 56, 52, 57, 53, 48, 53, 49, 53, 50, 53, 51, 53, 52, 53, 53, 53, 54, 53, 55, 53, 56, 53, 57, 54, 48, 54, 49, 54, 50, 54, 51, 54, 52, 54, 53, 54, 54, 54, 55, 54, 56, 54, 57, 55, 48, 55, 49, 55, 50, 55, 51, 55, 52, 55, 53, 55, 54, 55, 55, 55, 56, 55, 57, 56, 48, 56, 49, 56, 50, 56, 51, 56, 52, 56, 53, 56, 54, 56, 55, 56, 56, 56, 57, 57, 48, 57, 49, 57, 50, 57, 51, 57, 52, 57, 53, 57, 54, 57, 55, 57, 56, 57, 57])) (.t 88)⟩, [7]⟩,
                   ⟨⟨(some 90), none, .mv (.t 10)⟩, []⟩,
                   ⟨⟨(some 91), none, .idxS (.c (.str [48, 48, 48, 49, 48, 50, 48, 51, 48, 52, 48, 53, 48, 54, 48, 55, 48, 56, 48, 57, 49, 48, 49, 49, 49, 50, 49, 51, 49, 52, 49, 53, 49, 54, 49, 55, 49, 56, 49, 57, 50, 48, 50, 49, 50, 50, 50, 51, 50, 52, 50, 53, 50, 54, 50, 55, 50, 56, 50, 57, 51, 48, 51, 49, 51, 50, 51, 51, 51, 52, 51, 53, 51, 54, 51, 55, 51, 56, 51, 57, 52, 48, 52, 49, 52, 50, 52, 51, 52, 52, 52, 53, 52, 54, 52, 55, 52, 56, 52, 57, 53, 48, 53, 49, 53, 50, 53, 51, 53, 52, 53, 53, 53, 54, 53, 55, 53, 56, 53, 57, 54, 48, 54, 49, 54, 50, 54, 51, 54, 52, 54, 53, 54, 54, 54, 55, 54, 56, 54, 57, 55, 48, 55, 49, 55, 50, 55, 51, 55, 52, 55, 53, 55, 54, 55, 55, 55, 56, 55, 57, 56, 48, 56, 49, 56, 50, 56, 51, 56, 52, 56, 53, 56, 54, 56, 55, 56, 56, 56, 57, 57, 48, 57, 49, 57, 50, 57, 51, 57, 52, 57, 53, 57, 54, 57, 55, 57, 56, 57, 57])) (.t 90)⟩, [9]⟩,
                   ⟨⟨(some 92), none, .iaddrS 1 (.t 81) (.t 83)⟩, [0, 2, 0, 1, 2, 6, 7, 8]⟩,
                   ⟨⟨none, none, .store 1 (.t 92) (.t 89)⟩, [11, 8, 0, 1, 2, 6, 7, 8]⟩,
                   ⟨⟨(some 93), none, .iaddrS 1 (.t 84) (.t 86)⟩, [3, 5, 0, 1, 2, 3, 4, 5, 6, 7, 8, 9, 10, 11, 12]⟩,
                   ⟨⟨none, none, .store 1 (.t 93) (.t 91)⟩, [13, 10, 12, 0, 1, 2, 3, 4, 5, 6, 7, 8, 9, 10, 11, 12]⟩] [0, 0, 2, 0, 0, 16, 0, 64, 192, 0, 512, 455, 2503, 8191, 16383])
                 (.ops [⟨(some 94), none, .mv (.t 4)⟩,
                   ⟨(some 95), none, .bin .sub (.t 94) (.c (.int .i64 8))⟩,
                   ⟨(some 4), none, .mv (.t 95)⟩]))))))))))))))
    (.seq
     (.ops [⟨(some 96), none, .mv (.t 1)⟩,
       ⟨(some 97), none, .convI .u32 (.t 96)⟩,
       ⟨(some 12), none, .mv (.t 97)⟩])
     (.seq
      (.seq
       (.ops [⟨(some 98), none, .mv (.t 4)⟩,
         ⟨(some 99), none, .bin .geq (.t 98) (.c (.int .i64 4))⟩])
       (.cond (.t 99)
        (.seq
         (.ops [⟨(some 100), none, .mv (.t 12)⟩,
           ⟨(some 101), none, .bin .rem (.t 100) (.c (.int .u32 10000))⟩,
           ⟨(some 13), none, .mv (.t 101)⟩])
         (.seq
          (.ops [⟨(some 102), none, .mv (.t 12)⟩,
            ⟨(some 103), none, .bin .quo (.t 102) (.c (.int .u32 10000))⟩,
            ⟨(some 12), none, .mv (.t 103)⟩])
          (.seq
           (.ops [⟨(some 104), none, .mv (.t 13)⟩,
             ⟨(some 105), none, .bin .quo (.t 104) (.c (.int .u32 100))⟩,
             ⟨(some 106), none, .bin .mul (.t 105) (.c (.int .u32 2))⟩,
             ⟨(some 107), none, .mv (.t 13)⟩,
             ⟨(some 108), none, .bin .rem (.t 107) (.c (.int .u32 100))⟩,
             ⟨(some 109), none, .bin .mul (.t 108) (.c (.int .u32 2))⟩,
             ⟨(some 14), none, .mv (.t 106)⟩,
             ⟨(some 15), none, .mv (.t 109)⟩])
           (.seq
            (.draw [⟨⟨(some 110), none, .mv (.t 0)⟩, []⟩,
              ⟨⟨(some 111), none, .mv (.t 4)⟩, []⟩,
              ⟨⟨(some 112), none, .bin .sub (.t 111) (.c (.int .i64 1))⟩, [1]⟩,
              ⟨⟨(some 113), none, .mv (.t 0)⟩, []⟩,
              ⟨⟨(some 114), none, .mv (.t 4)⟩, []⟩,
              ⟨⟨(some 115), none, .bin .sub (.t 114) (.c (.int .i64 2))⟩, [4]⟩,
              ⟨⟨(some 116), none, .mv (.t 15)⟩, []⟩,
              ⟨⟨(some 117), none, .bin .add (.t 116) (.c (.int .u32 1))⟩, [6]⟩,
              ⟨⟨(some 118), none, .idxS (.c (.str [48, 48, 48, 49, 48, 50, 48, 51, 48, 52, 48, 53, 48, 54, 48, 55, 48, 56, 48, 57, 49, 48, 49, 49, 49, 50, 49, 51, 49, 52, 49, 53, 49, 54, 49, 55, 49, 56, 49, 57, 50, 48, 50, 49, 50, 50, 50, 51, 50, 52, 50, 53, 50, 54, 50, 55, 50, 56, 50, 57, 51, 48, 51, 49, 51, 50, 51, 51, 51, 52, 51, 53, 51, 54, 51, 55, 51, 56, 51, 57, 52, 48, 52, 49, 52, 50, 52, 51, 52, 52, 52, 53, 52, 54, 52, 55, 52, 56, 52, 57, 53, 48, 53, 49, 53, 50, 53, 51, 53, 52, 53, 53, 53, 54, 53, 55, 53, 56, 53, 57, 54, 48, 54, 49, 54, 50, 54, 51, 54, 52, 54, 53, 54, 54, 54, 55, 54, 56, 54, 57, 55, 48, 55, 49, 55, 50, 55, 51, 55, 52, 55, 53, 55, 54, 55, 55, 55, 56, 55, 57, 56, 48, 56, 49, 56, 50, 56, 51, 56, 52, 56, 53, 56, 54, 56, 55, 56, 56, 56, 57, 57, 48, 57, 49, 57, 50, 57, 51, 57, 52, 57, 53, 57, 54, 57, 55, 57, 56, 57, 57])) (.t 117)⟩, [7]⟩,
              ⟨⟨(some 119), none, .mv (.t 15)⟩, []⟩,
              ⟨⟨(some 120), none, .idxS (.c (.str [48, 48, 48, 49, 48, 50, 48, 51, 48, 52, 48, 53, 48, 54, 48, 55, 48, 56, 48, 57, 49, 48, 49, 49, 49, 50, 49, 51, 49, 52, 49, 53, 49, 54, 49, 55, 49, 56, 49, 57, 50, 48, 50, 49, 50, 50, 50, 51, 50, 52, 50, 53, 50, 54, 50, 55, 50, 56, 50, 57, 51, 48, 51, 49, 51, 50, 51, 51, 51, 52, 51, 53, 51, 54, 51, 55, 51, 56, 51, 57, 52, 48, 52, 49, 52, 50, 52, 51, 52, 52, 52, 53, 52, 54, 52, 55, 52, 56, 52, 57, 53, 48, 53, 49, 53, 50, 53, 51, 53, 52, 53, 53, 53, 54, 53, 55, 53, 56, 53, 57, 54, 48, 54, 49, 54, 50, 54, 51, 54, 52, 54, 53, 54, 54, 54, 55, 54, 56, 54, 57, 55, 48, 55, 49, 55, 50, 55, 51, 55, 52, 55, 53, 55, 54, 55, 55, 55, 56, 55, 57, 56, 48, 56, 49, 56, 50, 56, 51, 56, 52, 56, 53, 56, 54, 56, 55, 56, 56, 56, 57, 57, 48, 57, 49, 57, 50, 57, 51, 57, 52, 57, 53, 57, 54, 57, 55, 57, 56, 57, 57])) (.t 119)⟩, [9]⟩,
              ⟨⟨(some 121), none, .iaddrS 1 (.t 110) (.t 112)⟩, [0, 2, 0, 1, 2, 6, 7, 8]⟩,
              ⟨⟨none, none, .store 1 (.t 121) (.t 118)⟩, [11, 8, 0, 1, 2, 6, 7, 8]⟩,
              ⟨⟨(some 122), none, .iaddrS 1 (.t 113) (.t 115)⟩, [3, 5, 0, 1, 2, 3, 4, 5, 6, 7, 8, 9, 10, 11, 12]⟩,
              ⟨⟨none, none, .store 1 (.t 122) (.t 120)⟩, [13, 10, 12, 0, 1, 2, 3, 4, 5, 6, 7, 8, 9, 10, 11, 12]⟩] [0, 0, 2, 0, 0, 16, 0, 64, 192, 0, 512, 455, 2503, 8191, 16383])
            (.seq
             (.draw [⟨⟨(some 123), none, .mv (.t 0)⟩, []⟩,
               ⟨⟨(some 124), none, .mv (.t 4)⟩, []⟩,
               ⟨⟨(some 125), none, .bin .sub (.t 124) (.c (.int .i64 3))⟩, [1]⟩,
               ⟨⟨(some 126), none, .mv (.t 0)⟩, []⟩,
               ⟨⟨(some 127), none, .mv (.t 4)⟩, []⟩,
               ⟨⟨(some 128), none, .bin .sub (.t 127) (.c (.int .i64 4))⟩, [4]⟩,
               ⟨⟨(some 129), none, .mv (.t 14)⟩, []⟩,
               ⟨⟨(some 130), none, .bin .add (.t 129) (.c (.int .u32 1))⟩, [6]⟩,
               ⟨⟨(some 131), none, .idxS (.c (.str [48, 48, 48, 49, 48, 50, 48, 51, 48, 52, 48, 53, 48, 54, 48, 55, 48, 56, 48, 57, 49, 48, 49, 49, 49, 50, 49, 51, 49, 52, 49, 53, 49, 54, 49, 55, 49, 56, 49, 57, 50, 48, 50, 49, 50, 50, 50, 51, 50, 52, 50, 53, 50, 54, 50, 55, 50, 56, 50, 57, 51, 48, 51, 49, 51, 50, 51, 51, 51, 52, 51, 53, 51, 54, 51, 55, 51, 56, 51, 57, 52, 48, 52, 49, 52, 50, 52, 51, 52, 52, 52, 53, 52, 54, 52, 55, 52, 56, 52, 57, 53, 48, 53, 49, 53, 50, 53, 51, 53, 52, 53, 53, 53, 54, 53, 55, 53, 56, 53, 57, 54, 48, 54, 49, 54, 50, 54, 51, 54, 52, 54, 53, 54, 54, 54, 55, 54, 56, 54, 57, 55, 48, 55, 49, 55, 50, 55, 51, 55, 52, 55, 53, 55, 54, 55, 55, 55, 56, 55, 57, 56, 48, 56, 49, 56, 50, 56, 51, 56, 52, 56, 53, 56, 54, 56, 55, 56, 56, 56, 57, 57, 48, 57, 49, 57, 50, 57, 51, 57, 52, 57, 53, 57, 54, 57, 55, 57, 56, 57, 57])) (.t 130)⟩, [7]⟩,
               ⟨⟨(some 132), none, .mv (.t 14)⟩, []⟩,
               ⟨⟨(some 133), none, .idxS (.c (.str [48, 48, 48, 49, 48, 50, 48, 51, 48, 52, 48, 53, 48, 54, 48, 55, 48, 56, 48, 57, 49, 48, 49, 49, 49, 50, 49, 51, 49, 52, 49, 53, 49, 54, 49, 55, 49, 56, 49, 57, 50, 48, 50, 49, 50, 50, 50, 51, 50, 52, 50, 53, 50, 54, 50, 55, 50, 56, 50, 57, 51, 48, 51, 49, 51, 50, 51, 51, 51, 52, 51, 53, 51, 54, 51, 55, 51, 56, 51, 57, 52, 48, 52, 49, 52, 50, 52, 51, 52, 52, 52, 53, 52, 54, 52, 55, 52, 56, 52, 57, 53, 48, 53, 49, 53, 50, 53, 51, 53, 52, 53, 53, 53, 54, 53, 55, 53, 56, 53, 57, 54, 48, 54, 49, 54, 50, 54, 51, 54, 52, 54, 53, 54, 54, 54, 55, 54, 56, 54, 57, 55, 48, 55, 49, 55, 50, 55, 51, 55, 52, 55, 53, 55, 54, 55, 55, 55, 56, 55, 57, 56, 48, 56, 49, 56, 50, 56, 51, 56, 52, 56, 53, 56, 54, 56, 55, 56, 56, 56, 57, 57, 48, 57, 49, 57, 50, 57, 51, 57, 52, 57, 53, 57, 54, 57, 55, 57, 56, 57, 57])) (.t 132)⟩, [9]⟩,
               ⟨⟨(some 134), none, .iaddrS 1 (.t 123) (.t 125)⟩, [0, 2, 0, 1, 2, 6, 7, 8]⟩,
               ⟨⟨none, none, .store 1 (.t 134) (.t 131)⟩, [11, 8, 0, 1, 2, 6, 7, 8]⟩,
               ⟨⟨(some 135), none, .iaddrS 1 (.t 126) (.t 128)⟩, [3, 5, 0, 1, 2, 3, 4, 5, 6, 7, 8, 9, 10, 11, 12]⟩,
               ⟨⟨none, none, .store 1 (.t 135) (.t 133)⟩, [13, 10, 12, 0, 1, 2, 3, 4, 5, 6, 7, 8, 9, 10, 11, 12]⟩] [0, 0, 2, 0, 0, 16, 0, 64, 192, 0, 512, 455, 2503, 8191, 16383])
             (.ops [⟨(some 136), none, .mv (.t 4)⟩,
               ⟨(some 137), none, .bin .sub (.t 136) (.c (.int .i64 4))⟩,
               ⟨(some 4), none, .mv (.t 137)⟩]))))))
        (.skip)))
      (.seq
       (.seq
        (.ops [⟨(some 138), none, .mv (.t 4)⟩,
          ⟨(some 139), none, .bin .geq (.t 138) (.c (.int .i64 2))⟩])
        (.cond (.t 139)
         (.seq
          (.ops [⟨(some 140), none, .mv (.t 12)⟩,
            ⟨(some 141), none, .bin .rem (.t 140) (.c (.int .u32 100))⟩,
            ⟨(some 142), none, .bin .mul (.t 141) (.c (.int .u32 2))⟩,
            ⟨(some 16), none, .mv (.t 142)⟩])
          (.seq
           (.ops [⟨(some 143), none, .mv (.t 12)⟩,
             ⟨(some 144), none, .bin .quo (.t 143) (.c (.int .u32 100))⟩,
             ⟨(some 12), none, .mv (.t 144)⟩])
           (.seq
            (.draw [⟨⟨(some 145), none, .mv (.t 0)⟩, []⟩,
              ⟨⟨(some 146), none, .mv (.t 4)⟩, []⟩,
              ⟨⟨(some 147), none, .bin .sub (.t 146) (.c (.int .i64 1))⟩, [1]⟩,
              ⟨⟨(some 148), none, .mv (.t 0)⟩, []⟩,
              ⟨⟨(some 149), none, .mv (.t 4)⟩, []⟩,
              ⟨⟨(some 150), none, .bin .sub (.t 149) (.c (.int .i64 2))⟩, [4]⟩,
              ⟨⟨(some 151), none, .mv (.t 16)⟩, []⟩,
              ⟨⟨(some 152), none, .bin .add (.t 151) (.c (.int .u32 1))⟩, [6]⟩,
              ⟨⟨(some 153), none, .idxS (.c (.str [48, 48, 48, 49, 48, 50, 48, 51, 48, 52, 48, 53, 48, 54, 48, 55, 48, 56, 48, 57, 49, 48, 49, 49, 49, 50, 49, 51, 49, 52, 49, 53, 49, 54, 49, 55, 49, 56, 49, 57, 50, 48, 50, 49, 50, 50, 50, 51, 50, 52, 50, 53, 50, 54, 50, 55, 50, 56, 50, 57, 51, 48, 51, 49, 51, 50, 51, 51, 51, 52, 51, 53, 51, 54, 51, 55, 51, 56, 51, 57, 52, 48, 52, 49, 52, 50, 52, 51, 52, 52, 52, 53, 52, 54, 52, 55, 52, 56, 52, 57, 53, 48, 53, 49, 53, 50, 53, 51, 53, 52, 53, 53, 53, 54, 53, 55, 53, 56, 53, 57, 54, 48, 54, 49, 54, 50, 54, 51, 54, 52, 54, 53, 54, 54, 54, 55, 54, 56, 54, 57, 55, 48, 55, 49, 55, 50, 55, 51, 55, 52, 55, 53, 55, 54, 55, 55, 55, 56, 55, 57, 56, 48, 56, 49, 56, 50, 56, 51, 56, 52, 56, 53, 56, 54, 56, 55, 56, 56, 56, 57, 57, 48, 57, 49, 57, 50, 57, 51, 57, 52, 57, 53, 57, 54, 57, 55, 57, 56, 57, 57])) (.t 152)⟩, [7]⟩,
              ⟨⟨(some 154), none, .mv (.t 16)⟩, []⟩,
              ⟨⟨(some 155), none, .idxS (.c (.str [48, 48, 48, 49, 48, 50, 48, 51, 48, 52, 48, 53, 48, 54, 48, 55, 48, 56, 48, 57, 49, 48, 49, 49, 49, 50, 49, 51, 49, 52, 49, 53, 49, 54, 49, 55, 49, 56, 49, 57, 50, 48, 50, 49, 50, 50, 50, 51, 50, 52, 50, 53, 50, 54, 50, 55, 50, 56, 50, 57, 51, 48, 51, 49, 51, 50, 51, 51, 51, 52, 51, 53, 51, 54, 51, 55, 51, 56, 51, 57, 52, 48, 52, 49, 52, 50, 52, 51, 52, 52, 52, 53, 52, 54, 52, 55, 52, 56, 52, 57, 53, 48, 53, 49, 53, 50, 53, 51, 53, 52, 53, 53, 53, 54, 53, 55, 53, 56, 53, 57, 54, 48, 54, 49, 54, 50, 54, 51, 54, 52, 54, 53, 54, 54, 54, 55, 54, 56, 54, 57, 55, 48, 55, 49, 55, 50, 55, 51, 55, 52, 55, 53, 55, 54, 55, 55, 55, 56, 55, 57, 56, 48, 56, 49, 56, 50, 56, 51, 56, 52, 56, 53, 56, 54, 56, 55, 56, 56, 56, 57, 57, 48, 57, 49, 57, 50, 57, 51, 57, 52, 57, 53, 57, 54, 57, 55, 57, 56, 57, 57])) (.t 154)⟩, [9]⟩,
              ⟨⟨(some 156), none, .iaddrS 1 (.t 145) (.t 147)⟩, [0, 2, 0, 1, 2, 6, 7, 8]⟩,
              ⟨⟨none, none, .store 1 (.t 156) (.t 153)⟩, [11, 8, 0, 1, 2, 6, 7, 8]⟩,
              ⟨⟨(some 157), none, .iaddrS 1 (.t 148) (.t 150)⟩, [3, 5, 0, 1, 2, 3, 4, 5, 6, 7, 8, 9, 10, 11, 12]⟩,
              ⟨⟨none, none, .store 1 (.t 157) (.t 155)⟩, [13, 10, 12, 0, 1, 2, 3, 4, 5, 6, 7, 8, 9, 10, 11, 12]⟩] [0, 0, 2, 0, 0, 16, 0, 64, 192, 0, 512, 455, 2503, 8191, 16383])
            (.ops [⟨(some 158), none, .mv (.t 4)⟩,
              ⟨(some 159), none, .bin .sub (.t 158) (.c (.int .i64 2))⟩,
              ⟨(some 4), none, .mv (.t 159)⟩]))))
         (.skip)))
       (.seq
        (.ops [⟨(some 160), none, .mv (.t 4)⟩,
          ⟨(some 161), none, .bin .gtr (.t 160) (.c (.int .i64 0))⟩])
        (.cond (.t 161)
         (.ops [⟨(some 162), none, .mv (.t 0)⟩,
           ⟨(some 163), none, .mv (.t 12)⟩,
           ⟨(some 164), none, .bin .add (.c (.int .u32 48)) (.t 163)⟩,
           ⟨(some 165), none, .convI .u8 (.t 164)⟩,
           ⟨(some 166), none, .iaddrS 1 (.t 162) (.c (.int .i64 0))⟩,
           ⟨none, none, .store 1 (.t 166) (.t 165)⟩])
         (.skip)))))))⟩
theorem ok65 : FnOk Tryd.prog 65 a65 := FnOk.of Tryd.prog Tryd.func65 (by kernel_rfl)
/-- internal/strconv.formatBits -/
def a66 : AFn := ⟨102, [.tmp 10, .tmp 11], .seq
   (.ops [⟨(some 10), none, .mv (.c .nilslice)⟩,
     ⟨(some 11), none, .mv (.c (.str []))⟩])
   (.seq
    (.seq
     (.ops [⟨(some 19), none, .mv (.t 2)⟩,
       ⟨(some 20), none, .bin .lss (.t 19) (.c (.int .i64 2))⟩,
       ⟨(some 21), none, .mv (.t 20)⟩,
       ⟨(some 22), (some (21, false)), .mv (.t 2)⟩,
       ⟨(some 23), (some (21, false)), .bin .eql (.t 22) (.c (.int .i64 10))⟩,
       ⟨(some 24), none, .pick (.t 21) (.c (.bool true)) (.t 23)⟩,
       ⟨(some 25), none, .mv (.t 24)⟩,
       ⟨(some 26), (some (25, false)), .mv (.t 2)⟩,
       ⟨(some 27), (some (25, false)), .bin .gtr (.t 26) (.c (.int .i64 36))⟩,
       ⟨(some 28), none, .pick (.t 25) (.c (.bool true)) (.t 27)⟩])
     (.cond (.t 28)
      (.ops [⟨(some 29), none, .bad⟩,
        ⟨none, none, .bad⟩])
      (.skip)))
    (.seq
     (.ops [⟨(some 12), none, .alloc 139 [(.int .u8 0), (.int .u8 0), (.int .u8 0), (.int .u8 0), (.int .u8 0), (.int .u8 0), (.int .u8 0), (.int .u8 0), (.int .u8 0), (.int .u8 0), (.int .u8 0), (.int .u8 0), (.int .u8 0), (.int .u8 0), (.int .u8 0), (.int .u8 0), (.int .u8 0), (.int .u8 0), (.int .u8 0), (.int .u8 0), (.int .u8 0), (.int .u8 0), (.int .u8 0), (.int .u8 0), (.int .u8 0), (.int .u8 0), (.int .u8 0), (.int .u8 0), (.int .u8 0), (.int .u8 0), (.int .u8 0), (.int .u8 0), (.int .u8 0), (.int .u8 0), (.int .u8 0), (.int .u8 0), (.int .u8 0), (.int .u8 0), (.int .u8 0), (.int .u8 0), (.int .u8 0), (.int .u8 0), (.int .u8 0), (.int .u8 0), (.int .u8 0), (.int .u8 0), (.int .u8 0), (.int .u8 0), (.int .u8 0), (.int .u8 0), (.int .u8 0), (.int .u8 0), (.int .u8 0), (.int .u8 0), (.int .u8 0), (.int .u8 0), (.int .u8 0), (.int .u8 0), (.int .u8 0), (.int .u8 0), (.int .u8 0), (.int .u8 0), (.int .u8 0), (.int .u8 0), (.int .u8 0)]⟩])
     (.seq
      (.ops [⟨(some 13), none, .mv (.c (.int .i64 65))⟩])
      (.seq
       (.seq
        (.ops [⟨(some 30), none, .mv (.t 3)⟩])
        (.cond (.t 30)
         (.ops [⟨(some 31), none, .mv (.t 1)⟩,
           ⟨(some 32), none, .un .neg (.t 31)⟩,
           ⟨(some 1), none, .mv (.t 32)⟩])
         (.skip)))
       (.seq
        (.seq
         (.ops [⟨(some 33), none, .mv (.t 2)⟩,
           ⟨(some 34), none, .call 79 [(.t 33)]⟩])
         (.cond (.t 34)
          (.seq
           (.ops [⟨(some 35), none, .mv (.t 2)⟩,
             ⟨(some 36), none, .convI .u64 (.t 35)⟩,
             ⟨(some 37), none, .call 80 [(.t 36)]⟩,
             ⟨(some 38), none, .convI .u64 (.t 37)⟩,
             ⟨(some 14), none, .mv (.t 38)⟩])
           (.seq
            (.ops [⟨(some 39), none, .mv (.t 2)⟩,
              ⟨(some 40), none, .convI .u64 (.t 39)⟩,
              ⟨(some 15), none, .mv (.t 40)⟩])
            (.seq
             (.ops [⟨(some 41), none, .mv (.t 2)⟩,
               ⟨(some 42), none, .convI .u64 (.t 41)⟩,
               ⟨(some 43), none, .bin .sub (.t 42) (.c (.int .u64 1))⟩,
               ⟨(some 16), none, .mv (.t 43)⟩])
             (.seq
              (.block 0 (.loop (.seq
                 (.seq
                  (.ops [⟨(some 44), none, .mv (.t 1)⟩,
                    ⟨(some 45), none, .mv (.t 15)⟩,
                    ⟨(some 46), none, .bin .geq (.t 44) (.t 45)⟩])
                  (.cond (.t 46)
                   (.skip)
                   (.exit 0)))
                 (.block 1 (.seq
                   (.ops [⟨(some 47), none, .mv (.t 13)⟩,
                     ⟨(some 48), none, .bin .sub (.t 47) (.c (.int .i64 1))⟩,
                     ⟨(some 13), none, .mv (.t 48)⟩])
                   (.seq
                    (.ops [⟨(some 49), none, .mv (.t 13)⟩,
                      ⟨(some 50), none, .mv (.t 1)⟩,
                      ⟨(some 51), none, .mv (.t 16)⟩,
                      ⟨(some 52), none, .bin .and (.t 50) (.t 51)⟩,
                      ⟨(some 53), none, .idxS (.c (.str [48, 49, 50, 51, 52, 53, 54, 55, 56, 57, 97, 98, 99, 100, 101, 102, 103, 104, 105, 106, 107, 108, 109, 110, 111, 112, 113, 114, 115, 116, 117, 118, 119, 120, 121, 122])) (.t 52)⟩,
                      ⟨(some 54), none, .iaddrA 65 1 (.t 12) (.t 49)⟩,
                      ⟨none, none, .store 1 (.t 54) (.t 53)⟩])
                    (.ops [⟨(some 55), none, .mv (.t 1)⟩,
                      ⟨(some 56), none, .mv (.t 14)⟩,
                      ⟨(some 57), none, .bin .shr (.t 55) (.t 56)⟩,
                      ⟨(some 1), none, .mv (.t 57)⟩])))))))
              (.seq
               (.ops [⟨(some 58), none, .mv (.t 13)⟩,
                 ⟨(some 59), none, .bin .sub (.t 58) (.c (.int .i64 1))⟩,
                 ⟨(some 13), none, .mv (.t 59)⟩])
               (.ops [⟨(some 60), none, .mv (.t 13)⟩,
                 ⟨(some 61), none, .mv (.t 1)⟩,
                 ⟨(some 62), none, .idxS (.c (.str [48, 49, 50, 51, 52, 53, 54, 55, 56, 57, 97, 98, 99, 100, 101, 102, 103, 104, 105, 106, 107, 108, 109, 110, 111, 112, 113, 114, 115, 116, 117, 118, 119, 120, 121, 122])) (.t 61)⟩,
                 ⟨(some 63), none, .iaddrA 65 1 (.t 12) (.t 60)⟩,
                 ⟨none, none, .store 1 (.t 63) (.t 62)⟩]))))))
          (.seq
           (.ops [⟨(some 64), none, .mv (.t 2)⟩,
             ⟨(some 65), none, .convI .u64 (.t 64)⟩,
             ⟨(some 17), none, .mv (.t 65)⟩])
           (.seq
            (.block 2 (.loop (.seq
               (.seq
                (.ops [⟨(some 66), none, .mv (.t 1)⟩,
                  ⟨(some 67), none, .mv (.t 17)⟩,
                  ⟨(some 68), none, .bin .geq (.t 66) (.t 67)⟩])
                (.cond (.t 68)
                 (.skip)
                 (.exit 2)))
               (.block 3 (.seq
                 (.ops [⟨(some 69), none, .mv (.t 13)⟩,
                   ⟨(some 70), none, .bin .sub (.t 69) (.c (.int .i64 1))⟩,
                   ⟨(some 13), none, .mv (.t 70)⟩])
                 (.seq
                  (.ops [⟨(some 71), none, .mv (.t 1)⟩,
                    ⟨(some 72), none, .mv (.t 17)⟩,
                    ⟨(some 73), none, .bin .quo (.t 71) (.t 72)⟩,
                    ⟨(some 18), none, .mv (.t 73)⟩])
                  (.seq
                   (.ops [⟨(some 74), none, .mv (.t 13)⟩,
                     ⟨(some 75), none, .mv (.t 1)⟩,
                     ⟨(some 76), none, .mv (.t 18)⟩,
                     ⟨(some 77), none, .mv (.t 17)⟩,
                     ⟨(some 78), none, .bin .mul (.t 76) (.t 77)⟩,
                     ⟨(some 79), none, .bin .sub (.t 75) (.t 78)⟩,
                     ⟨(some 80), none, .idxS (.c (.str [48, 49, 50, 51, 52, 53, 54, 55, 56, 57, 97, 98, 99, 100, 101, 102, 103, 104, 105, 106, 107, 108, 109, 110, 111, 112, 113, 114, 115, 116, 117, 118, 119, 120, 121, 122])) (.t 79)⟩,
                     ⟨(some 81), none, .iaddrA 65 1 (.t 12) (.t 74)⟩,
                     ⟨none, none, .store 1 (.t 81) (.t 80)⟩])
                   (.ops [⟨(some 82), none, .mv (.t 18)⟩,
                     ⟨(some 1), none, .mv (.t 82)⟩]))))))))
            (.seq
             (.ops [⟨(some 83), none, .mv (.t 13)⟩,
               ⟨(some 84), none, .bin .sub (.t 83) (.c (.int .i64 1))⟩,
               ⟨(some 13), none, .mv (.t 84)⟩])
             (.ops [⟨(some 85), none, .mv (.t 13)⟩,
               ⟨(some 86), none, .mv (.t 1)⟩,
               ⟨(some 87), none, .idxS (.c (.str [48, 49, 50, 51, 52, 53, 54, 55, 56, 57, 97, 98, 99, 100, 101, 102, 103, 104, 105, 106, 107, 108, 109, 110, 111, 112, 113, 114, 115, 116, 117, 118, 119, 120, 121, 122])) (.t 86)⟩,
               ⟨(some 88), none, .iaddrA 65 1 (.t 12) (.t 85)⟩,
               ⟨none, none, .store 1 (.t 88) (.t 87)⟩]))))))
        (.seq
         (.seq
          (.ops [⟨(some 89), none, .mv (.t 3)⟩])
          (.cond (.t 89)
           (.seq
            (.ops [⟨(some 90), none, .mv (.t 13)⟩,
              ⟨(some 91), none, .bin .sub (.t 90) (.c (.int .i64 1))⟩,
              ⟨(some 13), none, .mv (.t 91)⟩])
            (.ops [⟨(some 92), none, .mv (.t 13)⟩,
              ⟨(some 93), none, .iaddrA 65 1 (.t 12) (.t 92)⟩,
              ⟨none, none, .store 1 (.t 93) (.c (.int .u8 45))⟩]))
           (.skip)))
         (.seq
          (.seq
           (.ops [⟨(some 94), none, .mv (.t 4)⟩])
           (.cond (.t 94)
            (.seq
             (.ops [⟨(some 95), none, .mv (.t 0)⟩,
               ⟨(some 96), none, .mv (.t 13)⟩,
               ⟨(some 97), none, .sliceA 65 1 (.t 12) (some (.t 96)) none⟩,
               ⟨(some 98), none, .append 5 1 1 (.t 95) (.t 97)⟩,
               ⟨(some 10), none, .mv (.t 98)⟩])
             (.ret))
            (.skip)))
          (.seq
           (.ops [⟨(some 99), none, .mv (.t 13)⟩,
             ⟨(some 100), none, .sliceA 65 1 (.t 12) (some (.t 99)) none⟩,
             ⟨(some 101), none, .strOf (.t 100)⟩,
             ⟨(some 11), none, .mv (.t 101)⟩])
           (.ret)))))))))⟩
theorem ok66 : FnOk Tryd.prog 66 a66 := FnOk.of Tryd.prog Tryd.func66 (by kernel_rfl)
/-- unicode/utf8.decodeRuneInStringSlow -/
def a69 : AFn := ⟨117, [.tmp 2, .tmp 3], .seq
   (.ops [⟨(some 2), none, .mv (.c (.int .i32 0))⟩,
     ⟨(some 3), none, .mv (.c (.int .i64 0))⟩])
   (.seq
    (.ops [⟨(some 13), none, .mv (.t 0)⟩,
      ⟨(some 14), none, .lenS (.t 13)⟩,
      ⟨(some 4), none, .mv (.t 14)⟩])
    (.seq
     (.seq
      (.ops [⟨(some 15), none, .mv (.t 4)⟩,
        ⟨(some 16), none, .bin .lss (.t 15) (.c (.int .i64 1))⟩])
      (.cond (.t 16)
       (.seq
        (.ops [⟨(some 2), none, .mv (.c (.int .i32 65533))⟩,
          ⟨(some 3), none, .mv (.c (.int .i64 0))⟩])
        (.ret))
       (.skip)))
     (.seq
      (.ops [⟨(some 17), none, .mv (.t 0)⟩,
        ⟨(some 18), none, .idxS (.t 17) (.c (.int .i64 0))⟩,
        ⟨(some 5), none, .mv (.t 18)⟩])
      (.seq
       (.ops [⟨(some 19), none, .mv (.t 5)⟩,
         ⟨(some 20), none, .iaddrA 256 1 (.c (.ptr (.ro 5) 0)) (.t 19)⟩,
         ⟨(some 21), none, .load none (.t 20)⟩,
         ⟨(some 6), none, .mv (.t 21)⟩])
       (.seq
        (.seq
         (.ops [⟨(some 22), none, .mv (.t 6)⟩,
           ⟨(some 23), none, .bin .geq (.t 22) (.c (.int .u8 240))⟩])
         (.cond (.t 23)
          (.seq
           (.ops [⟨(some 24), none, .mv (.t 6)⟩,
             ⟨(some 25), none, .convI .i32 (.t 24)⟩,
             ⟨(some 26), none, .bin .shl (.t 25) (.c (.int .u64 31))⟩,
             ⟨(some 27), none, .bin .shr (.t 26) (.c (.int .u64 31))⟩,
             ⟨(some 7), none, .mv (.t 27)⟩])
           (.seq
            (.ops [⟨(some 28), none, .mv (.t 0)⟩,
              ⟨(some 29), none, .idxS (.t 28) (.c (.int .i64 0))⟩,
              ⟨(some 30), none, .convI .i32 (.t 29)⟩,
              ⟨(some 31), none, .mv (.t 7)⟩,
              ⟨(some 32), none, .bin .andNot (.t 30) (.t 31)⟩,
              ⟨(some 33), none, .mv (.t 7)⟩,
              ⟨(some 34), none, .bin .and (.c (.int .i32 65533)) (.t 33)⟩,
              ⟨(some 35), none, .bin .or (.t 32) (.t 34)⟩,
              ⟨(some 2), none, .mv (.t 35)⟩,
              ⟨(some 3), none, .mv (.c (.int .i64 1))⟩])
            (.ret)))
          (.skip)))
        (.seq
         (.ops [⟨(some 36), none, .mv (.t 6)⟩,
           ⟨(some 37), none, .bin .and (.t 36) (.c (.int .u8 7))⟩,
           ⟨(some 38), none, .convI .i64 (.t 37)⟩,
           ⟨(some 8), none, .mv (.t 38)⟩])
         (.seq
          (.ops [⟨(some 39), none, .mv (.t 6)⟩,
            ⟨(some 40), none, .bin .shr (.t 39) (.c (.int .u64 4))⟩,
            ⟨(some 41), none, .iaddrA 16 2 (.c (.ptr (.ro 6) 0)) (.t 40)⟩,
            ⟨(some 42), none, .load (some 2) (.t 41)⟩,
            ⟨(some 9), none, .alloc 143 [(.int .u8 0), (.int .u8 0)]⟩,
            ⟨none, none, .store 2 (.t 9) (.t 42)⟩])
          (.seq
           (.seq
            (.ops [⟨(some 43), none, .mv (.t 4)⟩,
              ⟨(some 44), none, .mv (.t 8)⟩,
              ⟨(some 45), none, .bin .lss (.t 43) (.t 44)⟩])
            (.cond (.t 45)
             (.seq
              (.ops [⟨(some 2), none, .mv (.c (.int .i32 65533))⟩,
                ⟨(some 3), none, .mv (.c (.int .i64 1))⟩])
              (.ret))
             (.skip)))
           (.seq
            (.ops [⟨(some 46), none, .mv (.t 0)⟩,
              ⟨(some 47), none, .idxS (.t 46) (.c (.int .i64 1))⟩,
              ⟨(some 10), none, .mv (.t 47)⟩])
            (.seq
             (.seq
              (.ops [⟨(some 48), none, .mv (.t 10)⟩,
                ⟨(some 49), none, .addr 0 (.t 9)⟩,
                ⟨(some 50), none, .load none (.t 49)⟩,
                ⟨(some 51), none, .bin .lss (.t 48) (.t 50)⟩,
                ⟨(some 52), none, .mv (.t 51)⟩,
                ⟨(some 53), (some (52, false)), .addr 1 (.t 9)⟩,
                ⟨(some 54), (some (52, false)), .load none (.t 53)⟩,
                ⟨(some 55), (some (52, false)), .mv (.t 10)⟩,
                ⟨(some 56), (some (52, false)), .bin .lss (.t 54) (.t 55)⟩,
                ⟨(some 57), none, .pick (.t 52) (.c (.bool true)) (.t 56)⟩])
              (.cond (.t 57)
               (.seq
                (.ops [⟨(some 2), none, .mv (.c (.int .i32 65533))⟩,
                  ⟨(some 3), none, .mv (.c (.int .i64 1))⟩])
                (.ret))
               (.skip)))
             (.seq
              (.seq
               (.ops [⟨(some 58), none, .mv (.t 8)⟩,
                 ⟨(some 59), none, .bin .leq (.t 58) (.c (.int .i64 2))⟩])
               (.cond (.t 59)
                (.seq
                 (.ops [⟨(some 60), none, .mv (.t 5)⟩,
                   ⟨(some 61), none, .bin .and (.t 60) (.c (.int .u8 31))⟩,
                   ⟨(some 62), none, .convI .i32 (.t 61)⟩,
                   ⟨(some 63), none, .bin .shl (.t 62) (.c (.int .u64 6))⟩,
                   ⟨(some 64), none, .mv (.t 10)⟩,
                   ⟨(some 65), none, .bin .and (.t 64) (.c (.int .u8 63))⟩,
                   ⟨(some 66), none, .convI .i32 (.t 65)⟩,
                   ⟨(some 67), none, .bin .or (.t 63) (.t 66)⟩,
                   ⟨(some 2), none, .mv (.t 67)⟩,
                   ⟨(some 3), none, .mv (.c (.int .i64 2))⟩])
                 (.ret))
                (.skip)))
              (.seq
               (.ops [⟨(some 68), none, .mv (.t 0)⟩,
                 ⟨(some 69), none, .idxS (.t 68) (.c (.int .i64 2))⟩,
                 ⟨(some 11), none, .mv (.t 69)⟩])
               (.seq
                (.seq
                 (.ops [⟨(some 70), none, .mv (.t 11)⟩,
                   ⟨(some 71), none, .bin .lss (.t 70) (.c (.int .u8 128))⟩,
                   ⟨(some 72), none, .mv (.t 71)⟩,
                   ⟨(some 73), (some (72, false)), .mv (.t 11)⟩,
                   ⟨(some 74), (some (72, false)), .bin .lss (.c (.int .u8 191)) (.t 73)⟩,
                   ⟨(some 75), none, .pick (.t 72) (.c (.bool true)) (.t 74)⟩])
                 (.cond (.t 75)
                  (.seq
                   (.ops [⟨(some 2), none, .mv (.c (.int .i32 65533))⟩,
                     ⟨(some 3), none, .mv (.c (.int .i64 1))⟩])
                   (.ret))
                  (.skip)))
                (.seq
                 (.seq
                  (.ops [⟨(some 76), none, .mv (.t 8)⟩,
                    ⟨(some 77), none, .bin .leq (.t 76) (.c (.int .i64 3))⟩])
                  (.cond (.t 77)
                   (.seq
                    (.ops [⟨(some 78), none, .mv (.t 5)⟩,
                      ⟨(some 79), none, .bin .and (.t 78) (.c (.int .u8 15))⟩,
                      ⟨(some 80), none, .convI .i32 (.t 79)⟩,
                      ⟨(some 81), none, .bin .shl (.t 80) (.c (.int .u64 12))⟩,
                      ⟨(some 82), none, .mv (.t 10)⟩,
                      ⟨(some 83), none, .bin .and (.t 82) (.c (.int .u8 63))⟩,
                      ⟨(some 84), none, .convI .i32 (.t 83)⟩,
                      ⟨(some 85), none, .bin .shl (.t 84) (.c (.int .u64 6))⟩,
                      ⟨(some 86), none, .bin .or (.t 81) (.t 85)⟩,
                      ⟨(some 87), none, .mv (.t 11)⟩,
                      ⟨(some 88), none, .bin .and (.t 87) (.c (.int .u8 63))⟩,
                      ⟨(some 89), none, .convI .i32 (.t 88)⟩,
                      ⟨(some 90), none, .bin .or (.t 86) (.t 89)⟩,
                      ⟨(some 2), none, .mv (.t 90)⟩,
                      ⟨(some 3), none, .mv (.c (.int .i64 3))⟩])
                    (.ret))
                   (.skip)))
                 (.seq
                  (.ops [⟨(some 91), none, .mv (.t 0)⟩,
                    ⟨(some 92), none, .idxS (.t 91) (.c (.int .i64 3))⟩,
                    ⟨(some 12), none, .mv (.t 92)⟩])
                  (.seq
                   (.seq
                    (.ops [⟨(some 93), none, .mv (.t 12)⟩,
                      ⟨(some 94), none, .bin .lss (.t 93) (.c (.int .u8 128))⟩,
                      ⟨(some 95), none, .mv (.t 94)⟩,
                      ⟨(some 96), (some (95, false)), .mv (.t 12)⟩,
                      ⟨(some 97), (some (95, false)), .bin .lss (.c (.int .u8 191)) (.t 96)⟩,
                      ⟨(some 98), none, .pick (.t 95) (.c (.bool true)) (.t 97)⟩])
                    (.cond (.t 98)
                     (.seq
                      (.ops [⟨(some 2), none, .mv (.c (.int .i32 65533))⟩,
                        ⟨(some 3), none, .mv (.c (.int .i64 1))⟩])
                      (.ret))
                     (.skip)))
                   (.seq
                    (.ops [⟨(some 99), none, .mv (.t 5)⟩,
                      ⟨(some 100), none, .bin .and (.t 99) (.c (.int .u8 7))⟩,
                      ⟨(some 101), none, .convI .i32 (.t 100)⟩,
                      ⟨(some 102), none, .bin .shl (.t 101) (.c (.int .u64 18))⟩,
                      ⟨(some 103), none, .mv (.t 10)⟩,
                      ⟨(some 104), none, .bin .and (.t 103) (.c (.int .u8 63))⟩,
                      ⟨(some 105), none, .convI .i32 (.t 104)⟩,
                      ⟨(some 106), none, .bin .shl (.t 105) (.c (.int .u64 12))⟩,
                      ⟨(some 107), none, .bin .or (.t 102) (.t 106)⟩,
                      ⟨(some 108), none, .mv (.t 11)⟩,
                      ⟨(some 109), none, .bin .and (.t 108) (.c (.int .u8 63))⟩,
                      ⟨(some 110), none, .convI .i32 (.t 109)⟩,
                      ⟨(some 111), none, .bin .shl (.t 110) (.c (.int .u64 6))⟩,
                      ⟨(some 112), none, .bin .or (.t 107) (.t 111)⟩,
                      ⟨(some 113), none, .mv (.t 12)⟩,
                      ⟨(some 114), none, .bin .and (.t 113) (.c (.int .u8 63))⟩,
                      ⟨(some 115), none, .convI .i32 (.t 114)⟩,
                      ⟨(some 116), none, .bin .or (.t 112) (.t 115)⟩,
                      ⟨(some 2), none, .mv (.t 116)⟩,
                      ⟨(some 3), none, .mv (.c (.int .i64 4))⟩])
                    (.ret))))))))))))))))))⟩
theorem ok69 : FnOk Tryd.prog 69 a69 := FnOk.of Tryd.prog Tryd.func69 (by kernel_rfl)
/-- internal/stringslite.IndexByte -/
def a70 : AFn := ⟨8, [.tmp 4], .seq
   (.ops [⟨(some 4), none, .mv (.c (.int .i64 0))⟩])
   (.seq
    (.ops [⟨(some 5), none, .mv (.t 0)⟩,
      ⟨(some 6), none, .mv (.t 1)⟩,
      ⟨(some 7), none, .bad⟩,
      ⟨(some 4), none, .mv (.t 7)⟩])
    (.ret))⟩
theorem ok70 : FnOk Tryd.prog 70 a70 := FnOk.of Tryd.prog Tryd.func70 (by kernel_rfl)
/-- internal/bytealg.Cutover -/
def a72 : AFn := ⟨6, [.tmp 2], .seq
   (.ops [⟨(some 2), none, .mv (.c (.int .i64 0))⟩])
   (.seq
    (.ops [⟨(some 3), none, .mv (.t 0)⟩,
      ⟨(some 4), none, .bin .add (.t 3) (.c (.int .i64 16))⟩,
      ⟨(some 5), none, .bin .quo (.t 4) (.c (.int .i64 8))⟩,
      ⟨(some 2), none, .mv (.t 5)⟩])
    (.ret))⟩
theorem ok72 : FnOk Tryd.prog 72 a72 := FnOk.of Tryd.prog Tryd.func72 (by kernel_rfl)

end Go.Proofs.YtgdmalobagncpaaDoor.Fns
