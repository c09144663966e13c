/- Functions of the translated code as the abstract machine reads them, printed by program; each is checked against the code. -/
import Derived.Test.YthcpfmibcoeleaaDoorProg
import Derived.Test.YthcpfmibcoeleaaDoorAmEval
namespace Go.Proofs.YthcpfmibcoeleaaDoor.Fns
open Go Go.RowKit Am Go.Proofs.YthcpfmibcoeleaaDoor
set_option maxRecDepth 100000
/-- jalousie/jalousieref29.Form -/
def a19 : AFn := ⟨67, [.tmp 2, .tmp 3], .seq
   (.ops [⟨(some 2), none, .mv (.c (.str []))⟩,
     ⟨(some 3), none, .mv (.c (.bool false))⟩])
   (.seq
    (.seq
     (.ops [⟨(some 4), none, .mv (.t 0)⟩])
     (.block 0 (.seq
       (.seq
        (.ops [⟨(some 6), none, .bin .eql (.t 4) (.c (.str [110, 101, 119, 45, 115, 101, 115, 115, 105, 111, 110]))⟩,
          ⟨(some 5), none, .mv (.t 6)⟩])
        (.cond (.t 5)
         (.skip)
         (.seq
          (.ops [⟨(some 7), none, .bin .eql (.t 4) (.c (.str [110, 101, 119, 45, 119, 105, 110, 100, 111, 119]))⟩,
            ⟨(some 5), none, .mv (.t 7)⟩])
          (.cond (.t 5)
           (.skip)
           (.ops [⟨(some 8), none, .bin .eql (.t 4) (.c (.str [112, 97, 115, 116, 101, 45, 110, 101, 119, 101, 115, 116]))⟩,
             ⟨(some 5), none, .mv (.t 8)⟩])))))
       (.cond (.t 5)
        (.seq
         (.ops [⟨(some 2), none, .mv (.c (.str [108]))⟩,
           ⟨(some 3), none, .mv (.c (.bool true))⟩])
         (.ret))
        (.seq
         (.seq
          (.ops [⟨(some 10), none, .bin .eql (.t 4) (.c (.str [97, 116, 116, 97, 99, 104]))⟩,
            ⟨(some 9), none, .mv (.t 10)⟩])
          (.cond (.t 9)
           (.skip)
           (.seq
            (.ops [⟨(some 11), none, .bin .eql (.t 4) (.c (.str [115, 112, 108, 105, 116, 45, 104]))⟩,
              ⟨(some 9), none, .mv (.t 11)⟩])
            (.cond (.t 9)
             (.skip)
             (.seq
              (.ops [⟨(some 12), none, .bin .eql (.t 4) (.c (.str [115, 112, 108, 105, 116, 45, 118]))⟩,
                ⟨(some 9), none, .mv (.t 12)⟩])
              (.cond (.t 9)
               (.skip)
               (.seq
                (.ops [⟨(some 13), none, .bin .eql (.t 4) (.c (.str [100, 114, 111, 112, 45, 98, 117, 102, 102, 101, 114]))⟩,
                  ⟨(some 9), none, .mv (.t 13)⟩])
                (.cond (.t 9)
                 (.skip)
                 (.seq
                  (.ops [⟨(some 14), none, .bin .eql (.t 4) (.c (.str [115, 104, 111, 119, 45, 98, 117, 102, 102, 101, 114]))⟩,
                    ⟨(some 9), none, .mv (.t 14)⟩])
                  (.cond (.t 9)
                   (.skip)
                   (.ops [⟨(some 15), none, .bin .eql (.t 4) (.c (.str [112, 97, 115, 116, 101]))⟩,
                     ⟨(some 9), none, .mv (.t 15)⟩])))))))))))
         (.cond (.t 9)
          (.seq
           (.ops [⟨(some 2), none, .mv (.c (.str [108, 110]))⟩,
             ⟨(some 3), none, .mv (.c (.bool true))⟩])
           (.ret))
          (.seq
           (.seq
            (.ops [⟨(some 17), none, .bin .eql (.t 4) (.c (.str [100, 101, 116, 97, 99, 104]))⟩,
              ⟨(some 16), none, .mv (.t 17)⟩])
            (.cond (.t 16)
             (.skip)
             (.seq
              (.ops [⟨(some 18), none, .bin .eql (.t 4) (.c (.str [107, 105, 108, 108, 45, 115, 101, 115, 115, 105, 111, 110]))⟩,
                ⟨(some 16), none, .mv (.t 18)⟩])
              (.cond (.t 16)
               (.skip)
               (.seq
                (.ops [⟨(some 19), none, .bin .eql (.t 4) (.c (.str [111, 112, 101, 110]))⟩,
                  ⟨(some 16), none, .mv (.t 19)⟩])
                (.cond (.t 16)
                 (.skip)
                 (.seq
                  (.ops [⟨(some 20), none, .bin .eql (.t 4) (.c (.str [110, 101, 120, 116, 45, 119, 105, 110, 100, 111, 119]))⟩,
                    ⟨(some 16), none, .mv (.t 20)⟩])
                  (.cond (.t 16)
                   (.skip)
                   (.seq
                    (.ops [⟨(some 21), none, .bin .eql (.t 4) (.c (.str [112, 114, 101, 118, 105, 111, 117, 115, 45, 119, 105, 110, 100, 111, 119]))⟩,
                      ⟨(some 16), none, .mv (.t 21)⟩])
                    (.cond (.t 16)
                     (.skip)
                     (.seq
                      (.ops [⟨(some 22), none, .bin .eql (.t 4) (.c (.str [98, 101, 115, 105, 100, 101]))⟩,
                        ⟨(some 16), none, .mv (.t 22)⟩])
                      (.cond (.t 16)
                       (.skip)
                       (.seq
                        (.ops [⟨(some 23), none, .bin .eql (.t 4) (.c (.str [97, 98, 111, 118, 101]))⟩,
                          ⟨(some 16), none, .mv (.t 23)⟩])
                        (.cond (.t 16)
                         (.skip)
                         (.seq
                          (.ops [⟨(some 24), none, .bin .eql (.t 4) (.c (.str [107, 105, 108, 108, 45, 112, 97, 110, 101]))⟩,
                            ⟨(some 16), none, .mv (.t 24)⟩])
                          (.cond (.t 16)
                           (.skip)
                           (.seq
                            (.ops [⟨(some 25), none, .bin .eql (.t 4) (.c (.str [110, 101, 120, 116, 45, 112, 97, 110, 101]))⟩,
                              ⟨(some 16), none, .mv (.t 25)⟩])
                            (.cond (.t 16)
                             (.skip)
                             (.seq
                              (.ops [⟨(some 26), none, .bin .eql (.t 4) (.c (.str [112, 114, 101, 118, 105, 111, 117, 115, 45, 112, 97, 110, 101]))⟩,
                                ⟨(some 16), none, .mv (.t 26)⟩])
                              (.cond (.t 16)
                               (.skip)
                               (.seq
                                (.ops [⟨(some 27), none, .bin .eql (.t 4) (.c (.str [115, 119, 97, 112, 45, 110, 101, 120, 116]))⟩,
                                  ⟨(some 16), none, .mv (.t 27)⟩])
                                (.cond (.t 16)
                                 (.skip)
                                 (.seq
                                  (.ops [⟨(some 28), none, .bin .eql (.t 4) (.c (.str [115, 119, 97, 112, 45, 112, 114, 101, 118, 105, 111, 117, 115]))⟩,
                                    ⟨(some 16), none, .mv (.t 28)⟩])
                                  (.cond (.t 16)
                                   (.skip)
                                   (.seq
                                    (.ops [⟨(some 29), none, .bin .eql (.t 4) (.c (.str [122, 111, 111, 109]))⟩,
                                      ⟨(some 16), none, .mv (.t 29)⟩])
                                    (.cond (.t 16)
                                     (.skip)
                                     (.seq
                                      (.ops [⟨(some 30), none, .bin .eql (.t 4) (.c (.str [99, 111, 112, 121]))⟩,
                                        ⟨(some 16), none, .mv (.t 30)⟩])
                                      (.cond (.t 16)
                                       (.skip)
                                       (.seq
                                        (.ops [⟨(some 31), none, .bin .eql (.t 4) (.c (.str [99, 111, 112, 121, 45, 101, 120, 105, 116]))⟩,
                                          ⟨(some 16), none, .mv (.t 31)⟩])
                                        (.cond (.t 16)
                                         (.skip)
                                         (.seq
                                          (.ops [⟨(some 32), none, .bin .eql (.t 4) (.c (.str [99, 111, 112, 121, 45, 109, 97, 114, 107]))⟩,
                                            ⟨(some 16), none, .mv (.t 32)⟩])
                                          (.cond (.t 16)
                                           (.skip)
                                           (.seq
                                            (.ops [⟨(some 33), none, .bin .eql (.t 4) (.c (.str [99, 111, 112, 121, 45, 99, 108, 101, 97, 114]))⟩,
                                              ⟨(some 16), none, .mv (.t 33)⟩])
                                            (.cond (.t 16)
                                             (.skip)
                                             (.seq
                                              (.ops [⟨(some 34), none, .bin .eql (.t 4) (.c (.str [99, 111, 112, 121, 45, 116, 97, 107, 101]))⟩,
                                                ⟨(some 16), none, .mv (.t 34)⟩])
                                              (.cond (.t 16)
                                               (.skip)
                                               (.seq
                                                (.ops [⟨(some 35), none, .bin .eql (.t 4) (.c (.str [108, 105, 115, 116, 45, 98, 117, 102, 102, 101, 114, 115]))⟩,
                                                  ⟨(some 16), none, .mv (.t 35)⟩])
                                                (.cond (.t 16)
                                                 (.skip)
                                                 (.seq
                                                  (.ops [⟨(some 36), none, .bin .eql (.t 4) (.c (.str [112, 97, 115, 116, 101, 45, 108, 97, 115, 116]))⟩,
                                                    ⟨(some 16), none, .mv (.t 36)⟩])
                                                  (.cond (.t 16)
                                                   (.skip)
                                                   (.seq
                                                    (.ops [⟨(some 37), none, .bin .eql (.t 4) (.c (.str [112, 105, 112, 101, 45, 111, 102, 102]))⟩,
                                                      ⟨(some 16), none, .mv (.t 37)⟩])
                                                    (.cond (.t 16)
                                                     (.skip)
                                                     (.seq
                                                      (.ops [⟨(some 38), none, .bin .eql (.t 4) (.c (.str [108, 105, 115, 116, 45, 115, 101, 115, 115, 105, 111, 110, 115]))⟩,
                                                        ⟨(some 16), none, .mv (.t 38)⟩])
                                                      (.cond (.t 16)
                                                       (.skip)
                                                       (.seq
                                                        (.ops [⟨(some 39), none, .bin .eql (.t 4) (.c (.str [108, 105, 115, 116, 45, 119, 105, 110, 100, 111, 119, 115]))⟩,
                                                          ⟨(some 16), none, .mv (.t 39)⟩])
                                                        (.cond (.t 16)
                                                         (.skip)
                                                         (.seq
                                                          (.ops [⟨(some 40), none, .bin .eql (.t 4) (.c (.str [108, 105, 115, 116, 45, 112, 97, 110, 101, 115]))⟩,
                                                            ⟨(some 16), none, .mv (.t 40)⟩])
                                                          (.cond (.t 16)
                                                           (.skip)
                                                           (.seq
                                                            (.ops [⟨(some 41), none, .bin .eql (.t 4) (.c (.str [97, 117, 100, 105, 116]))⟩,
                                                              ⟨(some 16), none, .mv (.t 41)⟩])
                                                            (.cond (.t 16)
                                                             (.skip)
                                                             (.ops [⟨(some 42), none, .bin .eql (.t 4) (.c (.str [114, 101, 102, 114, 101, 115, 104]))⟩,
                                                               ⟨(some 16), none, .mv (.t 42)⟩])))))))))))))))))))))))))))))))))))))))))))))))))))
           (.cond (.t 16)
            (.seq
             (.ops [⟨(some 2), none, .mv (.c (.str []))⟩,
               ⟨(some 3), none, .mv (.c (.bool true))⟩])
             (.ret))
            (.seq
             (.seq
              (.ops [⟨(some 44), none, .bin .eql (.t 4) (.c (.str [107, 105, 108, 108, 45, 119, 105, 110, 100, 111, 119]))⟩,
                ⟨(some 43), none, .mv (.t 44)⟩])
              (.cond (.t 43)
               (.skip)
               (.seq
                (.ops [⟨(some 45), none, .bin .eql (.t 4) (.c (.str [115, 101, 108, 101, 99, 116, 45, 119, 105, 110, 100, 111, 119]))⟩,
                  ⟨(some 43), none, .mv (.t 45)⟩])
                (.cond (.t 43)
                 (.skip)
                 (.seq
                  (.ops [⟨(some 46), none, .bin .eql (.t 4) (.c (.str [114, 101, 115, 105, 122, 101, 45, 104]))⟩,
                    ⟨(some 43), none, .mv (.t 46)⟩])
                  (.cond (.t 43)
                   (.skip)
                   (.seq
                    (.ops [⟨(some 47), none, .bin .eql (.t 4) (.c (.str [114, 101, 115, 105, 122, 101, 45, 118]))⟩,
                      ⟨(some 43), none, .mv (.t 47)⟩])
                    (.cond (.t 43)
                     (.skip)
                     (.seq
                      (.ops [⟨(some 48), none, .bin .eql (.t 4) (.c (.str [112, 105, 112, 101]))⟩,
                        ⟨(some 43), none, .mv (.t 48)⟩])
                      (.cond (.t 43)
                       (.skip)
                       (.ops [⟨(some 49), none, .bin .eql (.t 4) (.c (.str [117, 110, 98, 105, 110, 100]))⟩,
                         ⟨(some 43), none, .mv (.t 49)⟩])))))))))))
             (.cond (.t 43)
              (.seq
               (.ops [⟨(some 2), none, .mv (.c (.str [110]))⟩,
                 ⟨(some 3), none, .mv (.c (.bool true))⟩])
               (.ret))
              (.seq
               (.seq
                (.ops [⟨(some 51), none, .bin .eql (.t 4) (.c (.str [114, 101, 110, 97, 109, 101, 45, 119, 105, 110, 100, 111, 119]))⟩,
                  ⟨(some 50), none, .mv (.t 51)⟩])
                (.cond (.t 50)
                 (.skip)
                 (.ops [⟨(some 52), none, .bin .eql (.t 4) (.c (.str [98, 105, 110, 100]))⟩,
                   ⟨(some 50), none, .mv (.t 52)⟩])))
               (.cond (.t 50)
                (.seq
                 (.ops [⟨(some 2), none, .mv (.c (.str [110, 116]))⟩,
                   ⟨(some 3), none, .mv (.c (.bool true))⟩])
                 (.ret))
                (.seq
                 (.seq
                  (.ops [⟨(some 54), none, .bin .eql (.t 4) (.c (.str [115, 101, 108, 101, 99, 116, 45, 112, 97, 110, 101]))⟩,
                    ⟨(some 53), none, .mv (.t 54)⟩])
                  (.cond (.t 53)
                   (.skip)
                   (.ops [⟨(some 55), none, .bin .eql (.t 4) (.c (.str [105, 110, 102, 111]))⟩,
                     ⟨(some 53), none, .mv (.t 55)⟩])))
                 (.cond (.t 53)
                  (.seq
                   (.ops [⟨(some 2), none, .mv (.c (.str [112]))⟩,
                     ⟨(some 3), none, .mv (.c (.bool true))⟩])
                   (.ret))
                  (.seq
                   (.seq
                    (.ops [⟨(some 57), none, .bin .eql (.t 4) (.c (.str [99, 111, 112, 121, 45, 109, 111, 118, 101]))⟩,
                      ⟨(some 56), none, .mv (.t 57)⟩])
                    (.cond (.t 56)
                     (.skip)
                     (.ops [⟨(some 58), none, .bin .eql (.t 4) (.c (.str [99, 111, 112, 121, 45, 116, 111]))⟩,
                       ⟨(some 56), none, .mv (.t 58)⟩])))
                   (.cond (.t 56)
                    (.seq
                     (.ops [⟨(some 2), none, .mv (.c (.str [110, 110]))⟩,
                       ⟨(some 3), none, .mv (.c (.bool true))⟩])
                     (.ret))
                    (.seq
                     (.seq
                      (.ops [⟨(some 60), none, .bin .eql (.t 4) (.c (.str [99, 111, 112, 121, 45, 102, 105, 110, 100]))⟩,
                        ⟨(some 59), none, .mv (.t 60)⟩])
                      (.cond (.t 59)
                       (.skip)
                       (.seq
                        (.ops [⟨(some 61), none, .bin .eql (.t 4) (.c (.str [99, 111, 112, 121, 45, 98, 97, 99, 107]))⟩,
                          ⟨(some 59), none, .mv (.t 61)⟩])
                        (.cond (.t 59)
                         (.skip)
                         (.seq
                          (.ops [⟨(some 62), none, .bin .eql (.t 4) (.c (.str [115, 101, 116, 45, 98, 117, 102, 102, 101, 114]))⟩,
                            ⟨(some 59), none, .mv (.t 62)⟩])
                          (.cond (.t 59)
                           (.skip)
                           (.seq
                            (.ops [⟨(some 63), none, .bin .eql (.t 4) (.c (.str [115, 101, 116, 45, 98, 97, 110, 110, 101, 114]))⟩,
                              ⟨(some 59), none, .mv (.t 63)⟩])
                            (.cond (.t 59)
                             (.skip)
                             (.ops [⟨(some 64), none, .bin .eql (.t 4) (.c (.str [115, 101, 110, 100]))⟩,
                               ⟨(some 59), none, .mv (.t 64)⟩])))))))))
                     (.cond (.t 59)
                      (.seq
                       (.ops [⟨(some 2), none, .mv (.c (.str [116]))⟩,
                         ⟨(some 3), none, .mv (.c (.bool true))⟩])
                       (.ret))
                      (.seq
                       (.ops [⟨(some 66), none, .bin .eql (.t 4) (.c (.str [100, 111, 119, 110, 103, 114, 97, 100, 101]))⟩,
                         ⟨(some 65), none, .mv (.t 66)⟩])
                       (.cond (.t 65)
                        (.seq
                         (.ops [⟨(some 2), none, .mv (.c (.str [108, 110, 108]))⟩,
                           ⟨(some 3), none, .mv (.c (.bool true))⟩])
                         (.ret))
                        (.skip)))))))))))))))))))))
    (.seq
     (.ops [⟨(some 2), none, .mv (.c (.str []))⟩,
       ⟨(some 3), none, .mv (.c (.bool false))⟩])
     (.ret)))⟩
theorem ok19 : FnOk Tryd.prog 19 a19 := FnOk.of Tryd.prog Tryd.func19 (by kernel_rfl)
/-- jalousie/command.Same -/
def a20 : AFn := ⟨31, [.tmp 4], .seq
   (.ops [⟨(some 2), none, .box 27 (.t 0)⟩,
     ⟨(some 3), none, .box 27 (.t 1)⟩,
     ⟨(some 4), none, .mv (.c (.bool false))⟩])
   (.seq
    (.ops [⟨(some 5), none, .addr 0 (.t 2)⟩,
      ⟨(some 6), none, .load none (.t 5)⟩,
      ⟨(some 7), none, .addr 0 (.t 3)⟩,
      ⟨(some 8), none, .load none (.t 7)⟩,
      ⟨(some 9), none, .bin .eql (.t 6) (.t 8)⟩,
      ⟨(some 10), none, .mv (.t 9)⟩,
      ⟨(some 11), (some (10, true)), .addr 1 (.t 2)⟩,
      ⟨(some 12), (some (10, true)), .load none (.t 11)⟩,
      ⟨(some 13), (some (10, true)), .addr 1 (.t 3)⟩,
      ⟨(some 14), (some (10, true)), .load none (.t 13)⟩,
      ⟨(some 15), (some (10, true)), .call 33 [(.t 12), (.t 14)]⟩,
      ⟨(some 16), none, .pick (.t 10) (.t 15) (.c (.bool false))⟩,
      ⟨(some 17), none, .mv (.t 16)⟩,
      ⟨(some 18), (some (17, true)), .addr 2 (.t 2)⟩,
      ⟨(some 19), (some (17, true)), .load (some 3) (.t 18)⟩,
      ⟨(some 20), (some (17, true)), .addr 2 (.t 3)⟩,
      ⟨(some 21), (some (17, true)), .load (some 3) (.t 20)⟩,
      ⟨(some 22), (some (17, true)), .eq false 25 (.struct #[⟨"Label", 3, 0, false, "", "", 0⟩, ⟨"Home", 3, 1, false, "", "", 8⟩, ⟨"N", 3, 2, false, "", "", 16⟩]) (.t 19) (.t 21)⟩,
      ⟨(some 23), none, .pick (.t 17) (.t 22) (.c (.bool false))⟩,
      ⟨(some 24), none, .mv (.t 23)⟩,
      ⟨(some 25), (some (24, true)), .addr 5 (.t 2)⟩,
      ⟨(some 26), (some (24, true)), .load none (.t 25)⟩,
      ⟨(some 27), (some (24, true)), .addr 5 (.t 3)⟩,
      ⟨(some 28), (some (24, true)), .load none (.t 27)⟩,
      ⟨(some 29), (some (24, true)), .bin .eql (.t 26) (.t 28)⟩,
      ⟨(some 30), none, .pick (.t 24) (.t 29) (.c (.bool false))⟩,
      ⟨(some 4), none, .mv (.t 30)⟩])
    (.ret))⟩
theorem ok20 : FnOk Tryd.prog 20 a20 := FnOk.of Tryd.prog Tryd.func20 (by kernel_rfl)
/-- jalousie/command.Names -/
def a21 : AFn := ⟨17, [.tmp 0], .seq
   (.ops [⟨(some 0), none, .mv (.c .nilslice)⟩])
   (.seq
    (.ops [⟨(some 1), none, .mv (.c .nilslice)⟩])
    (.seq
     (.seq
      (.ops [⟨(some 4), none, .call 34 []⟩,
        ⟨(some 5), none, .lenL (.t 4)⟩,
        ⟨(some 6), none, .mv (.c (.int .i64 0))⟩])
      (.block 0 (.loop (.seq
         (.ops [⟨(some 7), none, .bin .lss (.t 6) (.t 5)⟩])
         (.seq
          (.cond (.t 7)
           (.skip)
           (.exit 0))
          (.seq
           (.block 1 (.seq
             (.ops [⟨(some 8), none, .iaddrS 2 (.t 4) (.t 6)⟩,
               ⟨(some 9), none, .load (some 2) (.t 8)⟩,
               ⟨(some 3), none, .alloc 68 [(.str []), (.str [])]⟩,
               ⟨none, none, .store 2 (.t 3) (.t 9)⟩])
             (.ops [⟨(some 10), none, .mv (.t 1)⟩,
               ⟨(some 11), none, .addr 0 (.t 3)⟩,
               ⟨(some 12), none, .load none (.t 11)⟩,
               ⟨(some 13), none, .bslice 9 1 1 [(.str [])] [(0, (.t 12))]⟩,
               ⟨(some 14), none, .append 9 1 16 (.t 10) (.t 13)⟩,
               ⟨(some 1), none, .mv (.t 14)⟩])))
           (.ops [⟨(some 15), none, .bin .add (.t 6) (.c (.int .i64 1))⟩,
             ⟨(some 6), none, .mv (.t 15)⟩])))))))
     (.seq
      (.ops [⟨(some 16), none, .mv (.t 1)⟩,
        ⟨(some 0), none, .mv (.t 16)⟩])
      (.ret))))⟩
theorem ok21 : FnOk Tryd.prog 21 a21 := FnOk.of Tryd.prog Tryd.func21 (by kernel_rfl)
/-- jalousie/jalousielaw29.texts -/
def a22 : AFn := ⟨13, [.tmp 2], .seq
   (.ops [⟨(some 2), none, .mv (.c (.str []))⟩])
   (.seq
    (.ops [⟨(some 3), none, .mv (.c (.str []))⟩])
    (.seq
     (.seq
      (.ops [⟨(some 4), none, .mv (.c (.int .i64 0))⟩])
      (.block 0 (.loop (.seq
         (.seq
          (.ops [⟨(some 5), none, .mv (.t 4)⟩,
            ⟨(some 6), none, .mv (.t 0)⟩,
            ⟨(some 7), none, .bin .lss (.t 5) (.t 6)⟩])
          (.cond (.t 7)
           (.skip)
           (.exit 0)))
         (.seq
          (.block 1 (.ops [⟨(some 10), none, .mv (.t 3)⟩,
             ⟨(some 11), none, .bin .add (.t 10) (.c (.str [120]))⟩,
             ⟨(some 3), none, .mv (.t 11)⟩]))
          (.ops [⟨(some 8), none, .mv (.t 4)⟩,
            ⟨(some 9), none, .bin .add (.t 8) (.c (.int .i64 1))⟩,
            ⟨(some 4), none, .mv (.t 9)⟩]))))))
     (.seq
      (.ops [⟨(some 12), none, .mv (.t 3)⟩,
        ⟨(some 2), none, .mv (.t 12)⟩])
      (.ret))))⟩
theorem ok22 : FnOk Tryd.prog 22 a22 := FnOk.of Tryd.prog Tryd.func22 (by kernel_rfl)
/-- strings.Cut -/
def a23 : AFn := ⟨13, [.tmp 4, .tmp 5, .tmp 6], .seq
   (.ops [⟨(some 4), none, .mv (.c (.str []))⟩,
     ⟨(some 5), none, .mv (.c (.str []))⟩,
     ⟨(some 6), none, .mv (.c (.bool false))⟩])
   (.seq
    (.ops [⟨(some 7), none, .mv (.t 0)⟩,
      ⟨(some 8), none, .mv (.t 1)⟩,
      ⟨(some 9), none, .call 35 [(.t 7), (.t 8)]⟩,
      ⟨(some 10), none, .ext (.t 9) 0⟩,
      ⟨(some 11), none, .ext (.t 9) 1⟩,
      ⟨(some 12), none, .ext (.t 9) 2⟩,
      ⟨(some 4), none, .mv (.t 10)⟩,
      ⟨(some 5), none, .mv (.t 11)⟩,
      ⟨(some 6), none, .mv (.t 12)⟩])
    (.ret))⟩
theorem ok23 : FnOk Tryd.prog 23 a23 := FnOk.of Tryd.prog Tryd.func23 (by kernel_rfl)
/-- (*jalousie/command.Command).takes -/
def a24 : AFn := ⟨57, [.tmp 6], .seq
   (.ops [⟨(some 6), none, .mv (.c (.bool false))⟩])
   (.seq
    (.seq
     (.ops [⟨(some 11), none, .mv (.t 1)⟩])
     (.block 0 (.seq
       (.seq
        (.ops [⟨(some 13), none, .bin .eql (.t 11) (.c (.int .i32 108))⟩,
          ⟨(some 12), none, .mv (.t 13)⟩])
        (.cond (.t 12)
         (.skip)
         (.ops [⟨(some 14), none, .bin .eql (.t 11) (.c (.int .i32 110))⟩,
           ⟨(some 12), none, .mv (.t 14)⟩])))
       (.cond (.t 12)
        (.seq
         (.ops [⟨(some 16), none, .mv (.t 2)⟩,
           ⟨(some 17), none, .call 36 [(.t 16)]⟩,
           ⟨(some 15), none, .mv (.t 17)⟩,
           ⟨(some 18), none, .ext (.t 15) 0⟩,
           ⟨(some 19), none, .ext (.t 15) 1⟩,
           ⟨(some 7), none, .mv (.t 18)⟩,
           ⟨(some 8), none, .mv (.t 19)⟩])
         (.seq
          (.ops [⟨(some 20), none, .mv (.t 0)⟩,
            ⟨(some 21), none, .mv (.t 0)⟩,
            ⟨(some 22), none, .nilck (.t 21)⟩,
            ⟨(some 23), none, .addr 1 (.t 22)⟩,
            ⟨(some 24), none, .load none (.t 23)⟩,
            ⟨(some 25), none, .mv (.t 7)⟩,
            ⟨(some 26), none, .bslice 3 1 1 [(.int .i64 0)] [(0, (.t 25))]⟩,
            ⟨(some 27), none, .append 3 1 8 (.t 24) (.t 26)⟩,
            ⟨(some 28), none, .nilck (.t 20)⟩,
            ⟨(some 29), none, .addr 1 (.t 28)⟩,
            ⟨none, none, .store 1 (.t 29) (.t 27)⟩])
          (.seq
           (.ops [⟨(some 30), none, .mv (.t 8)⟩,
             ⟨(some 31), none, .mv (.t 30)⟩,
             ⟨(some 32), (some (31, true)), .mv (.t 1)⟩,
             ⟨(some 33), (some (31, true)), .bin .eql (.t 32) (.c (.int .i32 110))⟩,
             ⟨(some 34), (some (31, true)), .mv (.t 33)⟩,
             ⟨(some 35), (some (34, false)), .mv (.t 7)⟩,
             ⟨(some 36), (some (34, false)), .call 37 [(.t 35)]⟩,
             ⟨(some 37), (some (31, true)), .pick (.t 34) (.c (.bool true)) (.t 36)⟩,
             ⟨(some 38), none, .pick (.t 31) (.t 37) (.c (.bool false))⟩,
             ⟨(some 6), none, .mv (.t 38)⟩])
           (.ret))))
        (.seq
         (.ops [⟨(some 40), none, .bin .eql (.t 11) (.c (.int .i32 112))⟩,
           ⟨(some 39), none, .mv (.t 40)⟩])
         (.cond (.t 39)
          (.seq
           (.ops [⟨(some 42), none, .mv (.t 2)⟩,
             ⟨(some 43), none, .call 38 [(.t 42)]⟩,
             ⟨(some 41), none, .mv (.t 43)⟩,
             ⟨(some 44), none, .ext (.t 41) 0⟩,
             ⟨(some 45), none, .ext (.t 41) 1⟩,
             ⟨(some 9), none, .alloc 25 [(.int .i64 0), (.int .i64 0), (.int .i64 0)]⟩,
             ⟨none, none, .store 3 (.t 9) (.t 44)⟩,
             ⟨(some 10), none, .mv (.t 45)⟩])
           (.seq
            (.ops [⟨(some 46), none, .mv (.t 0)⟩,
              ⟨(some 47), none, .load (some 3) (.t 9)⟩,
              ⟨(some 48), none, .nilck (.t 46)⟩,
              ⟨(some 49), none, .addr 2 (.t 48)⟩,
              ⟨none, none, .store 3 (.t 49) (.t 47)⟩])
            (.seq
             (.ops [⟨(some 50), none, .mv (.t 10)⟩,
               ⟨(some 6), none, .mv (.t 50)⟩])
             (.ret))))
          (.skip)))))))
    (.seq
     (.ops [⟨(some 51), none, .mv (.t 0)⟩,
       ⟨(some 52), none, .mv (.t 2)⟩,
       ⟨(some 53), none, .nilck (.t 51)⟩,
       ⟨(some 54), none, .addr 5 (.t 53)⟩,
       ⟨none, none, .store 1 (.t 54) (.t 52)⟩])
     (.seq
      (.ops [⟨(some 55), none, .mv (.t 2)⟩,
        ⟨(some 56), none, .call 39 [(.t 55)]⟩,
        ⟨(some 6), none, .mv (.t 56)⟩])
      (.ret))))⟩
theorem ok24 : FnOk Tryd.prog 24 a24 := FnOk.of Tryd.prog Tryd.func24 (by kernel_rfl)
/-- jalousie/jalousieref29.words -/
def a25 : AFn := ⟨44, [.tmp 4], .seq
   (.ops [⟨(some 4), none, .mv (.c .nilslice)⟩])
   (.seq
    (.ops [⟨(some 5), none, .mv (.c .nilslice)⟩])
    (.seq
     (.ops [⟨(some 6), none, .mv (.c (.int .i64 0))⟩])
     (.seq
      (.seq
       (.ops [⟨(some 7), none, .mv (.c (.int .i64 0))⟩])
       (.block 0 (.loop (.seq
          (.seq
           (.ops [⟨(some 8), none, .mv (.t 7)⟩,
             ⟨(some 9), none, .mv (.t 0)⟩,
             ⟨(some 10), none, .lenS (.t 9)⟩,
             ⟨(some 11), none, .bin .lss (.t 8) (.t 10)⟩])
           (.cond (.t 11)
            (.skip)
            (.exit 0)))
          (.seq
           (.block 1 (.seq
             (.ops [⟨(some 14), none, .mv (.t 0)⟩,
               ⟨(some 15), none, .mv (.t 7)⟩,
               ⟨(some 16), none, .idxS (.t 14) (.t 15)⟩,
               ⟨(some 17), none, .bin .eql (.t 16) (.c (.int .u8 32))⟩,
               ⟨(some 18), none, .mv (.t 17)⟩,
               ⟨(some 19), (some (18, true)), .mv (.t 1)⟩,
               ⟨(some 20), (some (18, true)), .bin .lss (.t 19) (.c (.int .i64 1))⟩,
               ⟨(some 21), (some (18, true)), .mv (.t 20)⟩,
               ⟨(some 22), (some (21, false)), .mv (.t 5)⟩,
               ⟨(some 23), (some (21, false)), .lenL (.t 22)⟩,
               ⟨(some 24), (some (21, false)), .mv (.t 1)⟩,
               ⟨(some 25), (some (21, false)), .bin .sub (.t 24) (.c (.int .i64 1))⟩,
               ⟨(some 26), (some (21, false)), .bin .lss (.t 23) (.t 25)⟩,
               ⟨(some 27), (some (18, true)), .pick (.t 21) (.c (.bool true)) (.t 26)⟩,
               ⟨(some 28), none, .pick (.t 18) (.t 27) (.c (.bool false))⟩])
             (.cond (.t 28)
              (.seq
               (.ops [⟨(some 29), none, .mv (.t 5)⟩,
                 ⟨(some 30), none, .mv (.t 0)⟩,
                 ⟨(some 31), none, .mv (.t 6)⟩,
                 ⟨(some 32), none, .mv (.t 7)⟩,
                 ⟨(some 33), none, .sliceS (.t 30) (some (.t 31)) (some (.t 32))⟩,
                 ⟨(some 34), none, .bslice 9 1 1 [(.str [])] [(0, (.t 33))]⟩,
                 ⟨(some 35), none, .append 9 1 16 (.t 29) (.t 34)⟩,
                 ⟨(some 5), none, .mv (.t 35)⟩])
               (.ops [⟨(some 36), none, .mv (.t 7)⟩,
                 ⟨(some 37), none, .bin .add (.t 36) (.c (.int .i64 1))⟩,
                 ⟨(some 6), none, .mv (.t 37)⟩]))
              (.skip))))
           (.ops [⟨(some 12), none, .mv (.t 7)⟩,
             ⟨(some 13), none, .bin .add (.t 12) (.c (.int .i64 1))⟩,
             ⟨(some 7), none, .mv (.t 13)⟩]))))))
      (.seq
       (.ops [⟨(some 38), none, .mv (.t 5)⟩,
         ⟨(some 39), none, .mv (.t 0)⟩,
         ⟨(some 40), none, .mv (.t 6)⟩,
         ⟨(some 41), none, .sliceS (.t 39) (some (.t 40)) none⟩,
         ⟨(some 42), none, .bslice 9 1 1 [(.str [])] [(0, (.t 41))]⟩,
         ⟨(some 43), none, .append 9 1 16 (.t 38) (.t 42)⟩,
         ⟨(some 4), none, .mv (.t 43)⟩])
       (.ret)))))⟩
theorem ok25 : FnOk Tryd.prog 25 a25 := FnOk.of Tryd.prog Tryd.func25 (by kernel_rfl)
/-- jalousie/jalousieref29.Number -/
def a26 : AFn := ⟨81, [.tmp 6, .tmp 7], .seq
   (.ops [⟨(some 6), none, .mv (.c (.int .i64 0))⟩,
     ⟨(some 7), none, .mv (.c (.bool false))⟩])
   (.seq
    (.ops [⟨(some 8), none, .mv (.c (.int .i64 1))⟩])
    (.seq
     (.ops [⟨(some 12), none, .mv (.t 0)⟩,
       ⟨(some 9), none, .mv (.t 12)⟩])
     (.seq
      (.seq
       (.ops [⟨(some 13), none, .mv (.t 0)⟩,
         ⟨(some 14), none, .lenS (.t 13)⟩,
         ⟨(some 15), none, .bin .gtr (.t 14) (.c (.int .i64 0))⟩,
         ⟨(some 16), none, .mv (.t 15)⟩,
         ⟨(some 17), (some (16, true)), .mv (.t 0)⟩,
         ⟨(some 18), (some (16, true)), .idxS (.t 17) (.c (.int .i64 0))⟩,
         ⟨(some 19), (some (16, true)), .bin .eql (.t 18) (.c (.int .u8 45))⟩,
         ⟨(some 20), none, .pick (.t 16) (.t 19) (.c (.bool false))⟩])
       (.cond (.t 20)
        (.seq
         (.ops [⟨(some 8), none, .mv (.c (.int .i64 (-1)))⟩])
         (.ops [⟨(some 21), none, .mv (.t 0)⟩,
           ⟨(some 22), none, .sliceS (.t 21) (some (.c (.int .i64 1))) none⟩,
           ⟨(some 9), none, .mv (.t 22)⟩]))
        (.skip)))
      (.seq
       (.seq
        (.ops [⟨(some 23), none, .mv (.t 9)⟩,
          ⟨(some 24), none, .lenS (.t 23)⟩,
          ⟨(some 25), none, .bin .eql (.t 24) (.c (.int .i64 0))⟩,
          ⟨(some 26), none, .mv (.t 25)⟩,
          ⟨(some 27), (some (26, false)), .mv (.t 9)⟩,
          ⟨(some 28), (some (26, false)), .lenS (.t 27)⟩,
          ⟨(some 29), (some (26, false)), .bin .gtr (.t 28) (.c (.int .i64 10))⟩,
          ⟨(some 30), none, .pick (.t 26) (.c (.bool true)) (.t 29)⟩,
          ⟨(some 31), none, .mv (.t 30)⟩,
          ⟨(some 32), (some (31, false)), .mv (.t 9)⟩,
          ⟨(some 33), (some (31, false)), .idxS (.t 32) (.c (.int .i64 0))⟩,
          ⟨(some 34), (some (31, false)), .bin .eql (.t 33) (.c (.int .u8 48))⟩,
          ⟨(some 35), (some (31, false)), .mv (.t 34)⟩,
          ⟨(some 36), (some (35, true)), .mv (.t 9)⟩,
          ⟨(some 37), (some (35, true)), .lenS (.t 36)⟩,
          ⟨(some 38), (some (35, true)), .bin .gtr (.t 37) (.c (.int .i64 1))⟩,
          ⟨(some 39), (some (35, true)), .mv (.t 38)⟩,
          ⟨(some 40), (some (39, false)), .mv (.t 8)⟩,
          ⟨(some 41), (some (39, false)), .bin .lss (.t 40) (.c (.int .i64 0))⟩,
          ⟨(some 42), (some (35, true)), .pick (.t 39) (.c (.bool true)) (.t 41)⟩,
          ⟨(some 43), (some (31, false)), .pick (.t 35) (.t 42) (.c (.bool false))⟩,
          ⟨(some 44), none, .pick (.t 31) (.c (.bool true)) (.t 43)⟩])
        (.cond (.t 44)
         (.seq
          (.ops [⟨(some 6), none, .mv (.c (.int .i64 0))⟩,
            ⟨(some 7), none, .mv (.c (.bool false))⟩])
          (.ret))
         (.skip)))
       (.seq
        (.ops [⟨(some 10), none, .mv (.c (.int .i64 0))⟩])
        (.seq
         (.seq
          (.ops [⟨(some 11), none, .mv (.c (.int .i64 0))⟩])
          (.block 0 (.loop (.seq
             (.seq
              (.ops [⟨(some 45), none, .mv (.t 11)⟩,
                ⟨(some 46), none, .mv (.t 9)⟩,
                ⟨(some 47), none, .lenS (.t 46)⟩,
                ⟨(some 48), none, .bin .lss (.t 45) (.t 47)⟩])
              (.cond (.t 48)
               (.skip)
               (.exit 0)))
             (.seq
              (.block 1 (.seq
                (.seq
                 (.ops [⟨(some 51), none, .mv (.t 9)⟩,
                   ⟨(some 52), none, .mv (.t 11)⟩,
                   ⟨(some 53), none, .idxS (.t 51) (.t 52)⟩,
                   ⟨(some 54), none, .bin .lss (.t 53) (.c (.int .u8 48))⟩,
                   ⟨(some 55), none, .mv (.t 54)⟩,
                   ⟨(some 56), (some (55, false)), .mv (.t 9)⟩,
                   ⟨(some 57), (some (55, false)), .mv (.t 11)⟩,
                   ⟨(some 58), (some (55, false)), .idxS (.t 56) (.t 57)⟩,
                   ⟨(some 59), (some (55, false)), .bin .gtr (.t 58) (.c (.int .u8 57))⟩,
                   ⟨(some 60), none, .pick (.t 55) (.c (.bool true)) (.t 59)⟩])
                 (.cond (.t 60)
                  (.seq
                   (.ops [⟨(some 6), none, .mv (.c (.int .i64 0))⟩,
                     ⟨(some 7), none, .mv (.c (.bool false))⟩])
                   (.ret))
                  (.skip)))
                (.ops [⟨(some 61), none, .mv (.t 10)⟩,
                  ⟨(some 62), none, .bin .mul (.c (.int .i64 10)) (.t 61)⟩,
                  ⟨(some 63), none, .mv (.t 9)⟩,
                  ⟨(some 64), none, .mv (.t 11)⟩,
                  ⟨(some 65), none, .idxS (.t 63) (.t 64)⟩,
                  ⟨(some 66), none, .bin .sub (.t 65) (.c (.int .u8 48))⟩,
                  ⟨(some 67), none, .convI .i64 (.t 66)⟩,
                  ⟨(some 68), none, .bin .add (.t 62) (.t 67)⟩,
                  ⟨(some 10), none, .mv (.t 68)⟩])))
              (.ops [⟨(some 49), none, .mv (.t 11)⟩,
                ⟨(some 50), none, .bin .add (.t 49) (.c (.int .i64 1))⟩,
                ⟨(some 11), none, .mv (.t 50)⟩]))))))
         (.seq
          (.ops [⟨(some 69), none, .mv (.t 8)⟩,
            ⟨(some 70), none, .mv (.t 10)⟩,
            ⟨(some 71), none, .bin .mul (.t 69) (.t 70)⟩,
            ⟨(some 10), none, .mv (.t 71)⟩])
          (.seq
           (.ops [⟨(some 72), none, .mv (.t 10)⟩,
             ⟨(some 73), none, .mv (.t 10)⟩,
             ⟨(some 74), none, .mv (.t 1)⟩,
             ⟨(some 75), none, .bin .geq (.t 73) (.t 74)⟩,
             ⟨(some 76), none, .mv (.t 75)⟩,
             ⟨(some 77), (some (76, true)), .mv (.t 10)⟩,
             ⟨(some 78), (some (76, true)), .mv (.t 2)⟩,
             ⟨(some 79), (some (76, true)), .bin .leq (.t 77) (.t 78)⟩,
             ⟨(some 80), none, .pick (.t 76) (.t 79) (.c (.bool false))⟩,
             ⟨(some 6), none, .mv (.t 72)⟩,
             ⟨(some 7), none, .mv (.t 80)⟩])
           (.ret)))))))))⟩
theorem ok26 : FnOk Tryd.prog 26 a26 := FnOk.of Tryd.prog Tryd.func26 (by kernel_rfl)
/-- jalousie/jalousieref29.Pane -/
def a27 : AFn := ⟨65, [.cell 2 (some 3), .tmp 3], .seq
   (.ops [⟨(some 2), none, .alloc 25 [(.int .i64 0), (.int .i64 0), (.int .i64 0)]⟩,
     ⟨(some 3), none, .mv (.c (.bool false))⟩])
   (.seq
    (.seq
     (.ops [⟨(some 9), none, .mv (.t 0)⟩,
       ⟨(some 10), none, .lenS (.t 9)⟩,
       ⟨(some 11), none, .bin .eql (.t 10) (.c (.int .i64 0))⟩,
       ⟨(some 12), none, .mv (.t 11)⟩,
       ⟨(some 13), (some (12, false)), .mv (.t 0)⟩,
       ⟨(some 14), (some (12, false)), .idxS (.t 13) (.c (.int .i64 0))⟩,
       ⟨(some 15), (some (12, false)), .bin .neq (.t 14) (.c (.int .u8 112))⟩,
       ⟨(some 16), none, .pick (.t 12) (.c (.bool true)) (.t 15)⟩])
     (.cond (.t 16)
      (.seq
       (.ops [⟨(some 17), none, .build [(.int .i64 0), (.int .i64 0), (.int .i64 0)] [(0, 1), (1, 1), (2, 1)] []⟩,
         ⟨none, none, .store 3 (.t 2) (.t 17)⟩,
         ⟨(some 3), none, .mv (.c (.bool false))⟩])
       (.ret))
      (.skip)))
    (.seq
     (.ops [⟨(some 4), none, .mv (.c .nilslice)⟩])
     (.seq
      (.ops [⟨(some 5), none, .mv (.c (.int .i64 1))⟩])
      (.seq
       (.seq
        (.ops [⟨(some 6), none, .mv (.c (.int .i64 1))⟩])
        (.block 0 (.loop (.seq
           (.seq
            (.ops [⟨(some 18), none, .mv (.t 6)⟩,
              ⟨(some 19), none, .mv (.t 0)⟩,
              ⟨(some 20), none, .lenS (.t 19)⟩,
              ⟨(some 21), none, .bin .leq (.t 18) (.t 20)⟩])
            (.cond (.t 21)
             (.skip)
             (.exit 0)))
           (.seq
            (.block 1 (.seq
              (.seq
               (.ops [⟨(some 24), none, .mv (.t 6)⟩,
                 ⟨(some 25), none, .mv (.t 0)⟩,
                 ⟨(some 26), none, .lenS (.t 25)⟩,
                 ⟨(some 27), none, .bin .lss (.t 24) (.t 26)⟩,
                 ⟨(some 28), none, .mv (.t 27)⟩,
                 ⟨(some 29), (some (28, true)), .mv (.t 0)⟩,
                 ⟨(some 30), (some (28, true)), .mv (.t 6)⟩,
                 ⟨(some 31), (some (28, true)), .idxS (.t 29) (.t 30)⟩,
                 ⟨(some 32), (some (28, true)), .bin .neq (.t 31) (.c (.int .u8 46))⟩,
                 ⟨(some 33), none, .pick (.t 28) (.t 32) (.c (.bool false))⟩])
               (.cond (.t 33)
                (.exit 1)
                (.skip)))
              (.seq
               (.ops [⟨(some 35), none, .mv (.t 0)⟩,
                 ⟨(some 36), none, .mv (.t 5)⟩,
                 ⟨(some 37), none, .mv (.t 6)⟩,
                 ⟨(some 38), none, .sliceS (.t 35) (some (.t 36)) (some (.t 37))⟩,
                 ⟨(some 39), none, .call 26 [(.t 38), (.c (.int .i64 0)), (.c (.int .i64 2147483647))]⟩,
                 ⟨(some 34), none, .mv (.t 39)⟩,
                 ⟨(some 40), none, .ext (.t 34) 0⟩,
                 ⟨(some 41), none, .ext (.t 34) 1⟩,
                 ⟨(some 7), none, .mv (.t 40)⟩,
                 ⟨(some 8), none, .mv (.t 41)⟩])
               (.seq
                (.seq
                 (.ops [⟨(some 42), none, .mv (.t 8)⟩,
                   ⟨(some 43), none, .un .not (.t 42)⟩])
                 (.cond (.t 43)
                  (.seq
                   (.ops [⟨(some 44), none, .build [(.int .i64 0), (.int .i64 0), (.int .i64 0)] [(0, 1), (1, 1), (2, 1)] []⟩,
                     ⟨none, none, .store 3 (.t 2) (.t 44)⟩,
                     ⟨(some 3), none, .mv (.c (.bool false))⟩])
                   (.ret))
                  (.skip)))
                (.seq
                 (.ops [⟨(some 45), none, .mv (.t 4)⟩,
                   ⟨(some 46), none, .mv (.t 7)⟩,
                   ⟨(some 47), none, .bslice 3 1 1 [(.int .i64 0)] [(0, (.t 46))]⟩,
                   ⟨(some 48), none, .append 3 1 8 (.t 45) (.t 47)⟩,
                   ⟨(some 4), none, .mv (.t 48)⟩])
                 (.ops [⟨(some 49), none, .mv (.t 6)⟩,
                   ⟨(some 50), none, .bin .add (.t 49) (.c (.int .i64 1))⟩,
                   ⟨(some 5), none, .mv (.t 50)⟩]))))))
            (.ops [⟨(some 22), none, .mv (.t 6)⟩,
              ⟨(some 23), none, .bin .add (.t 22) (.c (.int .i64 1))⟩,
              ⟨(some 6), none, .mv (.t 23)⟩]))))))
       (.seq
        (.seq
         (.ops [⟨(some 51), none, .mv (.t 4)⟩,
           ⟨(some 52), none, .lenL (.t 51)⟩,
           ⟨(some 53), none, .bin .neq (.t 52) (.c (.int .i64 3))⟩])
         (.cond (.t 53)
          (.seq
           (.ops [⟨(some 54), none, .build [(.int .i64 0), (.int .i64 0), (.int .i64 0)] [(0, 1), (1, 1), (2, 1)] []⟩,
             ⟨none, none, .store 3 (.t 2) (.t 54)⟩,
             ⟨(some 3), none, .mv (.c (.bool false))⟩])
           (.ret))
          (.skip)))
        (.seq
         (.draw [⟨⟨(some 55), none, .mv (.t 4)⟩, []⟩,
           ⟨⟨(some 56), none, .iaddrS 1 (.t 55) (.c (.int .i64 0))⟩, [0]⟩,
           ⟨⟨(some 57), none, .load none (.t 56)⟩, [1]⟩,
           ⟨⟨(some 58), none, .mv (.t 4)⟩, []⟩,
           ⟨⟨(some 59), none, .iaddrS 1 (.t 58) (.c (.int .i64 1))⟩, [3]⟩,
           ⟨⟨(some 60), none, .load none (.t 59)⟩, [4]⟩,
           ⟨⟨(some 61), none, .mv (.t 4)⟩, []⟩,
           ⟨⟨(some 62), none, .iaddrS 1 (.t 61) (.c (.int .i64 2))⟩, [6]⟩,
           ⟨⟨(some 63), none, .load none (.t 62)⟩, [7]⟩,
           ⟨⟨(some 64), none, .build [(.int .i64 0), (.int .i64 0), (.int .i64 0)] [(0, 1), (1, 1), (2, 1)] [(0, (.t 57)), (1, (.t 60)), (2, (.t 63))]⟩, [2, 5, 8]⟩,
           ⟨⟨none, none, .store 3 (.t 2) (.t 64)⟩, [9, 0, 1, 2, 3, 4, 5, 6, 7, 8, 9]⟩,
           ⟨⟨(some 3), none, .mv (.c (.bool true))⟩, [10, 0, 1, 2, 3, 4, 5, 6, 7, 8, 9, 10]⟩] [0, 1, 3, 0, 8, 24, 0, 64, 192, 511, 1023, 2047])
         (.ret)))))))⟩
theorem ok27 : FnOk Tryd.prog 27 a27 := FnOk.of Tryd.prog Tryd.func27 (by kernel_rfl)
/-- jalousie/jalousieref29.fine -/
def a28 : AFn := ⟨28, [.tmp 2], .seq
   (.ops [⟨(some 2), none, .mv (.c (.bool false))⟩])
   (.seq
    (.seq
     (.ops [⟨(some 3), none, .mv (.c (.int .i64 0))⟩])
     (.block 0 (.loop (.seq
        (.seq
         (.ops [⟨(some 4), none, .mv (.t 3)⟩,
           ⟨(some 5), none, .mv (.t 0)⟩,
           ⟨(some 6), none, .lenS (.t 5)⟩,
           ⟨(some 7), none, .bin .lss (.t 4) (.t 6)⟩])
         (.cond (.t 7)
          (.skip)
          (.exit 0)))
        (.seq
         (.block 1 (.seq
           (.ops [⟨(some 10), none, .mv (.t 0)⟩,
             ⟨(some 11), none, .mv (.t 3)⟩,
             ⟨(some 12), none, .idxS (.t 10) (.t 11)⟩,
             ⟨(some 13), none, .bin .lss (.t 12) (.c (.int .u8 32))⟩,
             ⟨(some 14), none, .mv (.t 13)⟩,
             ⟨(some 15), (some (14, false)), .mv (.t 0)⟩,
             ⟨(some 16), (some (14, false)), .mv (.t 3)⟩,
             ⟨(some 17), (some (14, false)), .idxS (.t 15) (.t 16)⟩,
             ⟨(some 18), (some (14, false)), .bin .gtr (.t 17) (.c (.int .u8 126))⟩,
             ⟨(some 19), none, .pick (.t 14) (.c (.bool true)) (.t 18)⟩])
           (.cond (.t 19)
            (.seq
             (.ops [⟨(some 2), none, .mv (.c (.bool false))⟩])
             (.ret))
            (.skip))))
         (.ops [⟨(some 8), none, .mv (.t 3)⟩,
           ⟨(some 9), none, .bin .add (.t 8) (.c (.int .i64 1))⟩,
           ⟨(some 3), none, .mv (.t 9)⟩]))))))
    (.seq
     (.ops [⟨(some 20), none, .mv (.t 0)⟩,
       ⟨(some 21), none, .lenS (.t 20)⟩,
       ⟨(some 22), none, .bin .geq (.t 21) (.c (.int .i64 1))⟩,
       ⟨(some 23), none, .mv (.t 22)⟩,
       ⟨(some 24), (some (23, true)), .mv (.t 0)⟩,
       ⟨(some 25), (some (23, true)), .lenS (.t 24)⟩,
       ⟨(some 26), (some (23, true)), .bin .leq (.t 25) (.c (.int .i64 200))⟩,
       ⟨(some 27), none, .pick (.t 23) (.t 26) (.c (.bool false))⟩,
       ⟨(some 2), none, .mv (.t 27)⟩])
     (.ret)))⟩
theorem ok28 : FnOk Tryd.prog 28 a28 := FnOk.of Tryd.prog Tryd.func28 (by kernel_rfl)
/-- strconv.Itoa -/
def a29 : AFn := ⟨5, [.tmp 2], .seq
   (.ops [⟨(some 2), none, .mv (.c (.str []))⟩])
   (.seq
    (.ops [⟨(some 3), none, .mv (.t 0)⟩,
      ⟨(some 4), none, .call 40 [(.t 3)]⟩,
      ⟨(some 2), none, .mv (.t 4)⟩])
    (.ret))⟩
theorem ok29 : FnOk Tryd.prog 29 a29 := FnOk.of Tryd.prog Tryd.func29 (by kernel_rfl)
/-- jalousie/ids.Words -/
def a30 : AFn := ⟨32, [.tmp 2, .tmp 3], .seq
   (.ops [⟨(some 1), none, .box 25 (.t 0)⟩,
     ⟨(some 2), none, .mv (.c (.str []))⟩,
     ⟨(some 3), none, .mv (.c (.bool false))⟩])
   (.seq
    (.ops [⟨(some 4), none, .mv (.c .nilslice)⟩])
    (.seq
     (.seq
      (.ops [⟨(some 7), none, .addr 0 (.t 1)⟩,
        ⟨(some 8), none, .load none (.t 7)⟩,
        ⟨(some 9), none, .addr 1 (.t 1)⟩,
        ⟨(some 10), none, .load none (.t 9)⟩,
        ⟨(some 11), none, .addr 2 (.t 1)⟩,
        ⟨(some 12), none, .load none (.t 11)⟩,
        ⟨(some 13), none, .build [(.int .i64 0), (.int .i64 0), (.int .i64 0)] [(0, 1), (1, 1), (2, 1), (3, 1), (4, 1), (5, 1), (6, 1)] [(0, (.t 8)), (1, (.t 10)), (2, (.t 12))]⟩,
        ⟨(some 14), none, .mv (.c (.int .i64 0))⟩])
      (.block 0 (.loop (.seq
         (.ops [⟨(some 15), none, .bin .lss (.t 14) (.c (.int .i64 3))⟩])
         (.seq
          (.cond (.t 15)
           (.skip)
           (.exit 0))
          (.seq
           (.block 1 (.seq
             (.ops [⟨(some 16), none, .idxA 3 1 false (.t 13) (.t 14)⟩,
               ⟨(some 6), none, .mv (.t 16)⟩])
             (.seq
              (.seq
               (.ops [⟨(some 17), none, .mv (.t 6)⟩,
                 ⟨(some 18), none, .bin .lss (.t 17) (.c (.int .i64 0))⟩,
                 ⟨(some 19), none, .mv (.t 18)⟩,
                 ⟨(some 20), (some (19, false)), .mv (.t 6)⟩,
                 ⟨(some 21), (some (19, false)), .bin .gtr (.t 20) (.c (.int .i64 2147483647))⟩,
                 ⟨(some 22), none, .pick (.t 19) (.c (.bool true)) (.t 21)⟩])
               (.cond (.t 22)
                (.seq
                 (.ops [⟨(some 2), none, .mv (.c (.str []))⟩,
                   ⟨(some 3), none, .mv (.c (.bool false))⟩])
                 (.ret))
                (.skip)))
              (.ops [⟨(some 23), none, .mv (.t 4)⟩,
                ⟨(some 24), none, .mv (.t 6)⟩,
                ⟨(some 25), none, .call 29 [(.t 24)]⟩,
                ⟨(some 26), none, .bslice 9 1 1 [(.str [])] [(0, (.t 25))]⟩,
                ⟨(some 27), none, .append 9 1 16 (.t 23) (.t 26)⟩,
                ⟨(some 4), none, .mv (.t 27)⟩]))))
           (.ops [⟨(some 28), none, .bin .add (.t 14) (.c (.int .i64 1))⟩,
             ⟨(some 14), none, .mv (.t 28)⟩])))))))
     (.seq
      (.ops [⟨(some 29), none, .mv (.t 4)⟩,
        ⟨(some 30), none, .call 41 [(.t 29), (.c (.str [46]))]⟩,
        ⟨(some 31), none, .bin .add (.c (.str [112])) (.t 30)⟩,
        ⟨(some 2), none, .mv (.t 31)⟩,
        ⟨(some 3), none, .mv (.c (.bool true))⟩])
      (.ret))))⟩
theorem ok30 : FnOk Tryd.prog 30 a30 := FnOk.of Tryd.prog Tryd.func30 (by kernel_rfl)
/-- jalousie/jalousieref29.word -/
def a31 : AFn := ⟨23, [.tmp 2], .seq
   (.ops [⟨(some 2), none, .mv (.c (.str []))⟩])
   (.seq
    (.seq
     (.ops [⟨(some 4), none, .mv (.t 0)⟩,
       ⟨(some 5), none, .bin .lss (.t 4) (.c (.int .i64 0))⟩])
     (.cond (.t 5)
      (.seq
       (.ops [⟨(some 6), none, .mv (.t 0)⟩,
         ⟨(some 7), none, .un .neg (.t 6)⟩,
         ⟨(some 8), none, .call 31 [(.t 7)]⟩,
         ⟨(some 9), none, .bin .add (.c (.str [45])) (.t 8)⟩,
         ⟨(some 2), none, .mv (.t 9)⟩])
       (.ret))
      (.skip)))
    (.seq
     (.ops [⟨(some 3), none, .mv (.c (.str []))⟩])
     (.block 0 (.loop (.block 1 (.seq
         (.ops [⟨(some 10), none, .mv (.t 0)⟩,
           ⟨(some 11), none, .bin .rem (.t 10) (.c (.int .i64 10))⟩,
           ⟨(some 12), none, .bin .add (.c (.int .i64 48)) (.t 11)⟩,
           ⟨(some 13), none, .convI .u8 (.t 12)⟩,
           ⟨(some 14), none, .bslice 5 1 1 [(.int .u8 0)] [(0, (.t 13))]⟩,
           ⟨(some 15), none, .strOf (.t 14)⟩,
           ⟨(some 16), none, .mv (.t 3)⟩,
           ⟨(some 17), none, .bin .add (.t 15) (.t 16)⟩,
           ⟨(some 3), none, .mv (.t 17)⟩])
         (.seq
          (.ops [⟨(some 18), none, .mv (.t 0)⟩,
            ⟨(some 19), none, .bin .quo (.t 18) (.c (.int .i64 10))⟩,
            ⟨(some 0), none, .mv (.t 19)⟩])
          (.seq
           (.ops [⟨(some 20), none, .mv (.t 0)⟩,
             ⟨(some 21), none, .bin .eql (.t 20) (.c (.int .i64 0))⟩])
           (.cond (.t 21)
            (.seq
             (.ops [⟨(some 22), none, .mv (.t 3)⟩,
               ⟨(some 2), none, .mv (.t 22)⟩])
             (.ret))
            (.skip))))))))))⟩
theorem ok31 : FnOk Tryd.prog 31 a31 := FnOk.of Tryd.prog Tryd.func31 (by kernel_rfl)
/-- jalousie/command.forms -/
def a32 : AFn := ⟨18, [.tmp 0], .seq
   (.ops [⟨(some 0), none, .mv (.c .nilmap)⟩])
   (.seq
    (.ops [⟨(some 4), none, .mkmap⟩,
      ⟨(some 1), none, .mv (.t 4)⟩])
    (.seq
     (.seq
      (.ops [⟨(some 5), none, .call 34 []⟩,
        ⟨(some 6), none, .lenL (.t 5)⟩,
        ⟨(some 7), none, .mv (.c (.int .i64 0))⟩])
      (.block 0 (.loop (.seq
         (.ops [⟨(some 8), none, .bin .lss (.t 7) (.t 6)⟩])
         (.seq
          (.cond (.t 8)
           (.skip)
           (.exit 0))
          (.seq
           (.block 1 (.seq
             (.ops [⟨(some 9), none, .iaddrS 2 (.t 5) (.t 7)⟩,
               ⟨(some 10), none, .load (some 2) (.t 9)⟩,
               ⟨(some 3), none, .alloc 68 [(.str []), (.str [])]⟩,
               ⟨none, none, .store 2 (.t 3) (.t 10)⟩])
             (.ops [⟨(some 11), none, .mv (.t 1)⟩,
               ⟨(some 12), none, .addr 0 (.t 3)⟩,
               ⟨(some 13), none, .load none (.t 12)⟩,
               ⟨(some 14), none, .addr 1 (.t 3)⟩,
               ⟨(some 15), none, .load none (.t 14)⟩,
               ⟨none, none, .mapUpd 9 (.t 11) (.t 13) (.t 15)⟩])))
           (.ops [⟨(some 16), none, .bin .add (.t 7) (.c (.int .i64 1))⟩,
             ⟨(some 7), none, .mv (.t 16)⟩])))))))
     (.seq
      (.ops [⟨(some 17), none, .mv (.t 1)⟩,
        ⟨(some 0), none, .mv (.t 17)⟩])
      (.ret))))⟩
theorem ok32 : FnOk Tryd.prog 32 a32 := FnOk.of Tryd.prog Tryd.func32 (by kernel_rfl)
/-- slices.Equal[[]int,int] -/
def a33 : AFn := ⟨26, [.tmp 4], .seq
   (.ops [⟨(some 4), none, .mv (.c (.bool false))⟩])
   (.seq
    (.seq
     (.ops [⟨(some 6), none, .mv (.t 0)⟩,
       ⟨(some 7), none, .lenL (.t 6)⟩,
       ⟨(some 8), none, .mv (.t 1)⟩,
       ⟨(some 9), none, .lenL (.t 8)⟩,
       ⟨(some 10), none, .bin .neq (.t 7) (.t 9)⟩])
     (.cond (.t 10)
      (.seq
       (.ops [⟨(some 4), none, .mv (.c (.bool false))⟩])
       (.ret))
      (.skip)))
    (.seq
     (.seq
      (.ops [⟨(some 11), none, .mv (.t 0)⟩,
        ⟨(some 12), none, .lenL (.t 11)⟩,
        ⟨(some 13), none, .mv (.c (.int .i64 0))⟩])
      (.block 0 (.loop (.seq
         (.ops [⟨(some 14), none, .bin .lss (.t 13) (.t 12)⟩])
         (.seq
          (.cond (.t 14)
           (.skip)
           (.exit 0))
          (.seq
           (.block 1 (.seq
             (.ops [⟨(some 15), none, .mv (.t 13)⟩,
               ⟨(some 5), none, .mv (.t 15)⟩])
             (.seq
              (.draw [⟨⟨(some 16), none, .mv (.t 0)⟩, []⟩,
                ⟨⟨(some 17), none, .mv (.t 5)⟩, []⟩,
                ⟨⟨(some 18), none, .iaddrS 1 (.t 16) (.t 17)⟩, [0, 1]⟩,
                ⟨⟨(some 19), none, .load none (.t 18)⟩, [2]⟩,
                ⟨⟨(some 20), none, .mv (.t 1)⟩, []⟩,
                ⟨⟨(some 21), none, .mv (.t 5)⟩, []⟩,
                ⟨⟨(some 22), none, .iaddrS 1 (.t 20) (.t 21)⟩, [4, 5]⟩,
                ⟨⟨(some 23), none, .load none (.t 22)⟩, [6]⟩,
                ⟨⟨(some 24), none, .bin .neq (.t 19) (.t 23)⟩, [3, 7]⟩] [0, 0, 3, 7, 0, 0, 48, 112, 255])
              (.cond (.t 24)
               (.seq
                (.ops [⟨(some 4), none, .mv (.c (.bool false))⟩])
                (.ret))
               (.skip)))))
           (.ops [⟨(some 25), none, .bin .add (.t 13) (.c (.int .i64 1))⟩,
             ⟨(some 13), none, .mv (.t 25)⟩])))))))
     (.seq
      (.ops [⟨(some 4), none, .mv (.c (.bool true))⟩])
      (.ret))))⟩
theorem ok33 : FnOk Tryd.prog 33 a33 := FnOk.of Tryd.prog Tryd.func33 (by kernel_rfl)
/-- jalousie/command.rows -/
def a34 : AFn := ⟨55, [.tmp 0], .seq
   (.ops [⟨(some 0), none, .mv (.c .nilslice)⟩])
   (.seq
    (.ops [⟨(some 1), none, .build [(.str []), (.str [])] [(0, 1), (1, 1)] [(0, (.c (.str [110, 101, 119, 45, 115, 101, 115, 115, 105, 111, 110]))), (1, (.c (.str [108])))]⟩,
      ⟨(some 2), none, .build [(.str []), (.str [])] [(0, 1), (1, 1)] [(0, (.c (.str [97, 116, 116, 97, 99, 104]))), (1, (.c (.str [108, 110])))]⟩,
      ⟨(some 3), none, .build [(.str []), (.str [])] [(0, 1), (1, 1)] [(0, (.c (.str [100, 101, 116, 97, 99, 104]))), (1, (.c (.str [])))]⟩,
      ⟨(some 4), none, .build [(.str []), (.str [])] [(0, 1), (1, 1)] [(0, (.c (.str [107, 105, 108, 108, 45, 115, 101, 115, 115, 105, 111, 110]))), (1, (.c (.str [])))]⟩,
      ⟨(some 5), none, .build [(.str []), (.str [])] [(0, 1), (1, 1)] [(0, (.c (.str [110, 101, 119, 45, 119, 105, 110, 100, 111, 119]))), (1, (.c (.str [108])))]⟩,
      ⟨(some 6), none, .build [(.str []), (.str [])] [(0, 1), (1, 1)] [(0, (.c (.str [111, 112, 101, 110]))), (1, (.c (.str [])))]⟩,
      ⟨(some 7), none, .build [(.str []), (.str [])] [(0, 1), (1, 1)] [(0, (.c (.str [107, 105, 108, 108, 45, 119, 105, 110, 100, 111, 119]))), (1, (.c (.str [110])))]⟩,
      ⟨(some 8), none, .build [(.str []), (.str [])] [(0, 1), (1, 1)] [(0, (.c (.str [115, 101, 108, 101, 99, 116, 45, 119, 105, 110, 100, 111, 119]))), (1, (.c (.str [110])))]⟩,
      ⟨(some 9), none, .build [(.str []), (.str [])] [(0, 1), (1, 1)] [(0, (.c (.str [110, 101, 120, 116, 45, 119, 105, 110, 100, 111, 119]))), (1, (.c (.str [])))]⟩,
      ⟨(some 10), none, .build [(.str []), (.str [])] [(0, 1), (1, 1)] [(0, (.c (.str [112, 114, 101, 118, 105, 111, 117, 115, 45, 119, 105, 110, 100, 111, 119]))), (1, (.c (.str [])))]⟩,
      ⟨(some 11), none, .build [(.str []), (.str [])] [(0, 1), (1, 1)] [(0, (.c (.str [114, 101, 110, 97, 109, 101, 45, 119, 105, 110, 100, 111, 119]))), (1, (.c (.str [110, 116])))]⟩,
      ⟨(some 12), none, .build [(.str []), (.str [])] [(0, 1), (1, 1)] [(0, (.c (.str [115, 112, 108, 105, 116, 45, 104]))), (1, (.c (.str [108, 110])))]⟩,
      ⟨(some 13), none, .build [(.str []), (.str [])] [(0, 1), (1, 1)] [(0, (.c (.str [115, 112, 108, 105, 116, 45, 118]))), (1, (.c (.str [108, 110])))]⟩,
      ⟨(some 14), none, .build [(.str []), (.str [])] [(0, 1), (1, 1)] [(0, (.c (.str [98, 101, 115, 105, 100, 101]))), (1, (.c (.str [])))]⟩,
      ⟨(some 15), none, .build [(.str []), (.str [])] [(0, 1), (1, 1)] [(0, (.c (.str [97, 98, 111, 118, 101]))), (1, (.c (.str [])))]⟩,
      ⟨(some 16), none, .build [(.str []), (.str [])] [(0, 1), (1, 1)] [(0, (.c (.str [107, 105, 108, 108, 45, 112, 97, 110, 101]))), (1, (.c (.str [])))]⟩,
      ⟨(some 17), none, .build [(.str []), (.str [])] [(0, 1), (1, 1)] [(0, (.c (.str [115, 101, 108, 101, 99, 116, 45, 112, 97, 110, 101]))), (1, (.c (.str [112])))]⟩,
      ⟨(some 18), none, .build [(.str []), (.str [])] [(0, 1), (1, 1)] [(0, (.c (.str [110, 101, 120, 116, 45, 112, 97, 110, 101]))), (1, (.c (.str [])))]⟩,
      ⟨(some 19), none, .build [(.str []), (.str [])] [(0, 1), (1, 1)] [(0, (.c (.str [112, 114, 101, 118, 105, 111, 117, 115, 45, 112, 97, 110, 101]))), (1, (.c (.str [])))]⟩,
      ⟨(some 20), none, .build [(.str []), (.str [])] [(0, 1), (1, 1)] [(0, (.c (.str [115, 119, 97, 112, 45, 110, 101, 120, 116]))), (1, (.c (.str [])))]⟩,
      ⟨(some 21), none, .build [(.str []), (.str [])] [(0, 1), (1, 1)] [(0, (.c (.str [115, 119, 97, 112, 45, 112, 114, 101, 118, 105, 111, 117, 115]))), (1, (.c (.str [])))]⟩,
      ⟨(some 22), none, .build [(.str []), (.str [])] [(0, 1), (1, 1)] [(0, (.c (.str [114, 101, 115, 105, 122, 101, 45, 104]))), (1, (.c (.str [110])))]⟩,
      ⟨(some 23), none, .build [(.str []), (.str [])] [(0, 1), (1, 1)] [(0, (.c (.str [114, 101, 115, 105, 122, 101, 45, 118]))), (1, (.c (.str [110])))]⟩,
      ⟨(some 24), none, .build [(.str []), (.str [])] [(0, 1), (1, 1)] [(0, (.c (.str [122, 111, 111, 109]))), (1, (.c (.str [])))]⟩,
      ⟨(some 25), none, .build [(.str []), (.str [])] [(0, 1), (1, 1)] [(0, (.c (.str [99, 111, 112, 121]))), (1, (.c (.str [])))]⟩,
      ⟨(some 26), none, .build [(.str []), (.str [])] [(0, 1), (1, 1)] [(0, (.c (.str [99, 111, 112, 121, 45, 101, 120, 105, 116]))), (1, (.c (.str [])))]⟩,
      ⟨(some 27), none, .build [(.str []), (.str [])] [(0, 1), (1, 1)] [(0, (.c (.str [99, 111, 112, 121, 45, 109, 111, 118, 101]))), (1, (.c (.str [110, 110])))]⟩,
      ⟨(some 28), none, .build [(.str []), (.str [])] [(0, 1), (1, 1)] [(0, (.c (.str [99, 111, 112, 121, 45, 116, 111]))), (1, (.c (.str [110, 110])))]⟩,
      ⟨(some 29), none, .build [(.str []), (.str [])] [(0, 1), (1, 1)] [(0, (.c (.str [99, 111, 112, 121, 45, 109, 97, 114, 107]))), (1, (.c (.str [])))]⟩,
      ⟨(some 30), none, .build [(.str []), (.str [])] [(0, 1), (1, 1)] [(0, (.c (.str [99, 111, 112, 121, 45, 99, 108, 101, 97, 114]))), (1, (.c (.str [])))]⟩,
      ⟨(some 31), none, .build [(.str []), (.str [])] [(0, 1), (1, 1)] [(0, (.c (.str [99, 111, 112, 121, 45, 102, 105, 110, 100]))), (1, (.c (.str [116])))]⟩,
      ⟨(some 32), none, .build [(.str []), (.str [])] [(0, 1), (1, 1)] [(0, (.c (.str [99, 111, 112, 121, 45, 98, 97, 99, 107]))), (1, (.c (.str [116])))]⟩,
      ⟨(some 33), none, .build [(.str []), (.str [])] [(0, 1), (1, 1)] [(0, (.c (.str [99, 111, 112, 121, 45, 116, 97, 107, 101]))), (1, (.c (.str [])))]⟩,
      ⟨(some 34), none, .build [(.str []), (.str [])] [(0, 1), (1, 1)] [(0, (.c (.str [115, 101, 116, 45, 98, 117, 102, 102, 101, 114]))), (1, (.c (.str [116])))]⟩,
      ⟨(some 35), none, .build [(.str []), (.str [])] [(0, 1), (1, 1)] [(0, (.c (.str [100, 114, 111, 112, 45, 98, 117, 102, 102, 101, 114]))), (1, (.c (.str [108, 110])))]⟩,
      ⟨(some 36), none, .build [(.str []), (.str [])] [(0, 1), (1, 1)] [(0, (.c (.str [115, 104, 111, 119, 45, 98, 117, 102, 102, 101, 114]))), (1, (.c (.str [108, 110])))]⟩,
      ⟨(some 37), none, .build [(.str []), (.str [])] [(0, 1), (1, 1)] [(0, (.c (.str [108, 105, 115, 116, 45, 98, 117, 102, 102, 101, 114, 115]))), (1, (.c (.str [])))]⟩,
      ⟨(some 38), none, .build [(.str []), (.str [])] [(0, 1), (1, 1)] [(0, (.c (.str [112, 97, 115, 116, 101]))), (1, (.c (.str [108, 110])))]⟩,
      ⟨(some 39), none, .build [(.str []), (.str [])] [(0, 1), (1, 1)] [(0, (.c (.str [112, 97, 115, 116, 101, 45, 110, 101, 119, 101, 115, 116]))), (1, (.c (.str [108])))]⟩,
      ⟨(some 40), none, .build [(.str []), (.str [])] [(0, 1), (1, 1)] [(0, (.c (.str [112, 97, 115, 116, 101, 45, 108, 97, 115, 116]))), (1, (.c (.str [])))]⟩,
      ⟨(some 41), none, .build [(.str []), (.str [])] [(0, 1), (1, 1)] [(0, (.c (.str [100, 111, 119, 110, 103, 114, 97, 100, 101]))), (1, (.c (.str [108, 110, 108])))]⟩,
      ⟨(some 42), none, .build [(.str []), (.str [])] [(0, 1), (1, 1)] [(0, (.c (.str [112, 105, 112, 101]))), (1, (.c (.str [110])))]⟩,
      ⟨(some 43), none, .build [(.str []), (.str [])] [(0, 1), (1, 1)] [(0, (.c (.str [112, 105, 112, 101, 45, 111, 102, 102]))), (1, (.c (.str [])))]⟩,
      ⟨(some 44), none, .build [(.str []), (.str [])] [(0, 1), (1, 1)] [(0, (.c (.str [108, 105, 115, 116, 45, 115, 101, 115, 115, 105, 111, 110, 115]))), (1, (.c (.str [])))]⟩,
      ⟨(some 45), none, .build [(.str []), (.str [])] [(0, 1), (1, 1)] [(0, (.c (.str [108, 105, 115, 116, 45, 119, 105, 110, 100, 111, 119, 115]))), (1, (.c (.str [])))]⟩,
      ⟨(some 46), none, .build [(.str []), (.str [])] [(0, 1), (1, 1)] [(0, (.c (.str [108, 105, 115, 116, 45, 112, 97, 110, 101, 115]))), (1, (.c (.str [])))]⟩,
      ⟨(some 47), none, .build [(.str []), (.str [])] [(0, 1), (1, 1)] [(0, (.c (.str [97, 117, 100, 105, 116]))), (1, (.c (.str [])))]⟩,
      ⟨(some 48), none, .build [(.str []), (.str [])] [(0, 1), (1, 1)] [(0, (.c (.str [105, 110, 102, 111]))), (1, (.c (.str [112])))]⟩,
      ⟨(some 49), none, .build [(.str []), (.str [])] [(0, 1), (1, 1)] [(0, (.c (.str [115, 101, 116, 45, 98, 97, 110, 110, 101, 114]))), (1, (.c (.str [116])))]⟩,
      ⟨(some 50), none, .build [(.str []), (.str [])] [(0, 1), (1, 1)] [(0, (.c (.str [98, 105, 110, 100]))), (1, (.c (.str [110, 116])))]⟩,
      ⟨(some 51), none, .build [(.str []), (.str [])] [(0, 1), (1, 1)] [(0, (.c (.str [117, 110, 98, 105, 110, 100]))), (1, (.c (.str [110])))]⟩,
      ⟨(some 52), none, .build [(.str []), (.str [])] [(0, 1), (1, 1)] [(0, (.c (.str [115, 101, 110, 100]))), (1, (.c (.str [116])))]⟩,
      ⟨(some 53), none, .build [(.str []), (.str [])] [(0, 1), (1, 1)] [(0, (.c (.str [114, 101, 102, 114, 101, 115, 104]))), (1, (.c (.str [])))]⟩,
      ⟨(some 54), none, .bslice 68 2 53 [(.str []), (.str [])] [(0, (.t 1)), (1, (.t 2)), (2, (.t 3)), (3, (.t 4)), (4, (.t 5)), (5, (.t 6)), (6, (.t 7)), (7, (.t 8)), (8, (.t 9)), (9, (.t 10)), (10, (.t 11)), (11, (.t 12)), (12, (.t 13)), (13, (.t 14)), (14, (.t 15)), (15, (.t 16)), (16, (.t 17)), (17, (.t 18)), (18, (.t 19)), (19, (.t 20)), (20, (.t 21)), (21, (.t 22)), (22, (.t 23)), (23, (.t 24)), (24, (.t 25)), (25, (.t 26)), (26, (.t 27)), (27, (.t 28)), (28, (.t 29)), (29, (.t 30)), (30, (.t 31)), (31, (.t 32)), (32, (.t 33)), (33, (.t 34)), (34, (.t 35)), (35, (.t 36)), (36, (.t 37)), (37, (.t 38)), (38, (.t 39)), (39, (.t 40)), (40, (.t 41)), (41, (.t 42)), (42, (.t 43)), (43, (.t 44)), (44, (.t 45)), (45, (.t 46)), (46, (.t 47)), (47, (.t 48)), (48, (.t 49)), (49, (.t 50)), (50, (.t 51)), (51, (.t 52)), (52, (.t 53))]⟩,
      ⟨(some 0), none, .mv (.t 54)⟩])
    (.ret))⟩
theorem ok34 : FnOk Tryd.prog 34 a34 := FnOk.of Tryd.prog Tryd.func34 (by kernel_rfl)
/-- internal/stringslite.Cut -/
def a35 : AFn := ⟨23, [.tmp 4, .tmp 5, .tmp 6], .seq
   (.ops [⟨(some 4), none, .mv (.c (.str []))⟩,
     ⟨(some 5), none, .mv (.c (.str []))⟩,
     ⟨(some 6), none, .mv (.c (.bool false))⟩])
   (.seq
    (.seq
     (.ops [⟨(some 8), none, .mv (.t 0)⟩,
       ⟨(some 9), none, .mv (.t 1)⟩,
       ⟨(some 10), none, .call 42 [(.t 8), (.t 9)]⟩,
       ⟨(some 7), none, .mv (.t 10)⟩])
     (.seq
      (.ops [⟨(some 11), none, .mv (.t 7)⟩,
        ⟨(some 12), none, .bin .geq (.t 11) (.c (.int .i64 0))⟩])
      (.cond (.t 12)
       (.seq
        (.draw [⟨⟨(some 13), none, .mv (.t 0)⟩, []⟩,
          ⟨⟨(some 14), none, .mv (.t 7)⟩, []⟩,
          ⟨⟨(some 15), none, .sliceS (.t 13) none (some (.t 14))⟩, [0, 1]⟩,
          ⟨⟨(some 16), none, .mv (.t 0)⟩, []⟩,
          ⟨⟨(some 17), none, .mv (.t 7)⟩, []⟩,
          ⟨⟨(some 18), none, .mv (.t 1)⟩, []⟩,
          ⟨⟨(some 19), none, .lenS (.t 18)⟩, [5]⟩,
          ⟨⟨(some 20), none, .bin .add (.t 17) (.t 19)⟩, [4, 6]⟩,
          ⟨⟨(some 21), none, .sliceS (.t 16) (some (.t 20)) none⟩, [3, 7]⟩,
          ⟨⟨(some 4), none, .mv (.t 15)⟩, [2, 0, 1, 2]⟩,
          ⟨⟨(some 5), none, .mv (.t 21)⟩, [8, 9, 0, 1, 2, 3, 4, 5, 6, 7, 8, 9]⟩,
          ⟨⟨(some 6), none, .mv (.c (.bool true))⟩, [10, 0, 1, 2, 3, 4, 5, 6, 7, 8, 9, 10]⟩] [0, 0, 3, 0, 0, 0, 32, 112, 248, 7, 1023, 2047])
        (.ret))
       (.skip))))
    (.seq
     (.ops [⟨(some 22), none, .mv (.t 0)⟩,
       ⟨(some 4), none, .mv (.t 22)⟩,
       ⟨(some 5), none, .mv (.c (.str []))⟩,
       ⟨(some 6), none, .mv (.c (.bool false))⟩])
     (.ret)))⟩
theorem ok35 : FnOk Tryd.prog 35 a35 := FnOk.of Tryd.prog Tryd.func35 (by kernel_rfl)
/-- jalousie/command.digits -/
def a36 : AFn := ⟨28, [.tmp 2, .tmp 3], .seq
   (.ops [⟨(some 2), none, .mv (.c (.int .i64 0))⟩,
     ⟨(some 3), none, .mv (.c (.bool false))⟩])
   (.seq
    (.ops [⟨(some 7), none, .mv (.t 0)⟩,
      ⟨(some 8), none, .call 43 [(.t 7)]⟩,
      ⟨(some 6), none, .mv (.t 8)⟩,
      ⟨(some 9), none, .ext (.t 6) 0⟩,
      ⟨(some 10), none, .ext (.t 6) 1⟩,
      ⟨(some 4), none, .mv (.t 9)⟩,
      ⟨(some 5), none, .mv (.t 10)⟩])
    (.seq
     (.ops [⟨(some 11), none, .mv (.t 4)⟩,
       ⟨(some 12), none, .mv (.t 5)⟩,
       ⟨(some 13), none, .eq false 76 (.interface #[("Error", 88)]) (.t 12) (.c .niface)⟩,
       ⟨(some 14), none, .mv (.t 13)⟩,
       ⟨(some 15), (some (14, true)), .mv (.t 4)⟩,
       ⟨(some 16), (some (14, true)), .call 29 [(.t 15)]⟩,
       ⟨(some 17), (some (14, true)), .mv (.t 0)⟩,
       ⟨(some 18), (some (14, true)), .bin .eql (.t 16) (.t 17)⟩,
       ⟨(some 19), none, .pick (.t 14) (.t 18) (.c (.bool false))⟩,
       ⟨(some 20), none, .mv (.t 19)⟩,
       ⟨(some 21), (some (20, true)), .mv (.t 4)⟩,
       ⟨(some 22), (some (20, true)), .bin .geq (.t 21) (.c (.int .i64 (-9999)))⟩,
       ⟨(some 23), none, .pick (.t 20) (.t 22) (.c (.bool false))⟩,
       ⟨(some 24), none, .mv (.t 23)⟩,
       ⟨(some 25), (some (24, true)), .mv (.t 4)⟩,
       ⟨(some 26), (some (24, true)), .bin .leq (.t 25) (.c (.int .i64 9999))⟩,
       ⟨(some 27), none, .pick (.t 24) (.t 26) (.c (.bool false))⟩,
       ⟨(some 2), none, .mv (.t 11)⟩,
       ⟨(some 3), none, .mv (.t 27)⟩])
     (.ret)))⟩
theorem ok36 : FnOk Tryd.prog 36 a36 := FnOk.of Tryd.prog Tryd.func36 (by kernel_rfl)
/-- jalousie/command.label -/
def a37 : AFn := ⟨9, [.tmp 2], .seq
   (.ops [⟨(some 2), none, .mv (.c (.bool false))⟩])
   (.seq
    (.ops [⟨(some 3), none, .mv (.t 0)⟩,
      ⟨(some 4), none, .bin .geq (.t 3) (.c (.int .i64 0))⟩,
      ⟨(some 5), none, .mv (.t 4)⟩,
      ⟨(some 6), (some (5, true)), .mv (.t 0)⟩,
      ⟨(some 7), (some (5, true)), .bin .lss (.t 6) (.c (.int .i64 64))⟩,
      ⟨(some 8), none, .pick (.t 5) (.t 7) (.c (.bool false))⟩,
      ⟨(some 2), none, .mv (.t 8)⟩])
    (.ret))⟩
theorem ok37 : FnOk Tryd.prog 37 a37 := FnOk.of Tryd.prog Tryd.func37 (by kernel_rfl)
/-- jalousie/ids.Parse -/
def a38 : AFn := ⟨62, [.cell 2 (some 3), .tmp 3], .seq
   (.ops [⟨(some 2), none, .alloc 25 [(.int .i64 0), (.int .i64 0), (.int .i64 0)]⟩,
     ⟨(some 3), none, .mv (.c (.bool false))⟩])
   (.seq
    (.ops [⟨(some 13), none, .mv (.t 0)⟩,
      ⟨(some 14), none, .call 44 [(.t 13), (.c (.str [112]))]⟩,
      ⟨(some 12), none, .mv (.t 14)⟩,
      ⟨(some 15), none, .ext (.t 12) 0⟩,
      ⟨(some 16), none, .ext (.t 12) 1⟩,
      ⟨(some 4), none, .mv (.t 15)⟩,
      ⟨(some 5), none, .mv (.t 16)⟩])
    (.seq
     (.ops [⟨(some 17), none, .mv (.t 4)⟩,
       ⟨(some 18), none, .call 45 [(.t 17), (.c (.str [46]))]⟩,
       ⟨(some 6), none, .mv (.t 18)⟩])
     (.seq
      (.ops [⟨(some 7), none, .alloc 71 [(.int .i64 0), (.int .i64 0), (.int .i64 0)]⟩])
      (.seq
       (.seq
        (.ops [⟨(some 19), none, .mv (.t 5)⟩,
          ⟨(some 20), none, .un .not (.t 19)⟩,
          ⟨(some 21), none, .mv (.t 20)⟩,
          ⟨(some 22), (some (21, false)), .mv (.t 6)⟩,
          ⟨(some 23), (some (21, false)), .lenL (.t 22)⟩,
          ⟨(some 24), (some (21, false)), .bin .neq (.t 23) (.c (.int .i64 3))⟩,
          ⟨(some 25), none, .pick (.t 21) (.c (.bool true)) (.t 24)⟩])
        (.cond (.t 25)
         (.seq
          (.ops [⟨(some 26), none, .build [(.int .i64 0), (.int .i64 0), (.int .i64 0)] [(0, 1), (1, 1), (2, 1)] []⟩,
            ⟨none, none, .store 3 (.t 2) (.t 26)⟩,
            ⟨(some 3), none, .mv (.c (.bool false))⟩])
          (.ret))
         (.skip)))
       (.seq
        (.seq
         (.ops [⟨(some 27), none, .mv (.c (.int .i64 0))⟩])
         (.block 0 (.loop (.seq
            (.ops [⟨(some 28), none, .bin .lss (.t 27) (.c (.int .i64 3))⟩])
            (.seq
             (.cond (.t 28)
              (.skip)
              (.exit 0))
             (.seq
              (.block 1 (.seq
                (.ops [⟨(some 29), none, .mv (.t 27)⟩,
                  ⟨(some 8), none, .mv (.t 29)⟩])
                (.ops [⟨(some 31), none, .mv (.t 8)⟩,
                  ⟨(some 32), none, .mv (.t 6)⟩,
                  ⟨(some 33), none, .mv (.t 8)⟩,
                  ⟨(some 34), none, .iaddrS 1 (.t 32) (.t 33)⟩,
                  ⟨(some 35), none, .load none (.t 34)⟩,
                  ⟨(some 36), none, .call 43 [(.t 35)]⟩,
                  ⟨(some 30), none, .mv (.t 36)⟩,
                  ⟨(some 37), none, .ext (.t 30) 0⟩,
                  ⟨(some 38), none, .ext (.t 30) 1⟩,
                  ⟨(some 39), none, .iaddrA 3 1 (.t 7) (.t 31)⟩,
                  ⟨none, none, .store 1 (.t 39) (.t 37)⟩])))
              (.ops [⟨(some 40), none, .bin .add (.t 27) (.c (.int .i64 1))⟩,
                ⟨(some 27), none, .mv (.t 40)⟩])))))))
        (.seq
         (.ops [⟨(some 41), none, .iaddrA 3 1 (.t 7) (.c (.int .i64 0))⟩,
           ⟨(some 42), none, .load none (.t 41)⟩,
           ⟨(some 43), none, .iaddrA 3 1 (.t 7) (.c (.int .i64 1))⟩,
           ⟨(some 44), none, .load none (.t 43)⟩,
           ⟨(some 45), none, .iaddrA 3 1 (.t 7) (.c (.int .i64 2))⟩,
           ⟨(some 46), none, .load none (.t 45)⟩,
           ⟨(some 47), none, .build [(.int .i64 0), (.int .i64 0), (.int .i64 0)] [(0, 1), (1, 1), (2, 1)] [(0, (.t 42)), (1, (.t 44)), (2, (.t 46))]⟩,
           ⟨(some 9), none, .alloc 25 [(.int .i64 0), (.int .i64 0), (.int .i64 0)]⟩,
           ⟨none, none, .store 3 (.t 9) (.t 47)⟩])
         (.seq
          (.seq
           (.ops [⟨(some 49), none, .load (some 3) (.t 9)⟩,
             ⟨(some 50), none, .call 30 [(.t 49)]⟩,
             ⟨(some 48), none, .mv (.t 50)⟩,
             ⟨(some 51), none, .ext (.t 48) 0⟩,
             ⟨(some 52), none, .ext (.t 48) 1⟩,
             ⟨(some 10), none, .mv (.t 51)⟩,
             ⟨(some 11), none, .mv (.t 52)⟩])
           (.seq
            (.ops [⟨(some 53), none, .mv (.t 11)⟩,
              ⟨(some 54), none, .un .not (.t 53)⟩,
              ⟨(some 55), none, .mv (.t 54)⟩,
              ⟨(some 56), (some (55, false)), .mv (.t 10)⟩,
              ⟨(some 57), (some (55, false)), .mv (.t 0)⟩,
              ⟨(some 58), (some (55, false)), .bin .neq (.t 56) (.t 57)⟩,
              ⟨(some 59), none, .pick (.t 55) (.c (.bool true)) (.t 58)⟩])
            (.cond (.t 59)
             (.seq
              (.ops [⟨(some 60), none, .build [(.int .i64 0), (.int .i64 0), (.int .i64 0)] [(0, 1), (1, 1), (2, 1)] []⟩,
                ⟨none, none, .store 3 (.t 2) (.t 60)⟩,
                ⟨(some 3), none, .mv (.c (.bool false))⟩])
              (.ret))
             (.skip))))
          (.seq
           (.ops [⟨(some 61), none, .load (some 3) (.t 9)⟩,
             ⟨none, none, .store 3 (.t 2) (.t 61)⟩,
             ⟨(some 3), none, .mv (.c (.bool true))⟩])
           (.ret)))))))))⟩
theorem ok38 : FnOk Tryd.prog 38 a38 := FnOk.of Tryd.prog Tryd.func38 (by kernel_rfl)
/-- jalousie/command.fine -/
def a39 : AFn := ⟨16, [.tmp 2], .seq
   (.ops [⟨(some 2), none, .mv (.c (.bool false))⟩])
   (.seq
    (.ops [⟨(some 3), none, .mv (.t 0)⟩,
      ⟨(some 4), none, .lenS (.t 3)⟩,
      ⟨(some 5), none, .bin .geq (.t 4) (.c (.int .i64 1))⟩,
      ⟨(some 6), none, .mv (.t 5)⟩,
      ⟨(some 7), (some (6, true)), .mv (.t 0)⟩,
      ⟨(some 8), (some (6, true)), .lenS (.t 7)⟩,
      ⟨(some 9), (some (6, true)), .bin .leq (.t 8) (.c (.int .i64 200))⟩,
      ⟨(some 10), none, .pick (.t 6) (.t 9) (.c (.bool false))⟩,
      ⟨(some 11), none, .mv (.t 10)⟩,
      ⟨(some 12), (some (11, true)), .mv (.t 0)⟩,
      ⟨(some 13), (some (11, true)), .call 46 [(.t 12), (.c (.fn (.func 47) [] []))]⟩,
      ⟨(some 14), (some (11, true)), .un .not (.t 13)⟩,
      ⟨(some 15), none, .pick (.t 11) (.t 14) (.c (.bool false))⟩,
      ⟨(some 2), none, .mv (.t 15)⟩])
    (.ret))⟩
theorem ok39 : FnOk Tryd.prog 39 a39 := FnOk.of Tryd.prog Tryd.func39 (by kernel_rfl)
/-- internal/strconv.Itoa -/
def a40 : AFn := ⟨5, [.tmp 2], .seq
   (.ops [⟨(some 2), none, .mv (.c (.str []))⟩])
   (.seq
    (.ops [⟨(some 3), none, .mv (.t 0)⟩,
      ⟨(some 4), none, .call 48 [(.t 3), (.c (.int .i64 10))]⟩,
      ⟨(some 2), none, .mv (.t 4)⟩])
    (.ret))⟩
theorem ok40 : FnOk Tryd.prog 40 a40 := FnOk.of Tryd.prog Tryd.func40 (by kernel_rfl)
/-- strings.Join -/
def a41 : AFn := ⟨75, [.tmp 4], .seq
   (.ops [⟨(some 4), none, .mv (.c (.str []))⟩])
   (.seq
    (.seq
     (.ops [⟨(some 11), none, .mv (.t 0)⟩,
       ⟨(some 12), none, .lenL (.t 11)⟩])
     (.block 0 (.seq
       (.ops [⟨(some 14), none, .bin .eql (.t 12) (.c (.int .i64 0))⟩,
         ⟨(some 13), none, .mv (.t 14)⟩])
       (.cond (.t 13)
        (.seq
         (.ops [⟨(some 4), none, .mv (.c (.str []))⟩])
         (.ret))
        (.seq
         (.ops [⟨(some 16), none, .bin .eql (.t 12) (.c (.int .i64 1))⟩,
           ⟨(some 15), none, .mv (.t 16)⟩])
         (.cond (.t 15)
          (.seq
           (.ops [⟨(some 17), none, .mv (.t 0)⟩,
             ⟨(some 18), none, .iaddrS 1 (.t 17) (.c (.int .i64 0))⟩,
             ⟨(some 19), none, .load none (.t 18)⟩,
             ⟨(some 4), none, .mv (.t 19)⟩])
           (.ret))
          (.skip)))))))
    (.seq
     (.ops [⟨(some 5), none, .mv (.c (.int .i64 0))⟩])
     (.seq
      (.seq
       (.ops [⟨(some 20), none, .mv (.t 1)⟩,
         ⟨(some 21), none, .lenS (.t 20)⟩,
         ⟨(some 22), none, .bin .gtr (.t 21) (.c (.int .i64 0))⟩])
       (.cond (.t 22)
        (.seq
         (.seq
          (.ops [⟨(some 23), none, .mv (.t 1)⟩,
            ⟨(some 24), none, .lenS (.t 23)⟩,
            ⟨(some 25), none, .mv (.t 0)⟩,
            ⟨(some 26), none, .lenL (.t 25)⟩,
            ⟨(some 27), none, .bin .sub (.t 26) (.c (.int .i64 1))⟩,
            ⟨(some 28), none, .bin .quo (.c (.int .i64 9223372036854775807)) (.t 27)⟩,
            ⟨(some 29), none, .bin .geq (.t 24) (.t 28)⟩])
          (.cond (.t 29)
           (.ops [⟨(some 30), none, .bad⟩,
             ⟨none, none, .bad⟩])
           (.skip)))
         (.ops [⟨(some 31), none, .mv (.t 5)⟩,
           ⟨(some 32), none, .mv (.t 1)⟩,
           ⟨(some 33), none, .lenS (.t 32)⟩,
           ⟨(some 34), none, .mv (.t 0)⟩,
           ⟨(some 35), none, .lenL (.t 34)⟩,
           ⟨(some 36), none, .bin .sub (.t 35) (.c (.int .i64 1))⟩,
           ⟨(some 37), none, .bin .mul (.t 33) (.t 36)⟩,
           ⟨(some 38), none, .bin .add (.t 31) (.t 37)⟩,
           ⟨(some 5), none, .mv (.t 38)⟩]))
        (.skip)))
      (.seq
       (.seq
        (.ops [⟨(some 39), none, .mv (.t 0)⟩,
          ⟨(some 40), none, .lenL (.t 39)⟩,
          ⟨(some 41), none, .mv (.c (.int .i64 0))⟩])
        (.block 1 (.loop (.seq
           (.ops [⟨(some 42), none, .bin .lss (.t 41) (.t 40)⟩])
           (.seq
            (.cond (.t 42)
             (.skip)
             (.exit 1))
            (.seq
             (.block 2 (.seq
               (.ops [⟨(some 43), none, .iaddrS 1 (.t 39) (.t 41)⟩,
                 ⟨(some 44), none, .load none (.t 43)⟩,
                 ⟨(some 7), none, .mv (.t 44)⟩])
               (.seq
                (.seq
                 (.ops [⟨(some 45), none, .mv (.t 7)⟩,
                   ⟨(some 46), none, .lenS (.t 45)⟩,
                   ⟨(some 47), none, .mv (.t 5)⟩,
                   ⟨(some 48), none, .bin .sub (.c (.int .i64 9223372036854775807)) (.t 47)⟩,
                   ⟨(some 49), none, .bin .gtr (.t 46) (.t 48)⟩])
                 (.cond (.t 49)
                  (.ops [⟨(some 50), none, .bad⟩,
                    ⟨none, none, .bad⟩])
                  (.skip)))
                (.ops [⟨(some 51), none, .mv (.t 5)⟩,
                  ⟨(some 52), none, .mv (.t 7)⟩,
                  ⟨(some 53), none, .lenS (.t 52)⟩,
                  ⟨(some 54), none, .bin .add (.t 51) (.t 53)⟩,
                  ⟨(some 5), none, .mv (.t 54)⟩]))))
             (.ops [⟨(some 55), none, .bin .add (.t 41) (.c (.int .i64 1))⟩,
               ⟨(some 41), none, .mv (.t 55)⟩])))))))
       (.seq
        (.ops [⟨(some 8), none, .alloc 86 [.nilptr, .nilslice]⟩])
        (.seq
         (.ops [⟨(some 56), none, .mv (.t 5)⟩,
           ⟨(some 57), none, .call 49 [(.t 8), (.t 56)]⟩])
         (.seq
          (.ops [⟨(some 58), none, .mv (.t 0)⟩,
            ⟨(some 59), none, .iaddrS 1 (.t 58) (.c (.int .i64 0))⟩,
            ⟨(some 60), none, .load none (.t 59)⟩,
            ⟨(some 61), none, .call 50 [(.t 8), (.t 60)]⟩])
          (.seq
           (.seq
            (.ops [⟨(some 62), none, .mv (.t 0)⟩,
              ⟨(some 63), none, .slice 1 (.t 62) (some (.c (.int .i64 1))) none none⟩,
              ⟨(some 64), none, .lenL (.t 63)⟩,
              ⟨(some 65), none, .mv (.c (.int .i64 0))⟩])
            (.block 3 (.loop (.seq
               (.ops [⟨(some 66), none, .bin .lss (.t 65) (.t 64)⟩])
               (.seq
                (.cond (.t 66)
                 (.skip)
                 (.exit 3))
                (.seq
                 (.block 4 (.seq
                   (.ops [⟨(some 67), none, .iaddrS 1 (.t 63) (.t 65)⟩,
                     ⟨(some 68), none, .load none (.t 67)⟩,
                     ⟨(some 10), none, .mv (.t 68)⟩])
                   (.seq
                    (.ops [⟨(some 69), none, .mv (.t 1)⟩,
                      ⟨(some 70), none, .call 50 [(.t 8), (.t 69)]⟩])
                    (.ops [⟨(some 71), none, .mv (.t 10)⟩,
                      ⟨(some 72), none, .call 50 [(.t 8), (.t 71)]⟩]))))
                 (.ops [⟨(some 73), none, .bin .add (.t 65) (.c (.int .i64 1))⟩,
                   ⟨(some 65), none, .mv (.t 73)⟩])))))))
           (.seq
            (.ops [⟨(some 74), none, .call 51 [(.t 8)]⟩,
              ⟨(some 4), none, .mv (.t 74)⟩])
            (.ret))))))))))⟩
theorem ok41 : FnOk Tryd.prog 41 a41 := FnOk.of Tryd.prog Tryd.func41 (by kernel_rfl)
/-- internal/stringslite.Index -/
def a42 : AFn := ⟨143, [.tmp 4], .seq
   (.ops [⟨(some 4), none, .mv (.c (.int .i64 0))⟩])
   (.seq
    (.ops [⟨(some 14), none, .mv (.t 1)⟩,
      ⟨(some 15), none, .lenS (.t 14)⟩,
      ⟨(some 5), none, .mv (.t 15)⟩])
    (.seq
     (.block 0 (.seq
       (.ops [⟨(some 17), none, .mv (.t 5)⟩,
         ⟨(some 18), none, .bin .eql (.t 17) (.c (.int .i64 0))⟩,
         ⟨(some 19), none, .mv (.t 18)⟩,
         ⟨(some 20), (some (19, false)), .mv (.t 1)⟩,
         ⟨(some 21), (some (19, false)), .mv (.t 0)⟩,
         ⟨(some 22), (some (19, false)), .bin .eql (.t 20) (.t 21)⟩,
         ⟨(some 23), none, .pick (.t 19) (.c (.bool true)) (.t 22)⟩,
         ⟨(some 16), none, .mv (.t 23)⟩])
       (.cond (.t 16)
        (.seq
         (.ops [⟨(some 4), none, .mv (.c (.int .i64 0))⟩])
         (.ret))
        (.seq
         (.ops [⟨(some 25), none, .mv (.t 5)⟩,
           ⟨(some 26), none, .bin .eql (.t 25) (.c (.int .i64 1))⟩,
           ⟨(some 24), none, .mv (.t 26)⟩])
         (.cond (.t 24)
          (.seq
           (.ops [⟨(some 27), none, .mv (.t 0)⟩,
             ⟨(some 28), none, .mv (.t 1)⟩,
             ⟨(some 29), none, .idxS (.t 28) (.c (.int .i64 0))⟩,
             ⟨(some 30), none, .call 52 [(.t 27), (.t 29)]⟩,
             ⟨(some 4), none, .mv (.t 30)⟩])
           (.ret))
          (.seq
           (.ops [⟨(some 32), none, .mv (.t 5)⟩,
             ⟨(some 33), none, .mv (.t 0)⟩,
             ⟨(some 34), none, .lenS (.t 33)⟩,
             ⟨(some 35), none, .bin .geq (.t 32) (.t 34)⟩,
             ⟨(some 31), none, .mv (.t 35)⟩])
           (.cond (.t 31)
            (.seq
             (.ops [⟨(some 4), none, .mv (.c (.int .i64 (-1)))⟩])
             (.ret))
            (.seq
             (.ops [⟨(some 37), none, .mv (.t 5)⟩,
               ⟨(some 38), none, .load none (.c (.ptr (.ro 0) 0))⟩,
               ⟨(some 39), none, .bin .leq (.t 37) (.t 38)⟩,
               ⟨(some 40), none, .mv (.t 39)⟩,
               ⟨(some 41), (some (40, true)), .mv (.t 0)⟩,
               ⟨(some 42), (some (40, true)), .lenS (.t 41)⟩,
               ⟨(some 43), (some (40, true)), .bin .leq (.t 42) (.c (.int .i64 64))⟩,
               ⟨(some 44), none, .pick (.t 40) (.t 43) (.c (.bool false))⟩,
               ⟨(some 36), none, .mv (.t 44)⟩])
             (.cond (.t 36)
              (.seq
               (.ops [⟨(some 45), none, .mv (.t 0)⟩,
                 ⟨(some 46), none, .mv (.t 1)⟩,
                 ⟨(some 47), none, .bad⟩,
                 ⟨(some 4), none, .mv (.t 47)⟩])
               (.ret))
              (.skip))))))))))
     (.seq
      (.ops [⟨(some 48), none, .mv (.t 1)⟩,
        ⟨(some 49), none, .idxS (.t 48) (.c (.int .i64 0))⟩,
        ⟨(some 6), none, .mv (.t 49)⟩])
      (.seq
       (.ops [⟨(some 50), none, .mv (.t 1)⟩,
         ⟨(some 51), none, .idxS (.t 50) (.c (.int .i64 1))⟩,
         ⟨(some 7), none, .mv (.t 51)⟩])
       (.seq
        (.ops [⟨(some 8), none, .mv (.c (.int .i64 0))⟩])
        (.seq
         (.ops [⟨(some 52), none, .mv (.t 0)⟩,
           ⟨(some 53), none, .lenS (.t 52)⟩,
           ⟨(some 54), none, .mv (.t 5)⟩,
           ⟨(some 55), none, .bin .sub (.t 53) (.t 54)⟩,
           ⟨(some 56), none, .bin .add (.t 55) (.c (.int .i64 1))⟩,
           ⟨(some 9), none, .mv (.t 56)⟩])
         (.seq
          (.ops [⟨(some 10), none, .mv (.c (.int .i64 0))⟩])
          (.seq
           (.block 1 (.loop (.seq
              (.seq
               (.ops [⟨(some 57), none, .mv (.t 8)⟩,
                 ⟨(some 58), none, .mv (.t 9)⟩,
                 ⟨(some 59), none, .bin .lss (.t 57) (.t 58)⟩])
               (.cond (.t 59)
                (.skip)
                (.exit 1)))
              (.block 2 (.seq
                (.seq
                 (.ops [⟨(some 60), none, .mv (.t 0)⟩,
                   ⟨(some 61), none, .mv (.t 8)⟩,
                   ⟨(some 62), none, .idxS (.t 60) (.t 61)⟩,
                   ⟨(some 63), none, .mv (.t 6)⟩,
                   ⟨(some 64), none, .bin .neq (.t 62) (.t 63)⟩])
                 (.cond (.t 64)
                  (.seq
                   (.ops [⟨(some 65), none, .mv (.t 0)⟩,
                     ⟨(some 66), none, .mv (.t 8)⟩,
                     ⟨(some 67), none, .bin .add (.t 66) (.c (.int .i64 1))⟩,
                     ⟨(some 68), none, .mv (.t 9)⟩,
                     ⟨(some 69), none, .sliceS (.t 65) (some (.t 67)) (some (.t 68))⟩,
                     ⟨(some 70), none, .mv (.t 6)⟩,
                     ⟨(some 71), none, .call 52 [(.t 69), (.t 70)]⟩,
                     ⟨(some 11), none, .mv (.t 71)⟩])
                   (.seq
                    (.seq
                     (.ops [⟨(some 72), none, .mv (.t 11)⟩,
                       ⟨(some 73), none, .bin .lss (.t 72) (.c (.int .i64 0))⟩])
                     (.cond (.t 73)
                      (.seq
                       (.ops [⟨(some 4), none, .mv (.c (.int .i64 (-1)))⟩])
                       (.ret))
                      (.skip)))
                    (.ops [⟨(some 74), none, .mv (.t 8)⟩,
                      ⟨(some 75), none, .mv (.t 11)⟩,
                      ⟨(some 76), none, .bin .add (.t 75) (.c (.int .i64 1))⟩,
                      ⟨(some 77), none, .bin .add (.t 74) (.t 76)⟩,
                      ⟨(some 8), none, .mv (.t 77)⟩])))
                  (.skip)))
                (.seq
                 (.seq
                  (.ops [⟨(some 78), none, .mv (.t 0)⟩,
                    ⟨(some 79), none, .mv (.t 8)⟩,
                    ⟨(some 80), none, .bin .add (.t 79) (.c (.int .i64 1))⟩,
                    ⟨(some 81), none, .idxS (.t 78) (.t 80)⟩,
                    ⟨(some 82), none, .mv (.t 7)⟩,
                    ⟨(some 83), none, .bin .eql (.t 81) (.t 82)⟩,
                    ⟨(some 84), none, .mv (.t 83)⟩,
                    ⟨(some 85), (some (84, true)), .mv (.t 0)⟩,
                    ⟨(some 86), (some (84, true)), .mv (.t 8)⟩,
                    ⟨(some 87), (some (84, true)), .mv (.t 8)⟩,
                    ⟨(some 88), (some (84, true)), .mv (.t 5)⟩,
                    ⟨(some 89), (some (84, true)), .bin .add (.t 87) (.t 88)⟩,
                    ⟨(some 90), (some (84, true)), .sliceS (.t 85) (some (.t 86)) (some (.t 89))⟩,
                    ⟨(some 91), (some (84, true)), .mv (.t 1)⟩,
                    ⟨(some 92), (some (84, true)), .bin .eql (.t 90) (.t 91)⟩,
                    ⟨(some 93), none, .pick (.t 84) (.t 92) (.c (.bool false))⟩])
                  (.cond (.t 93)
                   (.seq
                    (.ops [⟨(some 94), none, .mv (.t 8)⟩,
                      ⟨(some 4), none, .mv (.t 94)⟩])
                    (.ret))
                   (.skip)))
                 (.seq
                  (.ops [⟨(some 95), none, .mv (.t 8)⟩,
                    ⟨(some 96), none, .bin .add (.t 95) (.c (.int .i64 1))⟩,
                    ⟨(some 8), none, .mv (.t 96)⟩])
                  (.seq
                   (.ops [⟨(some 97), none, .mv (.t 10)⟩,
                     ⟨(some 98), none, .bin .add (.t 97) (.c (.int .i64 1))⟩,
                     ⟨(some 10), none, .mv (.t 98)⟩])
                   (.seq
                    (.ops [⟨(some 99), none, .mv (.t 5)⟩,
                      ⟨(some 100), none, .load none (.c (.ptr (.ro 0) 0))⟩,
                      ⟨(some 101), none, .bin .leq (.t 99) (.t 100)⟩,
                      ⟨(some 102), none, .mv (.t 101)⟩,
                      ⟨(some 103), (some (102, true)), .mv (.t 10)⟩,
                      ⟨(some 104), (some (102, true)), .mv (.t 8)⟩,
                      ⟨(some 105), (some (102, true)), .call 54 [(.t 104)]⟩,
                      ⟨(some 106), (some (102, true)), .bin .gtr (.t 103) (.t 105)⟩,
                      ⟨(some 107), none, .pick (.t 102) (.t 106) (.c (.bool false))⟩])
                    (.cond (.t 107)
                     (.seq
                      (.ops [⟨(some 108), none, .mv (.t 0)⟩,
                        ⟨(some 109), none, .mv (.t 8)⟩,
                        ⟨(some 110), none, .sliceS (.t 108) (some (.t 109)) none⟩,
                        ⟨(some 111), none, .mv (.t 1)⟩,
                        ⟨(some 112), none, .bad⟩,
                        ⟨(some 12), none, .mv (.t 112)⟩])
                      (.seq
                       (.seq
                        (.ops [⟨(some 113), none, .mv (.t 12)⟩,
                          ⟨(some 114), none, .bin .geq (.t 113) (.c (.int .i64 0))⟩])
                        (.cond (.t 114)
                         (.seq
                          (.ops [⟨(some 115), none, .mv (.t 12)⟩,
                            ⟨(some 116), none, .mv (.t 8)⟩,
                            ⟨(some 117), none, .bin .add (.t 115) (.t 116)⟩,
                            ⟨(some 4), none, .mv (.t 117)⟩])
                          (.ret))
                         (.skip)))
                       (.seq
                        (.ops [⟨(some 4), none, .mv (.c (.int .i64 (-1)))⟩])
                        (.ret))))
                     (.seq
                      (.ops [⟨(some 118), none, .mv (.t 5)⟩,
                        ⟨(some 119), none, .load none (.c (.ptr (.ro 0) 0))⟩,
                        ⟨(some 120), none, .bin .gtr (.t 118) (.t 119)⟩,
                        ⟨(some 121), none, .mv (.t 120)⟩,
                        ⟨(some 122), (some (121, true)), .mv (.t 10)⟩,
                        ⟨(some 123), (some (121, true)), .mv (.t 8)⟩,
                        ⟨(some 124), (some (121, true)), .bin .shr (.t 123) (.c (.int .u64 4))⟩,
                        ⟨(some 125), (some (121, true)), .bin .add (.c (.int .i64 4)) (.t 124)⟩,
                        ⟨(some 126), (some (121, true)), .bin .geq (.t 122) (.t 125)⟩,
                        ⟨(some 127), none, .pick (.t 121) (.t 126) (.c (.bool false))⟩,
                        ⟨(some 128), none, .mv (.t 127)⟩,
                        ⟨(some 129), (some (128, true)), .mv (.t 8)⟩,
                        ⟨(some 130), (some (128, true)), .mv (.t 9)⟩,
                        ⟨(some 131), (some (128, true)), .bin .lss (.t 129) (.t 130)⟩,
                        ⟨(some 132), none, .pick (.t 128) (.t 131) (.c (.bool false))⟩])
                      (.cond (.t 132)
                       (.seq
                        (.ops [⟨(some 133), none, .mv (.t 0)⟩,
                          ⟨(some 134), none, .mv (.t 8)⟩,
                          ⟨(some 135), none, .sliceS (.t 133) (some (.t 134)) none⟩,
                          ⟨(some 136), none, .mv (.t 1)⟩,
                          ⟨(some 137), none, .call 55 [(.t 135), (.t 136)]⟩,
                          ⟨(some 13), none, .mv (.t 137)⟩])
                        (.seq
                         (.seq
                          (.ops [⟨(some 138), none, .mv (.t 13)⟩,
                            ⟨(some 139), none, .bin .lss (.t 138) (.c (.int .i64 0))⟩])
                          (.cond (.t 139)
                           (.seq
                            (.ops [⟨(some 4), none, .mv (.c (.int .i64 (-1)))⟩])
                            (.ret))
                           (.skip)))
                         (.seq
                          (.ops [⟨(some 140), none, .mv (.t 8)⟩,
                            ⟨(some 141), none, .mv (.t 13)⟩,
                            ⟨(some 142), none, .bin .add (.t 140) (.t 141)⟩,
                            ⟨(some 4), none, .mv (.t 142)⟩])
                          (.ret))))
                       (.skip)))))))))))))
           (.seq
            (.ops [⟨(some 4), none, .mv (.c (.int .i64 (-1)))⟩])
            (.ret))))))))))⟩
theorem ok42 : FnOk Tryd.prog 42 a42 := FnOk.of Tryd.prog Tryd.func42 (by kernel_rfl)
/-- strconv.Atoi -/
def a43 : AFn := ⟨18, [.tmp 2, .tmp 3], .seq
   (.ops [⟨(some 2), none, .mv (.c (.int .i64 0))⟩,
     ⟨(some 3), none, .mv (.c .niface)⟩])
   (.seq
    (.ops [⟨(some 7), none, .mv (.t 0)⟩,
      ⟨(some 8), none, .call 56 [(.t 7)]⟩,
      ⟨(some 6), none, .mv (.t 8)⟩,
      ⟨(some 9), none, .ext (.t 6) 0⟩,
      ⟨(some 10), none, .ext (.t 6) 1⟩,
      ⟨(some 4), none, .mv (.t 9)⟩,
      ⟨(some 5), none, .mv (.t 10)⟩])
    (.seq
     (.seq
      (.ops [⟨(some 11), none, .mv (.t 5)⟩,
        ⟨(some 12), none, .eq true 76 (.interface #[("Error", 88)]) (.t 11) (.c .niface)⟩])
      (.cond (.t 12)
       (.seq
        (.ops [⟨(some 13), none, .mv (.t 4)⟩,
          ⟨(some 14), none, .mv (.t 0)⟩,
          ⟨(some 15), none, .mv (.t 5)⟩,
          ⟨(some 16), none, .call 57 [(.c (.str [65, 116, 111, 105])), (.t 14), (.c (.int .i64 0)), (.c (.int .i64 0)), (.t 15)]⟩,
          ⟨(some 2), none, .mv (.t 13)⟩,
          ⟨(some 3), none, .mv (.t 16)⟩])
        (.ret))
       (.skip)))
     (.seq
      (.ops [⟨(some 17), none, .mv (.t 4)⟩,
        ⟨(some 2), none, .mv (.t 17)⟩,
        ⟨(some 3), none, .mv (.c .niface)⟩])
      (.ret))))⟩
theorem ok43 : FnOk Tryd.prog 43 a43 := FnOk.of Tryd.prog Tryd.func43 (by kernel_rfl)
/-- strings.CutPrefix -/
def a44 : AFn := ⟨11, [.tmp 4, .tmp 5], .seq
   (.ops [⟨(some 4), none, .mv (.c (.str []))⟩,
     ⟨(some 5), none, .mv (.c (.bool false))⟩])
   (.seq
    (.ops [⟨(some 6), none, .mv (.t 0)⟩,
      ⟨(some 7), none, .mv (.t 1)⟩,
      ⟨(some 8), none, .call 58 [(.t 6), (.t 7)]⟩,
      ⟨(some 9), none, .ext (.t 8) 0⟩,
      ⟨(some 10), none, .ext (.t 8) 1⟩,
      ⟨(some 4), none, .mv (.t 9)⟩,
      ⟨(some 5), none, .mv (.t 10)⟩])
    (.ret))⟩
theorem ok44 : FnOk Tryd.prog 44 a44 := FnOk.of Tryd.prog Tryd.func44 (by kernel_rfl)
/-- strings.Split -/
def a45 : AFn := ⟨8, [.tmp 4], .seq
   (.ops [⟨(some 4), none, .mv (.c .nilslice)⟩])
   (.seq
    (.ops [⟨(some 5), none, .mv (.t 0)⟩,
      ⟨(some 6), none, .mv (.t 1)⟩,
      ⟨(some 7), none, .call 59 [(.t 5), (.t 6), (.c (.int .i64 0)), (.c (.int .i64 (-1)))]⟩,
      ⟨(some 4), none, .mv (.t 7)⟩])
    (.ret))⟩
theorem ok45 : FnOk Tryd.prog 45 a45 := FnOk.of Tryd.prog Tryd.func45 (by kernel_rfl)
/-- strings.ContainsFunc -/
def a46 : AFn := ⟨9, [.tmp 4], .seq
   (.ops [⟨(some 4), none, .mv (.c (.bool false))⟩])
   (.seq
    (.ops [⟨(some 5), none, .mv (.t 0)⟩,
      ⟨(some 6), none, .mv (.t 1)⟩,
      ⟨(some 7), none, .call 60 [(.t 5), (.t 6)]⟩,
      ⟨(some 8), none, .bin .geq (.t 7) (.c (.int .i64 0))⟩,
      ⟨(some 4), none, .mv (.t 8)⟩])
    (.ret))⟩
theorem ok46 : FnOk Tryd.prog 46 a46 := FnOk.of Tryd.prog Tryd.func46 (by kernel_rfl)
/-- jalousie/command.fine$1 -/
def a47 : AFn := ⟨9, [.tmp 2], .seq
   (.ops [⟨(some 2), none, .mv (.c (.bool false))⟩])
   (.seq
    (.ops [⟨(some 3), none, .mv (.t 0)⟩,
      ⟨(some 4), none, .bin .lss (.t 3) (.c (.int .i32 32))⟩,
      ⟨(some 5), none, .mv (.t 4)⟩,
      ⟨(some 6), (some (5, false)), .mv (.t 0)⟩,
      ⟨(some 7), (some (5, false)), .bin .gtr (.t 6) (.c (.int .i32 126))⟩,
      ⟨(some 8), none, .pick (.t 5) (.c (.bool true)) (.t 7)⟩,
      ⟨(some 2), none, .mv (.t 8)⟩])
    (.ret))⟩
theorem ok47 : FnOk Tryd.prog 47 a47 := FnOk.of Tryd.prog Tryd.func47 (by kernel_rfl)
/-- internal/strconv.FormatInt -/
def a48 : AFn := ⟨54, [.tmp 4], .seq
   (.ops [⟨(some 4), none, .mv (.c (.str []))⟩])
   (.seq
    (.seq
     (.ops [⟨(some 10), none, .mv (.t 1)⟩,
       ⟨(some 11), none, .bin .eql (.t 10) (.c (.int .i64 10))⟩])
     (.cond (.t 11)
      (.seq
       (.seq
        (.ops [⟨(some 12), none, .mv (.t 0)⟩,
          ⟨(some 13), none, .bin .leq (.c (.int .i64 0)) (.t 12)⟩,
          ⟨(some 14), none, .mv (.t 13)⟩,
          ⟨(some 15), (some (14, true)), .mv (.t 0)⟩,
          ⟨(some 16), (some (14, true)), .bin .lss (.t 15) (.c (.int .i64 100))⟩,
          ⟨(some 17), none, .pick (.t 14) (.t 16) (.c (.bool false))⟩])
        (.cond (.t 17)
         (.seq
          (.ops [⟨(some 18), none, .mv (.t 0)⟩,
            ⟨(some 19), none, .call 61 [(.t 18)]⟩,
            ⟨(some 4), none, .mv (.t 19)⟩])
          (.ret))
         (.skip)))
       (.seq
        (.ops [⟨(some 5), none, .alloc 95 [(.int .u8 0), (.int .u8 0), (.int .u8 0), (.int .u8 0), (.int .u8 0), (.int .u8 0), (.int .u8 0), (.int .u8 0), (.int .u8 0), (.int .u8 0), (.int .u8 0), (.int .u8 0), (.int .u8 0), (.int .u8 0), (.int .u8 0), (.int .u8 0), (.int .u8 0), (.int .u8 0), (.int .u8 0), (.int .u8 0), (.int .u8 0), (.int .u8 0), (.int .u8 0), (.int .u8 0)]⟩])
        (.seq
         (.ops [⟨(some 20), none, .mv (.t 0)⟩,
           ⟨(some 21), none, .convI .u64 (.t 20)⟩,
           ⟨(some 6), none, .mv (.t 21)⟩])
         (.seq
          (.seq
           (.ops [⟨(some 22), none, .mv (.t 0)⟩,
             ⟨(some 23), none, .bin .lss (.t 22) (.c (.int .i64 0))⟩])
           (.cond (.t 23)
            (.ops [⟨(some 24), none, .mv (.t 6)⟩,
              ⟨(some 25), none, .un .neg (.t 24)⟩,
              ⟨(some 6), none, .mv (.t 25)⟩])
            (.skip)))
          (.seq
           (.ops [⟨(some 26), none, .mv (.t 6)⟩,
             ⟨(some 27), none, .call 62 [(.t 26)]⟩,
             ⟨(some 7), none, .mv (.t 27)⟩])
           (.seq
            (.ops [⟨(some 28), none, .mv (.t 7)⟩,
              ⟨(some 29), none, .bin .add (.c (.int .i64 1)) (.t 28)⟩,
              ⟨(some 30), none, .sliceA 24 1 (.t 5) (some (.c (.int .i64 1))) (some (.t 29))⟩,
              ⟨(some 31), none, .mv (.t 6)⟩,
              ⟨(some 32), none, .call 63 [(.t 30), (.t 31)]⟩])
            (.seq
             (.seq
              (.ops [⟨(some 33), none, .mv (.t 0)⟩,
                ⟨(some 34), none, .bin .lss (.t 33) (.c (.int .i64 0))⟩])
              (.cond (.t 34)
               (.seq
                (.ops [⟨(some 35), none, .iaddrA 24 1 (.t 5) (.c (.int .i64 0))⟩,
                  ⟨none, none, .store 1 (.t 35) (.c (.int .u8 45))⟩])
                (.seq
                 (.ops [⟨(some 36), none, .mv (.t 7)⟩,
                   ⟨(some 37), none, .bin .add (.c (.int .i64 1)) (.t 36)⟩,
                   ⟨(some 38), none, .sliceA 24 1 (.t 5) none (some (.t 37))⟩,
                   ⟨(some 39), none, .strOf (.t 38)⟩,
                   ⟨(some 4), none, .mv (.t 39)⟩])
                 (.ret)))
               (.skip)))
             (.seq
              (.ops [⟨(some 40), none, .mv (.t 7)⟩,
                ⟨(some 41), none, .bin .add (.c (.int .i64 1)) (.t 40)⟩,
                ⟨(some 42), none, .sliceA 24 1 (.t 5) (some (.c (.int .i64 1))) (some (.t 41))⟩,
                ⟨(some 43), none, .strOf (.t 42)⟩,
                ⟨(some 4), none, .mv (.t 43)⟩])
              (.ret)))))))))
      (.skip)))
    (.seq
     (.ops [⟨(some 45), none, .mv (.t 0)⟩,
       ⟨(some 46), none, .convI .u64 (.t 45)⟩,
       ⟨(some 47), none, .mv (.t 1)⟩,
       ⟨(some 48), none, .mv (.t 0)⟩,
       ⟨(some 49), none, .bin .lss (.t 48) (.c (.int .i64 0))⟩,
       ⟨(some 50), none, .call 64 [(.c .nilslice), (.t 46), (.t 47), (.t 49), (.c (.bool false))]⟩,
       ⟨(some 44), none, .mv (.t 50)⟩,
       ⟨(some 51), none, .ext (.t 44) 0⟩,
       ⟨(some 52), none, .ext (.t 44) 1⟩,
       ⟨(some 8), none, .mv (.t 51)⟩,
       ⟨(some 9), none, .mv (.t 52)⟩])
     (.seq
      (.ops [⟨(some 53), none, .mv (.t 9)⟩,
        ⟨(some 4), none, .mv (.t 53)⟩])
      (.ret))))⟩
theorem ok48 : FnOk Tryd.prog 48 a48 := FnOk.of Tryd.prog Tryd.func48 (by kernel_rfl)
/-- (*strings.Builder).Grow -/
def a49 : AFn := ⟨25, [], .seq
   (.ops [⟨(some 4), none, .mv (.t 0)⟩,
     ⟨(some 5), none, .call 65 [(.t 4)]⟩])
   (.seq
    (.seq
     (.ops [⟨(some 6), none, .mv (.t 1)⟩,
       ⟨(some 7), none, .bin .lss (.t 6) (.c (.int .i64 0))⟩])
     (.cond (.t 7)
      (.ops [⟨(some 8), none, .bad⟩,
        ⟨none, none, .bad⟩])
      (.skip)))
    (.seq
     (.draw [⟨⟨(some 9), none, .mv (.t 0)⟩, []⟩,
       ⟨⟨(some 10), none, .nilck (.t 9)⟩, [0]⟩,
       ⟨⟨(some 11), none, .addr 1 (.t 10)⟩, [1]⟩,
       ⟨⟨(some 12), none, .load none (.t 11)⟩, [2]⟩,
       ⟨⟨(some 13), none, .cap (.t 12)⟩, [3]⟩,
       ⟨⟨(some 14), none, .mv (.t 0)⟩, []⟩,
       ⟨⟨(some 15), none, .nilck (.t 14)⟩, [5]⟩,
       ⟨⟨(some 16), none, .addr 1 (.t 15)⟩, [6]⟩,
       ⟨⟨(some 17), none, .load none (.t 16)⟩, [7]⟩,
       ⟨⟨(some 18), none, .lenL (.t 17)⟩, [8]⟩,
       ⟨⟨(some 19), none, .bin .sub (.t 13) (.t 18)⟩, [4, 9]⟩,
       ⟨⟨(some 20), none, .mv (.t 1)⟩, []⟩,
       ⟨⟨(some 21), none, .bin .lss (.t 19) (.t 20)⟩, [10, 11]⟩] [0, 1, 3, 7, 15, 0, 32, 96, 224, 480, 1023, 0, 4095])
     (.cond (.t 21)
      (.ops [⟨(some 22), none, .mv (.t 0)⟩,
        ⟨(some 23), none, .mv (.t 1)⟩,
        ⟨(some 24), none, .call 66 [(.t 22), (.t 23)]⟩])
      (.skip))))⟩
theorem ok49 : FnOk Tryd.prog 49 a49 := FnOk.of Tryd.prog Tryd.func49 (by kernel_rfl)
/-- (*strings.Builder).WriteString -/
def a50 : AFn := ⟨19, [.tmp 4, .tmp 5], .seq
   (.ops [⟨(some 4), none, .mv (.c (.int .i64 0))⟩,
     ⟨(some 5), none, .mv (.c .niface)⟩])
   (.seq
    (.ops [⟨(some 6), none, .mv (.t 0)⟩,
      ⟨(some 7), none, .call 65 [(.t 6)]⟩])
    (.seq
     (.ops [⟨(some 8), none, .mv (.t 0)⟩,
       ⟨(some 9), none, .mv (.t 0)⟩,
       ⟨(some 10), none, .nilck (.t 9)⟩,
       ⟨(some 11), none, .addr 1 (.t 10)⟩,
       ⟨(some 12), none, .load none (.t 11)⟩,
       ⟨(some 13), none, .mv (.t 1)⟩,
       ⟨(some 14), none, .append 5 1 1 (.t 12) (.t 13)⟩,
       ⟨(some 15), none, .nilck (.t 8)⟩,
       ⟨(some 16), none, .addr 1 (.t 15)⟩,
       ⟨none, none, .store 1 (.t 16) (.t 14)⟩])
     (.seq
      (.ops [⟨(some 17), none, .mv (.t 1)⟩,
        ⟨(some 18), none, .lenS (.t 17)⟩,
        ⟨(some 4), none, .mv (.t 18)⟩,
        ⟨(some 5), none, .mv (.c .niface)⟩])
      (.ret))))⟩
theorem ok50 : FnOk Tryd.prog 50 a50 := FnOk.of Tryd.prog Tryd.func50 (by kernel_rfl)
/-- (*strings.Builder).String -/
def a51 : AFn := ⟨14, [.tmp 2], .seq
   (.ops [⟨(some 2), none, .mv (.c (.str []))⟩])
   (.seq
    (.draw [⟨⟨(some 3), none, .mv (.t 0)⟩, []⟩,
      ⟨⟨(some 4), none, .nilck (.t 3)⟩, [0]⟩,
      ⟨⟨(some 5), none, .addr 1 (.t 4)⟩, [1]⟩,
      ⟨⟨(some 6), none, .load none (.t 5)⟩, [2]⟩,
      ⟨⟨(some 7), none, .bad⟩, [3]⟩,
      ⟨⟨(some 8), none, .mv (.t 0)⟩, []⟩,
      ⟨⟨(some 9), none, .nilck (.t 8)⟩, [5]⟩,
      ⟨⟨(some 10), none, .addr 1 (.t 9)⟩, [6]⟩,
      ⟨⟨(some 11), none, .load none (.t 10)⟩, [7]⟩,
      ⟨⟨(some 12), none, .lenL (.t 11)⟩, [8]⟩,
      ⟨⟨(some 13), none, .bad⟩, [4, 9]⟩,
      ⟨⟨(some 2), none, .mv (.t 13)⟩, [10, 0, 1, 2, 3, 4, 5, 6, 7, 8, 9, 10]⟩] [0, 1, 3, 7, 15, 0, 32, 96, 224, 480, 1023, 2047])
    (.ret))⟩
theorem ok51 : FnOk Tryd.prog 51 a51 := FnOk.of Tryd.prog Tryd.func51 (by kernel_rfl)
/-- internal/stringslite.IndexByte -/
def a52 : AFn := ⟨8, [.tmp 4], .seq
   (.ops [⟨(some 4), none, .mv (.c (.int .i64 0))⟩])
   (.seq
    (.ops [⟨(some 5), none, .mv (.t 0)⟩,
      ⟨(some 6), none, .mv (.t 1)⟩,
      ⟨(some 7), none, .bad⟩,
      ⟨(some 4), none, .mv (.t 7)⟩])
    (.ret))⟩
theorem ok52 : FnOk Tryd.prog 52 a52 := FnOk.of Tryd.prog Tryd.func52 (by kernel_rfl)
/-- internal/bytealg.Cutover -/
def a54 : AFn := ⟨6, [.tmp 2], .seq
   (.ops [⟨(some 2), none, .mv (.c (.int .i64 0))⟩])
   (.seq
    (.ops [⟨(some 3), none, .mv (.t 0)⟩,
      ⟨(some 4), none, .bin .add (.t 3) (.c (.int .i64 16))⟩,
      ⟨(some 5), none, .bin .quo (.t 4) (.c (.int .i64 8))⟩,
      ⟨(some 2), none, .mv (.t 5)⟩])
    (.ret))⟩
theorem ok54 : FnOk Tryd.prog 54 a54 := FnOk.of Tryd.prog Tryd.func54 (by kernel_rfl)
/-- internal/bytealg.IndexRabinKarp[string] -/
def a55 : AFn := ⟨81, [.tmp 4], .seq
   (.ops [⟨(some 4), none, .mv (.c (.int .i64 0))⟩])
   (.seq
    (.ops [⟨(some 12), none, .mv (.t 1)⟩,
      ⟨(some 13), none, .call 68 [(.t 12)]⟩,
      ⟨(some 11), none, .mv (.t 13)⟩,
      ⟨(some 14), none, .ext (.t 11) 0⟩,
      ⟨(some 15), none, .ext (.t 11) 1⟩,
      ⟨(some 5), none, .mv (.t 14)⟩,
      ⟨(some 6), none, .mv (.t 15)⟩])
    (.seq
     (.ops [⟨(some 16), none, .mv (.t 1)⟩,
       ⟨(some 17), none, .lenS (.t 16)⟩,
       ⟨(some 7), none, .mv (.t 17)⟩])
     (.seq
      (.ops [⟨(some 8), none, .mv (.c (.int .u32 0))⟩])
      (.seq
       (.seq
        (.ops [⟨(some 9), none, .mv (.c (.int .i64 0))⟩])
        (.block 0 (.loop (.seq
           (.seq
            (.ops [⟨(some 18), none, .mv (.t 9)⟩,
              ⟨(some 19), none, .mv (.t 7)⟩,
              ⟨(some 20), none, .bin .lss (.t 18) (.t 19)⟩])
            (.cond (.t 20)
             (.skip)
             (.exit 0)))
           (.seq
            (.block 1 (.ops [⟨(some 23), none, .mv (.t 8)⟩,
               ⟨(some 24), none, .bin .mul (.t 23) (.c (.int .u32 16777619))⟩,
               ⟨(some 25), none, .mv (.t 0)⟩,
               ⟨(some 26), none, .mv (.t 9)⟩,
               ⟨(some 27), none, .idxS (.t 25) (.t 26)⟩,
               ⟨(some 28), none, .convI .u32 (.t 27)⟩,
               ⟨(some 29), none, .bin .add (.t 24) (.t 28)⟩,
               ⟨(some 8), none, .mv (.t 29)⟩]))
            (.ops [⟨(some 21), none, .mv (.t 9)⟩,
              ⟨(some 22), none, .bin .add (.t 21) (.c (.int .i64 1))⟩,
              ⟨(some 9), none, .mv (.t 22)⟩]))))))
       (.seq
        (.seq
         (.ops [⟨(some 30), none, .mv (.t 8)⟩,
           ⟨(some 31), none, .mv (.t 5)⟩,
           ⟨(some 32), none, .bin .eql (.t 30) (.t 31)⟩,
           ⟨(some 33), none, .mv (.t 32)⟩,
           ⟨(some 34), (some (33, true)), .mv (.t 0)⟩,
           ⟨(some 35), (some (33, true)), .mv (.t 7)⟩,
           ⟨(some 36), (some (33, true)), .sliceS (.t 34) none (some (.t 35))⟩,
           ⟨(some 37), (some (33, true)), .mv (.t 1)⟩,
           ⟨(some 38), (some (33, true)), .bin .eql (.t 36) (.t 37)⟩,
           ⟨(some 39), none, .pick (.t 33) (.t 38) (.c (.bool false))⟩])
         (.cond (.t 39)
          (.seq
           (.ops [⟨(some 4), none, .mv (.c (.int .i64 0))⟩])
           (.ret))
          (.skip)))
        (.seq
         (.seq
          (.ops [⟨(some 40), none, .mv (.t 7)⟩,
            ⟨(some 10), none, .mv (.t 40)⟩])
          (.block 2 (.loop (.seq
             (.seq
              (.ops [⟨(some 41), none, .mv (.t 10)⟩,
                ⟨(some 42), none, .mv (.t 0)⟩,
                ⟨(some 43), none, .lenS (.t 42)⟩,
                ⟨(some 44), none, .bin .lss (.t 41) (.t 43)⟩])
              (.cond (.t 44)
               (.skip)
               (.exit 2)))
             (.block 3 (.seq
               (.ops [⟨(some 45), none, .mv (.t 8)⟩,
                 ⟨(some 46), none, .bin .mul (.t 45) (.c (.int .u32 16777619))⟩,
                 ⟨(some 8), none, .mv (.t 46)⟩])
               (.seq
                (.ops [⟨(some 47), none, .mv (.t 8)⟩,
                  ⟨(some 48), none, .mv (.t 0)⟩,
                  ⟨(some 49), none, .mv (.t 10)⟩,
                  ⟨(some 50), none, .idxS (.t 48) (.t 49)⟩,
                  ⟨(some 51), none, .convI .u32 (.t 50)⟩,
                  ⟨(some 52), none, .bin .add (.t 47) (.t 51)⟩,
                  ⟨(some 8), none, .mv (.t 52)⟩])
                (.seq
                 (.ops [⟨(some 53), none, .mv (.t 8)⟩,
                   ⟨(some 54), none, .mv (.t 6)⟩,
                   ⟨(some 55), none, .mv (.t 0)⟩,
                   ⟨(some 56), none, .mv (.t 10)⟩,
                   ⟨(some 57), none, .mv (.t 7)⟩,
                   ⟨(some 58), none, .bin .sub (.t 56) (.t 57)⟩,
                   ⟨(some 59), none, .idxS (.t 55) (.t 58)⟩,
                   ⟨(some 60), none, .convI .u32 (.t 59)⟩,
                   ⟨(some 61), none, .bin .mul (.t 54) (.t 60)⟩,
                   ⟨(some 62), none, .bin .sub (.t 53) (.t 61)⟩,
                   ⟨(some 8), none, .mv (.t 62)⟩])
                 (.seq
                  (.ops [⟨(some 63), none, .mv (.t 10)⟩,
                    ⟨(some 64), none, .bin .add (.t 63) (.c (.int .i64 1))⟩,
                    ⟨(some 10), none, .mv (.t 64)⟩])
                  (.seq
                   (.ops [⟨(some 65), none, .mv (.t 8)⟩,
                     ⟨(some 66), none, .mv (.t 5)⟩,
                     ⟨(some 67), none, .bin .eql (.t 65) (.t 66)⟩,
                     ⟨(some 68), none, .mv (.t 67)⟩,
                     ⟨(some 69), (some (68, true)), .mv (.t 0)⟩,
                     ⟨(some 70), (some (68, true)), .mv (.t 10)⟩,
                     ⟨(some 71), (some (68, true)), .mv (.t 7)⟩,
                     ⟨(some 72), (some (68, true)), .bin .sub (.t 70) (.t 71)⟩,
                     ⟨(some 73), (some (68, true)), .mv (.t 10)⟩,
                     ⟨(some 74), (some (68, true)), .sliceS (.t 69) (some (.t 72)) (some (.t 73))⟩,
                     ⟨(some 75), (some (68, true)), .mv (.t 1)⟩,
                     ⟨(some 76), (some (68, true)), .bin .eql (.t 74) (.t 75)⟩,
                     ⟨(some 77), none, .pick (.t 68) (.t 76) (.c (.bool false))⟩])
                   (.cond (.t 77)
                    (.seq
                     (.ops [⟨(some 78), none, .mv (.t 10)⟩,
                       ⟨(some 79), none, .mv (.t 7)⟩,
                       ⟨(some 80), none, .bin .sub (.t 78) (.t 79)⟩,
                       ⟨(some 4), none, .mv (.t 80)⟩])
                     (.ret))
                    (.skip))))))))))))
         (.seq
          (.ops [⟨(some 4), none, .mv (.c (.int .i64 (-1)))⟩])
          (.ret))))))))⟩
theorem ok55 : FnOk Tryd.prog 55 a55 := FnOk.of Tryd.prog Tryd.func55 (by kernel_rfl)
/-- internal/strconv.Atoi -/
def a56 : AFn := ⟨77, [.tmp 2, .tmp 3], .seq
   (.ops [⟨(some 2), none, .mv (.c (.int .i64 0))⟩,
     ⟨(some 3), none, .mv (.c .niface)⟩])
   (.seq
    (.ops [⟨(some 11), none, .mv (.t 0)⟩,
      ⟨(some 12), none, .lenS (.t 11)⟩,
      ⟨(some 4), none, .mv (.t 12)⟩])
    (.seq
     (.seq
      (.ops [⟨(some 13), none, .mv (.c (.bool false))⟩,
        ⟨(some 14), (some (13, true)), .mv (.t 4)⟩,
        ⟨(some 15), (some (13, true)), .bin .lss (.c (.int .i64 0)) (.t 14)⟩,
        ⟨(some 16), (some (13, true)), .mv (.t 15)⟩,
        ⟨(some 17), (some (16, true)), .mv (.t 4)⟩,
        ⟨(some 18), (some (16, true)), .bin .lss (.t 17) (.c (.int .i64 10))⟩,
        ⟨(some 19), (some (13, true)), .pick (.t 16) (.t 18) (.c (.bool false))⟩,
        ⟨(some 20), none, .pick (.t 13) (.t 19) (.c (.bool false))⟩,
        ⟨(some 21), none, .mv (.t 20)⟩,
        ⟨(some 22), (some (21, false)), .mv (.c (.bool true))⟩,
        ⟨(some 23), (some (22, true)), .mv (.t 4)⟩,
        ⟨(some 24), (some (22, true)), .bin .lss (.c (.int .i64 0)) (.t 23)⟩,
        ⟨(some 25), (some (22, true)), .mv (.t 24)⟩,
        ⟨(some 26), (some (25, true)), .mv (.t 4)⟩,
        ⟨(some 27), (some (25, true)), .bin .lss (.t 26) (.c (.int .i64 19))⟩,
        ⟨(some 28), (some (22, true)), .pick (.t 25) (.t 27) (.c (.bool false))⟩,
        ⟨(some 29), (some (21, false)), .pick (.t 22) (.t 28) (.c (.bool false))⟩,
        ⟨(some 30), none, .pick (.t 21) (.c (.bool true)) (.t 29)⟩])
      (.cond (.t 30)
       (.seq
        (.ops [⟨(some 31), none, .mv (.t 0)⟩,
          ⟨(some 5), none, .mv (.t 31)⟩])
        (.seq
         (.seq
          (.ops [⟨(some 32), none, .mv (.t 0)⟩,
            ⟨(some 33), none, .idxS (.t 32) (.c (.int .i64 0))⟩,
            ⟨(some 34), none, .bin .eql (.t 33) (.c (.int .u8 45))⟩,
            ⟨(some 35), none, .mv (.t 34)⟩,
            ⟨(some 36), (some (35, false)), .mv (.t 0)⟩,
            ⟨(some 37), (some (35, false)), .idxS (.t 36) (.c (.int .i64 0))⟩,
            ⟨(some 38), (some (35, false)), .bin .eql (.t 37) (.c (.int .u8 43))⟩,
            ⟨(some 39), none, .pick (.t 35) (.c (.bool true)) (.t 38)⟩])
          (.cond (.t 39)
           (.seq
            (.ops [⟨(some 40), none, .mv (.t 0)⟩,
              ⟨(some 41), none, .sliceS (.t 40) (some (.c (.int .i64 1))) none⟩,
              ⟨(some 0), none, .mv (.t 41)⟩])
            (.seq
             (.ops [⟨(some 42), none, .mv (.t 0)⟩,
               ⟨(some 43), none, .lenS (.t 42)⟩,
               ⟨(some 44), none, .bin .lss (.t 43) (.c (.int .i64 1))⟩])
             (.cond (.t 44)
              (.seq
               (.ops [⟨(some 45), none, .bad⟩,
                 ⟨(some 2), none, .mv (.c (.int .i64 0))⟩,
                 ⟨(some 3), none, .mv (.t 45)⟩])
               (.ret))
              (.skip))))
           (.skip)))
         (.seq
          (.ops [⟨(some 6), none, .mv (.c (.int .i64 0))⟩])
          (.seq
           (.seq
            (.ops [⟨(some 46), none, .mv (.t 0)⟩,
              ⟨(some 47), none, .bad⟩,
              ⟨(some 48), none, .lenL (.t 47)⟩,
              ⟨(some 49), none, .mv (.c (.int .i64 0))⟩])
            (.block 0 (.loop (.seq
               (.ops [⟨(some 50), none, .bin .lss (.t 49) (.t 48)⟩])
               (.seq
                (.cond (.t 50)
                 (.skip)
                 (.exit 0))
                (.seq
                 (.block 1 (.seq
                   (.ops [⟨(some 51), none, .iaddrS 1 (.t 47) (.t 49)⟩,
                     ⟨(some 52), none, .load none (.t 51)⟩,
                     ⟨(some 8), none, .mv (.t 52)⟩])
                   (.seq
                    (.ops [⟨(some 53), none, .mv (.t 8)⟩,
                      ⟨(some 54), none, .bin .sub (.t 53) (.c (.int .u8 48))⟩,
                      ⟨(some 8), none, .mv (.t 54)⟩])
                    (.seq
                     (.seq
                      (.ops [⟨(some 55), none, .mv (.t 8)⟩,
                        ⟨(some 56), none, .bin .gtr (.t 55) (.c (.int .u8 9))⟩])
                      (.cond (.t 56)
                       (.seq
                        (.ops [⟨(some 57), none, .bad⟩,
                          ⟨(some 2), none, .mv (.c (.int .i64 0))⟩,
                          ⟨(some 3), none, .mv (.t 57)⟩])
                        (.ret))
                       (.skip)))
                     (.ops [⟨(some 58), none, .mv (.t 6)⟩,
                       ⟨(some 59), none, .bin .mul (.t 58) (.c (.int .i64 10))⟩,
                       ⟨(some 60), none, .mv (.t 8)⟩,
                       ⟨(some 61), none, .convI .i64 (.t 60)⟩,
                       ⟨(some 62), none, .bin .add (.t 59) (.t 61)⟩,
                       ⟨(some 6), none, .mv (.t 62)⟩])))))
                 (.ops [⟨(some 63), none, .bin .add (.t 49) (.c (.int .i64 1))⟩,
                   ⟨(some 49), none, .mv (.t 63)⟩])))))))
           (.seq
            (.seq
             (.ops [⟨(some 64), none, .mv (.t 5)⟩,
               ⟨(some 65), none, .idxS (.t 64) (.c (.int .i64 0))⟩,
               ⟨(some 66), none, .bin .eql (.t 65) (.c (.int .u8 45))⟩])
             (.cond (.t 66)
              (.ops [⟨(some 67), none, .mv (.t 6)⟩,
                ⟨(some 68), none, .un .neg (.t 67)⟩,
                ⟨(some 6), none, .mv (.t 68)⟩])
              (.skip)))
            (.seq
             (.ops [⟨(some 69), none, .mv (.t 6)⟩,
               ⟨(some 2), none, .mv (.t 69)⟩,
               ⟨(some 3), none, .mv (.c .niface)⟩])
             (.ret)))))))
       (.skip)))
     (.seq
      (.ops [⟨(some 71), none, .mv (.t 0)⟩,
        ⟨(some 72), none, .call 69 [(.t 71), (.c (.int .i64 10)), (.c (.int .i64 0))]⟩,
        ⟨(some 70), none, .mv (.t 72)⟩,
        ⟨(some 73), none, .ext (.t 70) 0⟩,
        ⟨(some 74), none, .ext (.t 70) 1⟩,
        ⟨(some 9), none, .mv (.t 73)⟩,
        ⟨(some 10), none, .mv (.t 74)⟩])
      (.seq
       (.ops [⟨(some 75), none, .mv (.t 9)⟩,
         ⟨(some 76), none, .mv (.t 10)⟩,
         ⟨(some 2), none, .mv (.t 75)⟩,
         ⟨(some 3), none, .mv (.t 76)⟩])
       (.ret)))))⟩
theorem ok56 : FnOk Tryd.prog 56 a56 := FnOk.of Tryd.prog Tryd.func56 (by kernel_rfl)
/-- strconv.toError -/
def a57 : AFn := ⟨43, [.tmp 10], .seq
   (.ops [⟨(some 10), none, .mv (.c .niface)⟩])
   (.seq
    (.seq
     (.ops [⟨(some 11), none, .mv (.t 4)⟩])
     (.block 0 (.seq
       (.ops [⟨(some 13), none, .bad⟩,
         ⟨(some 14), none, .eq false 76 (.interface #[("Error", 88)]) (.t 11) (.t 13)⟩,
         ⟨(some 12), none, .mv (.t 14)⟩])
       (.cond (.t 12)
        (.seq
         (.ops [⟨(some 15), none, .mv (.t 0)⟩,
           ⟨(some 16), none, .mv (.t 1)⟩,
           ⟨(some 17), none, .call 70 [(.t 15), (.t 16)]⟩,
           ⟨(some 18), none, .bad⟩,
           ⟨(some 10), none, .mv (.t 18)⟩])
         (.ret))
        (.seq
         (.ops [⟨(some 20), none, .bad⟩,
           ⟨(some 21), none, .eq false 76 (.interface #[("Error", 88)]) (.t 11) (.t 20)⟩,
           ⟨(some 19), none, .mv (.t 21)⟩])
         (.cond (.t 19)
          (.seq
           (.ops [⟨(some 22), none, .mv (.t 0)⟩,
             ⟨(some 23), none, .mv (.t 1)⟩,
             ⟨(some 24), none, .call 71 [(.t 22), (.t 23)]⟩,
             ⟨(some 25), none, .bad⟩,
             ⟨(some 10), none, .mv (.t 25)⟩])
           (.ret))
          (.seq
           (.ops [⟨(some 27), none, .bad⟩,
             ⟨(some 28), none, .eq false 76 (.interface #[("Error", 88)]) (.t 11) (.t 27)⟩,
             ⟨(some 26), none, .mv (.t 28)⟩])
           (.cond (.t 26)
            (.seq
             (.ops [⟨(some 29), none, .mv (.t 0)⟩,
               ⟨(some 30), none, .mv (.t 1)⟩,
               ⟨(some 31), none, .mv (.t 2)⟩,
               ⟨(some 32), none, .call 72 [(.t 29), (.t 30), (.t 31)]⟩,
               ⟨(some 33), none, .bad⟩,
               ⟨(some 10), none, .mv (.t 33)⟩])
             (.ret))
            (.seq
             (.ops [⟨(some 35), none, .bad⟩,
               ⟨(some 36), none, .eq false 76 (.interface #[("Error", 88)]) (.t 11) (.t 35)⟩,
               ⟨(some 34), none, .mv (.t 36)⟩])
             (.cond (.t 34)
              (.seq
               (.ops [⟨(some 37), none, .mv (.t 0)⟩,
                 ⟨(some 38), none, .mv (.t 1)⟩,
                 ⟨(some 39), none, .mv (.t 3)⟩,
                 ⟨(some 40), none, .call 73 [(.t 37), (.t 38), (.t 39)]⟩,
                 ⟨(some 41), none, .bad⟩,
                 ⟨(some 10), none, .mv (.t 41)⟩])
               (.ret))
              (.skip)))))))))))
    (.seq
     (.ops [⟨(some 42), none, .mv (.t 4)⟩,
       ⟨(some 10), none, .mv (.t 42)⟩])
     (.ret)))⟩
theorem ok57 : FnOk Tryd.prog 57 a57 := FnOk.of Tryd.prog Tryd.func57 (by kernel_rfl)

end Go.Proofs.YthcpfmibcoeleaaDoor.Fns
