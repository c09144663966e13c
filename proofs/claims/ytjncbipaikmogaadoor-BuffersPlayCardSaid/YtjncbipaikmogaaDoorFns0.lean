/- Functions of the translated code as the abstract machine reads them, printed by program; each is checked against the code. -/
import Derived.Test.YtjncbipaikmogaaDoorProg
import Derived.Test.YtjncbipaikmogaaDoorAmEval
namespace Go.Proofs.YtjncbipaikmogaaDoor.Fns
open Go Go.RowKit Am Go.Proofs.YtjncbipaikmogaaDoor
set_option maxRecDepth 100000
/-- gosem.cut.init -/
def a2 : AFn := ⟨1, [], .ops [⟨(some 0), none, .bad⟩]⟩
theorem ok2 : FnOk Tryd.prog 2 a2 := FnOk.of Tryd.prog Tryd.func2 (by kernel_rfl)
/-- jalousie/jalousielaw22.BuffersPlay -/
def a3 : AFn := ⟨146, [.tmp 4], .seq
   (.ops [⟨(some 4), none, .mv (.c (.bool false))⟩])
   (.seq
    (.seq
     (.ops [⟨(some 16), none, .call 6 []⟩,
       ⟨(some 17), none, .un .not (.t 16)⟩])
     (.cond (.t 17)
      (.seq
       (.ops [⟨(some 4), none, .mv (.c (.bool false))⟩])
       (.ret))
      (.skip)))
    (.seq
     (.seq
      (.ops [⟨(some 18), none, .mv (.t 0)⟩,
        ⟨(some 19), none, .mv (.t 1)⟩,
        ⟨(some 20), none, .call 7 [(.t 18), (.t 19)]⟩,
        ⟨(some 21), none, .mv (.t 20)⟩,
        ⟨(some 22), (some (21, false)), .mv (.t 0)⟩,
        ⟨(some 23), (some (21, false)), .call 8 [(.t 22)]⟩,
        ⟨(some 24), (some (21, false)), .bin .neq (.t 23) (.c (.int .i64 0))⟩,
        ⟨(some 25), none, .pick (.t 21) (.c (.bool true)) (.t 24)⟩])
      (.cond (.t 25)
       (.seq
        (.ops [⟨(some 4), none, .mv (.c (.bool true))⟩])
        (.ret))
       (.skip)))
     (.seq
      (.ops [⟨(some 27), none, .mv (.t 0)⟩,
        ⟨(some 28), none, .call 9 [(.t 27)]⟩,
        ⟨(some 26), none, .mv (.t 28)⟩,
        ⟨(some 29), none, .ext (.t 26) 0⟩,
        ⟨(some 30), none, .ext (.t 26) 1⟩,
        ⟨(some 5), none, .mv (.t 29)⟩,
        ⟨(some 6), none, .mv (.t 30)⟩])
      (.seq
       (.seq
        (.ops [⟨(some 31), none, .mv (.t 6)⟩,
          ⟨(some 32), none, .bin .neq (.t 31) (.c (.int .i64 0))⟩])
        (.cond (.t 32)
         (.seq
          (.ops [⟨(some 4), none, .mv (.c (.bool false))⟩])
          (.ret))
         (.skip)))
       (.seq
        (.ops [⟨(some 33), none, .mv (.t 5)⟩,
          ⟨(some 34), none, .call 10 [(.t 33)]⟩,
          ⟨(some 7), none, .mv (.t 34)⟩])
        (.seq
         (.ops [⟨(some 35), none, .mv (.t 0)⟩,
           ⟨(some 36), none, .build [.nilslice, .nilslice] [(0, 1), (1, 1)] [(0, (.t 35))]⟩,
           ⟨(some 37), none, .box 36 (.t 36)⟩,
           ⟨(some 8), none, .mv (.t 37)⟩])
         (.seq
          (.seq
           (.ops [⟨(some 9), none, .mv (.c (.int .i64 0))⟩])
           (.block 0 (.loop (.seq
              (.seq
               (.ops [⟨(some 38), none, .mv (.t 9)⟩,
                 ⟨(some 39), none, .mv (.t 1)⟩,
                 ⟨(some 40), none, .lenL (.t 39)⟩,
                 ⟨(some 41), none, .bin .lss (.t 38) (.t 40)⟩])
               (.cond (.t 41)
                (.skip)
                (.exit 0)))
              (.seq
               (.block 1 (.seq
                 (.seq
                  (.ops [⟨(some 44), none, .mv (.t 1)⟩,
                    ⟨(some 45), none, .mv (.t 9)⟩,
                    ⟨(some 46), none, .iaddrS 4 (.t 44) (.t 45)⟩,
                    ⟨(some 47), none, .addr 0 (.t 46)⟩,
                    ⟨(some 48), none, .load none (.t 47)⟩])
                  (.block 2 (.seq
                    (.ops [⟨(some 50), none, .bin .eql (.t 48) (.c (.int .i64 0))⟩,
                      ⟨(some 49), none, .mv (.t 50)⟩])
                    (.cond (.t 49)
                     (.seq
                      (.draw [⟨⟨(some 52), none, .mv (.t 7)⟩, []⟩,
                        ⟨⟨(some 53), none, .mv (.t 1)⟩, []⟩,
                        ⟨⟨(some 54), none, .mv (.t 9)⟩, []⟩,
                        ⟨⟨(some 55), none, .iaddrS 4 (.t 53) (.t 54)⟩, [1, 2]⟩,
                        ⟨⟨(some 56), none, .addr 1 (.t 55)⟩, [3]⟩,
                        ⟨⟨(some 57), none, .load none (.t 56)⟩, [4]⟩,
                        ⟨⟨(some 58), none, .mv (.t 1)⟩, []⟩,
                        ⟨⟨(some 59), none, .mv (.t 9)⟩, []⟩,
                        ⟨⟨(some 60), none, .iaddrS 4 (.t 58) (.t 59)⟩, [6, 7]⟩,
                        ⟨⟨(some 61), none, .addr 3 (.t 60)⟩, [8]⟩,
                        ⟨⟨(some 62), none, .load none (.t 61)⟩, [9]⟩,
                        ⟨⟨(some 63), none, .call 11 [(.t 52), (.t 57), (.t 62)]⟩, [0, 5, 10]⟩,
                        ⟨⟨(some 51), none, .mv (.t 63)⟩, [11]⟩,
                        ⟨⟨(some 64), none, .ext (.t 51) 0⟩, [12]⟩,
                        ⟨⟨(some 65), none, .ext (.t 51) 1⟩, [12]⟩,
                        ⟨⟨(some 10), none, .mv (.t 64)⟩, [13, 11, 0, 1, 2, 3, 4, 5, 6, 7, 8, 9, 10, 11, 12, 13]⟩,
                        ⟨⟨(some 11), none, .mv (.t 65)⟩, [14, 15, 0, 1, 2, 3, 4, 5, 6, 7, 8, 9, 10, 11, 12, 13, 14, 15]⟩] [0, 0, 0, 6, 14, 30, 0, 0, 192, 448, 960, 2047, 4095, 8191, 8191, 16383, 65535])
                      (.seq
                       (.draw [⟨⟨(some 67), none, .mv (.t 8)⟩, []⟩,
                         ⟨⟨(some 68), none, .mv (.t 1)⟩, []⟩,
                         ⟨⟨(some 69), none, .mv (.t 9)⟩, []⟩,
                         ⟨⟨(some 70), none, .iaddrS 4 (.t 68) (.t 69)⟩, [1, 2]⟩,
                         ⟨⟨(some 71), none, .addr 1 (.t 70)⟩, [3]⟩,
                         ⟨⟨(some 72), none, .load none (.t 71)⟩, [4]⟩,
                         ⟨⟨(some 73), none, .mv (.t 1)⟩, []⟩,
                         ⟨⟨(some 74), none, .mv (.t 9)⟩, []⟩,
                         ⟨⟨(some 75), none, .iaddrS 4 (.t 73) (.t 74)⟩, [6, 7]⟩,
                         ⟨⟨(some 76), none, .addr 3 (.t 75)⟩, [8]⟩,
                         ⟨⟨(some 77), none, .load none (.t 76)⟩, [9]⟩,
                         ⟨⟨(some 78), none, .call 12 [(.t 67), (.t 72), (.t 77)]⟩, [0, 5, 10]⟩,
                         ⟨⟨(some 66), none, .mv (.t 78)⟩, [11]⟩,
                         ⟨⟨(some 79), none, .ext (.t 66) 0⟩, [12]⟩,
                         ⟨⟨(some 80), none, .ext (.t 66) 1⟩, [12]⟩,
                         ⟨⟨(some 12), none, .mv (.t 79)⟩, [13, 11, 0, 1, 2, 3, 4, 5, 6, 7, 8, 9, 10, 11, 12, 13]⟩,
                         ⟨⟨(some 13), none, .mv (.t 80)⟩, [14, 15, 0, 1, 2, 3, 4, 5, 6, 7, 8, 9, 10, 11, 12, 13, 14, 15]⟩] [0, 0, 0, 6, 14, 30, 0, 0, 192, 448, 960, 2047, 4095, 8191, 8191, 16383, 65535])
                       (.seq
                        (.ops [⟨(some 81), none, .mv (.t 10)⟩,
                          ⟨(some 82), none, .mv (.t 12)⟩,
                          ⟨(some 83), none, .bin .neq (.t 81) (.t 82)⟩,
                          ⟨(some 84), none, .mv (.t 83)⟩,
                          ⟨(some 85), (some (84, false)), .mv (.t 11)⟩,
                          ⟨(some 86), (some (84, false)), .mv (.t 13)⟩,
                          ⟨(some 87), (some (84, false)), .bin .neq (.t 85) (.t 86)⟩,
                          ⟨(some 88), none, .pick (.t 84) (.c (.bool true)) (.t 87)⟩])
                        (.cond (.t 88)
                         (.seq
                          (.ops [⟨(some 4), none, .mv (.c (.bool false))⟩])
                          (.ret))
                         (.skip)))))
                     (.seq
                      (.ops [⟨(some 90), none, .bin .eql (.t 48) (.c (.int .i64 1))⟩,
                        ⟨(some 89), none, .mv (.t 90)⟩])
                      (.cond (.t 89)
                       (.seq
                        (.draw [⟨⟨(some 91), none, .mv (.t 7)⟩, []⟩,
                          ⟨⟨(some 92), none, .mv (.t 1)⟩, []⟩,
                          ⟨⟨(some 93), none, .mv (.t 9)⟩, []⟩,
                          ⟨⟨(some 94), none, .iaddrS 4 (.t 92) (.t 93)⟩, [1, 2]⟩,
                          ⟨⟨(some 95), none, .addr 1 (.t 94)⟩, [3]⟩,
                          ⟨⟨(some 96), none, .load none (.t 95)⟩, [4]⟩,
                          ⟨⟨(some 97), none, .mv (.t 1)⟩, []⟩,
                          ⟨⟨(some 98), none, .mv (.t 9)⟩, []⟩,
                          ⟨⟨(some 99), none, .iaddrS 4 (.t 97) (.t 98)⟩, [6, 7]⟩,
                          ⟨⟨(some 100), none, .addr 2 (.t 99)⟩, [8]⟩,
                          ⟨⟨(some 101), none, .load none (.t 100)⟩, [9]⟩,
                          ⟨⟨(some 102), none, .call 13 [(.t 91), (.t 96), (.t 101)]⟩, [0, 5, 10]⟩,
                          ⟨⟨(some 103), none, .mv (.t 8)⟩, []⟩,
                          ⟨⟨(some 104), none, .mv (.t 1)⟩, []⟩,
                          ⟨⟨(some 105), none, .mv (.t 9)⟩, []⟩,
                          ⟨⟨(some 106), none, .iaddrS 4 (.t 104) (.t 105)⟩, [13, 14]⟩,
                          ⟨⟨(some 107), none, .addr 1 (.t 106)⟩, [15]⟩,
                          ⟨⟨(some 108), none, .load none (.t 107)⟩, [16]⟩,
                          ⟨⟨(some 109), none, .mv (.t 1)⟩, []⟩,
                          ⟨⟨(some 110), none, .mv (.t 9)⟩, []⟩,
                          ⟨⟨(some 111), none, .iaddrS 4 (.t 109) (.t 110)⟩, [18, 19]⟩,
                          ⟨⟨(some 112), none, .addr 2 (.t 111)⟩, [20]⟩,
                          ⟨⟨(some 113), none, .load none (.t 112)⟩, [21]⟩,
                          ⟨⟨(some 114), none, .call 14 [(.t 103), (.t 108), (.t 113)]⟩, [12, 17, 22, 11]⟩,
                          ⟨⟨(some 115), none, .bin .neq (.t 102) (.t 114)⟩, [11, 23]⟩] [0, 0, 0, 6, 14, 30, 0, 0, 192, 448, 960, 2047, 0, 0, 0, 24576, 57344, 122880, 0, 0, 786432, 1835008, 3932160, 8388607, 16777215])
                        (.cond (.t 115)
                         (.seq
                          (.ops [⟨(some 4), none, .mv (.c (.bool false))⟩])
                          (.ret))
                         (.skip)))
                       (.skip)))))))
                 (.seq
                  (.draw [⟨⟨(some 116), none, .mv (.t 7)⟩, []⟩,
                    ⟨⟨(some 117), none, .mv (.t 8)⟩, []⟩,
                    ⟨⟨(some 118), none, .mv (.t 1)⟩, []⟩,
                    ⟨⟨(some 119), none, .mv (.t 9)⟩, []⟩,
                    ⟨⟨(some 120), none, .iaddrS 4 (.t 118) (.t 119)⟩, [2, 3]⟩,
                    ⟨⟨(some 121), none, .addr 1 (.t 120)⟩, [4]⟩,
                    ⟨⟨(some 122), none, .load none (.t 121)⟩, [5]⟩,
                    ⟨⟨(some 123), none, .mv (.t 1)⟩, []⟩,
                    ⟨⟨(some 124), none, .mv (.t 9)⟩, []⟩,
                    ⟨⟨(some 125), none, .iaddrS 4 (.t 123) (.t 124)⟩, [7, 8]⟩,
                    ⟨⟨(some 126), none, .addr 2 (.t 125)⟩, [9]⟩,
                    ⟨⟨(some 127), none, .load none (.t 126)⟩, [10]⟩,
                    ⟨⟨(some 128), none, .call 15 [(.t 116), (.t 117), (.t 122), (.t 127)]⟩, [0, 1, 6, 11]⟩,
                    ⟨⟨(some 129), none, .un .not (.t 128)⟩, [12]⟩] [0, 0, 0, 0, 12, 28, 60, 0, 0, 384, 896, 1920, 4095, 8191])
                  (.cond (.t 129)
                   (.seq
                    (.ops [⟨(some 4), none, .mv (.c (.bool false))⟩])
                    (.ret))
                   (.skip)))))
               (.ops [⟨(some 42), none, .mv (.t 9)⟩,
                 ⟨(some 43), none, .bin .add (.t 42) (.c (.int .i64 1))⟩,
                 ⟨(some 9), none, .mv (.t 43)⟩]))))))
          (.seq
           (.seq
            (.ops [⟨(some 14), none, .mv (.c (.int .i64 (-1)))⟩])
            (.block 3 (.loop (.seq
               (.seq
                (.ops [⟨(some 130), none, .mv (.t 14)⟩,
                  ⟨(some 131), none, .mv (.t 0)⟩,
                  ⟨(some 132), none, .lenL (.t 131)⟩,
                  ⟨(some 133), none, .bin .leq (.t 130) (.t 132)⟩])
                (.cond (.t 133)
                 (.skip)
                 (.exit 3)))
               (.seq
                (.block 4 (.seq
                  (.ops [⟨(some 15), none, .mv (.c (.int .i64 (-1)))⟩])
                  (.block 5 (.loop (.seq
                     (.seq
                      (.ops [⟨(some 136), none, .mv (.t 15)⟩,
                        ⟨(some 137), none, .bin .lss (.t 136) (.c (.int .i64 12))⟩])
                      (.cond (.t 137)
                       (.skip)
                       (.exit 5)))
                     (.seq
                      (.block 6 (.seq
                        (.ops [⟨(some 140), none, .mv (.t 7)⟩,
                          ⟨(some 141), none, .mv (.t 8)⟩,
                          ⟨(some 142), none, .mv (.t 14)⟩,
                          ⟨(some 143), none, .mv (.t 15)⟩,
                          ⟨(some 144), none, .call 15 [(.t 140), (.t 141), (.t 142), (.t 143)]⟩,
                          ⟨(some 145), none, .un .not (.t 144)⟩])
                        (.cond (.t 145)
                         (.seq
                          (.ops [⟨(some 4), none, .mv (.c (.bool false))⟩])
                          (.ret))
                         (.skip))))
                      (.ops [⟨(some 138), none, .mv (.t 15)⟩,
                        ⟨(some 139), none, .bin .add (.t 138) (.c (.int .i64 1))⟩,
                        ⟨(some 15), none, .mv (.t 139)⟩])))))))
                (.ops [⟨(some 134), none, .mv (.t 14)⟩,
                  ⟨(some 135), none, .bin .add (.t 134) (.c (.int .i64 1))⟩,
                  ⟨(some 14), none, .mv (.t 135)⟩]))))))
           (.seq
            (.ops [⟨(some 4), none, .mv (.c (.bool true))⟩])
            (.ret))))))))))⟩
theorem ok3 : FnOk Tryd.prog 3 a3 := FnOk.of Tryd.prog Tryd.func3 (by kernel_rfl)
/-- jalousie/jalousielaw22.BuffersApart -/
def a4 : AFn := ⟨235, [.tmp 8], .seq
   (.ops [⟨(some 8), none, .mv (.c (.bool false))⟩])
   (.seq
    (.seq
     (.ops [⟨(some 32), none, .call 6 []⟩,
       ⟨(some 33), none, .un .not (.t 32)⟩])
     (.cond (.t 33)
      (.seq
       (.ops [⟨(some 8), none, .mv (.c (.bool false))⟩])
       (.ret))
      (.skip)))
    (.seq
     (.seq
      (.ops [⟨(some 34), none, .mv (.t 2)⟩,
        ⟨(some 35), none, .call 7 [(.c .nilslice), (.t 34)]⟩])
      (.cond (.t 35)
       (.seq
        (.ops [⟨(some 8), none, .mv (.c (.bool true))⟩])
        (.ret))
       (.skip)))
     (.seq
      (.ops [⟨(some 37), none, .mv (.t 0)⟩,
        ⟨(some 38), none, .bin .rem (.t 37) (.c (.int .u8 4))⟩,
        ⟨(some 39), none, .convI .i64 (.t 38)⟩,
        ⟨(some 40), none, .bin .add (.c (.int .i64 1)) (.t 39)⟩,
        ⟨(some 41), none, .mv (.t 1)⟩,
        ⟨(some 42), none, .bin .rem (.t 41) (.c (.int .u8 3))⟩,
        ⟨(some 43), none, .convI .i64 (.t 42)⟩,
        ⟨(some 44), none, .call 16 [(.t 40), (.t 43)]⟩,
        ⟨(some 36), none, .mv (.t 44)⟩,
        ⟨(some 45), none, .ext (.t 36) 0⟩,
        ⟨(some 46), none, .ext (.t 36) 1⟩,
        ⟨(some 9), none, .mv (.t 45)⟩,
        ⟨(some 10), none, .mv (.t 46)⟩])
      (.seq
       (.seq
        (.ops [⟨(some 47), none, .mv (.t 10)⟩,
          ⟨(some 48), none, .bin .neq (.t 47) (.c (.int .i64 0))⟩])
        (.cond (.t 48)
         (.seq
          (.ops [⟨(some 8), none, .mv (.c (.bool false))⟩])
          (.ret))
         (.skip)))
       (.seq
        (.ops [⟨(some 49), none, .mv (.t 9)⟩,
          ⟨(some 50), none, .call 10 [(.t 49)]⟩,
          ⟨(some 51), none, .mv (.t 9)⟩,
          ⟨(some 52), none, .call 10 [(.t 51)]⟩,
          ⟨(some 11), none, .mv (.t 50)⟩,
          ⟨(some 12), none, .mv (.t 52)⟩])
        (.seq
         (.seq
          (.ops [⟨(some 13), none, .mv (.c (.int .i64 0))⟩])
          (.block 0 (.loop (.seq
             (.seq
              (.ops [⟨(some 53), none, .mv (.t 13)⟩,
                ⟨(some 54), none, .mv (.t 2)⟩,
                ⟨(some 55), none, .lenL (.t 54)⟩,
                ⟨(some 56), none, .bin .lss (.t 53) (.t 55)⟩])
              (.cond (.t 56)
               (.skip)
               (.exit 0)))
             (.seq
              (.block 1 (.seq
                (.ops [⟨(some 59), none, .mv (.t 2)⟩,
                  ⟨(some 60), none, .mv (.t 13)⟩,
                  ⟨(some 61), none, .iaddrS 4 (.t 59) (.t 60)⟩,
                  ⟨(some 62), none, .load (some 4) (.t 61)⟩,
                  ⟨(some 14), none, .alloc 38 [(.int .i64 0), (.int .i64 0), (.int .i64 0), (.str [])]⟩,
                  ⟨none, none, .store 4 (.t 14) (.t 62)⟩])
                (.seq
                 (.ops [⟨(some 63), none, .mv (.t 9)⟩,
                   ⟨(some 64), none, .addr 1 (.t 14)⟩,
                   ⟨(some 65), none, .load none (.t 64)⟩,
                   ⟨(some 66), none, .mv (.t 3)⟩,
                   ⟨(some 67), none, .call 17 [(.t 63), (.t 65), (.t 66)]⟩,
                   ⟨(some 15), none, .mv (.t 67)⟩])
                 (.seq
                  (.ops [⟨(some 68), none, .addr 0 (.t 14)⟩,
                    ⟨(some 69), none, .load none (.t 68)⟩])
                  (.block 2 (.seq
                    (.ops [⟨(some 71), none, .bin .eql (.t 69) (.c (.int .i64 0))⟩,
                      ⟨(some 70), none, .mv (.t 71)⟩])
                    (.cond (.t 70)
                     (.seq
                      (.ops [⟨(some 73), none, .mv (.t 11)⟩,
                        ⟨(some 74), none, .addr 1 (.t 14)⟩,
                        ⟨(some 75), none, .load none (.t 74)⟩,
                        ⟨(some 76), none, .addr 3 (.t 14)⟩,
                        ⟨(some 77), none, .load none (.t 76)⟩,
                        ⟨(some 78), none, .call 11 [(.t 73), (.t 75), (.t 77)]⟩,
                        ⟨(some 72), none, .mv (.t 78)⟩,
                        ⟨(some 79), none, .ext (.t 72) 0⟩,
                        ⟨(some 80), none, .ext (.t 72) 1⟩,
                        ⟨(some 16), none, .mv (.t 79)⟩,
                        ⟨(some 17), none, .mv (.t 80)⟩])
                      (.seq
                       (.seq
                        (.ops [⟨(some 81), none, .mv (.t 15)⟩])
                        (.cond (.t 81)
                         (.seq
                          (.ops [⟨(some 83), none, .mv (.t 12)⟩,
                            ⟨(some 84), none, .addr 1 (.t 14)⟩,
                            ⟨(some 85), none, .load none (.t 84)⟩,
                            ⟨(some 86), none, .addr 3 (.t 14)⟩,
                            ⟨(some 87), none, .load none (.t 86)⟩,
                            ⟨(some 88), none, .call 11 [(.t 83), (.t 85), (.t 87)]⟩,
                            ⟨(some 82), none, .mv (.t 88)⟩,
                            ⟨(some 89), none, .ext (.t 82) 0⟩,
                            ⟨(some 90), none, .ext (.t 82) 1⟩,
                            ⟨(some 18), none, .mv (.t 89)⟩,
                            ⟨(some 19), none, .mv (.t 90)⟩])
                          (.seq
                           (.ops [⟨(some 91), none, .mv (.t 16)⟩,
                             ⟨(some 92), none, .mv (.t 18)⟩,
                             ⟨(some 93), none, .bin .neq (.t 91) (.t 92)⟩,
                             ⟨(some 94), none, .mv (.t 93)⟩,
                             ⟨(some 95), (some (94, false)), .mv (.t 17)⟩,
                             ⟨(some 96), (some (94, false)), .mv (.t 19)⟩,
                             ⟨(some 97), (some (94, false)), .bin .neq (.t 95) (.t 96)⟩,
                             ⟨(some 98), none, .pick (.t 94) (.c (.bool true)) (.t 97)⟩])
                           (.cond (.t 98)
                            (.seq
                             (.ops [⟨(some 8), none, .mv (.c (.bool false))⟩])
                             (.ret))
                            (.skip))))
                         (.skip)))
                       (.seq
                        (.ops [⟨(some 100), none, .mv (.t 11)⟩,
                          ⟨(some 101), none, .addr 1 (.t 14)⟩,
                          ⟨(some 102), none, .load none (.t 101)⟩,
                          ⟨(some 103), none, .mv (.t 16)⟩,
                          ⟨(some 104), none, .call 18 [(.t 100), (.t 102), (.t 103)]⟩,
                          ⟨(some 99), none, .mv (.t 104)⟩,
                          ⟨(some 105), none, .ext (.t 99) 0⟩,
                          ⟨(some 106), none, .ext (.t 99) 1⟩,
                          ⟨(some 20), none, .mv (.t 105)⟩,
                          ⟨(some 21), none, .mv (.t 106)⟩])
                        (.seq
                         (.ops [⟨(some 107), none, .mv (.t 17)⟩,
                           ⟨(some 108), none, .bin .eql (.t 107) (.c (.int .i64 0))⟩,
                           ⟨(some 109), none, .mv (.t 108)⟩,
                           ⟨(some 110), (some (109, true)), .mv (.t 21)⟩,
                           ⟨(some 111), (some (109, true)), .un .not (.t 110)⟩,
                           ⟨(some 112), (some (109, true)), .mv (.t 111)⟩,
                           ⟨(some 113), (some (112, false)), .mv (.t 20)⟩,
                           ⟨(some 114), (some (112, false)), .addr 3 (.t 14)⟩,
                           ⟨(some 115), (some (112, false)), .load none (.t 114)⟩,
                           ⟨(some 116), (some (112, false)), .bin .neq (.t 113) (.t 115)⟩,
                           ⟨(some 117), (some (109, true)), .pick (.t 112) (.c (.bool true)) (.t 116)⟩,
                           ⟨(some 118), none, .pick (.t 109) (.t 117) (.c (.bool false))⟩])
                         (.cond (.t 118)
                          (.seq
                           (.ops [⟨(some 8), none, .mv (.c (.bool false))⟩])
                           (.ret))
                          (.skip))))))
                     (.seq
                      (.ops [⟨(some 120), none, .bin .eql (.t 69) (.c (.int .i64 1))⟩,
                        ⟨(some 119), none, .mv (.t 120)⟩])
                      (.cond (.t 119)
                       (.seq
                        (.ops [⟨(some 121), none, .mv (.t 11)⟩,
                          ⟨(some 122), none, .addr 1 (.t 14)⟩,
                          ⟨(some 123), none, .load none (.t 122)⟩,
                          ⟨(some 124), none, .addr 2 (.t 14)⟩,
                          ⟨(some 125), none, .load none (.t 124)⟩,
                          ⟨(some 126), none, .call 13 [(.t 121), (.t 123), (.t 125)]⟩,
                          ⟨(some 22), none, .mv (.t 126)⟩])
                        (.seq
                         (.seq
                          (.ops [⟨(some 127), none, .mv (.t 15)⟩,
                            ⟨(some 128), none, .mv (.t 127)⟩,
                            ⟨(some 129), (some (128, true)), .mv (.t 12)⟩,
                            ⟨(some 130), (some (128, true)), .addr 1 (.t 14)⟩,
                            ⟨(some 131), (some (128, true)), .load none (.t 130)⟩,
                            ⟨(some 132), (some (128, true)), .addr 2 (.t 14)⟩,
                            ⟨(some 133), (some (128, true)), .load none (.t 132)⟩,
                            ⟨(some 134), (some (128, true)), .call 13 [(.t 129), (.t 131), (.t 133)]⟩,
                            ⟨(some 135), (some (128, true)), .mv (.t 22)⟩,
                            ⟨(some 136), (some (128, true)), .bin .neq (.t 134) (.t 135)⟩,
                            ⟨(some 137), none, .pick (.t 128) (.t 136) (.c (.bool false))⟩])
                          (.cond (.t 137)
                           (.seq
                            (.ops [⟨(some 8), none, .mv (.c (.bool false))⟩])
                            (.ret))
                           (.skip)))
                         (.seq
                          (.ops [⟨(some 139), none, .mv (.t 11)⟩,
                            ⟨(some 140), none, .addr 1 (.t 14)⟩,
                            ⟨(some 141), none, .load none (.t 140)⟩,
                            ⟨(some 142), none, .addr 2 (.t 14)⟩,
                            ⟨(some 143), none, .load none (.t 142)⟩,
                            ⟨(some 144), none, .call 18 [(.t 139), (.t 141), (.t 143)]⟩,
                            ⟨(some 138), none, .mv (.t 144)⟩,
                            ⟨(some 145), none, .ext (.t 138) 0⟩,
                            ⟨(some 146), none, .ext (.t 138) 1⟩,
                            ⟨(some 23), none, .mv (.t 145)⟩,
                            ⟨(some 24), none, .mv (.t 146)⟩])
                          (.seq
                           (.ops [⟨(some 147), none, .mv (.t 24)⟩])
                           (.cond (.t 147)
                            (.seq
                             (.ops [⟨(some 8), none, .mv (.c (.bool false))⟩])
                             (.ret))
                            (.skip))))))
                       (.skip))))))))))
              (.ops [⟨(some 57), none, .mv (.t 13)⟩,
                ⟨(some 58), none, .bin .add (.t 57) (.c (.int .i64 1))⟩,
                ⟨(some 13), none, .mv (.t 58)⟩]))))))
         (.seq
          (.ops [⟨(some 148), none, .mv (.t 11)⟩,
            ⟨(some 149), none, .mv (.t 3)⟩,
            ⟨(some 150), none, .call 19 [(.t 148), (.t 149)]⟩,
            ⟨(some 151), none, .mv (.t 12)⟩,
            ⟨(some 152), none, .mv (.t 3)⟩,
            ⟨(some 153), none, .call 19 [(.t 151), (.t 152)]⟩,
            ⟨(some 25), none, .mv (.t 150)⟩,
            ⟨(some 26), none, .mv (.t 153)⟩])
          (.seq
           (.seq
            (.ops [⟨(some 154), none, .mv (.t 25)⟩,
              ⟨(some 155), none, .lenL (.t 154)⟩,
              ⟨(some 156), none, .mv (.t 26)⟩,
              ⟨(some 157), none, .lenL (.t 156)⟩,
              ⟨(some 158), none, .bin .neq (.t 155) (.t 157)⟩])
            (.cond (.t 158)
             (.seq
              (.ops [⟨(some 8), none, .mv (.c (.bool false))⟩])
              (.ret))
             (.skip)))
           (.seq
            (.seq
             (.ops [⟨(some 27), none, .mv (.c (.int .i64 0))⟩])
             (.block 3 (.loop (.seq
                (.seq
                 (.ops [⟨(some 159), none, .mv (.t 27)⟩,
                   ⟨(some 160), none, .mv (.t 25)⟩,
                   ⟨(some 161), none, .lenL (.t 160)⟩,
                   ⟨(some 162), none, .bin .lss (.t 159) (.t 161)⟩])
                 (.cond (.t 162)
                  (.skip)
                  (.exit 3)))
                (.seq
                 (.block 4 (.seq
                   (.draw [⟨⟨(some 166), none, .mv (.t 11)⟩, []⟩,
                     ⟨⟨(some 167), none, .mv (.t 25)⟩, []⟩,
                     ⟨⟨(some 168), none, .mv (.t 27)⟩, []⟩,
                     ⟨⟨(some 169), none, .iaddrS 2 (.t 167) (.t 168)⟩, [1, 2]⟩,
                     ⟨⟨(some 170), none, .addr 0 (.t 169)⟩, [3]⟩,
                     ⟨⟨(some 171), none, .load none (.t 170)⟩, [4]⟩,
                     ⟨⟨(some 172), none, .mv (.t 25)⟩, []⟩,
                     ⟨⟨(some 173), none, .mv (.t 27)⟩, []⟩,
                     ⟨⟨(some 174), none, .iaddrS 2 (.t 172) (.t 173)⟩, [6, 7]⟩,
                     ⟨⟨(some 175), none, .addr 1 (.t 174)⟩, [8]⟩,
                     ⟨⟨(some 176), none, .load none (.t 175)⟩, [9]⟩,
                     ⟨⟨(some 177), none, .call 18 [(.t 166), (.t 171), (.t 176)]⟩, [0, 5, 10]⟩,
                     ⟨⟨(some 165), none, .mv (.t 177)⟩, [11]⟩,
                     ⟨⟨(some 178), none, .ext (.t 165) 0⟩, [12]⟩,
                     ⟨⟨(some 179), none, .ext (.t 165) 1⟩, [12]⟩,
                     ⟨⟨(some 28), none, .mv (.t 178)⟩, [13, 11, 0, 1, 2, 3, 4, 5, 6, 7, 8, 9, 10, 11, 12, 13]⟩,
                     ⟨⟨(some 29), none, .mv (.t 179)⟩, [14, 15, 0, 1, 2, 3, 4, 5, 6, 7, 8, 9, 10, 11, 12, 13, 14, 15]⟩] [0, 0, 0, 6, 14, 30, 0, 0, 192, 448, 960, 2047, 4095, 8191, 8191, 16383, 65535])
                   (.seq
                    (.draw [⟨⟨(some 181), none, .mv (.t 12)⟩, []⟩,
                      ⟨⟨(some 182), none, .mv (.t 25)⟩, []⟩,
                      ⟨⟨(some 183), none, .mv (.t 27)⟩, []⟩,
                      ⟨⟨(some 184), none, .iaddrS 2 (.t 182) (.t 183)⟩, [1, 2]⟩,
                      ⟨⟨(some 185), none, .addr 0 (.t 184)⟩, [3]⟩,
                      ⟨⟨(some 186), none, .load none (.t 185)⟩, [4]⟩,
                      ⟨⟨(some 187), none, .mv (.t 25)⟩, []⟩,
                      ⟨⟨(some 188), none, .mv (.t 27)⟩, []⟩,
                      ⟨⟨(some 189), none, .iaddrS 2 (.t 187) (.t 188)⟩, [6, 7]⟩,
                      ⟨⟨(some 190), none, .addr 1 (.t 189)⟩, [8]⟩,
                      ⟨⟨(some 191), none, .load none (.t 190)⟩, [9]⟩,
                      ⟨⟨(some 192), none, .call 18 [(.t 181), (.t 186), (.t 191)]⟩, [0, 5, 10]⟩,
                      ⟨⟨(some 180), none, .mv (.t 192)⟩, [11]⟩,
                      ⟨⟨(some 193), none, .ext (.t 180) 0⟩, [12]⟩,
                      ⟨⟨(some 194), none, .ext (.t 180) 1⟩, [12]⟩,
                      ⟨⟨(some 30), none, .mv (.t 193)⟩, [13, 11, 0, 1, 2, 3, 4, 5, 6, 7, 8, 9, 10, 11, 12, 13]⟩,
                      ⟨⟨(some 31), none, .mv (.t 194)⟩, [14, 15, 0, 1, 2, 3, 4, 5, 6, 7, 8, 9, 10, 11, 12, 13, 14, 15]⟩] [0, 0, 0, 6, 14, 30, 0, 0, 192, 448, 960, 2047, 4095, 8191, 8191, 16383, 65535])
                    (.seq
                     (.draw [⟨⟨(some 195), none, .mv (.t 25)⟩, []⟩,
                       ⟨⟨(some 196), none, .mv (.t 27)⟩, []⟩,
                       ⟨⟨(some 197), none, .iaddrS 2 (.t 195) (.t 196)⟩, [0, 1]⟩,
                       ⟨⟨(some 198), none, .load (some 2) (.t 197)⟩, [2]⟩,
                       ⟨⟨(some 199), none, .mv (.t 26)⟩, []⟩,
                       ⟨⟨(some 200), none, .mv (.t 27)⟩, []⟩,
                       ⟨⟨(some 201), none, .iaddrS 2 (.t 199) (.t 200)⟩, [4, 5]⟩,
                       ⟨⟨(some 202), none, .load (some 2) (.t 201)⟩, [6]⟩,
                       ⟨⟨(some 203), none, .eq true 53 (.struct #[⟨"Label", 3, 0, false, "", "", 0⟩, ⟨"N", 3, 1, false, "", "", 8⟩]) (.t 198) (.t 202)⟩, [3, 7]⟩,
                       ⟨⟨(some 204), none, .mv (.t 203)⟩, [8]⟩,
                       ⟨⟨(some 205), (some (204, false)), .mv (.t 29)⟩, [9]⟩,
                       ⟨⟨(some 206), (some (204, false)), .un .not (.t 205)⟩, [10, 9]⟩,
                       ⟨⟨(some 207), none, .pick (.t 204) (.c (.bool true)) (.t 206)⟩, [9, 11]⟩,
                       ⟨⟨(some 208), none, .mv (.t 207)⟩, [12, 9]⟩,
                       ⟨⟨(some 209), (some (208, false)), .mv (.t 31)⟩, [13]⟩,
                       ⟨⟨(some 210), (some (208, false)), .un .not (.t 209)⟩, [14, 13]⟩,
                       ⟨⟨(some 211), none, .pick (.t 208) (.c (.bool true)) (.t 210)⟩, [13, 15]⟩,
                       ⟨⟨(some 212), none, .mv (.t 211)⟩, [16, 13]⟩,
                       ⟨⟨(some 213), (some (212, false)), .mv (.t 28)⟩, [17]⟩,
                       ⟨⟨(some 214), (some (212, false)), .mv (.t 30)⟩, [17]⟩,
                       ⟨⟨(some 215), (some (212, false)), .bin .neq (.t 213) (.t 214)⟩, [18, 19, 17]⟩,
                       ⟨⟨(some 216), none, .pick (.t 212) (.c (.bool true)) (.t 215)⟩, [17, 20]⟩,
                       ⟨⟨(some 217), none, .mv (.t 216)⟩, [21, 17]⟩,
                       ⟨⟨(some 218), (some (217, false)), .mv (.t 9)⟩, [22]⟩,
                       ⟨⟨(some 219), (some (217, false)), .mv (.t 25)⟩, [22]⟩,
                       ⟨⟨(some 220), (some (217, false)), .mv (.t 27)⟩, [22]⟩,
                       ⟨⟨(some 221), (some (217, false)), .iaddrS 2 (.t 219) (.t 220)⟩, [24, 25, 22]⟩,
                       ⟨⟨(some 222), (some (217, false)), .addr 0 (.t 221)⟩, [26, 22]⟩,
                       ⟨⟨(some 223), (some (217, false)), .load none (.t 222)⟩, [27, 22]⟩,
                       ⟨⟨(some 224), (some (217, false)), .mv (.t 3)⟩, [22]⟩,
                       ⟨⟨(some 225), (some (217, false)), .call 17 [(.t 218), (.t 223), (.t 224)]⟩, [23, 28, 29, 22, 22]⟩,
                       ⟨⟨(some 226), (some (217, false)), .un .not (.t 225)⟩, [30, 22]⟩,
                       ⟨⟨(some 227), none, .pick (.t 217) (.c (.bool true)) (.t 226)⟩, [22, 31]⟩] [0, 0, 3, 7, 0, 0, 48, 112, 255, 511, 1023, 2047, 4095, 8191, 16383, 32767, 65535, 131071, 262143, 262143, 1048575, 2097151, 4194303, 8388607, 8388607, 8388607, 58720255, 125829119, 260046847, 8388607, 1073741823, 2147483647, 4294967295])
                     (.cond (.t 227)
                      (.seq
                       (.ops [⟨(some 8), none, .mv (.c (.bool false))⟩])
                       (.ret))
                      (.skip))))))
                 (.ops [⟨(some 163), none, .mv (.t 27)⟩,
                   ⟨(some 164), none, .bin .add (.t 163) (.c (.int .i64 1))⟩,
                   ⟨(some 27), none, .mv (.t 164)⟩]))))))
            (.seq
             (.ops [⟨(some 228), none, .mv (.t 11)⟩,
               ⟨(some 229), none, .mv (.t 3)⟩,
               ⟨(some 230), none, .call 20 [(.t 228), (.t 229)]⟩,
               ⟨(some 231), none, .mv (.t 12)⟩,
               ⟨(some 232), none, .mv (.t 3)⟩,
               ⟨(some 233), none, .call 20 [(.t 231), (.t 232)]⟩,
               ⟨(some 234), none, .bin .eql (.t 230) (.t 233)⟩,
               ⟨(some 8), none, .mv (.t 234)⟩])
             (.ret)))))))))))⟩
theorem ok4 : FnOk Tryd.prog 4 a4 := FnOk.of Tryd.prog Tryd.func4 (by kernel_rfl)
/-- jalousie/jalousielaw22.BuffersKnown -/
def a5 : AFn := ⟨125, [.tmp 0], .seq
   (.ops [⟨(some 0), none, .mv (.c (.bool false))⟩])
   (.seq
    (.ops [⟨(some 20), none, .call 16 [(.c (.int .i64 2)), (.c (.int .i64 0))]⟩,
      ⟨(some 19), none, .mv (.t 20)⟩,
      ⟨(some 21), none, .ext (.t 19) 0⟩,
      ⟨(some 22), none, .ext (.t 19) 1⟩,
      ⟨(some 1), none, .mv (.t 21)⟩,
      ⟨(some 2), none, .mv (.t 22)⟩])
    (.seq
     (.ops [⟨(some 23), none, .mv (.t 1)⟩,
       ⟨(some 24), none, .call 10 [(.t 23)]⟩,
       ⟨(some 3), none, .mv (.t 24)⟩])
     (.seq
      (.ops [⟨(some 26), none, .mv (.t 3)⟩,
        ⟨(some 27), none, .call 21 [(.c (.str [120])), (.c (.int .i64 4097))]⟩,
        ⟨(some 28), none, .call 11 [(.t 26), (.c (.int .i64 0)), (.t 27)]⟩,
        ⟨(some 25), none, .mv (.t 28)⟩,
        ⟨(some 29), none, .ext (.t 25) 0⟩,
        ⟨(some 30), none, .ext (.t 25) 1⟩,
        ⟨(some 4), none, .mv (.t 29)⟩,
        ⟨(some 5), none, .mv (.t 30)⟩])
      (.seq
       (.ops [⟨(some 32), none, .mv (.t 3)⟩,
         ⟨(some 33), none, .call 11 [(.t 32), (.c (.int .i64 2)), (.c (.str [120]))]⟩,
         ⟨(some 31), none, .mv (.t 33)⟩,
         ⟨(some 34), none, .ext (.t 31) 0⟩,
         ⟨(some 35), none, .ext (.t 31) 1⟩,
         ⟨(some 6), none, .mv (.t 34)⟩,
         ⟨(some 7), none, .mv (.t 35)⟩])
       (.seq
        (.seq
         (.ops [⟨(some 8), none, .mv (.c (.int .i64 0))⟩])
         (.block 0 (.loop (.seq
            (.seq
             (.ops [⟨(some 36), none, .mv (.t 8)⟩,
               ⟨(some 37), none, .bin .lss (.t 36) (.c (.int .i64 8))⟩])
             (.cond (.t 37)
              (.skip)
              (.exit 0)))
            (.seq
             (.block 1 (.seq
               (.ops [⟨(some 41), none, .mv (.t 3)⟩,
                 ⟨(some 42), none, .call 21 [(.c (.str [120])), (.c (.int .i64 4096))]⟩,
                 ⟨(some 43), none, .call 11 [(.t 41), (.c (.int .i64 0)), (.t 42)]⟩,
                 ⟨(some 40), none, .mv (.t 43)⟩,
                 ⟨(some 44), none, .ext (.t 40) 0⟩,
                 ⟨(some 45), none, .ext (.t 40) 1⟩,
                 ⟨(some 9), none, .mv (.t 44)⟩,
                 ⟨(some 10), none, .mv (.t 45)⟩])
               (.seq
                (.ops [⟨(some 46), none, .mv (.t 9)⟩,
                  ⟨(some 47), none, .mv (.t 8)⟩,
                  ⟨(some 48), none, .bin .neq (.t 46) (.t 47)⟩,
                  ⟨(some 49), none, .mv (.t 48)⟩,
                  ⟨(some 50), (some (49, false)), .mv (.t 10)⟩,
                  ⟨(some 51), (some (49, false)), .bin .neq (.t 50) (.c (.int .i64 0))⟩,
                  ⟨(some 52), none, .pick (.t 49) (.c (.bool true)) (.t 51)⟩])
                (.cond (.t 52)
                 (.seq
                  (.ops [⟨(some 0), none, .mv (.c (.bool false))⟩])
                  (.ret))
                 (.skip)))))
             (.ops [⟨(some 38), none, .mv (.t 8)⟩,
               ⟨(some 39), none, .bin .add (.t 38) (.c (.int .i64 1))⟩,
               ⟨(some 8), none, .mv (.t 39)⟩]))))))
        (.seq
         (.ops [⟨(some 54), none, .mv (.t 3)⟩,
           ⟨(some 55), none, .call 11 [(.t 54), (.c (.int .i64 0)), (.c (.str [120]))]⟩,
           ⟨(some 53), none, .mv (.t 55)⟩,
           ⟨(some 56), none, .ext (.t 53) 0⟩,
           ⟨(some 57), none, .ext (.t 53) 1⟩,
           ⟨(some 11), none, .mv (.t 56)⟩,
           ⟨(some 12), none, .mv (.t 57)⟩])
         (.seq
          (.ops [⟨(some 59), none, .mv (.t 3)⟩,
            ⟨(some 60), none, .call 11 [(.t 59), (.c (.int .i64 1)), (.c (.str [120]))]⟩,
            ⟨(some 58), none, .mv (.t 60)⟩,
            ⟨(some 61), none, .ext (.t 58) 0⟩,
            ⟨(some 62), none, .ext (.t 58) 1⟩,
            ⟨(some 13), none, .mv (.t 61)⟩,
            ⟨(some 14), none, .mv (.t 62)⟩])
          (.seq
           (.ops [⟨(some 63), none, .mv (.t 3)⟩,
             ⟨(some 64), none, .call 13 [(.t 63), (.c (.int .i64 0)), (.c (.int .i64 3))]⟩,
             ⟨(some 15), none, .mv (.t 64)⟩])
           (.seq
            (.ops [⟨(some 65), none, .mv (.t 3)⟩,
              ⟨(some 66), none, .call 13 [(.t 65), (.c (.int .i64 0)), (.c (.int .i64 3))]⟩,
              ⟨(some 16), none, .mv (.t 66)⟩])
            (.seq
             (.ops [⟨(some 68), none, .mv (.t 3)⟩,
               ⟨(some 69), none, .call 11 [(.t 68), (.c (.int .i64 0)), (.c (.str [121]))]⟩,
               ⟨(some 67), none, .mv (.t 69)⟩,
               ⟨(some 70), none, .ext (.t 67) 0⟩,
               ⟨(some 71), none, .ext (.t 67) 1⟩,
               ⟨(some 17), none, .mv (.t 70)⟩,
               ⟨(some 18), none, .mv (.t 71)⟩])
             (.seq
              (.ops [⟨(some 72), none, .call 6 []⟩,
                ⟨(some 73), none, .mv (.t 72)⟩,
                ⟨(some 74), (some (73, true)), .mv (.t 5)⟩,
                ⟨(some 75), (some (73, true)), .bin .eql (.t 74) (.c (.int .i64 3))⟩,
                ⟨(some 76), none, .pick (.t 73) (.t 75) (.c (.bool false))⟩,
                ⟨(some 77), none, .mv (.t 76)⟩,
                ⟨(some 78), (some (77, true)), .mv (.t 7)⟩,
                ⟨(some 79), (some (77, true)), .bin .eql (.t 78) (.c (.int .i64 1))⟩,
                ⟨(some 80), none, .pick (.t 77) (.t 79) (.c (.bool false))⟩,
                ⟨(some 81), none, .mv (.t 80)⟩,
                ⟨(some 82), (some (81, true)), .mv (.t 12)⟩,
                ⟨(some 83), (some (81, true)), .bin .eql (.t 82) (.c (.int .i64 6))⟩,
                ⟨(some 84), none, .pick (.t 81) (.t 83) (.c (.bool false))⟩,
                ⟨(some 85), none, .mv (.t 84)⟩,
                ⟨(some 86), (some (85, true)), .mv (.t 14)⟩,
                ⟨(some 87), (some (85, true)), .bin .eql (.t 86) (.c (.int .i64 0))⟩,
                ⟨(some 88), none, .pick (.t 85) (.t 87) (.c (.bool false))⟩,
                ⟨(some 89), none, .mv (.t 88)⟩,
                ⟨(some 90), (some (89, true)), .mv (.t 13)⟩,
                ⟨(some 91), (some (89, true)), .bin .eql (.t 90) (.c (.int .i64 0))⟩,
                ⟨(some 92), none, .pick (.t 89) (.t 91) (.c (.bool false))⟩,
                ⟨(some 93), none, .mv (.t 92)⟩,
                ⟨(some 94), (some (93, true)), .mv (.t 15)⟩,
                ⟨(some 95), (some (93, true)), .bin .eql (.t 94) (.c (.int .i64 0))⟩,
                ⟨(some 96), none, .pick (.t 93) (.t 95) (.c (.bool false))⟩,
                ⟨(some 97), none, .mv (.t 96)⟩,
                ⟨(some 98), (some (97, true)), .mv (.t 16)⟩,
                ⟨(some 99), (some (97, true)), .bin .eql (.t 98) (.c (.int .i64 4))⟩,
                ⟨(some 100), none, .pick (.t 97) (.t 99) (.c (.bool false))⟩,
                ⟨(some 101), none, .mv (.t 100)⟩,
                ⟨(some 102), (some (101, true)), .mv (.t 18)⟩,
                ⟨(some 103), (some (101, true)), .bin .eql (.t 102) (.c (.int .i64 0))⟩,
                ⟨(some 104), none, .pick (.t 101) (.t 103) (.c (.bool false))⟩,
                ⟨(some 105), none, .mv (.t 104)⟩,
                ⟨(some 106), (some (105, true)), .mv (.t 17)⟩,
                ⟨(some 107), (some (105, true)), .bin .eql (.t 106) (.c (.int .i64 8))⟩,
                ⟨(some 108), none, .pick (.t 105) (.t 107) (.c (.bool false))⟩,
                ⟨(some 109), none, .mv (.t 108)⟩,
                ⟨(some 110), (some (109, true)), .mv (.t 3)⟩,
                ⟨(some 111), (some (109, true)), .call 19 [(.t 110), (.c (.int .i64 0))]⟩,
                ⟨(some 112), (some (109, true)), .lenL (.t 111)⟩,
                ⟨(some 113), (some (109, true)), .bin .eql (.t 112) (.c (.int .i64 8))⟩,
                ⟨(some 114), none, .pick (.t 109) (.t 113) (.c (.bool false))⟩,
                ⟨(some 115), none, .mv (.t 114)⟩,
                ⟨(some 116), (some (115, true)), .mv (.t 3)⟩,
                ⟨(some 117), (some (115, true)), .call 19 [(.t 116), (.c (.int .i64 1))]⟩,
                ⟨(some 118), (some (115, true)), .lenL (.t 117)⟩,
                ⟨(some 119), (some (115, true)), .bin .eql (.t 118) (.c (.int .i64 9))⟩,
                ⟨(some 120), none, .pick (.t 115) (.t 119) (.c (.bool false))⟩,
                ⟨(some 121), none, .mv (.t 120)⟩,
                ⟨(some 122), none, .pick (.t 121) (.c (.bool true)) (.c (.bool false))⟩,
                ⟨(some 123), none, .mv (.t 122)⟩,
                ⟨(some 124), none, .pick (.t 123) (.c (.bool true)) (.c (.bool false))⟩,
                ⟨(some 0), none, .mv (.t 124)⟩])
              (.ret))))))))))))⟩
theorem ok5 : FnOk Tryd.prog 5 a5 := FnOk.of Tryd.prog Tryd.func5 (by kernel_rfl)
/-- jalousie/jalousielaw22.awake -/
def a6 : AFn := ⟨112, [.tmp 0], .seq
   (.ops [⟨(some 0), none, .mv (.c (.bool false))⟩])
   (.seq
    (.ops [⟨(some 17), none, .call 16 [(.c (.int .i64 2)), (.c (.int .i64 0))]⟩,
      ⟨(some 16), none, .mv (.t 17)⟩,
      ⟨(some 18), none, .ext (.t 16) 0⟩,
      ⟨(some 19), none, .ext (.t 16) 1⟩,
      ⟨(some 1), none, .mv (.t 18)⟩,
      ⟨(some 2), none, .mv (.t 19)⟩])
    (.seq
     (.ops [⟨(some 20), none, .mv (.t 1)⟩,
       ⟨(some 21), none, .call 10 [(.t 20)]⟩,
       ⟨(some 3), none, .mv (.t 21)⟩])
     (.seq
      (.ops [⟨(some 23), none, .mv (.t 3)⟩,
        ⟨(some 24), none, .call 11 [(.t 23), (.c (.int .i64 1)), (.c (.str [120]))]⟩,
        ⟨(some 22), none, .mv (.t 24)⟩,
        ⟨(some 25), none, .ext (.t 22) 0⟩,
        ⟨(some 26), none, .ext (.t 22) 1⟩,
        ⟨(some 4), none, .mv (.t 25)⟩,
        ⟨(some 5), none, .mv (.t 26)⟩])
      (.seq
       (.ops [⟨(some 28), none, .mv (.t 3)⟩,
         ⟨(some 29), none, .call 11 [(.t 28), (.c (.int .i64 1)), (.c (.str [121]))]⟩,
         ⟨(some 27), none, .mv (.t 29)⟩,
         ⟨(some 30), none, .ext (.t 27) 0⟩,
         ⟨(some 31), none, .ext (.t 27) 1⟩,
         ⟨(some 6), none, .mv (.t 30)⟩,
         ⟨(some 7), none, .mv (.t 31)⟩])
       (.seq
        (.ops [⟨(some 33), none, .mv (.t 3)⟩,
          ⟨(some 34), none, .call 22 [(.t 33), (.c (.int .i64 1))]⟩,
          ⟨(some 32), none, .mv (.t 34)⟩,
          ⟨(some 35), none, .ext (.t 32) 0⟩,
          ⟨(some 36), none, .ext (.t 32) 1⟩,
          ⟨(some 8), none, .mv (.t 35)⟩,
          ⟨(some 9), none, .mv (.t 36)⟩])
        (.seq
         (.ops [⟨(some 37), none, .mv (.t 3)⟩,
           ⟨(some 38), none, .call 13 [(.t 37), (.c (.int .i64 1)), (.c (.int .i64 1))]⟩,
           ⟨(some 10), none, .mv (.t 38)⟩])
         (.seq
          (.ops [⟨(some 40), none, .mv (.t 3)⟩,
            ⟨(some 41), none, .call 18 [(.t 40), (.c (.int .i64 1)), (.c (.int .i64 0))]⟩,
            ⟨(some 39), none, .mv (.t 41)⟩,
            ⟨(some 42), none, .ext (.t 39) 0⟩,
            ⟨(some 43), none, .ext (.t 39) 1⟩,
            ⟨(some 11), none, .mv (.t 42)⟩,
            ⟨(some 12), none, .mv (.t 43)⟩])
          (.seq
           (.ops [⟨(some 45), none, .mv (.t 3)⟩,
             ⟨(some 46), none, .call 11 [(.t 45), (.c (.int .i64 1)), (.c (.str [119]))]⟩,
             ⟨(some 44), none, .mv (.t 46)⟩,
             ⟨(some 47), none, .ext (.t 44) 0⟩,
             ⟨(some 48), none, .ext (.t 44) 1⟩,
             ⟨(some 13), none, .mv (.t 47)⟩,
             ⟨(some 14), none, .mv (.t 48)⟩])
           (.seq
            (.ops [⟨(some 49), none, .mv (.t 3)⟩,
              ⟨(some 50), none, .call 19 [(.t 49), (.c (.int .i64 1))]⟩,
              ⟨(some 15), none, .mv (.t 50)⟩])
            (.seq
             (.ops [⟨(some 51), none, .mv (.t 2)⟩,
               ⟨(some 52), none, .bin .eql (.t 51) (.c (.int .i64 0))⟩,
               ⟨(some 53), none, .mv (.t 52)⟩,
               ⟨(some 54), (some (53, true)), .mv (.t 5)⟩,
               ⟨(some 55), (some (53, true)), .bin .eql (.t 54) (.c (.int .i64 0))⟩,
               ⟨(some 56), none, .pick (.t 53) (.t 55) (.c (.bool false))⟩,
               ⟨(some 57), none, .mv (.t 56)⟩,
               ⟨(some 58), (some (57, true)), .mv (.t 7)⟩,
               ⟨(some 59), (some (57, true)), .bin .eql (.t 58) (.c (.int .i64 0))⟩,
               ⟨(some 60), none, .pick (.t 57) (.t 59) (.c (.bool false))⟩,
               ⟨(some 61), none, .mv (.t 60)⟩,
               ⟨(some 62), (some (61, true)), .mv (.t 10)⟩,
               ⟨(some 63), (some (61, true)), .bin .eql (.t 62) (.c (.int .i64 0))⟩,
               ⟨(some 64), none, .pick (.t 61) (.t 63) (.c (.bool false))⟩,
               ⟨(some 65), none, .mv (.t 64)⟩,
               ⟨(some 66), (some (65, true)), .mv (.t 14)⟩,
               ⟨(some 67), (some (65, true)), .bin .eql (.t 66) (.c (.int .i64 0))⟩,
               ⟨(some 68), none, .pick (.t 65) (.t 67) (.c (.bool false))⟩,
               ⟨(some 69), none, .mv (.t 68)⟩,
               ⟨(some 70), (some (69, true)), .mv (.t 4)⟩,
               ⟨(some 71), (some (69, true)), .bin .eql (.t 70) (.c (.int .i64 0))⟩,
               ⟨(some 72), none, .pick (.t 69) (.t 71) (.c (.bool false))⟩,
               ⟨(some 73), none, .mv (.t 72)⟩,
               ⟨(some 74), (some (73, true)), .mv (.t 6)⟩,
               ⟨(some 75), (some (73, true)), .bin .eql (.t 74) (.c (.int .i64 1))⟩,
               ⟨(some 76), none, .pick (.t 73) (.t 75) (.c (.bool false))⟩,
               ⟨(some 77), none, .mv (.t 76)⟩,
               ⟨(some 78), (some (77, true)), .mv (.t 9)⟩,
               ⟨(some 79), none, .pick (.t 77) (.t 78) (.c (.bool false))⟩,
               ⟨(some 80), none, .mv (.t 79)⟩,
               ⟨(some 81), (some (80, true)), .mv (.t 8)⟩,
               ⟨(some 82), (some (80, true)), .bin .eql (.t 81) (.c (.int .i64 1))⟩,
               ⟨(some 83), none, .pick (.t 80) (.t 82) (.c (.bool false))⟩,
               ⟨(some 84), none, .mv (.t 83)⟩,
               ⟨(some 85), (some (84, true)), .mv (.t 12)⟩,
               ⟨(some 86), none, .pick (.t 84) (.t 85) (.c (.bool false))⟩,
               ⟨(some 87), none, .mv (.t 86)⟩,
               ⟨(some 88), (some (87, true)), .mv (.t 11)⟩,
               ⟨(some 89), (some (87, true)), .bin .eql (.t 88) (.c (.str [120]))⟩,
               ⟨(some 90), none, .pick (.t 87) (.t 89) (.c (.bool false))⟩,
               ⟨(some 91), none, .mv (.t 90)⟩,
               ⟨(some 92), (some (91, true)), .mv (.t 13)⟩,
               ⟨(some 93), (some (91, true)), .bin .eql (.t 92) (.c (.int .i64 2))⟩,
               ⟨(some 94), none, .pick (.t 91) (.t 93) (.c (.bool false))⟩,
               ⟨(some 95), none, .mv (.t 94)⟩,
               ⟨(some 96), (some (95, true)), .mv (.t 15)⟩,
               ⟨(some 97), (some (95, true)), .lenL (.t 96)⟩,
               ⟨(some 98), (some (95, true)), .bin .eql (.t 97) (.c (.int .i64 2))⟩,
               ⟨(some 99), none, .pick (.t 95) (.t 98) (.c (.bool false))⟩,
               ⟨(some 100), none, .mv (.t 99)⟩,
               ⟨(some 101), (some (100, true)), .mv (.t 15)⟩,
               ⟨(some 102), (some (100, true)), .iaddrS 2 (.t 101) (.c (.int .i64 0))⟩,
               ⟨(some 103), (some (100, true)), .load (some 2) (.t 102)⟩,
               ⟨(some 104), (some (100, true)), .build [(.int .i64 0), (.int .i64 0)] [(0, 1), (1, 1)] [(0, (.c (.int .i64 1))), (1, (.c (.int .i64 2)))]⟩,
               ⟨(some 105), (some (100, true)), .eq false 53 (.struct #[⟨"Label", 3, 0, false, "", "", 0⟩, ⟨"N", 3, 1, false, "", "", 8⟩]) (.t 103) (.t 104)⟩,
               ⟨(some 106), none, .pick (.t 100) (.t 105) (.c (.bool false))⟩,
               ⟨(some 107), none, .mv (.t 106)⟩,
               ⟨(some 108), (some (107, true)), .mv (.t 3)⟩,
               ⟨(some 109), (some (107, true)), .call 20 [(.t 108), (.c (.int .i64 1))]⟩,
               ⟨(some 110), (some (107, true)), .bin .eql (.t 109) (.c (.int .i64 6))⟩,
               ⟨(some 111), none, .pick (.t 107) (.t 110) (.c (.bool false))⟩,
               ⟨(some 0), none, .mv (.t 111)⟩])
             (.ret)))))))))))⟩
theorem ok6 : FnOk Tryd.prog 6 a6 := FnOk.of Tryd.prog Tryd.func6 (by kernel_rfl)
/-- jalousie/jalousielaw22.Great -/
def a7 : AFn := ⟨55, [.tmp 4], .seq
   (.ops [⟨(some 4), none, .mv (.c (.bool false))⟩])
   (.seq
    (.ops [⟨(some 5), none, .mv (.c (.int .i64 0))⟩])
    (.seq
     (.seq
      (.ops [⟨(some 6), none, .mv (.c (.int .i64 0))⟩])
      (.block 0 (.loop (.seq
         (.seq
          (.ops [⟨(some 8), none, .mv (.t 6)⟩,
            ⟨(some 9), none, .mv (.t 1)⟩,
            ⟨(some 10), none, .lenL (.t 9)⟩,
            ⟨(some 11), none, .bin .lss (.t 8) (.t 10)⟩,
            ⟨(some 12), none, .mv (.t 11)⟩,
            ⟨(some 13), (some (12, true)), .mv (.t 6)⟩,
            ⟨(some 14), (some (12, true)), .bin .leq (.t 13) (.c (.int .i64 150))⟩,
            ⟨(some 15), none, .pick (.t 12) (.t 14) (.c (.bool false))⟩])
          (.cond (.t 15)
           (.skip)
           (.exit 0)))
         (.seq
          (.block 1 (.ops [⟨(some 18), none, .mv (.t 5)⟩,
             ⟨(some 19), none, .mv (.t 1)⟩,
             ⟨(some 20), none, .mv (.t 6)⟩,
             ⟨(some 21), none, .iaddrS 4 (.t 19) (.t 20)⟩,
             ⟨(some 22), none, .addr 3 (.t 21)⟩,
             ⟨(some 23), none, .load none (.t 22)⟩,
             ⟨(some 24), none, .lenS (.t 23)⟩,
             ⟨(some 25), none, .minI (.t 24) [(.c (.int .i64 60001))]⟩,
             ⟨(some 26), none, .bin .add (.t 18) (.t 25)⟩,
             ⟨(some 5), none, .mv (.t 26)⟩]))
          (.ops [⟨(some 16), none, .mv (.t 6)⟩,
            ⟨(some 17), none, .bin .add (.t 16) (.c (.int .i64 1))⟩,
            ⟨(some 6), none, .mv (.t 17)⟩]))))))
     (.seq
      (.seq
       (.ops [⟨(some 7), none, .mv (.c (.int .i64 0))⟩])
       (.block 2 (.loop (.seq
          (.seq
           (.ops [⟨(some 27), none, .mv (.t 7)⟩,
             ⟨(some 28), none, .mv (.t 0)⟩,
             ⟨(some 29), none, .lenL (.t 28)⟩,
             ⟨(some 30), none, .bin .lss (.t 27) (.t 29)⟩,
             ⟨(some 31), none, .mv (.t 30)⟩,
             ⟨(some 32), (some (31, true)), .mv (.t 7)⟩,
             ⟨(some 33), (some (31, true)), .bin .leq (.t 32) (.c (.int .i64 20))⟩,
             ⟨(some 34), none, .pick (.t 31) (.t 33) (.c (.bool false))⟩])
           (.cond (.t 34)
            (.skip)
            (.exit 2)))
          (.seq
           (.block 3 (.seq
             (.ops [⟨(some 37), none, .mv (.t 0)⟩,
               ⟨(some 38), none, .mv (.t 7)⟩,
               ⟨(some 39), none, .iaddrS 1 (.t 37) (.t 38)⟩,
               ⟨(some 40), none, .load none (.t 39)⟩,
               ⟨(some 41), none, .lenL (.t 40)⟩,
               ⟨(some 42), none, .bin .gtr (.t 41) (.c (.int .i64 20))⟩])
             (.cond (.t 42)
              (.seq
               (.ops [⟨(some 4), none, .mv (.c (.bool true))⟩])
               (.ret))
              (.skip))))
           (.ops [⟨(some 35), none, .mv (.t 7)⟩,
             ⟨(some 36), none, .bin .add (.t 35) (.c (.int .i64 1))⟩,
             ⟨(some 7), none, .mv (.t 36)⟩]))))))
      (.seq
       (.ops [⟨(some 43), none, .mv (.t 0)⟩,
         ⟨(some 44), none, .lenL (.t 43)⟩,
         ⟨(some 45), none, .bin .gtr (.t 44) (.c (.int .i64 20))⟩,
         ⟨(some 46), none, .mv (.t 45)⟩,
         ⟨(some 47), (some (46, false)), .mv (.t 1)⟩,
         ⟨(some 48), (some (46, false)), .lenL (.t 47)⟩,
         ⟨(some 49), (some (46, false)), .bin .gtr (.t 48) (.c (.int .i64 150))⟩,
         ⟨(some 50), none, .pick (.t 46) (.c (.bool true)) (.t 49)⟩,
         ⟨(some 51), none, .mv (.t 50)⟩,
         ⟨(some 52), (some (51, false)), .mv (.t 5)⟩,
         ⟨(some 53), (some (51, false)), .bin .gtr (.t 52) (.c (.int .i64 60000))⟩,
         ⟨(some 54), none, .pick (.t 51) (.c (.bool true)) (.t 53)⟩,
         ⟨(some 4), none, .mv (.t 54)⟩])
       (.ret)))))⟩
theorem ok7 : FnOk Tryd.prog 7 a7 := FnOk.of Tryd.prog Tryd.func7 (by kernel_rfl)
/-- jalousie/jalousieref01.New -/
def a8 : AFn := ⟨122, [.tmp 2], .seq
   (.ops [⟨(some 2), none, .mv (.c (.int .i64 0))⟩])
   (.seq
    (.ops [⟨(some 10), none, .mv (.t 0)⟩,
      ⟨(some 11), none, .lenL (.t 10)⟩,
      ⟨(some 3), none, .mv (.t 11)⟩])
    (.seq
     (.seq
      (.ops [⟨(some 12), none, .mv (.t 3)⟩,
        ⟨(some 13), none, .bin .lss (.t 12) (.c (.int .i64 1))⟩,
        ⟨(some 14), none, .mv (.t 13)⟩,
        ⟨(some 15), (some (14, false)), .mv (.t 3)⟩,
        ⟨(some 16), (some (14, false)), .bin .gtr (.t 15) (.c (.int .i64 64))⟩,
        ⟨(some 17), none, .pick (.t 14) (.c (.bool true)) (.t 16)⟩])
      (.cond (.t 17)
       (.seq
        (.ops [⟨(some 2), none, .mv (.c (.int .i64 3))⟩])
        (.ret))
       (.skip)))
     (.seq
      (.seq
       (.ops [⟨(some 4), none, .mv (.c (.int .i64 0))⟩])
       (.block 0 (.loop (.seq
          (.seq
           (.ops [⟨(some 18), none, .mv (.t 4)⟩,
             ⟨(some 19), none, .mv (.t 3)⟩,
             ⟨(some 20), none, .bin .lss (.t 18) (.t 19)⟩])
           (.cond (.t 20)
            (.skip)
            (.exit 0)))
          (.seq
           (.block 1 (.seq
             (.ops [⟨(some 23), none, .mv (.t 0)⟩,
               ⟨(some 24), none, .mv (.t 4)⟩,
               ⟨(some 25), none, .iaddrS 1 (.t 23) (.t 24)⟩,
               ⟨(some 26), none, .load none (.t 25)⟩,
               ⟨(some 27), none, .lenL (.t 26)⟩,
               ⟨(some 28), none, .mv (.t 3)⟩,
               ⟨(some 29), none, .bin .neq (.t 27) (.t 28)⟩])
             (.cond (.t 29)
              (.seq
               (.ops [⟨(some 2), none, .mv (.c (.int .i64 8))⟩])
               (.ret))
              (.skip))))
           (.ops [⟨(some 21), none, .mv (.t 4)⟩,
             ⟨(some 22), none, .bin .add (.t 21) (.c (.int .i64 1))⟩,
             ⟨(some 4), none, .mv (.t 22)⟩]))))))
      (.seq
       (.seq
        (.ops [⟨(some 5), none, .mv (.c (.int .i64 0))⟩])
        (.block 2 (.loop (.seq
           (.seq
            (.ops [⟨(some 30), none, .mv (.t 5)⟩,
              ⟨(some 31), none, .mv (.t 3)⟩,
              ⟨(some 32), none, .bin .lss (.t 30) (.t 31)⟩])
            (.cond (.t 32)
             (.skip)
             (.exit 2)))
           (.seq
            (.block 3 (.seq
              (.seq
               (.ops [⟨(some 35), none, .mv (.t 0)⟩,
                 ⟨(some 36), none, .mv (.t 5)⟩,
                 ⟨(some 37), none, .iaddrS 1 (.t 35) (.t 36)⟩,
                 ⟨(some 38), none, .load none (.t 37)⟩,
                 ⟨(some 39), none, .mv (.t 5)⟩,
                 ⟨(some 40), none, .iaddrS 1 (.t 38) (.t 39)⟩,
                 ⟨(some 41), none, .load none (.t 40)⟩,
                 ⟨(some 42), none, .un .not (.t 41)⟩])
               (.cond (.t 42)
                (.seq
                 (.ops [⟨(some 2), none, .mv (.c (.int .i64 1))⟩])
                 (.ret))
                (.skip)))
              (.seq
               (.ops [⟨(some 6), none, .mv (.c (.int .i64 0))⟩])
               (.block 4 (.loop (.seq
                  (.seq
                   (.ops [⟨(some 43), none, .mv (.t 6)⟩,
                     ⟨(some 44), none, .mv (.t 3)⟩,
                     ⟨(some 45), none, .bin .lss (.t 43) (.t 44)⟩])
                   (.cond (.t 45)
                    (.skip)
                    (.exit 4)))
                  (.seq
                   (.block 5 (.seq
                     (.seq
                      (.ops [⟨(some 48), none, .mv (.t 5)⟩,
                        ⟨(some 49), none, .mv (.t 6)⟩,
                        ⟨(some 50), none, .bin .neq (.t 48) (.t 49)⟩,
                        ⟨(some 51), none, .mv (.t 50)⟩,
                        ⟨(some 52), (some (51, true)), .mv (.t 0)⟩,
                        ⟨(some 53), (some (51, true)), .mv (.t 5)⟩,
                        ⟨(some 54), (some (51, true)), .iaddrS 1 (.t 52) (.t 53)⟩,
                        ⟨(some 55), (some (51, true)), .load none (.t 54)⟩,
                        ⟨(some 56), (some (51, true)), .mv (.t 6)⟩,
                        ⟨(some 57), (some (51, true)), .iaddrS 1 (.t 55) (.t 56)⟩,
                        ⟨(some 58), (some (51, true)), .load none (.t 57)⟩,
                        ⟨(some 59), none, .pick (.t 51) (.t 58) (.c (.bool false))⟩,
                        ⟨(some 60), none, .mv (.t 59)⟩,
                        ⟨(some 61), (some (60, true)), .mv (.t 0)⟩,
                        ⟨(some 62), (some (60, true)), .mv (.t 6)⟩,
                        ⟨(some 63), (some (60, true)), .iaddrS 1 (.t 61) (.t 62)⟩,
                        ⟨(some 64), (some (60, true)), .load none (.t 63)⟩,
                        ⟨(some 65), (some (60, true)), .mv (.t 5)⟩,
                        ⟨(some 66), (some (60, true)), .iaddrS 1 (.t 64) (.t 65)⟩,
                        ⟨(some 67), (some (60, true)), .load none (.t 66)⟩,
                        ⟨(some 68), none, .pick (.t 60) (.t 67) (.c (.bool false))⟩])
                      (.cond (.t 68)
                       (.seq
                        (.ops [⟨(some 2), none, .mv (.c (.int .i64 1))⟩])
                        (.ret))
                       (.skip)))
                     (.seq
                      (.ops [⟨(some 7), none, .mv (.c (.int .i64 0))⟩])
                      (.block 6 (.loop (.seq
                         (.seq
                          (.ops [⟨(some 69), none, .mv (.t 7)⟩,
                            ⟨(some 70), none, .mv (.t 3)⟩,
                            ⟨(some 71), none, .bin .lss (.t 69) (.t 70)⟩])
                          (.cond (.t 71)
                           (.skip)
                           (.exit 6)))
                         (.seq
                          (.block 7 (.seq
                            (.ops [⟨(some 74), none, .mv (.t 0)⟩,
                              ⟨(some 75), none, .mv (.t 5)⟩,
                              ⟨(some 76), none, .iaddrS 1 (.t 74) (.t 75)⟩,
                              ⟨(some 77), none, .load none (.t 76)⟩,
                              ⟨(some 78), none, .mv (.t 6)⟩,
                              ⟨(some 79), none, .iaddrS 1 (.t 77) (.t 78)⟩,
                              ⟨(some 80), none, .load none (.t 79)⟩,
                              ⟨(some 81), none, .mv (.t 80)⟩,
                              ⟨(some 82), (some (81, true)), .mv (.t 0)⟩,
                              ⟨(some 83), (some (81, true)), .mv (.t 6)⟩,
                              ⟨(some 84), (some (81, true)), .iaddrS 1 (.t 82) (.t 83)⟩,
                              ⟨(some 85), (some (81, true)), .load none (.t 84)⟩,
                              ⟨(some 86), (some (81, true)), .mv (.t 7)⟩,
                              ⟨(some 87), (some (81, true)), .iaddrS 1 (.t 85) (.t 86)⟩,
                              ⟨(some 88), (some (81, true)), .load none (.t 87)⟩,
                              ⟨(some 89), none, .pick (.t 81) (.t 88) (.c (.bool false))⟩,
                              ⟨(some 90), none, .mv (.t 89)⟩,
                              ⟨(some 91), (some (90, true)), .mv (.t 0)⟩,
                              ⟨(some 92), (some (90, true)), .mv (.t 5)⟩,
                              ⟨(some 93), (some (90, true)), .iaddrS 1 (.t 91) (.t 92)⟩,
                              ⟨(some 94), (some (90, true)), .load none (.t 93)⟩,
                              ⟨(some 95), (some (90, true)), .mv (.t 7)⟩,
                              ⟨(some 96), (some (90, true)), .iaddrS 1 (.t 94) (.t 95)⟩,
                              ⟨(some 97), (some (90, true)), .load none (.t 96)⟩,
                              ⟨(some 98), (some (90, true)), .un .not (.t 97)⟩,
                              ⟨(some 99), none, .pick (.t 90) (.t 98) (.c (.bool false))⟩])
                            (.cond (.t 99)
                             (.seq
                              (.ops [⟨(some 2), none, .mv (.c (.int .i64 1))⟩])
                              (.ret))
                             (.skip))))
                          (.ops [⟨(some 72), none, .mv (.t 7)⟩,
                            ⟨(some 73), none, .bin .add (.t 72) (.c (.int .i64 1))⟩,
                            ⟨(some 7), none, .mv (.t 73)⟩]))))))))
                   (.ops [⟨(some 46), none, .mv (.t 6)⟩,
                     ⟨(some 47), none, .bin .add (.t 46) (.c (.int .i64 1))⟩,
                     ⟨(some 6), none, .mv (.t 47)⟩]))))))))
            (.ops [⟨(some 33), none, .mv (.t 5)⟩,
              ⟨(some 34), none, .bin .add (.t 33) (.c (.int .i64 1))⟩,
              ⟨(some 5), none, .mv (.t 34)⟩]))))))
       (.seq
        (.seq
         (.ops [⟨(some 8), none, .mv (.c (.int .i64 0))⟩])
         (.block 8 (.loop (.seq
            (.seq
             (.ops [⟨(some 100), none, .mv (.t 8)⟩,
               ⟨(some 101), none, .mv (.t 3)⟩,
               ⟨(some 102), none, .bin .lss (.t 100) (.t 101)⟩])
             (.cond (.t 102)
              (.skip)
              (.exit 8)))
            (.seq
             (.block 9 (.seq
               (.ops [⟨(some 9), none, .mv (.c (.int .i64 0))⟩])
               (.block 10 (.loop (.seq
                  (.seq
                   (.ops [⟨(some 105), none, .mv (.t 9)⟩,
                     ⟨(some 106), none, .mv (.t 3)⟩,
                     ⟨(some 107), none, .bin .lss (.t 105) (.t 106)⟩])
                   (.cond (.t 107)
                    (.skip)
                    (.exit 10)))
                  (.seq
                   (.block 11 (.seq
                     (.ops [⟨(some 110), none, .mv (.t 0)⟩,
                       ⟨(some 111), none, .mv (.t 8)⟩,
                       ⟨(some 112), none, .mv (.t 9)⟩,
                       ⟨(some 113), none, .call 23 [(.t 110), (.t 111), (.t 112)]⟩,
                       ⟨(some 114), none, .bin .lss (.t 113) (.c (.int .i64 0))⟩,
                       ⟨(some 115), none, .mv (.t 114)⟩,
                       ⟨(some 116), (some (115, false)), .mv (.t 0)⟩,
                       ⟨(some 117), (some (115, false)), .mv (.t 8)⟩,
                       ⟨(some 118), (some (115, false)), .mv (.t 9)⟩,
                       ⟨(some 119), (some (115, false)), .call 24 [(.t 116), (.t 117), (.t 118)]⟩,
                       ⟨(some 120), (some (115, false)), .bin .lss (.t 119) (.c (.int .i64 0))⟩,
                       ⟨(some 121), none, .pick (.t 115) (.c (.bool true)) (.t 120)⟩])
                     (.cond (.t 121)
                      (.seq
                       (.ops [⟨(some 2), none, .mv (.c (.int .i64 1))⟩])
                       (.ret))
                      (.skip))))
                   (.ops [⟨(some 108), none, .mv (.t 9)⟩,
                     ⟨(some 109), none, .bin .add (.t 108) (.c (.int .i64 1))⟩,
                     ⟨(some 9), none, .mv (.t 109)⟩])))))))
             (.ops [⟨(some 103), none, .mv (.t 8)⟩,
               ⟨(some 104), none, .bin .add (.t 103) (.c (.int .i64 1))⟩,
               ⟨(some 8), none, .mv (.t 104)⟩]))))))
        (.seq
         (.ops [⟨(some 2), none, .mv (.c (.int .i64 0))⟩])
         (.ret)))))))⟩
theorem ok8 : FnOk Tryd.prog 8 a8 := FnOk.of Tryd.prog Tryd.func8 (by kernel_rfl)
/-- jalousie/lattice.New -/
def a9 : AFn := ⟨127, [.tmp 2, .tmp 3], .seq
   (.ops [⟨(some 2), none, .mv (.c .nilptr)⟩,
     ⟨(some 3), none, .mv (.c (.int .i64 0))⟩])
   (.seq
    (.ops [⟨(some 12), none, .mv (.t 0)⟩,
      ⟨(some 13), none, .lenL (.t 12)⟩,
      ⟨(some 4), none, .mv (.t 13)⟩])
    (.seq
     (.seq
      (.ops [⟨(some 14), none, .mv (.t 4)⟩,
        ⟨(some 15), none, .bin .lss (.t 14) (.c (.int .i64 1))⟩,
        ⟨(some 16), none, .mv (.t 15)⟩,
        ⟨(some 17), (some (16, false)), .mv (.t 4)⟩,
        ⟨(some 18), (some (16, false)), .bin .gtr (.t 17) (.c (.int .i64 64))⟩,
        ⟨(some 19), none, .pick (.t 16) (.c (.bool true)) (.t 18)⟩])
      (.cond (.t 19)
       (.seq
        (.ops [⟨(some 2), none, .mv (.c .nilptr)⟩,
          ⟨(some 3), none, .mv (.c (.int .i64 3))⟩])
        (.ret))
       (.skip)))
     (.seq
      (.draw [⟨⟨(some 20), none, .mv (.t 4)⟩, []⟩,
        ⟨⟨(some 21), none, .mksl 77 1 8 [(.int .u64 0)] (.t 20) (.t 20)⟩, [0, 0]⟩,
        ⟨⟨(some 22), none, .mv (.t 4)⟩, []⟩,
        ⟨⟨(some 23), none, .mksl 77 1 8 [(.int .u64 0)] (.t 22) (.t 22)⟩, [2, 2]⟩,
        ⟨⟨(some 24), none, .build [.nilslice, .nilslice, (.int .u32 0), (.int .i32 0), (.int .u32 0), .nilslice, .nilslice] [(0, 1), (1, 1), (2, 3), (5, 1), (6, 1)] [(0, (.t 21)), (1, (.t 23))]⟩, [1, 3]⟩,
        ⟨⟨(some 25), none, .box 76 (.t 24)⟩, [4]⟩,
        ⟨⟨(some 5), none, .mv (.t 25)⟩, [5, 0, 1, 2, 3, 4, 5]⟩] [0, 1, 0, 4, 15, 31, 63])
      (.seq
       (.seq
        (.ops [⟨(some 26), none, .mv (.t 0)⟩,
          ⟨(some 27), none, .lenL (.t 26)⟩,
          ⟨(some 28), none, .mv (.c (.int .i64 0))⟩])
        (.block 0 (.loop (.seq
           (.ops [⟨(some 29), none, .bin .lss (.t 28) (.t 27)⟩])
           (.seq
            (.cond (.t 29)
             (.skip)
             (.exit 0))
            (.seq
             (.block 1 (.seq
               (.ops [⟨(some 30), none, .mv (.t 28)⟩,
                 ⟨(some 31), none, .iaddrS 1 (.t 26) (.t 28)⟩,
                 ⟨(some 32), none, .load none (.t 31)⟩,
                 ⟨(some 6), none, .mv (.t 30)⟩,
                 ⟨(some 7), none, .mv (.t 32)⟩])
               (.seq
                (.seq
                 (.ops [⟨(some 33), none, .mv (.t 7)⟩,
                   ⟨(some 34), none, .lenL (.t 33)⟩,
                   ⟨(some 35), none, .mv (.t 4)⟩,
                   ⟨(some 36), none, .bin .neq (.t 34) (.t 35)⟩])
                 (.cond (.t 36)
                  (.seq
                   (.ops [⟨(some 2), none, .mv (.c .nilptr)⟩,
                     ⟨(some 3), none, .mv (.c (.int .i64 8))⟩])
                   (.ret))
                  (.skip)))
                (.seq
                 (.ops [⟨(some 37), none, .mv (.t 7)⟩,
                   ⟨(some 38), none, .lenL (.t 37)⟩,
                   ⟨(some 39), none, .mv (.c (.int .i64 0))⟩])
                 (.block 2 (.loop (.seq
                    (.ops [⟨(some 40), none, .bin .lss (.t 39) (.t 38)⟩])
                    (.seq
                     (.cond (.t 40)
                      (.skip)
                      (.exit 2))
                     (.seq
                      (.block 3 (.seq
                        (.ops [⟨(some 41), none, .mv (.t 39)⟩,
                          ⟨(some 42), none, .iaddrS 1 (.t 37) (.t 39)⟩,
                          ⟨(some 43), none, .load none (.t 42)⟩,
                          ⟨(some 8), none, .mv (.t 41)⟩,
                          ⟨(some 9), none, .mv (.t 43)⟩])
                        (.seq
                         (.ops [⟨(some 44), none, .mv (.t 9)⟩])
                         (.cond (.t 44)
                          (.seq
                           (.draw [⟨⟨(some 45), none, .mv (.t 5)⟩, []⟩,
                             ⟨⟨(some 46), none, .nilck (.t 45)⟩, [0]⟩,
                             ⟨⟨(some 47), none, .addr 0 (.t 46)⟩, [1]⟩,
                             ⟨⟨(some 48), none, .load none (.t 47)⟩, [2]⟩,
                             ⟨⟨(some 49), none, .mv (.t 6)⟩, []⟩,
                             ⟨⟨(some 50), none, .iaddrS 1 (.t 48) (.t 49)⟩, [3, 4]⟩,
                             ⟨⟨(some 51), none, .load none (.t 50)⟩, [5]⟩,
                             ⟨⟨(some 52), none, .mv (.t 8)⟩, []⟩,
                             ⟨⟨(some 53), none, .bin .shl (.c (.int .u64 1)) (.t 52)⟩, [7]⟩,
                             ⟨⟨(some 54), none, .bin .or (.t 51) (.t 53)⟩, [6, 8]⟩,
                             ⟨⟨(some 55), none, .iaddrS 1 (.t 48) (.t 49)⟩, [3, 4, 0, 1, 2, 3, 4, 5, 6, 7, 8, 9]⟩,
                             ⟨⟨none, none, .store 1 (.t 55) (.t 54)⟩, [10, 9, 0, 1, 2, 3, 4, 5, 6, 7, 8, 9]⟩] [0, 1, 3, 7, 0, 31, 63, 0, 128, 511, 1023, 2047])
                           (.draw [⟨⟨(some 56), none, .mv (.t 5)⟩, []⟩,
                             ⟨⟨(some 57), none, .nilck (.t 56)⟩, [0]⟩,
                             ⟨⟨(some 58), none, .addr 1 (.t 57)⟩, [1]⟩,
                             ⟨⟨(some 59), none, .load none (.t 58)⟩, [2]⟩,
                             ⟨⟨(some 60), none, .mv (.t 8)⟩, []⟩,
                             ⟨⟨(some 61), none, .iaddrS 1 (.t 59) (.t 60)⟩, [3, 4]⟩,
                             ⟨⟨(some 62), none, .load none (.t 61)⟩, [5]⟩,
                             ⟨⟨(some 63), none, .mv (.t 6)⟩, []⟩,
                             ⟨⟨(some 64), none, .bin .shl (.c (.int .u64 1)) (.t 63)⟩, [7]⟩,
                             ⟨⟨(some 65), none, .bin .or (.t 62) (.t 64)⟩, [6, 8]⟩,
                             ⟨⟨(some 66), none, .iaddrS 1 (.t 59) (.t 60)⟩, [3, 4, 0, 1, 2, 3, 4, 5, 6, 7, 8, 9]⟩,
                             ⟨⟨none, none, .store 1 (.t 66) (.t 65)⟩, [10, 9, 0, 1, 2, 3, 4, 5, 6, 7, 8, 9]⟩] [0, 1, 3, 7, 0, 31, 63, 0, 128, 511, 1023, 2047]))
                          (.skip)))))
                      (.ops [⟨(some 67), none, .bin .add (.t 39) (.c (.int .i64 1))⟩,
                        ⟨(some 39), none, .mv (.t 67)⟩]))))))))))
             (.ops [⟨(some 68), none, .bin .add (.t 28) (.c (.int .i64 1))⟩,
               ⟨(some 28), none, .mv (.t 68)⟩])))))))
       (.seq
        (.seq
         (.ops [⟨(some 69), none, .mv (.t 5)⟩,
           ⟨(some 70), none, .call 25 [(.t 69)]⟩,
           ⟨(some 71), none, .un .not (.t 70)⟩])
         (.cond (.t 71)
          (.seq
           (.ops [⟨(some 2), none, .mv (.c .nilptr)⟩,
             ⟨(some 3), none, .mv (.c (.int .i64 1))⟩])
           (.ret))
          (.skip)))
        (.seq
         (.seq
          (.ops [⟨(some 72), none, .mv (.t 4)⟩,
            ⟨(some 73), none, .mv (.c (.int .i64 0))⟩])
          (.block 4 (.loop (.seq
             (.ops [⟨(some 74), none, .bin .lss (.t 73) (.t 72)⟩])
             (.seq
              (.cond (.t 74)
               (.skip)
               (.exit 4))
              (.seq
               (.block 5 (.seq
                 (.ops [⟨(some 75), none, .mv (.t 73)⟩,
                   ⟨(some 10), none, .mv (.t 75)⟩])
                 (.seq
                  (.ops [⟨(some 76), none, .mv (.t 10)⟩,
                    ⟨(some 77), none, .mv (.c (.int .i64 0))⟩])
                  (.block 6 (.loop (.seq
                     (.ops [⟨(some 78), none, .bin .lss (.t 77) (.t 76)⟩])
                     (.seq
                      (.cond (.t 78)
                       (.skip)
                       (.exit 6))
                      (.seq
                       (.block 7 (.seq
                         (.ops [⟨(some 79), none, .mv (.t 77)⟩,
                           ⟨(some 11), none, .mv (.t 79)⟩])
                         (.seq
                          (.draw [⟨⟨(some 80), none, .mv (.t 5)⟩, []⟩,
                            ⟨⟨(some 81), none, .nilck (.t 80)⟩, [0]⟩,
                            ⟨⟨(some 82), none, .addr 0 (.t 81)⟩, [1]⟩,
                            ⟨⟨(some 83), none, .load none (.t 82)⟩, [2]⟩,
                            ⟨⟨(some 84), none, .mv (.t 10)⟩, []⟩,
                            ⟨⟨(some 85), none, .iaddrS 1 (.t 83) (.t 84)⟩, [3, 4]⟩,
                            ⟨⟨(some 86), none, .load none (.t 85)⟩, [5]⟩,
                            ⟨⟨(some 87), none, .mv (.t 5)⟩, []⟩,
                            ⟨⟨(some 88), none, .nilck (.t 87)⟩, [7]⟩,
                            ⟨⟨(some 89), none, .addr 0 (.t 88)⟩, [8]⟩,
                            ⟨⟨(some 90), none, .load none (.t 89)⟩, [9]⟩,
                            ⟨⟨(some 91), none, .mv (.t 11)⟩, []⟩,
                            ⟨⟨(some 92), none, .iaddrS 1 (.t 90) (.t 91)⟩, [10, 11]⟩,
                            ⟨⟨(some 93), none, .load none (.t 92)⟩, [12]⟩,
                            ⟨⟨(some 94), none, .bin .and (.t 86) (.t 93)⟩, [6, 13]⟩,
                            ⟨⟨(some 95), none, .mv (.t 5)⟩, []⟩,
                            ⟨⟨(some 96), none, .nilck (.t 95)⟩, [15]⟩,
                            ⟨⟨(some 97), none, .addr 0 (.t 96)⟩, [16]⟩,
                            ⟨⟨(some 98), none, .load none (.t 97)⟩, [17]⟩,
                            ⟨⟨(some 99), none, .call 26 [(.t 94), (.t 98)]⟩, [14, 18]⟩,
                            ⟨⟨(some 100), none, .bin .lss (.t 99) (.c (.int .i64 0))⟩, [19]⟩,
                            ⟨⟨(some 101), none, .mv (.t 100)⟩, [20, 19]⟩,
                            ⟨⟨(some 102), (some (101, false)), .mv (.t 5)⟩, [21]⟩,
                            ⟨⟨(some 103), (some (101, false)), .nilck (.t 102)⟩, [22, 21]⟩,
                            ⟨⟨(some 104), (some (101, false)), .addr 1 (.t 103)⟩, [23, 21]⟩,
                            ⟨⟨(some 105), (some (101, false)), .load none (.t 104)⟩, [24, 21]⟩,
                            ⟨⟨(some 106), (some (101, false)), .mv (.t 10)⟩, [21]⟩,
                            ⟨⟨(some 107), (some (101, false)), .iaddrS 1 (.t 105) (.t 106)⟩, [25, 26, 21]⟩,
                            ⟨⟨(some 108), (some (101, false)), .load none (.t 107)⟩, [27, 21]⟩,
                            ⟨⟨(some 109), (some (101, false)), .mv (.t 5)⟩, [21]⟩,
                            ⟨⟨(some 110), (some (101, false)), .nilck (.t 109)⟩, [29, 21]⟩,
                            ⟨⟨(some 111), (some (101, false)), .addr 1 (.t 110)⟩, [30, 21]⟩,
                            ⟨⟨(some 112), (some (101, false)), .load none (.t 111)⟩, [31, 21]⟩,
                            ⟨⟨(some 113), (some (101, false)), .mv (.t 11)⟩, [21]⟩,
                            ⟨⟨(some 114), (some (101, false)), .iaddrS 1 (.t 112) (.t 113)⟩, [32, 33, 21]⟩,
                            ⟨⟨(some 115), (some (101, false)), .load none (.t 114)⟩, [34, 21]⟩,
                            ⟨⟨(some 116), (some (101, false)), .bin .and (.t 108) (.t 115)⟩, [28, 35, 21]⟩,
                            ⟨⟨(some 117), (some (101, false)), .mv (.t 5)⟩, [21]⟩,
                            ⟨⟨(some 118), (some (101, false)), .nilck (.t 117)⟩, [37, 21]⟩,
                            ⟨⟨(some 119), (some (101, false)), .addr 1 (.t 118)⟩, [38, 21]⟩,
                            ⟨⟨(some 120), (some (101, false)), .load none (.t 119)⟩, [39, 21]⟩,
                            ⟨⟨(some 121), (some (101, false)), .call 26 [(.t 116), (.t 120)]⟩, [36, 40, 21, 21]⟩,
                            ⟨⟨(some 122), (some (101, false)), .bin .lss (.t 121) (.c (.int .i64 0))⟩, [41, 21]⟩,
                            ⟨⟨(some 123), none, .pick (.t 101) (.c (.bool true)) (.t 122)⟩, [21, 42]⟩] [0, 1, 3, 7, 0, 31, 63, 0, 128, 384, 896, 0, 3968, 8064, 16383, 0, 32768, 98304, 229376, 524287, 1048575, 2097151, 4194303, 8388607, 16777215, 33554431, 4194303, 134217727, 268435455, 4194303, 541065215, 1614807039, 3762290687, 4194303, 16647192575, 33827061759, 68719476735, 4194303, 137443147775, 412321054719, 962076868607, 2199023255551, 4398046511103, 8796093022207])
                          (.cond (.t 123)
                           (.seq
                            (.ops [⟨(some 2), none, .mv (.c .nilptr)⟩,
                              ⟨(some 3), none, .mv (.c (.int .i64 1))⟩])
                            (.ret))
                           (.skip)))))
                       (.ops [⟨(some 124), none, .bin .add (.t 77) (.c (.int .i64 1))⟩,
                         ⟨(some 77), none, .mv (.t 124)⟩])))))))))
               (.ops [⟨(some 125), none, .bin .add (.t 73) (.c (.int .i64 1))⟩,
                 ⟨(some 73), none, .mv (.t 125)⟩])))))))
         (.seq
          (.ops [⟨(some 126), none, .mv (.t 5)⟩,
            ⟨(some 2), none, .mv (.t 126)⟩,
            ⟨(some 3), none, .mv (.c (.int .i64 0))⟩])
          (.ret))))))))⟩
theorem ok9 : FnOk Tryd.prog 9 a9 := FnOk.of Tryd.prog Tryd.func9 (by kernel_rfl)
/-- jalousie/buffers.New -/
def a10 : AFn := ⟨9, [.tmp 2], .seq
   (.ops [⟨(some 2), none, .mv (.c .nilptr)⟩])
   (.seq
    (.ops [⟨(some 3), none, .mv (.t 0)⟩,
      ⟨(some 4), none, .mv (.t 0)⟩,
      ⟨(some 5), none, .call 27 [(.t 4)]⟩,
      ⟨(some 6), none, .mksl 87 2 32 [.nilslice, (.int .i64 0)] (.t 5) (.t 5)⟩,
      ⟨(some 7), none, .build [.nilptr, .nilslice] [(0, 1), (1, 1)] [(0, (.t 3)), (1, (.t 6))]⟩,
      ⟨(some 8), none, .box 82 (.t 7)⟩,
      ⟨(some 2), none, .mv (.t 8)⟩])
    (.ret))⟩
theorem ok10 : FnOk Tryd.prog 10 a10 := FnOk.of Tryd.prog Tryd.func10 (by kernel_rfl)
/-- (*jalousie/buffers.Buffers).Put -/
def a11 : AFn := ⟨53, [.tmp 6, .tmp 7], .seq
   (.ops [⟨(some 6), none, .mv (.c (.int .i64 0))⟩,
     ⟨(some 7), none, .mv (.c (.int .i64 0))⟩])
   (.seq
    (.ops [⟨(some 9), none, .mv (.t 0)⟩,
      ⟨(some 10), none, .mv (.t 1)⟩,
      ⟨(some 11), none, .call 28 [(.t 9), (.t 10)]⟩,
      ⟨(some 8), none, .mv (.t 11)⟩])
    (.seq
     (.block 0 (.seq
       (.ops [⟨(some 13), none, .mv (.t 0)⟩,
         ⟨(some 14), none, .eq false 31 (.pointer 82) (.t 13) (.c .nilptr)⟩,
         ⟨(some 12), none, .mv (.t 14)⟩])
       (.cond (.t 12)
        (.seq
         (.ops [⟨(some 6), none, .mv (.c (.int .i64 0))⟩,
           ⟨(some 7), none, .mv (.c (.int .i64 2))⟩])
         (.ret))
        (.seq
         (.ops [⟨(some 16), none, .mv (.t 8)⟩,
           ⟨(some 17), none, .eq false 83 (.pointer 87) (.t 16) (.c .nilptr)⟩,
           ⟨(some 15), none, .mv (.t 17)⟩])
         (.cond (.t 15)
          (.seq
           (.ops [⟨(some 6), none, .mv (.c (.int .i64 0))⟩,
             ⟨(some 7), none, .mv (.c (.int .i64 1))⟩])
           (.ret))
          (.seq
           (.ops [⟨(some 19), none, .mv (.t 2)⟩,
             ⟨(some 20), none, .lenS (.t 19)⟩,
             ⟨(some 21), none, .bin .gtr (.t 20) (.c (.int .i64 4096))⟩,
             ⟨(some 18), none, .mv (.t 21)⟩])
           (.cond (.t 18)
            (.seq
             (.ops [⟨(some 6), none, .mv (.c (.int .i64 0))⟩,
               ⟨(some 7), none, .mv (.c (.int .i64 3))⟩])
             (.ret))
            (.seq
             (.ops [⟨(some 23), none, .mv (.t 8)⟩,
               ⟨(some 24), none, .nilck (.t 23)⟩,
               ⟨(some 25), none, .addr 0 (.t 24)⟩,
               ⟨(some 26), none, .load none (.t 25)⟩,
               ⟨(some 27), none, .lenL (.t 26)⟩,
               ⟨(some 28), none, .bin .eql (.t 27) (.c (.int .i64 8))⟩,
               ⟨(some 22), none, .mv (.t 28)⟩])
             (.cond (.t 22)
              (.seq
               (.ops [⟨(some 6), none, .mv (.c (.int .i64 0))⟩,
                 ⟨(some 7), none, .mv (.c (.int .i64 6))⟩])
               (.ret))
              (.skip))))))))))
     (.seq
      (.ops [⟨(some 29), none, .mv (.t 8)⟩,
        ⟨(some 30), none, .nilck (.t 29)⟩,
        ⟨(some 31), none, .addr 1 (.t 30)⟩,
        ⟨(some 32), none, .load none (.t 31)⟩,
        ⟨(some 6), none, .mv (.t 32)⟩])
      (.seq
       (.ops [⟨(some 33), none, .mv (.t 8)⟩,
         ⟨(some 34), none, .mv (.t 8)⟩,
         ⟨(some 35), none, .nilck (.t 34)⟩,
         ⟨(some 36), none, .addr 0 (.t 35)⟩,
         ⟨(some 37), none, .load none (.t 36)⟩,
         ⟨(some 38), none, .mv (.t 6)⟩,
         ⟨(some 39), none, .mv (.t 2)⟩,
         ⟨(some 40), none, .build [(.int .i64 0), (.str [])] [(0, 1), (1, 1)] [(0, (.t 38)), (1, (.t 39))]⟩,
         ⟨(some 41), none, .bslice 90 2 1 [(.int .i64 0), (.str [])] [(0, (.t 40))]⟩,
         ⟨(some 42), none, .call 29 [(.t 37), (.c (.int .i64 0)), (.t 41)]⟩,
         ⟨(some 43), none, .nilck (.t 33)⟩,
         ⟨(some 44), none, .addr 0 (.t 43)⟩,
         ⟨none, none, .store 1 (.t 44) (.t 42)⟩])
       (.seq
        (.ops [⟨(some 45), none, .mv (.t 8)⟩,
          ⟨(some 46), none, .nilck (.t 45)⟩,
          ⟨(some 47), none, .addr 1 (.t 46)⟩,
          ⟨(some 48), none, .load none (.t 47)⟩,
          ⟨(some 49), none, .bin .add (.t 48) (.c (.int .i64 1))⟩,
          ⟨(some 50), none, .nilck (.t 45)⟩,
          ⟨(some 51), none, .addr 1 (.t 50)⟩,
          ⟨none, none, .store 1 (.t 51) (.t 49)⟩])
        (.seq
         (.ops [⟨(some 52), none, .mv (.t 6)⟩,
           ⟨(some 6), none, .mv (.t 52)⟩,
           ⟨(some 7), none, .mv (.c (.int .i64 0))⟩])
         (.ret)))))))⟩
theorem ok11 : FnOk Tryd.prog 11 a11 := FnOk.of Tryd.prog Tryd.func11 (by kernel_rfl)
/-- (*jalousie/jalousieref22.Buffers).Put -/
def a12 : AFn := ⟨56, [.tmp 6, .tmp 7], .seq
   (.ops [⟨(some 6), none, .mv (.c (.int .i64 0))⟩,
     ⟨(some 7), none, .mv (.c (.int .i64 0))⟩])
   (.seq
    (.seq
     (.ops [⟨(some 10), none, .mv (.t 0)⟩,
       ⟨(some 11), none, .mv (.t 1)⟩,
       ⟨(some 12), none, .call 30 [(.t 10), (.t 11)]⟩,
       ⟨(some 13), none, .un .not (.t 12)⟩])
     (.cond (.t 13)
      (.seq
       (.ops [⟨(some 6), none, .mv (.c (.int .i64 0))⟩,
         ⟨(some 7), none, .mv (.c (.int .i64 1))⟩])
       (.ret))
      (.skip)))
    (.seq
     (.seq
      (.ops [⟨(some 14), none, .mv (.t 2)⟩,
        ⟨(some 15), none, .lenS (.t 14)⟩,
        ⟨(some 16), none, .bin .gtr (.t 15) (.c (.int .i64 4096))⟩])
      (.cond (.t 16)
       (.seq
        (.ops [⟨(some 6), none, .mv (.c (.int .i64 0))⟩,
          ⟨(some 7), none, .mv (.c (.int .i64 3))⟩])
        (.ret))
       (.skip)))
     (.seq
      (.seq
       (.ops [⟨(some 17), none, .mv (.t 0)⟩,
         ⟨(some 18), none, .mv (.t 1)⟩,
         ⟨(some 19), none, .call 31 [(.t 17), (.t 18)]⟩,
         ⟨(some 20), none, .bin .eql (.t 19) (.c (.int .i64 0))⟩])
       (.cond (.t 20)
        (.seq
         (.ops [⟨(some 6), none, .mv (.c (.int .i64 0))⟩,
           ⟨(some 7), none, .mv (.c (.int .i64 6))⟩])
         (.ret))
        (.skip)))
      (.seq
       (.ops [⟨(some 8), none, .mv (.c (.int .i64 0))⟩])
       (.seq
        (.seq
         (.ops [⟨(some 9), none, .mv (.c (.int .i64 0))⟩])
         (.block 0 (.loop (.seq
            (.seq
             (.ops [⟨(some 21), none, .mv (.t 9)⟩,
               ⟨(some 22), none, .mv (.t 0)⟩,
               ⟨(some 23), none, .nilck (.t 22)⟩,
               ⟨(some 24), none, .addr 1 (.t 23)⟩,
               ⟨(some 25), none, .load none (.t 24)⟩,
               ⟨(some 26), none, .lenL (.t 25)⟩,
               ⟨(some 27), none, .bin .lss (.t 21) (.t 26)⟩])
             (.cond (.t 27)
              (.skip)
              (.exit 0)))
            (.seq
             (.block 1 (.seq
               (.ops [⟨(some 30), none, .mv (.t 0)⟩,
                 ⟨(some 31), none, .nilck (.t 30)⟩,
                 ⟨(some 32), none, .addr 1 (.t 31)⟩,
                 ⟨(some 33), none, .load none (.t 32)⟩,
                 ⟨(some 34), none, .mv (.t 9)⟩,
                 ⟨(some 35), none, .iaddrS 4 (.t 33) (.t 34)⟩,
                 ⟨(some 36), none, .addr 0 (.t 35)⟩,
                 ⟨(some 37), none, .load none (.t 36)⟩,
                 ⟨(some 38), none, .mv (.t 1)⟩,
                 ⟨(some 39), none, .bin .eql (.t 37) (.t 38)⟩])
               (.cond (.t 39)
                (.ops [⟨(some 40), none, .mv (.t 8)⟩,
                  ⟨(some 41), none, .bin .add (.t 40) (.c (.int .i64 1))⟩,
                  ⟨(some 8), none, .mv (.t 41)⟩])
                (.skip))))
             (.ops [⟨(some 28), none, .mv (.t 9)⟩,
               ⟨(some 29), none, .bin .add (.t 28) (.c (.int .i64 1))⟩,
               ⟨(some 9), none, .mv (.t 29)⟩]))))))
        (.seq
         (.ops [⟨(some 42), none, .mv (.t 0)⟩,
           ⟨(some 43), none, .mv (.t 0)⟩,
           ⟨(some 44), none, .nilck (.t 43)⟩,
           ⟨(some 45), none, .addr 1 (.t 44)⟩,
           ⟨(some 46), none, .load none (.t 45)⟩,
           ⟨(some 47), none, .mv (.t 1)⟩,
           ⟨(some 48), none, .mv (.t 8)⟩,
           ⟨(some 49), none, .mv (.t 2)⟩,
           ⟨(some 50), none, .build [(.int .i64 0), (.int .i64 0), (.str []), (.bool false)] [(0, 1), (1, 1), (2, 1), (3, 1)] [(0, (.t 47)), (1, (.t 48)), (2, (.t 49))]⟩,
           ⟨(some 51), none, .bslice 93 4 1 [(.int .i64 0), (.int .i64 0), (.str []), (.bool false)] [(0, (.t 50))]⟩,
           ⟨(some 52), none, .append 93 4 40 (.t 46) (.t 51)⟩,
           ⟨(some 53), none, .nilck (.t 42)⟩,
           ⟨(some 54), none, .addr 1 (.t 53)⟩,
           ⟨none, none, .store 1 (.t 54) (.t 52)⟩])
         (.seq
          (.ops [⟨(some 55), none, .mv (.t 8)⟩,
            ⟨(some 6), none, .mv (.t 55)⟩,
            ⟨(some 7), none, .mv (.c (.int .i64 0))⟩])
          (.ret))))))))⟩
theorem ok12 : FnOk Tryd.prog 12 a12 := FnOk.of Tryd.prog Tryd.func12 (by kernel_rfl)
/-- (*jalousie/buffers.Buffers).Drop -/
def a13 : AFn := ⟨35, [.tmp 6], .seq
   (.ops [⟨(some 6), none, .mv (.c (.int .i64 0))⟩])
   (.seq
    (.ops [⟨(some 9), none, .mv (.t 0)⟩,
      ⟨(some 10), none, .mv (.t 1)⟩,
      ⟨(some 11), none, .call 28 [(.t 9), (.t 10)]⟩,
      ⟨(some 7), none, .mv (.t 11)⟩])
    (.seq
     (.ops [⟨(some 12), none, .mv (.t 7)⟩,
       ⟨(some 13), none, .mv (.t 2)⟩,
       ⟨(some 14), none, .call 32 [(.t 12), (.t 13)]⟩,
       ⟨(some 8), none, .mv (.t 14)⟩])
     (.seq
      (.block 0 (.seq
        (.ops [⟨(some 16), none, .mv (.t 0)⟩,
          ⟨(some 17), none, .eq false 31 (.pointer 82) (.t 16) (.c .nilptr)⟩,
          ⟨(some 15), none, .mv (.t 17)⟩])
        (.cond (.t 15)
         (.seq
          (.ops [⟨(some 6), none, .mv (.c (.int .i64 2))⟩])
          (.ret))
         (.seq
          (.ops [⟨(some 19), none, .mv (.t 7)⟩,
            ⟨(some 20), none, .eq false 83 (.pointer 87) (.t 19) (.c .nilptr)⟩,
            ⟨(some 18), none, .mv (.t 20)⟩])
          (.cond (.t 18)
           (.seq
            (.ops [⟨(some 6), none, .mv (.c (.int .i64 1))⟩])
            (.ret))
           (.seq
            (.ops [⟨(some 22), none, .mv (.t 8)⟩,
              ⟨(some 23), none, .bin .lss (.t 22) (.c (.int .i64 0))⟩,
              ⟨(some 21), none, .mv (.t 23)⟩])
            (.cond (.t 21)
             (.seq
              (.ops [⟨(some 6), none, .mv (.c (.int .i64 4))⟩])
              (.ret))
             (.skip))))))))
      (.seq
       (.ops [⟨(some 24), none, .mv (.t 7)⟩,
         ⟨(some 25), none, .mv (.t 7)⟩,
         ⟨(some 26), none, .nilck (.t 25)⟩,
         ⟨(some 27), none, .addr 0 (.t 26)⟩,
         ⟨(some 28), none, .load none (.t 27)⟩,
         ⟨(some 29), none, .mv (.t 8)⟩,
         ⟨(some 30), none, .mv (.t 8)⟩,
         ⟨(some 31), none, .bin .add (.t 30) (.c (.int .i64 1))⟩,
         ⟨(some 32), none, .call 33 [(.t 28), (.t 29), (.t 31)]⟩,
         ⟨(some 33), none, .nilck (.t 24)⟩,
         ⟨(some 34), none, .addr 0 (.t 33)⟩,
         ⟨none, none, .store 1 (.t 34) (.t 32)⟩])
       (.seq
        (.ops [⟨(some 6), none, .mv (.c (.int .i64 0))⟩])
        (.ret))))))⟩
theorem ok13 : FnOk Tryd.prog 13 a13 := FnOk.of Tryd.prog Tryd.func13 (by kernel_rfl)
/-- (*jalousie/jalousieref22.Buffers).Drop -/
def a14 : AFn := ⟨25, [.tmp 6], .seq
   (.ops [⟨(some 6), none, .mv (.c (.int .i64 0))⟩])
   (.seq
    (.seq
     (.ops [⟨(some 8), none, .mv (.t 0)⟩,
       ⟨(some 9), none, .mv (.t 1)⟩,
       ⟨(some 10), none, .call 30 [(.t 8), (.t 9)]⟩,
       ⟨(some 11), none, .un .not (.t 10)⟩])
     (.cond (.t 11)
      (.seq
       (.ops [⟨(some 6), none, .mv (.c (.int .i64 1))⟩])
       (.ret))
      (.skip)))
    (.seq
     (.ops [⟨(some 12), none, .mv (.t 0)⟩,
       ⟨(some 13), none, .mv (.t 1)⟩,
       ⟨(some 14), none, .mv (.t 2)⟩,
       ⟨(some 15), none, .call 34 [(.t 12), (.t 13), (.t 14)]⟩,
       ⟨(some 7), none, .mv (.t 15)⟩])
     (.seq
      (.seq
       (.ops [⟨(some 16), none, .mv (.t 7)⟩,
         ⟨(some 17), none, .bin .lss (.t 16) (.c (.int .i64 0))⟩])
       (.cond (.t 17)
        (.seq
         (.ops [⟨(some 6), none, .mv (.c (.int .i64 4))⟩])
         (.ret))
        (.skip)))
      (.seq
       (.ops [⟨(some 18), none, .mv (.t 0)⟩,
         ⟨(some 19), none, .nilck (.t 18)⟩,
         ⟨(some 20), none, .addr 1 (.t 19)⟩,
         ⟨(some 21), none, .load none (.t 20)⟩,
         ⟨(some 22), none, .mv (.t 7)⟩,
         ⟨(some 23), none, .iaddrS 4 (.t 21) (.t 22)⟩,
         ⟨(some 24), none, .addr 3 (.t 23)⟩,
         ⟨none, none, .store 1 (.t 24) (.c (.bool true))⟩])
       (.seq
        (.ops [⟨(some 6), none, .mv (.c (.int .i64 0))⟩])
        (.ret))))))⟩
theorem ok14 : FnOk Tryd.prog 14 a14 := FnOk.of Tryd.prog Tryd.func14 (by kernel_rfl)
/-- jalousie/jalousielaw22.tells -/
def a15 : AFn := ⟨115, [.tmp 8], .seq
   (.ops [⟨(some 8), none, .mv (.c (.bool false))⟩])
   (.seq
    (.ops [⟨(some 21), none, .mv (.t 0)⟩,
      ⟨(some 22), none, .mv (.t 2)⟩,
      ⟨(some 23), none, .mv (.t 3)⟩,
      ⟨(some 24), none, .call 18 [(.t 21), (.t 22), (.t 23)]⟩,
      ⟨(some 20), none, .mv (.t 24)⟩,
      ⟨(some 25), none, .ext (.t 20) 0⟩,
      ⟨(some 26), none, .ext (.t 20) 1⟩,
      ⟨(some 9), none, .mv (.t 25)⟩,
      ⟨(some 10), none, .mv (.t 26)⟩])
    (.seq
     (.ops [⟨(some 28), none, .mv (.t 1)⟩,
       ⟨(some 29), none, .mv (.t 2)⟩,
       ⟨(some 30), none, .mv (.t 3)⟩,
       ⟨(some 31), none, .call 35 [(.t 28), (.t 29), (.t 30)]⟩,
       ⟨(some 27), none, .mv (.t 31)⟩,
       ⟨(some 32), none, .ext (.t 27) 0⟩,
       ⟨(some 33), none, .ext (.t 27) 1⟩,
       ⟨(some 11), none, .mv (.t 32)⟩,
       ⟨(some 12), none, .mv (.t 33)⟩])
     (.seq
      (.ops [⟨(some 35), none, .mv (.t 0)⟩,
        ⟨(some 36), none, .mv (.t 2)⟩,
        ⟨(some 37), none, .call 22 [(.t 35), (.t 36)]⟩,
        ⟨(some 34), none, .mv (.t 37)⟩,
        ⟨(some 38), none, .ext (.t 34) 0⟩,
        ⟨(some 39), none, .ext (.t 34) 1⟩,
        ⟨(some 13), none, .mv (.t 38)⟩,
        ⟨(some 14), none, .mv (.t 39)⟩])
      (.seq
       (.ops [⟨(some 40), none, .mv (.t 1)⟩,
         ⟨(some 41), none, .mv (.t 2)⟩,
         ⟨(some 42), none, .call 36 [(.t 40), (.t 41)]⟩,
         ⟨(some 15), none, .mv (.t 42)⟩])
       (.seq
        (.ops [⟨(some 16), none, .mv (.c (.int .i64 0))⟩])
        (.seq
         (.seq
          (.ops [⟨(some 43), none, .mv (.t 15)⟩,
            ⟨(some 44), none, .lenL (.t 43)⟩,
            ⟨(some 45), none, .bin .gtr (.t 44) (.c (.int .i64 0))⟩])
          (.cond (.t 45)
           (.ops [⟨(some 46), none, .mv (.t 15)⟩,
             ⟨(some 47), none, .iaddrS 1 (.t 46) (.c (.int .i64 0))⟩,
             ⟨(some 48), none, .load none (.t 47)⟩,
             ⟨(some 16), none, .mv (.t 48)⟩])
           (.skip)))
         (.seq
          (.ops [⟨(some 49), none, .mv (.t 0)⟩,
            ⟨(some 50), none, .mv (.t 2)⟩,
            ⟨(some 51), none, .call 19 [(.t 49), (.t 50)]⟩,
            ⟨(some 17), none, .mv (.t 51)⟩])
          (.seq
           (.ops [⟨(some 52), none, .mv (.t 1)⟩,
             ⟨(some 53), none, .mv (.t 2)⟩,
             ⟨(some 54), none, .call 37 [(.t 52), (.t 53)]⟩,
             ⟨(some 18), none, .mv (.t 54)⟩])
           (.seq
            (.seq
             (.ops [⟨(some 55), none, .mv (.t 9)⟩,
               ⟨(some 56), none, .mv (.t 11)⟩,
               ⟨(some 57), none, .bin .neq (.t 55) (.t 56)⟩,
               ⟨(some 58), none, .mv (.t 57)⟩,
               ⟨(some 59), (some (58, false)), .mv (.t 10)⟩,
               ⟨(some 60), (some (58, false)), .mv (.t 12)⟩,
               ⟨(some 61), (some (58, false)), .eq true 4 .bool (.t 59) (.t 60)⟩,
               ⟨(some 62), none, .pick (.t 58) (.c (.bool true)) (.t 61)⟩,
               ⟨(some 63), none, .mv (.t 62)⟩,
               ⟨(some 64), (some (63, false)), .mv (.t 13)⟩,
               ⟨(some 65), (some (63, false)), .mv (.t 16)⟩,
               ⟨(some 66), (some (63, false)), .bin .neq (.t 64) (.t 65)⟩,
               ⟨(some 67), none, .pick (.t 63) (.c (.bool true)) (.t 66)⟩,
               ⟨(some 68), none, .mv (.t 67)⟩,
               ⟨(some 69), (some (68, false)), .mv (.t 14)⟩,
               ⟨(some 70), (some (68, false)), .mv (.t 15)⟩,
               ⟨(some 71), (some (68, false)), .lenL (.t 70)⟩,
               ⟨(some 72), (some (68, false)), .bin .gtr (.t 71) (.c (.int .i64 0))⟩,
               ⟨(some 73), (some (68, false)), .eq true 4 .bool (.t 69) (.t 72)⟩,
               ⟨(some 74), none, .pick (.t 68) (.c (.bool true)) (.t 73)⟩,
               ⟨(some 75), none, .mv (.t 74)⟩,
               ⟨(some 76), (some (75, false)), .mv (.t 0)⟩,
               ⟨(some 77), (some (75, false)), .mv (.t 2)⟩,
               ⟨(some 78), (some (75, false)), .call 20 [(.t 76), (.t 77)]⟩,
               ⟨(some 79), (some (75, false)), .mv (.t 1)⟩,
               ⟨(some 80), (some (75, false)), .mv (.t 2)⟩,
               ⟨(some 81), (some (75, false)), .call 31 [(.t 79), (.t 80)]⟩,
               ⟨(some 82), (some (75, false)), .bin .neq (.t 78) (.t 81)⟩,
               ⟨(some 83), none, .pick (.t 75) (.c (.bool true)) (.t 82)⟩,
               ⟨(some 84), none, .mv (.t 83)⟩,
               ⟨(some 85), (some (84, false)), .mv (.t 17)⟩,
               ⟨(some 86), (some (84, false)), .lenL (.t 85)⟩,
               ⟨(some 87), (some (84, false)), .bin .mul (.c (.int .i64 2)) (.t 86)⟩,
               ⟨(some 88), (some (84, false)), .mv (.t 18)⟩,
               ⟨(some 89), (some (84, false)), .lenL (.t 88)⟩,
               ⟨(some 90), (some (84, false)), .bin .neq (.t 87) (.t 89)⟩,
               ⟨(some 91), none, .pick (.t 84) (.c (.bool true)) (.t 90)⟩])
             (.cond (.t 91)
              (.seq
               (.ops [⟨(some 8), none, .mv (.c (.bool false))⟩])
               (.ret))
              (.skip)))
            (.seq
             (.seq
              (.ops [⟨(some 19), none, .mv (.c (.int .i64 0))⟩])
              (.block 0 (.loop (.seq
                 (.seq
                  (.ops [⟨(some 92), none, .mv (.t 19)⟩,
                    ⟨(some 93), none, .mv (.t 17)⟩,
                    ⟨(some 94), none, .lenL (.t 93)⟩,
                    ⟨(some 95), none, .bin .lss (.t 92) (.t 94)⟩])
                  (.cond (.t 95)
                   (.skip)
                   (.exit 0)))
                 (.seq
                  (.block 1 (.seq
                    (.draw [⟨⟨(some 98), none, .mv (.t 17)⟩, []⟩,
                      ⟨⟨(some 99), none, .mv (.t 19)⟩, []⟩,
                      ⟨⟨(some 100), none, .iaddrS 2 (.t 98) (.t 99)⟩, [0, 1]⟩,
                      ⟨⟨(some 101), none, .load (some 2) (.t 100)⟩, [2]⟩,
                      ⟨⟨(some 102), none, .mv (.t 18)⟩, []⟩,
                      ⟨⟨(some 103), none, .mv (.t 19)⟩, []⟩,
                      ⟨⟨(some 104), none, .bin .mul (.c (.int .i64 2)) (.t 103)⟩, [5]⟩,
                      ⟨⟨(some 105), none, .iaddrS 1 (.t 102) (.t 104)⟩, [4, 6]⟩,
                      ⟨⟨(some 106), none, .load none (.t 105)⟩, [7]⟩,
                      ⟨⟨(some 107), none, .mv (.t 18)⟩, []⟩,
                      ⟨⟨(some 108), none, .mv (.t 19)⟩, []⟩,
                      ⟨⟨(some 109), none, .bin .mul (.c (.int .i64 2)) (.t 108)⟩, [10]⟩,
                      ⟨⟨(some 110), none, .bin .add (.t 109) (.c (.int .i64 1))⟩, [11]⟩,
                      ⟨⟨(some 111), none, .iaddrS 1 (.t 107) (.t 110)⟩, [9, 12]⟩,
                      ⟨⟨(some 112), none, .load none (.t 111)⟩, [13]⟩,
                      ⟨⟨(some 113), none, .build [(.int .i64 0), (.int .i64 0)] [(0, 1), (1, 1)] [(0, (.t 106)), (1, (.t 112))]⟩, [8, 14]⟩,
                      ⟨⟨(some 114), none, .eq true 53 (.struct #[⟨"Label", 3, 0, false, "", "", 0⟩, ⟨"N", 3, 1, false, "", "", 8⟩]) (.t 101) (.t 113)⟩, [3, 15]⟩] [0, 0, 3, 7, 0, 0, 32, 112, 240, 0, 0, 1024, 3072, 7680, 15872, 32752, 65535])
                    (.cond (.t 114)
                     (.seq
                      (.ops [⟨(some 8), none, .mv (.c (.bool false))⟩])
                      (.ret))
                     (.skip))))
                  (.ops [⟨(some 96), none, .mv (.t 19)⟩,
                    ⟨(some 97), none, .bin .add (.t 96) (.c (.int .i64 1))⟩,
                    ⟨(some 19), none, .mv (.t 97)⟩]))))))
             (.seq
              (.ops [⟨(some 8), none, .mv (.c (.bool true))⟩])
              (.ret))))))))))))⟩
theorem ok15 : FnOk Tryd.prog 15 a15 := FnOk.of Tryd.prog Tryd.func15 (by kernel_rfl)
/-- jalousie/lattice.Rank -/
def a16 : AFn := ⟨75, [.tmp 4, .tmp 5], .seq
   (.ops [⟨(some 4), none, .mv (.c .nilptr)⟩,
     ⟨(some 5), none, .mv (.c (.int .i64 0))⟩])
   (.seq
    (.seq
     (.ops [⟨(some 10), none, .mv (.t 0)⟩,
       ⟨(some 11), none, .bin .lss (.t 10) (.c (.int .i64 1))⟩,
       ⟨(some 12), none, .mv (.t 11)⟩,
       ⟨(some 13), (some (12, false)), .mv (.t 0)⟩,
       ⟨(some 14), (some (12, false)), .bin .gtr (.t 13) (.c (.int .i64 64))⟩,
       ⟨(some 15), none, .pick (.t 12) (.c (.bool true)) (.t 14)⟩,
       ⟨(some 16), none, .mv (.t 15)⟩,
       ⟨(some 17), (some (16, false)), .mv (.t 1)⟩,
       ⟨(some 18), (some (16, false)), .bin .lss (.t 17) (.c (.int .i64 0))⟩,
       ⟨(some 19), none, .pick (.t 16) (.c (.bool true)) (.t 18)⟩,
       ⟨(some 20), none, .mv (.t 19)⟩,
       ⟨(some 21), (some (20, false)), .mv (.t 1)⟩,
       ⟨(some 22), (some (20, false)), .bin .gtr (.t 21) (.c (.int .i64 6))⟩,
       ⟨(some 23), none, .pick (.t 20) (.c (.bool true)) (.t 22)⟩,
       ⟨(some 24), none, .mv (.t 23)⟩,
       ⟨(some 25), (some (24, false)), .mv (.t 0)⟩,
       ⟨(some 26), (some (24, false)), .mv (.t 1)⟩,
       ⟨(some 27), (some (24, false)), .bin .shl (.t 25) (.t 26)⟩,
       ⟨(some 28), (some (24, false)), .bin .gtr (.t 27) (.c (.int .i64 64))⟩,
       ⟨(some 29), none, .pick (.t 24) (.c (.bool true)) (.t 28)⟩])
     (.cond (.t 29)
      (.seq
       (.ops [⟨(some 4), none, .mv (.c .nilptr)⟩,
         ⟨(some 5), none, .mv (.c (.int .i64 1))⟩])
       (.ret))
      (.skip)))
    (.seq
     (.ops [⟨(some 30), none, .mv (.t 0)⟩,
       ⟨(some 31), none, .mv (.t 1)⟩,
       ⟨(some 32), none, .bin .shl (.t 30) (.t 31)⟩,
       ⟨(some 6), none, .mv (.t 32)⟩])
     (.seq
      (.ops [⟨(some 33), none, .mv (.t 6)⟩,
        ⟨(some 34), none, .mksl 59 1 24 [.nilslice] (.t 33) (.t 33)⟩,
        ⟨(some 7), none, .mv (.t 34)⟩])
      (.seq
       (.seq
        (.ops [⟨(some 35), none, .mv (.t 6)⟩,
          ⟨(some 36), none, .mv (.c (.int .i64 0))⟩])
        (.block 0 (.loop (.seq
           (.ops [⟨(some 37), none, .bin .lss (.t 36) (.t 35)⟩])
           (.seq
            (.cond (.t 37)
             (.skip)
             (.exit 0))
            (.seq
             (.block 1 (.seq
               (.ops [⟨(some 38), none, .mv (.t 36)⟩,
                 ⟨(some 8), none, .mv (.t 38)⟩])
               (.seq
                (.ops [⟨(some 39), none, .mv (.t 6)⟩,
                  ⟨(some 40), none, .mv (.c (.int .i64 0))⟩])
                (.block 2 (.loop (.seq
                   (.ops [⟨(some 41), none, .bin .lss (.t 40) (.t 39)⟩])
                   (.seq
                    (.cond (.t 41)
                     (.skip)
                     (.exit 2))
                    (.seq
                     (.block 3 (.seq
                       (.ops [⟨(some 42), none, .mv (.t 40)⟩,
                         ⟨(some 9), none, .mv (.t 42)⟩])
                       (.draw [⟨⟨(some 43), none, .mv (.t 7)⟩, []⟩,
                         ⟨⟨(some 44), none, .mv (.t 8)⟩, []⟩,
                         ⟨⟨(some 45), none, .mv (.t 7)⟩, []⟩,
                         ⟨⟨(some 46), none, .mv (.t 8)⟩, []⟩,
                         ⟨⟨(some 47), none, .iaddrS 1 (.t 45) (.t 46)⟩, [2, 3]⟩,
                         ⟨⟨(some 48), none, .load none (.t 47)⟩, [4]⟩,
                         ⟨⟨(some 49), none, .mv (.t 8)⟩, []⟩,
                         ⟨⟨(some 50), none, .mv (.t 0)⟩, []⟩,
                         ⟨⟨(some 51), none, .bin .rem (.t 49) (.t 50)⟩, [6, 7]⟩,
                         ⟨⟨(some 52), none, .mv (.t 9)⟩, []⟩,
                         ⟨⟨(some 53), none, .mv (.t 0)⟩, []⟩,
                         ⟨⟨(some 54), none, .bin .rem (.t 52) (.t 53)⟩, [9, 10]⟩,
                         ⟨⟨(some 55), none, .bin .leq (.t 51) (.t 54)⟩, [8, 11]⟩,
                         ⟨⟨(some 56), none, .mv (.t 55)⟩, [12]⟩,
                         ⟨⟨(some 57), (some (56, true)), .mv (.t 8)⟩, [13]⟩,
                         ⟨⟨(some 58), (some (56, true)), .mv (.t 0)⟩, [13]⟩,
                         ⟨⟨(some 59), (some (56, true)), .bin .quo (.t 57) (.t 58)⟩, [14, 15, 13]⟩,
                         ⟨⟨(some 60), (some (56, true)), .mv (.t 9)⟩, [13]⟩,
                         ⟨⟨(some 61), (some (56, true)), .mv (.t 0)⟩, [13]⟩,
                         ⟨⟨(some 62), (some (56, true)), .bin .quo (.t 60) (.t 61)⟩, [17, 18, 13]⟩,
                         ⟨⟨(some 63), (some (56, true)), .bin .andNot (.t 59) (.t 62)⟩, [16, 19, 13]⟩,
                         ⟨⟨(some 64), (some (56, true)), .bin .eql (.t 63) (.c (.int .i64 0))⟩, [20, 13]⟩,
                         ⟨⟨(some 65), none, .pick (.t 56) (.t 64) (.c (.bool false))⟩, [13, 21]⟩,
                         ⟨⟨(some 66), none, .bslice 4 1 1 [(.bool false)] [(0, (.t 65))]⟩, [22]⟩,
                         ⟨⟨(some 67), none, .append 4 1 1 (.t 48) (.t 66)⟩, [5, 23, 13]⟩,
                         ⟨⟨(some 68), none, .iaddrS 1 (.t 43) (.t 44)⟩, [0, 1, 0, 1, 2, 3, 4, 5, 6, 7, 8, 9, 10, 11, 12, 13, 14, 15, 16, 17, 18, 19, 20, 21, 22, 23, 24]⟩,
                         ⟨⟨none, none, .store 1 (.t 68) (.t 67)⟩, [25, 24, 24, 0, 1, 2, 3, 4, 5, 6, 7, 8, 9, 10, 11, 12, 13, 14, 15, 16, 17, 18, 19, 20, 21, 22, 23, 24]⟩] [0, 0, 0, 0, 12, 28, 0, 0, 192, 0, 0, 1536, 4032, 8128, 16320, 16320, 65472, 16320, 16320, 409536, 1048512, 2097088, 4194240, 8388544, 16777212, 33554431, 67108863])))
                     (.ops [⟨(some 69), none, .bin .add (.t 40) (.c (.int .i64 1))⟩,
                       ⟨(some 40), none, .mv (.t 69)⟩])))))))))
             (.ops [⟨(some 70), none, .bin .add (.t 36) (.c (.int .i64 1))⟩,
               ⟨(some 36), none, .mv (.t 70)⟩])))))))
       (.seq
        (.ops [⟨(some 71), none, .mv (.t 7)⟩,
          ⟨(some 72), none, .call 9 [(.t 71)]⟩,
          ⟨(some 73), none, .ext (.t 72) 0⟩,
          ⟨(some 74), none, .ext (.t 72) 1⟩,
          ⟨(some 4), none, .mv (.t 73)⟩,
          ⟨(some 5), none, .mv (.t 74)⟩])
        (.ret))))))⟩
theorem ok16 : FnOk Tryd.prog 16 a16 := FnOk.of Tryd.prog Tryd.func16 (by kernel_rfl)
/-- (*jalousie/lattice.Lattice).Below -/
def a17 : AFn := ⟨28, [.tmp 6], .seq
   (.ops [⟨(some 6), none, .mv (.c (.bool false))⟩])
   (.seq
    (.ops [⟨(some 7), none, .mv (.t 0)⟩,
      ⟨(some 8), none, .mv (.t 1)⟩,
      ⟨(some 9), none, .call 38 [(.t 7), (.t 8)]⟩,
      ⟨(some 10), none, .mv (.t 9)⟩,
      ⟨(some 11), (some (10, true)), .mv (.t 0)⟩,
      ⟨(some 12), (some (10, true)), .mv (.t 2)⟩,
      ⟨(some 13), (some (10, true)), .call 38 [(.t 11), (.t 12)]⟩,
      ⟨(some 14), none, .pick (.t 10) (.t 13) (.c (.bool false))⟩,
      ⟨(some 15), none, .mv (.t 14)⟩,
      ⟨(some 16), (some (15, true)), .mv (.t 0)⟩,
      ⟨(some 17), (some (15, true)), .nilck (.t 16)⟩,
      ⟨(some 18), (some (15, true)), .addr 0 (.t 17)⟩,
      ⟨(some 19), (some (15, true)), .load none (.t 18)⟩,
      ⟨(some 20), (some (15, true)), .mv (.t 1)⟩,
      ⟨(some 21), (some (15, true)), .iaddrS 1 (.t 19) (.t 20)⟩,
      ⟨(some 22), (some (15, true)), .load none (.t 21)⟩,
      ⟨(some 23), (some (15, true)), .mv (.t 2)⟩,
      ⟨(some 24), (some (15, true)), .bin .shr (.t 22) (.t 23)⟩,
      ⟨(some 25), (some (15, true)), .bin .and (.t 24) (.c (.int .u64 1))⟩,
      ⟨(some 26), (some (15, true)), .bin .eql (.t 25) (.c (.int .u64 1))⟩,
      ⟨(some 27), none, .pick (.t 15) (.t 26) (.c (.bool false))⟩,
      ⟨(some 6), none, .mv (.t 27)⟩])
    (.ret))⟩
theorem ok17 : FnOk Tryd.prog 17 a17 := FnOk.of Tryd.prog Tryd.func17 (by kernel_rfl)
/-- (*jalousie/buffers.Buffers).Get -/
def a18 : AFn := ⟨26, [.tmp 6, .tmp 7], .seq
   (.ops [⟨(some 6), none, .mv (.c (.str []))⟩,
     ⟨(some 7), none, .mv (.c (.bool false))⟩])
   (.seq
    (.ops [⟨(some 10), none, .mv (.t 0)⟩,
      ⟨(some 11), none, .mv (.t 1)⟩,
      ⟨(some 12), none, .call 28 [(.t 10), (.t 11)]⟩,
      ⟨(some 8), none, .mv (.t 12)⟩])
    (.seq
     (.ops [⟨(some 13), none, .mv (.t 8)⟩,
       ⟨(some 14), none, .mv (.t 2)⟩,
       ⟨(some 15), none, .call 32 [(.t 13), (.t 14)]⟩,
       ⟨(some 9), none, .mv (.t 15)⟩])
     (.seq
      (.seq
       (.ops [⟨(some 16), none, .mv (.t 9)⟩,
         ⟨(some 17), none, .bin .lss (.t 16) (.c (.int .i64 0))⟩])
       (.cond (.t 17)
        (.seq
         (.ops [⟨(some 6), none, .mv (.c (.str []))⟩,
           ⟨(some 7), none, .mv (.c (.bool false))⟩])
         (.ret))
        (.skip)))
      (.seq
       (.ops [⟨(some 18), none, .mv (.t 8)⟩,
         ⟨(some 19), none, .nilck (.t 18)⟩,
         ⟨(some 20), none, .addr 0 (.t 19)⟩,
         ⟨(some 21), none, .load none (.t 20)⟩,
         ⟨(some 22), none, .mv (.t 9)⟩,
         ⟨(some 23), none, .iaddrS 2 (.t 21) (.t 22)⟩,
         ⟨(some 24), none, .addr 1 (.t 23)⟩,
         ⟨(some 25), none, .load none (.t 24)⟩,
         ⟨(some 6), none, .mv (.t 25)⟩,
         ⟨(some 7), none, .mv (.c (.bool true))⟩])
       (.ret)))))⟩
theorem ok18 : FnOk Tryd.prog 18 a18 := FnOk.of Tryd.prog Tryd.func18 (by kernel_rfl)
/-- (*jalousie/buffers.Buffers).Seen -/
def a19 : AFn := ⟨46, [.tmp 4], .seq
   (.ops [⟨(some 4), none, .mv (.c .nilslice)⟩])
   (.seq
    (.seq
     (.ops [⟨(some 10), none, .mv (.t 0)⟩,
       ⟨(some 11), none, .eq false 31 (.pointer 82) (.t 10) (.c .nilptr)⟩])
     (.cond (.t 11)
      (.seq
       (.ops [⟨(some 4), none, .mv (.c .nilslice)⟩])
       (.ret))
      (.skip)))
    (.seq
     (.ops [⟨(some 5), none, .mv (.c .nilslice)⟩])
     (.seq
      (.seq
       (.ops [⟨(some 12), none, .mv (.t 0)⟩,
         ⟨(some 13), none, .nilck (.t 12)⟩,
         ⟨(some 14), none, .addr 0 (.t 13)⟩,
         ⟨(some 15), none, .load none (.t 14)⟩,
         ⟨(some 16), none, .mv (.t 1)⟩,
         ⟨(some 17), none, .call 39 [(.t 15), (.t 16)]⟩,
         ⟨(some 18), none, .lenL (.t 17)⟩,
         ⟨(some 19), none, .mv (.c (.int .i64 0))⟩])
       (.block 0 (.loop (.seq
          (.ops [⟨(some 20), none, .bin .lss (.t 19) (.t 18)⟩])
          (.seq
           (.cond (.t 20)
            (.skip)
            (.exit 0))
           (.seq
            (.block 1 (.seq
              (.ops [⟨(some 21), none, .iaddrS 1 (.t 17) (.t 19)⟩,
                ⟨(some 22), none, .load none (.t 21)⟩,
                ⟨(some 7), none, .mv (.t 22)⟩])
              (.seq
               (.ops [⟨(some 23), none, .mv (.t 0)⟩,
                 ⟨(some 24), none, .nilck (.t 23)⟩,
                 ⟨(some 25), none, .addr 1 (.t 24)⟩,
                 ⟨(some 26), none, .load none (.t 25)⟩,
                 ⟨(some 27), none, .mv (.t 7)⟩,
                 ⟨(some 28), none, .iaddrS 2 (.t 26) (.t 27)⟩,
                 ⟨(some 29), none, .addr 0 (.t 28)⟩,
                 ⟨(some 30), none, .load none (.t 29)⟩,
                 ⟨(some 31), none, .lenL (.t 30)⟩,
                 ⟨(some 32), none, .mv (.c (.int .i64 0))⟩])
               (.block 2 (.loop (.seq
                  (.ops [⟨(some 33), none, .bin .lss (.t 32) (.t 31)⟩])
                  (.seq
                   (.cond (.t 33)
                    (.skip)
                    (.exit 2))
                   (.seq
                    (.block 3 (.seq
                      (.ops [⟨(some 34), none, .iaddrS 2 (.t 30) (.t 32)⟩,
                        ⟨(some 35), none, .load (some 2) (.t 34)⟩,
                        ⟨(some 9), none, .alloc 90 [(.int .i64 0), (.str [])]⟩,
                        ⟨none, none, .store 2 (.t 9) (.t 35)⟩])
                      (.ops [⟨(some 36), none, .mv (.t 5)⟩,
                        ⟨(some 37), none, .mv (.t 7)⟩,
                        ⟨(some 38), none, .addr 0 (.t 9)⟩,
                        ⟨(some 39), none, .load none (.t 38)⟩,
                        ⟨(some 40), none, .build [(.int .i64 0), (.int .i64 0)] [(0, 1), (1, 1)] [(0, (.t 37)), (1, (.t 39))]⟩,
                        ⟨(some 41), none, .bslice 53 2 1 [(.int .i64 0), (.int .i64 0)] [(0, (.t 40))]⟩,
                        ⟨(some 42), none, .append 53 2 16 (.t 36) (.t 41)⟩,
                        ⟨(some 5), none, .mv (.t 42)⟩])))
                    (.ops [⟨(some 43), none, .bin .add (.t 32) (.c (.int .i64 1))⟩,
                      ⟨(some 32), none, .mv (.t 43)⟩])))))))))
            (.ops [⟨(some 44), none, .bin .add (.t 19) (.c (.int .i64 1))⟩,
              ⟨(some 19), none, .mv (.t 44)⟩])))))))
      (.seq
       (.ops [⟨(some 45), none, .mv (.t 5)⟩,
         ⟨(some 4), none, .mv (.t 45)⟩])
       (.ret)))))⟩
theorem ok19 : FnOk Tryd.prog 19 a19 := FnOk.of Tryd.prog Tryd.func19 (by kernel_rfl)
/-- (*jalousie/buffers.Buffers).Room -/
def a20 : AFn := ⟨17, [.tmp 4], .seq
   (.ops [⟨(some 4), none, .mv (.c (.int .i64 0))⟩])
   (.seq
    (.ops [⟨(some 6), none, .mv (.t 0)⟩,
      ⟨(some 7), none, .mv (.t 1)⟩,
      ⟨(some 8), none, .call 28 [(.t 6), (.t 7)]⟩,
      ⟨(some 5), none, .mv (.t 8)⟩])
    (.seq
     (.seq
      (.ops [⟨(some 9), none, .mv (.t 5)⟩,
        ⟨(some 10), none, .eq false 83 (.pointer 87) (.t 9) (.c .nilptr)⟩])
      (.cond (.t 10)
       (.seq
        (.ops [⟨(some 4), none, .mv (.c (.int .i64 0))⟩])
        (.ret))
       (.skip)))
     (.seq
      (.ops [⟨(some 11), none, .mv (.t 5)⟩,
        ⟨(some 12), none, .nilck (.t 11)⟩,
        ⟨(some 13), none, .addr 0 (.t 12)⟩,
        ⟨(some 14), none, .load none (.t 13)⟩,
        ⟨(some 15), none, .lenL (.t 14)⟩,
        ⟨(some 16), none, .bin .sub (.c (.int .i64 8)) (.t 15)⟩,
        ⟨(some 4), none, .mv (.t 16)⟩])
      (.ret))))⟩
theorem ok20 : FnOk Tryd.prog 20 a20 := FnOk.of Tryd.prog Tryd.func20 (by kernel_rfl)

end Go.Proofs.YtjncbipaikmogaaDoor.Fns
