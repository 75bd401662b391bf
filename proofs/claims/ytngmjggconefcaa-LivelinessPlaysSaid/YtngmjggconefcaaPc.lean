import Derived.Test.YtngmjggconefcaaProg
import Derived.Test.YtngmjggconefcaaW15
namespace Go.Proofs.Ytngmjggconefcaa
open Go.W
/-- robotics/roboticslaw22.LivelinessExact -/
def pc3 : PC :=
  .seq (.reg /- 0 -/ [⟨(some 4), none, .q (.mv (.k (.bool false)))⟩])
  (.seq (.seq (.reg /- 1 -/ [⟨(some 11), none, .q (.mv (.t 0))⟩,
      ⟨(some 12), none, .q (.bin .eql true (.t 11) (.k (.int .u16 0)))⟩,
      ⟨(some 13), none, .q (.mv (.t 12))⟩,
      ⟨(some 14), (some (13, false)), .q (.mv (.t 1))⟩,
      ⟨(some 15), (some (13, false)), .q (.lnL (.t 14))⟩,
      ⟨(some 16), (some (13, false)), .q (.bin .gtr true (.t 15) (.k (.int .i64 60)))⟩,
      ⟨(some 17), none, .pick (.t 13) (.k (.bool true)) (.t 16)⟩])
    (.cond (.t 17)
      (.seq (.reg /- 2 -/ [⟨(some 18), none, .cq 8 []⟩,
      ⟨(some 4), none, .q (.mv (.t 18))⟩])
        (.ret))
      (.skip)))
    (.seq (.reg /- 3 -/ [⟨(some 19), none, .cl 9 [] []⟩,
      ⟨(some 5), none, .q (.mv (.t 19))⟩])
      (.seq (.seq (.reg /- 4 -/ [⟨(some 20), none, .q (.mv (.t 5))⟩,
      ⟨(some 21), none, .q (.mv (.t 0))⟩,
      ⟨(some 22), none, .q (.cvt .i64 (.t 21))⟩,
      ⟨(some 23), none, .cl 10 [(.t 20), (.k (.int .i64 1)), (.t 22), (.k (.int .i64 0))] [0, 1, 2]⟩,
      ⟨(some 24), none, .q (.bin .neq true (.t 23) (.k (.int .i64 0)))⟩])
        (.cond (.t 24)
          (.seq (.reg /- 5 -/ [⟨(some 4), none, .q (.mv (.k (.bool false)))⟩])
            (.ret))
          (.skip)))
        (.seq (.reg /- 6 -/ [⟨(some 6), none, .q (.mv (.k (.slice none 0 0)))⟩])
          (.seq (.reg /- 7 -/ [⟨(some 7), none, .q (.mv (.k (.int .i64 0)))⟩])
            (.seq (.seq (.reg /- 8 -/ [⟨(some 8), none, .q (.mv (.k (.int .i64 0)))⟩])
              (.block 0 (.loop (.seq (.seq (.reg /- 9 -/ [⟨(some 25), none, .q (.mv (.t 8))⟩,
      ⟨(some 26), none, .q (.mv (.t 1))⟩,
      ⟨(some 27), none, .q (.lnL (.t 26))⟩,
      ⟨(some 28), none, .q (.bin .lss true (.t 25) (.t 27))⟩])
                    (.cond (.t 28)
                      (.skip)
                      (.exit 0)))
                    (.seq (.block 1 (.seq (.seq (.reg /- 11 -/ [⟨(some 31), none, .q (.mv (.t 1))⟩,
      ⟨(some 32), none, .q (.mv (.t 8))⟩,
      ⟨(some 33), none, .l (.ia 1 (.t 31) (.t 32))⟩,
      ⟨(some 34), none, .l (.ld1 (.t 33))⟩,
      ⟨(some 35), none, .q (.mv (.t 0))⟩,
      ⟨(some 36), none, .q (.bin .gtr true (.t 34) (.t 35))⟩])
                        (.cond (.t 36)
                          (.seq (.reg /- 12 -/ [⟨(some 37), none, .q (.mv (.t 6))⟩,
      ⟨(some 38), none, .q (.mv (.t 7))⟩,
      ⟨(some 39), none, .q (.mv (.t 0))⟩,
      ⟨(some 40), none, .q (.cvt .i64 (.t 39))⟩,
      ⟨(some 41), none, .q (.bin .add true (.t 38) (.t 40))⟩,
      ⟨(some 42), none, .q (.bd [(.int .i64 0), (.int .i64 0), (.bool false)] [(0, 1, (.k (.int .i64 1))), (1, 1, (.t 41))])⟩,
      ⟨(some 43), none, .e (.bsl 31 3 [(.t 42)])⟩,
      ⟨(some 44), none, .e (.ap 31 3 24 (.t 37) (.t 43))⟩,
      ⟨(some 6), none, .q (.mv (.t 44))⟩])
                            (.reg /- 13 -/ [⟨(some 45), none, .q (.mv (.t 6))⟩,
      ⟨(some 46), none, .q (.mv (.t 7))⟩,
      ⟨(some 47), none, .q (.mv (.t 1))⟩,
      ⟨(some 48), none, .q (.mv (.t 8))⟩,
      ⟨(some 49), none, .l (.ia 1 (.t 47) (.t 48))⟩,
      ⟨(some 50), none, .l (.ld1 (.t 49))⟩,
      ⟨(some 51), none, .q (.cvt .i64 (.t 50))⟩,
      ⟨(some 52), none, .q (.bin .add true (.t 46) (.t 51))⟩,
      ⟨(some 53), none, .q (.bd [(.int .i64 0), (.int .i64 0), (.bool false)] [(0, 1, (.k (.int .i64 1))), (1, 1, (.t 52)), (2, 1, (.k (.bool true)))])⟩,
      ⟨(some 54), none, .e (.bsl 31 3 [(.t 53)])⟩,
      ⟨(some 55), none, .e (.ap 31 3 24 (.t 45) (.t 54))⟩,
      ⟨(some 6), none, .q (.mv (.t 55))⟩]))
                          (.skip)))
                        (.seq (.reg /- 14 -/ [⟨(some 56), none, .q (.mv (.t 7))⟩,
      ⟨(some 57), none, .q (.mv (.t 1))⟩,
      ⟨(some 58), none, .q (.mv (.t 8))⟩,
      ⟨(some 59), none, .l (.ia 1 (.t 57) (.t 58))⟩,
      ⟨(some 60), none, .l (.ld1 (.t 59))⟩,
      ⟨(some 61), none, .q (.cvt .i64 (.t 60))⟩,
      ⟨(some 62), none, .q (.bin .add true (.t 56) (.t 61))⟩,
      ⟨(some 7), none, .q (.mv (.t 62))⟩])
                          (.seq (.reg /- 15 -/ [⟨(some 63), none, .q (.mv (.t 5))⟩,
      ⟨(some 64), none, .q (.mv (.t 7))⟩,
      ⟨(some 65), none, .cl 11 [(.t 63), (.k (.int .i64 1)), (.t 64)] [0, 1, 2]⟩,
      ⟨(some 66), none, .q (.bin .neq true (.t 65) (.k (.int .i64 0)))⟩,
      ⟨(some 67), none, .q (.mv (.t 66))⟩,
      ⟨(some 68), (some (67, false)), .q (.mv (.t 5))⟩,
      ⟨(some 69), (some (67, false)), .cl 12 [(.t 68), (.k (.int .i64 1))] [0, 1, 2]⟩,
      ⟨(some 70), (some (67, false)), .q (.not (.t 69))⟩,
      ⟨(some 71), none, .pick (.t 67) (.k (.bool true)) (.t 70)⟩])
                            (.cond (.t 71)
                              (.seq (.reg /- 16 -/ [⟨(some 4), none, .q (.mv (.k (.bool false)))⟩])
                                (.ret))
                              (.skip))))))
                      (.reg /- 10 -/ [⟨(some 29), none, .q (.mv (.t 8))⟩,
      ⟨(some 30), none, .q (.bin .add true (.t 29) (.k (.int .i64 1)))⟩,
      ⟨(some 8), none, .q (.mv (.t 30))⟩]))))))
              (.seq (.seq (.reg /- 17 -/ [⟨(some 72), none, .q (.mv (.t 5))⟩,
      ⟨(some 73), none, .q (.mv (.t 7))⟩,
      ⟨(some 74), none, .cl 15 [(.t 72), (.t 73)] [0, 1, 2]⟩,
      ⟨(some 75), none, .cl 14 [(.t 74)] []⟩,
      ⟨(some 76), none, .q (.mv (.t 6))⟩,
      ⟨(some 77), none, .cq 13 [(.t 75), (.t 76)]⟩,
      ⟨(some 78), none, .q (.not (.t 77))⟩])
                (.cond (.t 78)
                  (.seq (.reg /- 18 -/ [⟨(some 4), none, .q (.mv (.k (.bool false)))⟩])
                    (.ret))
                  (.skip)))
                (.seq (.reg /- 19 -/ [⟨(some 80), none, .q (.mv (.t 5))⟩,
      ⟨(some 81), none, .cl 16 [(.t 80)] [0, 1, 4]⟩,
      ⟨(some 79), none, .q (.mv (.t 81))⟩,
      ⟨(some 82), none, .q (.ex (.t 79) 0)⟩,
      ⟨(some 83), none, .q (.ex (.t 79) 1)⟩,
      ⟨(some 9), none, .q (.mv (.t 82))⟩,
      ⟨(some 10), none, .q (.mv (.t 83))⟩])
                  (.seq (.reg /- 20 -/ [⟨(some 84), none, .q (.mv (.t 10))⟩,
      ⟨(some 85), none, .q (.mv (.t 84))⟩,
      ⟨(some 86), (some (85, true)), .q (.mv (.t 9))⟩,
      ⟨(some 87), (some (85, true)), .q (.mv (.t 7))⟩,
      ⟨(some 88), (some (85, true)), .q (.mv (.t 0))⟩,
      ⟨(some 89), (some (85, true)), .q (.cvt .i64 (.t 88))⟩,
      ⟨(some 90), (some (85, true)), .q (.bin .add true (.t 87) (.t 89))⟩,
      ⟨(some 91), (some (85, true)), .q (.bin .eql true (.t 86) (.t 90))⟩,
      ⟨(some 92), none, .pick (.t 85) (.t 91) (.k (.bool false))⟩,
      ⟨(some 93), none, .q (.mv (.t 92))⟩,
      ⟨(some 94), (some (93, true)), .q (.mv (.t 5))⟩,
      ⟨(some 95), (some (93, true)), .q (.mv (.t 9))⟩,
      ⟨(some 96), (some (93, true)), .q (.bin .sub true (.t 95) (.k (.int .i64 1)))⟩,
      ⟨(some 97), (some (93, true)), .cl 15 [(.t 94), (.t 96)] [0, 1, 4]⟩,
      ⟨(some 98), (some (93, true)), .q (.lnL (.t 97))⟩,
      ⟨(some 99), (some (93, true)), .q (.bin .eql true (.t 98) (.k (.int .i64 0)))⟩,
      ⟨(some 100), none, .pick (.t 93) (.t 99) (.k (.bool false))⟩,
      ⟨(some 101), none, .q (.mv (.t 100))⟩,
      ⟨(some 102), (some (101, true)), .q (.mv (.t 5))⟩,
      ⟨(some 103), (some (101, true)), .q (.mv (.t 9))⟩,
      ⟨(some 104), (some (101, true)), .cl 15 [(.t 102), (.t 103)] [0, 1, 5]⟩,
      ⟨(some 105), (some (101, true)), .cl 14 [(.t 104)] []⟩,
      ⟨(some 106), (some (101, true)), .q (.mv (.t 9))⟩,
      ⟨(some 107), (some (101, true)), .q (.bd [(.int .i64 0), (.int .i64 0), (.bool false)] [(0, 1, (.k (.int .i64 1))), (1, 1, (.t 106))])⟩,
      ⟨(some 108), (some (101, true)), .e (.bsl 31 3 [(.t 107)])⟩,
      ⟨(some 109), (some (101, true)), .cq 13 [(.t 105), (.t 108)]⟩,
      ⟨(some 110), none, .pick (.t 101) (.t 109) (.k (.bool false))⟩,
      ⟨(some 111), none, .q (.mv (.t 110))⟩,
      ⟨(some 112), (some (111, true)), .q (.mv (.t 5))⟩,
      ⟨(some 113), (some (111, true)), .cl 12 [(.t 112), (.k (.int .i64 1))] [0, 1, 6]⟩,
      ⟨(some 114), (some (111, true)), .q (.not (.t 113))⟩,
      ⟨(some 115), none, .pick (.t 111) (.t 114) (.k (.bool false))⟩,
      ⟨(some 116), none, .q (.mv (.t 115))⟩,
      ⟨(some 117), (some (116, true)), .cq 8 []⟩,
      ⟨(some 118), none, .pick (.t 116) (.t 117) (.k (.bool false))⟩,
      ⟨(some 4), none, .q (.mv (.t 118))⟩])
                    (.ret))))))))))
def rs3 : List RV := [.mv (.t 4)]
theorem ok3 : trFn Try.prog true ⟨fun r k => if r = 2 ∧ k = 0 then .q else if r = 3 ∧ k = 0 then .own [] else if r = 4 ∧ k = 3 then .own [0, 1, 2] else if r = 15 ∧ k = 2 then .own [0, 1, 2] else if r = 15 ∧ k = 6 then .own [0, 1, 2] else if r = 17 ∧ k = 2 then .own [0, 1, 2] else if r = 17 ∧ k = 3 then .own [] else if r = 17 ∧ k = 5 then .q else if r = 19 ∧ k = 1 then .own [0, 1, 4] else if r = 20 ∧ k = 13 then .own [0, 1, 4] else if r = 20 ∧ k = 20 then .own [0, 1, 5] else if r = 20 ∧ k = 21 then .own [] else if r = 20 ∧ k = 25 then .q else if r = 20 ∧ k = 29 then .own [0, 1, 6] else if r = 20 ∧ k = 33 then .q else .own [], fun _ => false⟩ Try.f3 = some (pc3, rs3) := by kernel_rfl
/-- robotics/roboticslaw22.awake -/
def pc8 : PC :=
  .seq (.reg /- 0 -/ [⟨(some 0), none, .q (.mv (.k (.bool false)))⟩])
  (.seq (.reg /- 1 -/ [⟨(some 11), none, .cl 9 [] []⟩,
      ⟨(some 1), none, .q (.mv (.t 11))⟩])
    (.seq (.reg /- 2 -/ [⟨(some 12), none, .q (.mv (.t 1))⟩,
      ⟨(some 13), none, .cl 10 [(.t 12), (.k (.int .i64 1)), (.k (.int .i64 100)), (.k (.int .i64 0))] [0, 1, 2]⟩,
      ⟨(some 14), none, .q (.mv (.t 1))⟩,
      ⟨(some 15), none, .cl 11 [(.t 14), (.k (.int .i64 1)), (.k (.int .i64 100))] [0, 1, 2]⟩,
      ⟨(some 2), none, .q (.mv (.t 13))⟩,
      ⟨(some 3), none, .q (.mv (.t 15))⟩])
      (.seq (.reg /- 3 -/ [⟨(some 17), none, .q (.mv (.t 1))⟩,
      ⟨(some 18), none, .cl 16 [(.t 17)] [0, 1, 2]⟩,
      ⟨(some 16), none, .q (.mv (.t 18))⟩,
      ⟨(some 19), none, .q (.ex (.t 16) 0)⟩,
      ⟨(some 20), none, .q (.ex (.t 16) 1)⟩,
      ⟨(some 4), none, .q (.mv (.t 19))⟩,
      ⟨(some 5), none, .q (.mv (.t 20))⟩])
        (.seq (.reg /- 4 -/ [⟨(some 21), none, .q (.mv (.t 1))⟩,
      ⟨(some 22), none, .cl 15 [(.t 21), (.k (.int .i64 199))] [0, 1, 2]⟩,
      ⟨(some 23), none, .cl 14 [(.t 22)] []⟩,
      ⟨(some 24), none, .q (.mv (.t 1))⟩,
      ⟨(some 25), none, .cl 15 [(.t 24), (.k (.int .i64 200))] [0, 1, 3]⟩,
      ⟨(some 26), none, .cl 14 [(.t 25)] []⟩,
      ⟨(some 6), none, .q (.mv (.t 23))⟩,
      ⟨(some 7), none, .q (.mv (.t 26))⟩])
          (.seq (.reg /- 5 -/ [⟨(some 27), none, .q (.mv (.t 1))⟩,
      ⟨(some 28), none, .cl 12 [(.t 27), (.k (.int .i64 1))] [0, 1, 4]⟩,
      ⟨(some 29), none, .q (.not (.t 28))⟩,
      ⟨(some 8), none, .q (.mv (.t 29))⟩])
            (.seq (.reg /- 6 -/ [⟨(some 30), none, .q (.mv (.t 1))⟩,
      ⟨(some 31), none, .cl 11 [(.t 30), (.k (.int .i64 1)), (.k (.int .i64 250))] [0, 1, 4]⟩,
      ⟨(some 9), none, .q (.mv (.t 31))⟩])
              (.seq (.reg /- 7 -/ [⟨(some 32), none, .q (.mv (.t 1))⟩,
      ⟨(some 33), none, .cl 15 [(.t 32), (.k (.int .i64 260))] [0, 1, 4]⟩,
      ⟨(some 34), none, .cl 14 [(.t 33)] []⟩,
      ⟨(some 10), none, .q (.mv (.t 34))⟩])
                (.seq (.reg /- 8 -/ [⟨(some 35), none, .q (.mv (.t 2))⟩,
      ⟨(some 36), none, .q (.bin .eql true (.t 35) (.k (.int .i64 0)))⟩,
      ⟨(some 37), none, .q (.mv (.t 36))⟩,
      ⟨(some 38), (some (37, true)), .q (.mv (.t 3))⟩,
      ⟨(some 39), (some (37, true)), .q (.bin .eql true (.t 38) (.k (.int .i64 0)))⟩,
      ⟨(some 40), none, .pick (.t 37) (.t 39) (.k (.bool false))⟩,
      ⟨(some 41), none, .q (.mv (.t 40))⟩,
      ⟨(some 42), (some (41, true)), .q (.mv (.t 4))⟩,
      ⟨(some 43), (some (41, true)), .q (.bin .eql true (.t 42) (.k (.int .i64 200)))⟩,
      ⟨(some 44), none, .pick (.t 41) (.t 43) (.k (.bool false))⟩,
      ⟨(some 45), none, .q (.mv (.t 44))⟩,
      ⟨(some 46), (some (45, true)), .q (.mv (.t 5))⟩,
      ⟨(some 47), none, .pick (.t 45) (.t 46) (.k (.bool false))⟩,
      ⟨(some 48), none, .q (.mv (.t 47))⟩,
      ⟨(some 49), (some (48, true)), .q (.mv (.t 6))⟩,
      ⟨(some 50), (some (48, true)), .q (.lnL (.t 49))⟩,
      ⟨(some 51), (some (48, true)), .q (.bin .eql true (.t 50) (.k (.int .i64 0)))⟩,
      ⟨(some 52), none, .pick (.t 48) (.t 51) (.k (.bool false))⟩,
      ⟨(some 53), none, .q (.mv (.t 52))⟩,
      ⟨(some 54), (some (53, true)), .q (.mv (.t 7))⟩,
      ⟨(some 55), (some (53, true)), .q (.bd [(.int .i64 0), (.int .i64 0), (.bool false)] [(0, 1, (.k (.int .i64 1))), (1, 1, (.k (.int .i64 200)))])⟩,
      ⟨(some 56), (some (53, true)), .e (.bsl 31 3 [(.t 55)])⟩,
      ⟨(some 57), (some (53, true)), .cq 13 [(.t 54), (.t 56)]⟩,
      ⟨(some 58), none, .pick (.t 53) (.t 57) (.k (.bool false))⟩,
      ⟨(some 59), none, .q (.mv (.t 58))⟩,
      ⟨(some 60), (some (59, true)), .q (.mv (.t 8))⟩,
      ⟨(some 61), none, .pick (.t 59) (.t 60) (.k (.bool false))⟩,
      ⟨(some 62), none, .q (.mv (.t 61))⟩,
      ⟨(some 63), (some (62, true)), .q (.mv (.t 9))⟩,
      ⟨(some 64), (some (62, true)), .q (.bin .eql true (.t 63) (.k (.int .i64 0)))⟩,
      ⟨(some 65), none, .pick (.t 62) (.t 64) (.k (.bool false))⟩,
      ⟨(some 66), none, .q (.mv (.t 65))⟩,
      ⟨(some 67), (some (66, true)), .q (.mv (.t 10))⟩,
      ⟨(some 68), (some (66, true)), .q (.bd [(.int .i64 0), (.int .i64 0), (.bool false)] [(0, 1, (.k (.int .i64 1))), (1, 1, (.k (.int .i64 250))), (2, 1, (.k (.bool true)))])⟩,
      ⟨(some 69), (some (66, true)), .e (.bsl 31 3 [(.t 68)])⟩,
      ⟨(some 70), (some (66, true)), .cq 13 [(.t 67), (.t 69)]⟩,
      ⟨(some 71), none, .pick (.t 66) (.t 70) (.k (.bool false))⟩,
      ⟨(some 72), none, .q (.mv (.t 71))⟩,
      ⟨(some 73), (some (72, true)), .q (.mv (.t 1))⟩,
      ⟨(some 74), (some (72, true)), .cl 12 [(.t 73), (.k (.int .i64 1))] [0, 1, 5]⟩,
      ⟨(some 75), none, .pick (.t 72) (.t 74) (.k (.bool false))⟩,
      ⟨(some 76), none, .q (.mv (.t 75))⟩,
      ⟨(some 77), (some (76, true)), .q (.mv (.t 1))⟩,
      ⟨(some 78), (some (76, true)), .cl 10 [(.t 77), (.k (.int .i64 2)), (.k (.int .i64 10)), (.k (.int .i64 255))] [0, 1, 5]⟩,
      ⟨(some 79), (some (76, true)), .q (.bin .eql true (.t 78) (.k (.int .i64 17)))⟩,
      ⟨(some 80), none, .pick (.t 76) (.t 79) (.k (.bool false))⟩,
      ⟨(some 0), none, .q (.mv (.t 80))⟩])
                  (.ret)))))))))
def rs8 : List RV := [.mv (.t 0)]
theorem ok8 : trFn Try.prog true ⟨fun r k => if r = 1 ∧ k = 0 then .own [] else if r = 2 ∧ k = 1 then .own [0, 1, 2] else if r = 2 ∧ k = 3 then .own [0, 1, 2] else if r = 3 ∧ k = 1 then .own [0, 1, 2] else if r = 4 ∧ k = 1 then .own [0, 1, 2] else if r = 4 ∧ k = 2 then .own [] else if r = 4 ∧ k = 4 then .own [0, 1, 3] else if r = 4 ∧ k = 5 then .own [] else if r = 5 ∧ k = 1 then .own [0, 1, 4] else if r = 6 ∧ k = 1 then .own [0, 1, 4] else if r = 7 ∧ k = 1 then .own [0, 1, 4] else if r = 7 ∧ k = 2 then .own [] else if r = 8 ∧ k = 22 then .q else if r = 8 ∧ k = 35 then .q else if r = 8 ∧ k = 39 then .own [0, 1, 5] else if r = 8 ∧ k = 43 then .own [0, 1, 5] else .own [], fun _ => false⟩ Try.f8 = some (pc8, rs8) := by kernel_rfl
/-- robotics/roboticsref22.Same -/
def pc13 : PC :=
  .seq (.reg /- 0 -/ [⟨(some 4), none, .q (.mv (.k (.bool false)))⟩])
  (.seq (.seq (.reg /- 1 -/ [⟨(some 6), none, .q (.mv (.t 0))⟩,
      ⟨(some 7), none, .q (.lnL (.t 6))⟩,
      ⟨(some 8), none, .q (.mv (.t 1))⟩,
      ⟨(some 9), none, .q (.lnL (.t 8))⟩,
      ⟨(some 10), none, .q (.bin .neq true (.t 7) (.t 9))⟩])
    (.cond (.t 10)
      (.seq (.reg /- 2 -/ [⟨(some 4), none, .q (.mv (.k (.bool false)))⟩])
        (.ret))
      (.skip)))
    (.seq (.seq (.reg /- 3 -/ [⟨(some 5), none, .q (.mv (.k (.int .i64 0)))⟩])
      (.block 0 (.loop (.seq (.seq (.reg /- 4 -/ [⟨(some 11), none, .q (.mv (.t 5))⟩,
      ⟨(some 12), none, .q (.mv (.t 0))⟩,
      ⟨(some 13), none, .q (.lnL (.t 12))⟩,
      ⟨(some 14), none, .q (.bin .lss true (.t 11) (.t 13))⟩])
            (.cond (.t 14)
              (.skip)
              (.exit 0)))
            (.seq (.block 1 (.seq (.reg /- 6 -/ [⟨(some 17), none, .q (.mv (.t 0))⟩,
      ⟨(some 18), none, .q (.mv (.t 5))⟩,
      ⟨(some 19), none, .l (.ia 3 (.t 17) (.t 18))⟩,
      ⟨(some 20), none, .l (.ldn 3 (.t 19))⟩,
      ⟨(some 21), none, .q (.mv (.t 1))⟩,
      ⟨(some 22), none, .q (.mv (.t 5))⟩,
      ⟨(some 23), none, .l (.ia 3 (.t 21) (.t 22))⟩,
      ⟨(some 24), none, .l (.ldn 3 (.t 23))⟩,
      ⟨(some 25), none, .q (.eqT true [(0, .int .i64), (1, .int .i64), (2, .bool)] (.t 20) (.t 24))⟩])
                (.cond (.t 25)
                  (.seq (.reg /- 7 -/ [⟨(some 4), none, .q (.mv (.k (.bool false)))⟩])
                    (.ret))
                  (.skip))))
              (.reg /- 5 -/ [⟨(some 15), none, .q (.mv (.t 5))⟩,
      ⟨(some 16), none, .q (.bin .add true (.t 15) (.k (.int .i64 1)))⟩,
      ⟨(some 5), none, .q (.mv (.t 16))⟩]))))))
      (.seq (.reg /- 8 -/ [⟨(some 4), none, .q (.mv (.k (.bool true)))⟩])
        (.ret))))
def rs13 : List RV := [.mv (.t 4)]
theorem ok13 : trFn Try.prog true ⟨fun _ _ => .own [], fun _ => false⟩ Try.f13 = some (pc13, rs13) := by kernel_rfl
/-- robotics/roboticslaw22.plain -/
def pc14 : PC :=
  .seq (.reg /- 0 -/ [⟨(some 2), none, .q (.mv (.k (.slice none 0 0)))⟩])
  (.seq (.reg /- 1 -/ [⟨(some 3), none, .q (.mv (.k (.slice none 0 0)))⟩])
    (.seq (.seq (.reg /- 2 -/ [⟨(some 4), none, .q (.mv (.k (.int .i64 0)))⟩])
      (.block 0 (.loop (.seq (.seq (.reg /- 3 -/ [⟨(some 5), none, .q (.mv (.t 4))⟩,
      ⟨(some 6), none, .q (.mv (.t 0))⟩,
      ⟨(some 7), none, .q (.lnL (.t 6))⟩,
      ⟨(some 8), none, .q (.bin .lss true (.t 5) (.t 7))⟩])
            (.cond (.t 8)
              (.skip)
              (.exit 0)))
            (.seq (.block 1 (.reg /- 5 -/ [⟨(some 11), none, .q (.mv (.t 3))⟩,
      ⟨(some 12), none, .q (.mv (.t 0))⟩,
      ⟨(some 13), none, .q (.mv (.t 4))⟩,
      ⟨(some 14), none, .l (.ia 3 (.t 12) (.t 13))⟩,
      ⟨(some 15), none, .q (.fa 0 (.t 14))⟩,
      ⟨(some 16), none, .l (.ld1 (.t 15))⟩,
      ⟨(some 17), none, .q (.mv (.t 0))⟩,
      ⟨(some 18), none, .q (.mv (.t 4))⟩,
      ⟨(some 19), none, .l (.ia 3 (.t 17) (.t 18))⟩,
      ⟨(some 20), none, .q (.fa 1 (.t 19))⟩,
      ⟨(some 21), none, .l (.ld1 (.t 20))⟩,
      ⟨(some 22), none, .q (.mv (.t 0))⟩,
      ⟨(some 23), none, .q (.mv (.t 4))⟩,
      ⟨(some 24), none, .l (.ia 3 (.t 22) (.t 23))⟩,
      ⟨(some 25), none, .q (.fa 2 (.t 24))⟩,
      ⟨(some 26), none, .l (.ld1 (.t 25))⟩,
      ⟨(some 27), none, .q (.bd [(.int .i64 0), (.int .i64 0), (.bool false)] [(0, 1, (.t 16)), (1, 1, (.t 21)), (2, 1, (.t 26))])⟩,
      ⟨(some 28), none, .e (.bsl 31 3 [(.t 27)])⟩,
      ⟨(some 29), none, .e (.ap 31 3 24 (.t 11) (.t 28))⟩,
      ⟨(some 3), none, .q (.mv (.t 29))⟩]))
              (.reg /- 4 -/ [⟨(some 9), none, .q (.mv (.t 4))⟩,
      ⟨(some 10), none, .q (.bin .add true (.t 9) (.k (.int .i64 1)))⟩,
      ⟨(some 4), none, .q (.mv (.t 10))⟩]))))))
      (.seq (.reg /- 6 -/ [⟨(some 30), none, .q (.mv (.t 3))⟩,
      ⟨(some 2), none, .q (.mv (.t 30))⟩])
        (.ret))))
def rs14 : List RV := [.mv (.t 2)]
theorem ok14 : trFn Try.prog true ⟨fun _ _ => .own [], fun _ => false⟩ Try.f14 = some (pc14, rs14) := by kernel_rfl
end Go.Proofs.Ytngmjggconefcaa
