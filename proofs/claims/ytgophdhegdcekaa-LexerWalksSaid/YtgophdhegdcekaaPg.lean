import Derived.Test.YtgophdhegdcekaaProg
import Derived.Test.YtgophdhegdcekaaW15
namespace Go.Proofs.Ytgophdhegdcekaa.Wk
open Go.W
/-- robotics/roboticslaw06.LexerWalks -/
def pc6 : PC :=
  .seq (.reg /- 0 -/ [⟨(some 6), none, .q (.mv (.k (.bool false)))⟩])
  (.seq (.seq (.reg /- 1 -/ [⟨(some 15), none, .q (.mv (.t 1))⟩,
      ⟨(some 16), none, .q (.lnL (.t 15))⟩,
      ⟨(some 17), none, .q (.bin .gtr true (.t 16) (.k (.int .i64 60)))⟩])
    (.cond (.t 17)
      (.seq (.reg /- 2 -/ [⟨(some 18), none, .cq 11 []⟩,
      ⟨(some 6), none, .q (.mv (.t 18))⟩])
        (.ret))
      (.skip)))
    (.seq (.reg /- 3 -/ [⟨(some 20), none, .q (.mv (.t 0))⟩,
      ⟨(some 21), none, .cl 14 [(.t 20)] []⟩,
      ⟨(some 19), none, .q (.mv (.t 21))⟩,
      ⟨(some 22), none, .q (.ex (.t 19) 0)⟩,
      ⟨(some 23), none, .q (.ex (.t 19) 1)⟩,
      ⟨(some 24), none, .q (.ex (.t 19) 2)⟩,
      ⟨(some 7), none, .q (.mv (.t 22))⟩,
      ⟨(some 8), none, .q (.mv (.t 23))⟩,
      ⟨(some 9), none, .q (.mv (.t 24))⟩])
      (.seq (.reg /- 4 -/ [⟨(some 26), none, .q (.mv (.t 0))⟩,
      ⟨(some 27), none, .cl 15 [(.t 26)] []⟩,
      ⟨(some 25), none, .q (.mv (.t 27))⟩,
      ⟨(some 28), none, .q (.ex (.t 25) 0)⟩,
      ⟨(some 29), none, .q (.ex (.t 25) 1)⟩,
      ⟨(some 30), none, .q (.ex (.t 25) 2)⟩,
      ⟨(some 10), none, .e (.al (.agg #[(.slice none 0 0), (.int .i64 0)]) 36)⟩,
      ⟨none, none, .e (.st 2 (.t 10) (.t 28))⟩,
      ⟨(some 11), none, .q (.mv (.t 29))⟩,
      ⟨(some 12), none, .q (.mv (.t 30))⟩])
        (.seq (.seq (.reg /- 5 -/ [⟨(some 31), none, .q (.mv (.t 8))⟩,
      ⟨(some 32), none, .q (.mv (.t 11))⟩,
      ⟨(some 33), none, .q (.bin .neq true (.t 31) (.t 32))⟩,
      ⟨(some 34), none, .q (.mv (.t 33))⟩,
      ⟨(some 35), (some (34, false)), .q (.mv (.t 9))⟩,
      ⟨(some 36), (some (34, false)), .q (.mv (.t 12))⟩,
      ⟨(some 37), (some (34, false)), .q (.bin .neq true (.t 35) (.t 36))⟩,
      ⟨(some 38), none, .pick (.t 34) (.k (.bool true)) (.t 37)⟩,
      ⟨(some 39), none, .q (.mv (.t 38))⟩,
      ⟨(some 40), (some (39, false)), .q (.mv (.t 7))⟩,
      ⟨(some 41), (some (39, false)), .q (.eqP true (.t 40) (.k (.pointer none)))⟩,
      ⟨(some 42), (some (39, false)), .q (.mv (.t 8))⟩,
      ⟨(some 43), (some (39, false)), .q (.bin .eql true (.t 42) (.k (.int .i64 0)))⟩,
      ⟨(some 44), (some (39, false)), .q (.eqB true (.t 41) (.t 43))⟩,
      ⟨(some 45), none, .pick (.t 39) (.k (.bool true)) (.t 44)⟩])
          (.cond (.t 45)
            (.seq (.reg /- 6 -/ [⟨(some 6), none, .q (.mv (.k (.bool false)))⟩])
              (.ret))
            (.skip)))
          (.seq (.seq (.reg /- 7 -/ [⟨(some 13), none, .q (.mv (.k (.int .i64 0)))⟩])
            (.block 0 (.loop (.seq (.seq (.reg /- 8 -/ [⟨(some 46), none, .q (.mv (.t 13))⟩,
      ⟨(some 47), none, .q (.mv (.t 1))⟩,
      ⟨(some 48), none, .q (.lnL (.t 47))⟩,
      ⟨(some 49), none, .q (.bin .lss true (.t 46) (.t 48))⟩,
      ⟨(some 50), none, .q (.mv (.t 49))⟩,
      ⟨(some 51), (some (50, true)), .q (.mv (.t 8))⟩,
      ⟨(some 52), (some (50, true)), .q (.bin .eql true (.t 51) (.k (.int .i64 0)))⟩,
      ⟨(some 53), none, .pick (.t 50) (.t 52) (.k (.bool false))⟩])
                  (.cond (.t 53)
                    (.skip)
                    (.exit 0)))
                  (.seq (.block 1 (.seq (.reg /- 10 -/ [⟨(some 56), none, .q (.mv (.t 1))⟩,
      ⟨(some 57), none, .q (.mv (.t 13))⟩,
      ⟨(some 58), none, .l (.ia 1 (.t 56) (.t 57))⟩,
      ⟨(some 59), none, .l (.ld1 (.t 58))⟩,
      ⟨(some 60), none, .q (.bin .rem true (.t 59) (.k (.int .u8 4)))⟩])
                      (.block 2 (.seq (.reg /- 13 -/ [⟨(some 68), none, .q (.bin .eql true (.t 60) (.k (.int .u8 0)))⟩,
      ⟨(some 67), none, .q (.mv (.t 68))⟩])
                          (.cond (.t 67)
                            (.seq (.reg /- 14 -/ [⟨(some 69), none, .q (.mv (.t 7))⟩,
      ⟨(some 70), none, .cl 16 [(.t 69)] [0]⟩,
      ⟨(some 71), none, .cl 17 [(.t 10)] [1]⟩,
      ⟨(some 72), none, .q (.eqT true [(0, .int .i64), (1, .str), (2, .int .i64), (3, .int .i64)] (.t 70) (.t 71))⟩])
                              (.cond (.t 72)
                                (.seq (.reg /- 15 -/ [⟨(some 6), none, .q (.mv (.k (.bool false)))⟩])
                                  (.ret))
                                (.skip)))
                            (.seq (.reg /- 16 -/ [⟨(some 74), none, .q (.bin .eql true (.t 60) (.k (.int .u8 1)))⟩,
      ⟨(some 73), none, .q (.mv (.t 74))⟩])
                              (.cond (.t 73)
                                (.seq (.reg /- 17 -/ [⟨(some 75), none, .q (.mv (.t 7))⟩,
      ⟨(some 76), none, .cl 18 [(.t 75)] [0]⟩,
      ⟨(some 77), none, .cl 19 [(.t 10)] [1]⟩,
      ⟨(some 78), none, .q (.eqT true [(0, .int .i64), (1, .str), (2, .int .i64), (3, .int .i64)] (.t 76) (.t 77))⟩])
                                  (.cond (.t 78)
                                    (.seq (.reg /- 18 -/ [⟨(some 6), none, .q (.mv (.k (.bool false)))⟩])
                                      (.ret))
                                    (.skip)))
                                (.seq (.reg /- 19 -/ [⟨(some 80), none, .q (.bin .eql true (.t 60) (.k (.int .u8 2)))⟩,
      ⟨(some 79), none, .q (.mv (.t 80))⟩])
                                  (.cond (.t 79)
                                    (.seq (.reg /- 20 -/ [⟨(some 81), none, .q (.mv (.t 7))⟩,
      ⟨(some 82), none, .q (.mv (.t 2))⟩,
      ⟨(some 83), none, .cl 20 [(.t 81), (.t 82)] [0]⟩,
      ⟨(some 84), none, .q (.mv (.t 2))⟩,
      ⟨(some 85), none, .cl 21 [(.t 10), (.t 84)] [1]⟩,
      ⟨(some 86), none, .q (.eqB true (.t 83) (.t 85))⟩])
                                      (.cond (.t 86)
                                        (.seq (.reg /- 21 -/ [⟨(some 6), none, .q (.mv (.k (.bool false)))⟩])
                                          (.ret))
                                        (.skip)))
                                    (.seq (.reg /- 11 -/ [⟨(some 61), none, .q (.mv (.t 7))⟩,
      ⟨(some 62), none, .q (.mv (.t 2))⟩,
      ⟨(some 63), none, .cl 22 [(.t 61), (.t 62)] [0]⟩,
      ⟨(some 64), none, .q (.mv (.t 2))⟩,
      ⟨(some 65), none, .cl 23 [(.t 10), (.t 64)] [1]⟩,
      ⟨(some 66), none, .q (.eqB true (.t 63) (.t 65))⟩])
                                      (.cond (.t 66)
                                        (.seq (.reg /- 12 -/ [⟨(some 6), none, .q (.mv (.k (.bool false)))⟩])
                                          (.ret))
                                        (.skip))))))))))))
                    (.reg /- 9 -/ [⟨(some 54), none, .q (.mv (.t 13))⟩,
      ⟨(some 55), none, .q (.bin .add true (.t 54) (.k (.int .i64 1)))⟩,
      ⟨(some 13), none, .q (.mv (.t 55))⟩]))))))
            (.seq (.reg /- 22 -/ [⟨(some 14), none, .q (.mv (.k (.pointer none)))⟩])
              (.seq (.reg /- 23 -/ [⟨(some 87), none, .q (.mv (.t 14))⟩,
      ⟨(some 88), none, .cq 16 [(.t 87)]⟩,
      ⟨(some 89), none, .q (.bd [(.int .i64 0), (.string (mk [])), (.int .i64 0), (.int .i64 0)] [])⟩,
      ⟨(some 90), none, .q (.eqT false [(0, .int .i64), (1, .str), (2, .int .i64), (3, .int .i64)] (.t 88) (.t 89))⟩,
      ⟨(some 91), none, .q (.mv (.t 90))⟩,
      ⟨(some 92), (some (91, true)), .q (.mv (.t 14))⟩,
      ⟨(some 93), (some (91, true)), .cq 18 [(.t 92)]⟩,
      ⟨(some 94), (some (91, true)), .q (.bd [(.int .i64 0), (.string (mk [])), (.int .i64 0), (.int .i64 0)] [])⟩,
      ⟨(some 95), (some (91, true)), .q (.eqT false [(0, .int .i64), (1, .str), (2, .int .i64), (3, .int .i64)] (.t 93) (.t 94))⟩,
      ⟨(some 96), none, .pick (.t 91) (.t 95) (.k (.bool false))⟩,
      ⟨(some 97), none, .q (.mv (.t 96))⟩,
      ⟨(some 98), (some (97, true)), .q (.mv (.t 14))⟩,
      ⟨(some 99), (some (97, true)), .q (.mv (.t 2))⟩,
      ⟨(some 100), (some (97, true)), .cq 20 [(.t 98), (.t 99)]⟩,
      ⟨(some 101), (some (97, true)), .q (.not (.t 100))⟩,
      ⟨(some 102), none, .pick (.t 97) (.t 101) (.k (.bool false))⟩,
      ⟨(some 103), none, .q (.mv (.t 102))⟩,
      ⟨(some 104), (some (103, true)), .q (.mv (.t 14))⟩,
      ⟨(some 105), (some (103, true)), .q (.mv (.t 2))⟩,
      ⟨(some 106), (some (103, true)), .cq 22 [(.t 104), (.t 105)]⟩,
      ⟨(some 107), (some (103, true)), .q (.not (.t 106))⟩,
      ⟨(some 108), none, .pick (.t 103) (.t 107) (.k (.bool false))⟩,
      ⟨(some 109), none, .q (.mv (.t 108))⟩,
      ⟨(some 110), (some (109, true)), .cq 11 []⟩,
      ⟨(some 111), none, .pick (.t 109) (.t 110) (.k (.bool false))⟩,
      ⟨(some 6), none, .q (.mv (.t 111))⟩])
                (.ret))))))))
def rs6 : List RV := [.mv (.t 6)]
theorem ok6 : trFn Try.prog true ⟨fun r k => if r = 2 ∧ k = 0 then .q else if r = 14 ∧ k = 1 then .own [0] else if r = 14 ∧ k = 2 then .own [1] else if r = 17 ∧ k = 1 then .own [0] else if r = 17 ∧ k = 2 then .own [1] else if r = 20 ∧ k = 2 then .own [0] else if r = 20 ∧ k = 4 then .own [1] else if r = 11 ∧ k = 2 then .own [0] else if r = 11 ∧ k = 4 then .own [1] else if r = 23 ∧ k = 1 then .q else if r = 23 ∧ k = 6 then .q else if r = 23 ∧ k = 13 then .q else if r = 23 ∧ k = 19 then .q else if r = 23 ∧ k = 23 then .q else .own [], fun _ => false⟩ Try.f6 = some (pc6, rs6) := by kernel_rfl
end Go.Proofs.Ytgophdhegdcekaa.Wk
