import Derived.Test.YtgophdhegdcekaaProg
import Derived.Test.YtgophdhegdcekaaW15
namespace Go.Proofs.Ytgophdhegdcekaa
open Go.W
/-- robotics/roboticslaw06.LexerScans -/
def pc3 : PC :=
  .seq (.reg /- 0 -/ [⟨(some 2), none, .q (.mv (.k (.bool false)))⟩])
  (.seq (.reg /- 1 -/ [⟨(some 10), none, .q (.mv (.t 0))⟩,
      ⟨(some 11), none, .cl 8 [(.t 10)] []⟩,
      ⟨(some 9), none, .q (.mv (.t 11))⟩,
      ⟨(some 12), none, .q (.ex (.t 9) 0)⟩,
      ⟨(some 13), none, .q (.ex (.t 9) 1)⟩,
      ⟨(some 14), none, .q (.ex (.t 9) 2)⟩,
      ⟨(some 3), none, .q (.mv (.t 12))⟩,
      ⟨(some 4), none, .q (.mv (.t 13))⟩,
      ⟨(some 5), none, .q (.mv (.t 14))⟩])
    (.seq (.reg /- 2 -/ [⟨(some 16), none, .q (.mv (.t 0))⟩,
      ⟨(some 17), none, .cl 9 [(.t 16)] []⟩,
      ⟨(some 15), none, .q (.mv (.t 17))⟩,
      ⟨(some 18), none, .q (.ex (.t 15) 0)⟩,
      ⟨(some 19), none, .q (.ex (.t 15) 1)⟩,
      ⟨(some 20), none, .q (.ex (.t 15) 2)⟩,
      ⟨(some 6), none, .q (.mv (.t 18))⟩,
      ⟨(some 7), none, .q (.mv (.t 19))⟩,
      ⟨(some 8), none, .q (.mv (.t 20))⟩])
      (.seq (.reg /- 3 -/ [⟨(some 21), none, .q (.mv (.t 4))⟩,
      ⟨(some 22), none, .q (.mv (.t 7))⟩,
      ⟨(some 23), none, .q (.bin .eql true (.t 21) (.t 22))⟩,
      ⟨(some 24), none, .q (.mv (.t 23))⟩,
      ⟨(some 25), (some (24, true)), .q (.mv (.t 5))⟩,
      ⟨(some 26), (some (24, true)), .q (.mv (.t 8))⟩,
      ⟨(some 27), (some (24, true)), .q (.bin .eql true (.t 25) (.t 26))⟩,
      ⟨(some 28), none, .pick (.t 24) (.t 27) (.k (.bool false))⟩,
      ⟨(some 29), none, .q (.mv (.t 28))⟩,
      ⟨(some 30), (some (29, true)), .q (.mv (.t 3))⟩,
      ⟨(some 31), (some (29, true)), .q (.mv (.t 6))⟩,
      ⟨(some 32), (some (29, true)), .cq 10 [(.t 30), (.t 31)]⟩,
      ⟨(some 33), none, .pick (.t 29) (.t 32) (.k (.bool false))⟩,
      ⟨(some 34), none, .q (.mv (.t 33))⟩,
      ⟨(some 35), (some (34, true)), .cq 11 []⟩,
      ⟨(some 36), none, .pick (.t 34) (.t 35) (.k (.bool false))⟩,
      ⟨(some 2), none, .q (.mv (.t 36))⟩])
        (.ret))))
def rs3 : List RV := [.mv (.t 2)]
theorem ok3 : trFn Try.prog true ⟨fun r k => if r = 3 ∧ k = 11 then .q else if r = 3 ∧ k = 14 then .q else .own [], fun _ => false⟩ Try.f3 = some (pc3, rs3) := by kernel_rfl
/-- robotics/roboticslaw06.LexerOffsets -/
def pc4 : PC :=
  .seq (.reg /- 0 -/ [⟨(some 2), none, .q (.mv (.k (.bool false)))⟩])
  (.seq (.reg /- 1 -/ [⟨(some 9), none, .q (.mv (.t 0))⟩,
      ⟨(some 10), none, .cl 8 [(.t 9)] []⟩,
      ⟨(some 8), none, .q (.mv (.t 10))⟩,
      ⟨(some 11), none, .q (.ex (.t 8) 0)⟩,
      ⟨(some 12), none, .q (.ex (.t 8) 1)⟩,
      ⟨(some 13), none, .q (.ex (.t 8) 2)⟩,
      ⟨(some 3), none, .q (.mv (.t 11))⟩,
      ⟨(some 4), none, .q (.mv (.t 12))⟩,
      ⟨(some 5), none, .q (.mv (.t 13))⟩])
    (.seq (.seq (.reg /- 2 -/ [⟨(some 14), none, .q (.mv (.t 4))⟩,
      ⟨(some 15), none, .q (.bin .neq true (.t 14) (.k (.int .i64 0)))⟩])
      (.cond (.t 15)
        (.seq (.reg /- 3 -/ [⟨(some 16), none, .q (.mv (.t 3))⟩,
      ⟨(some 17), none, .q (.lnL (.t 16))⟩,
      ⟨(some 18), none, .q (.bin .eql true (.t 17) (.k (.int .i64 0)))⟩,
      ⟨(some 19), none, .q (.mv (.t 18))⟩,
      ⟨(some 20), (some (19, true)), .q (.mv (.t 5))⟩,
      ⟨(some 21), (some (19, true)), .q (.bin .geq true (.t 20) (.k (.int .i64 0)))⟩,
      ⟨(some 22), none, .pick (.t 19) (.t 21) (.k (.bool false))⟩,
      ⟨(some 23), none, .q (.mv (.t 22))⟩,
      ⟨(some 24), (some (23, true)), .q (.mv (.t 5))⟩,
      ⟨(some 25), (some (23, true)), .q (.mv (.t 0))⟩,
      ⟨(some 26), (some (23, true)), .q (.lnS (.t 25))⟩,
      ⟨(some 27), (some (23, true)), .q (.bin .leq true (.t 24) (.t 26))⟩,
      ⟨(some 28), none, .pick (.t 23) (.t 27) (.k (.bool false))⟩,
      ⟨(some 29), none, .q (.mv (.t 28))⟩,
      ⟨(some 30), (some (29, true)), .cq 11 []⟩,
      ⟨(some 31), none, .pick (.t 29) (.t 30) (.k (.bool false))⟩,
      ⟨(some 2), none, .q (.mv (.t 31))⟩])
          (.ret))
        (.skip)))
      (.seq (.seq (.reg /- 4 -/ [⟨(some 6), none, .q (.mv (.k (.int .i64 0)))⟩])
        (.block 0 (.loop (.seq (.seq (.reg /- 5 -/ [⟨(some 32), none, .q (.mv (.t 6))⟩,
      ⟨(some 33), none, .q (.mv (.t 3))⟩,
      ⟨(some 34), none, .q (.lnL (.t 33))⟩,
      ⟨(some 35), none, .q (.bin .lss true (.t 32) (.t 34))⟩])
              (.cond (.t 35)
                (.skip)
                (.exit 0)))
              (.seq (.block 1 (.seq (.reg /- 7 -/ [⟨(some 38), none, .q (.mv (.t 3))⟩,
      ⟨(some 39), none, .q (.mv (.t 6))⟩,
      ⟨(some 40), none, .l (.ia 4 (.t 38) (.t 39))⟩,
      ⟨(some 41), none, .l (.ldn 4 (.t 40))⟩,
      ⟨(some 7), none, .e (.al (.agg #[(.int .i64 0), (.string (mk [])), (.int .i64 0), (.int .i64 0)]) 30)⟩,
      ⟨none, none, .e (.st 4 (.t 7) (.t 41))⟩])
                  (.seq (.seq (.reg /- 8 -/ [⟨(some 42), none, .q (.fa 0 (.t 7))⟩,
      ⟨(some 43), none, .l (.ld1 (.t 42))⟩,
      ⟨(some 44), none, .q (.bin .eql true (.t 43) (.k (.int .i64 0)))⟩,
      ⟨(some 45), none, .q (.mv (.t 6))⟩,
      ⟨(some 46), none, .q (.mv (.t 3))⟩,
      ⟨(some 47), none, .q (.lnL (.t 46))⟩,
      ⟨(some 48), none, .q (.bin .sub true (.t 47) (.k (.int .i64 1)))⟩,
      ⟨(some 49), none, .q (.bin .eql true (.t 45) (.t 48))⟩,
      ⟨(some 50), none, .q (.eqB true (.t 44) (.t 49))⟩,
      ⟨(some 51), none, .q (.mv (.t 50))⟩,
      ⟨(some 52), (some (51, false)), .q (.fa 3 (.t 7))⟩,
      ⟨(some 53), (some (51, false)), .l (.ld1 (.t 52))⟩,
      ⟨(some 54), (some (51, false)), .q (.bin .lss true (.t 53) (.k (.int .i64 0)))⟩,
      ⟨(some 55), none, .pick (.t 51) (.k (.bool true)) (.t 54)⟩,
      ⟨(some 56), none, .q (.mv (.t 55))⟩,
      ⟨(some 57), (some (56, false)), .q (.mv (.t 6))⟩,
      ⟨(some 58), (some (56, false)), .q (.bin .gtr true (.t 57) (.k (.int .i64 0)))⟩,
      ⟨(some 59), (some (56, false)), .q (.mv (.t 58))⟩,
      ⟨(some 60), (some (59, true)), .q (.fa 3 (.t 7))⟩,
      ⟨(some 61), (some (59, true)), .l (.ld1 (.t 60))⟩,
      ⟨(some 62), (some (59, true)), .q (.mv (.t 3))⟩,
      ⟨(some 63), (some (59, true)), .q (.mv (.t 6))⟩,
      ⟨(some 64), (some (59, true)), .q (.bin .sub true (.t 63) (.k (.int .i64 1)))⟩,
      ⟨(some 65), (some (59, true)), .l (.ia 4 (.t 62) (.t 64))⟩,
      ⟨(some 66), (some (59, true)), .q (.fa 3 (.t 65))⟩,
      ⟨(some 67), (some (59, true)), .l (.ld1 (.t 66))⟩,
      ⟨(some 68), (some (59, true)), .q (.bin .leq true (.t 61) (.t 67))⟩,
      ⟨(some 69), (some (56, false)), .pick (.t 59) (.t 68) (.k (.bool false))⟩,
      ⟨(some 70), none, .pick (.t 56) (.k (.bool true)) (.t 69)⟩])
                    (.cond (.t 70)
                      (.seq (.reg /- 9 -/ [⟨(some 2), none, .q (.mv (.k (.bool false)))⟩])
                        (.ret))
                      (.skip)))
                    (.seq (.seq (.reg /- 10 -/ [⟨(some 71), none, .q (.fa 0 (.t 7))⟩,
      ⟨(some 72), none, .l (.ld1 (.t 71))⟩,
      ⟨(some 73), none, .q (.bin .eql true (.t 72) (.k (.int .i64 0)))⟩])
                      (.cond (.t 73)
                        (.seq (.seq (.reg /- 11 -/ [⟨(some 74), none, .q (.fa 3 (.t 7))⟩,
      ⟨(some 75), none, .l (.ld1 (.t 74))⟩,
      ⟨(some 76), none, .q (.mv (.t 0))⟩,
      ⟨(some 77), none, .q (.lnS (.t 76))⟩,
      ⟨(some 78), none, .q (.bin .neq true (.t 75) (.t 77))⟩])
                          (.cond (.t 78)
                            (.seq (.reg /- 12 -/ [⟨(some 2), none, .q (.mv (.k (.bool false)))⟩])
                              (.ret))
                            (.skip)))
                          (.exit 1))
                        (.skip)))
                      (.seq (.reg /- 13 -/ [⟨(some 79), none, .q (.fa 3 (.t 7))⟩,
      ⟨(some 80), none, .l (.ld1 (.t 79))⟩,
      ⟨(some 81), none, .q (.mv (.t 0))⟩,
      ⟨(some 82), none, .q (.lnS (.t 81))⟩,
      ⟨(some 83), none, .q (.bin .geq true (.t 80) (.t 82))⟩,
      ⟨(some 84), none, .q (.mv (.t 83))⟩,
      ⟨(some 85), (some (84, false)), .q (.mv (.t 0))⟩,
      ⟨(some 86), (some (84, false)), .q (.fa 3 (.t 7))⟩,
      ⟨(some 87), (some (84, false)), .l (.ld1 (.t 86))⟩,
      ⟨(some 88), (some (84, false)), .ix (.t 85) (.t 87)⟩,
      ⟨(some 89), (some (84, false)), .q (.bin .leq true (.t 88) (.k (.int .u8 32)))⟩,
      ⟨(some 90), none, .pick (.t 84) (.k (.bool true)) (.t 89)⟩,
      ⟨(some 91), none, .q (.mv (.t 90))⟩,
      ⟨(some 92), (some (91, false)), .q (.mv (.t 0))⟩,
      ⟨(some 93), (some (91, false)), .q (.fa 3 (.t 7))⟩,
      ⟨(some 94), (some (91, false)), .l (.ld1 (.t 93))⟩,
      ⟨(some 95), (some (91, false)), .ix (.t 92) (.t 94)⟩,
      ⟨(some 96), (some (91, false)), .q (.bin .eql true (.t 95) (.k (.int .u8 35)))⟩,
      ⟨(some 97), none, .pick (.t 91) (.k (.bool true)) (.t 96)⟩,
      ⟨(some 98), none, .q (.mv (.t 97))⟩,
      ⟨(some 99), (some (98, false)), .q (.mv (.t 0))⟩,
      ⟨(some 100), (some (98, false)), .q (.fa 3 (.t 7))⟩,
      ⟨(some 101), (some (98, false)), .l (.ld1 (.t 100))⟩,
      ⟨(some 102), (some (98, false)), .ix (.t 99) (.t 101)⟩,
      ⟨(some 103), (some (98, false)), .q (.bin .eql true (.t 102) (.k (.int .u8 34)))⟩,
      ⟨(some 104), (some (98, false)), .q (.fa 0 (.t 7))⟩,
      ⟨(some 105), (some (98, false)), .l (.ld1 (.t 104))⟩,
      ⟨(some 106), (some (98, false)), .q (.bin .eql true (.t 105) (.k (.int .i64 3)))⟩,
      ⟨(some 107), (some (98, false)), .q (.eqB true (.t 103) (.t 106))⟩,
      ⟨(some 108), none, .pick (.t 98) (.k (.bool true)) (.t 107)⟩,
      ⟨(some 109), none, .q (.mv (.t 108))⟩,
      ⟨(some 110), (some (109, false)), .q (.fa 0 (.t 7))⟩,
      ⟨(some 111), (some (109, false)), .l (.ld1 (.t 110))⟩,
      ⟨(some 112), (some (109, false)), .q (.bin .eql true (.t 111) (.k (.int .i64 1)))⟩,
      ⟨(some 113), (some (109, false)), .q (.mv (.t 0))⟩,
      ⟨(some 114), (some (109, false)), .q (.fa 3 (.t 7))⟩,
      ⟨(some 115), (some (109, false)), .l (.ld1 (.t 114))⟩,
      ⟨(some 116), (some (109, false)), .q (.fa 3 (.t 7))⟩,
      ⟨(some 117), (some (109, false)), .l (.ld1 (.t 116))⟩,
      ⟨(some 118), (some (109, false)), .q (.bin .add true (.t 117) (.k (.int .i64 1)))⟩,
      ⟨(some 119), (some (109, false)), .q (.ss (.t 113) (some (.t 115)) (some (.t 118)))⟩,
      ⟨(some 120), (some (109, false)), .cq 12 [(.t 119)]⟩,
      ⟨(some 121), (some (109, false)), .q (.eqB true (.t 112) (.t 120))⟩,
      ⟨(some 122), none, .pick (.t 109) (.k (.bool true)) (.t 121)⟩])
                        (.cond (.t 122)
                          (.seq (.reg /- 14 -/ [⟨(some 2), none, .q (.mv (.k (.bool false)))⟩])
                            (.ret))
                          (.skip)))))))
                (.reg /- 6 -/ [⟨(some 36), none, .q (.mv (.t 6))⟩,
      ⟨(some 37), none, .q (.bin .add true (.t 36) (.k (.int .i64 1)))⟩,
      ⟨(some 6), none, .q (.mv (.t 37))⟩]))))))
        (.seq (.reg /- 15 -/ [⟨(some 123), none, .q (.mv (.t 3))⟩,
      ⟨(some 124), none, .q (.lnL (.t 123))⟩,
      ⟨(some 125), none, .q (.bin .gtr true (.t 124) (.k (.int .i64 0)))⟩,
      ⟨(some 126), none, .q (.mv (.t 125))⟩,
      ⟨(some 127), (some (126, true)), .cq 11 []⟩,
      ⟨(some 128), none, .pick (.t 126) (.t 127) (.k (.bool false))⟩,
      ⟨(some 2), none, .q (.mv (.t 128))⟩])
          (.ret)))))
def rs4 : List RV := [.mv (.t 2)]
theorem ok4 : trFn Try.prog true ⟨fun r k => if r = 3 ∧ k = 14 then .q else if r = 13 ∧ k = 41 then .q else if r = 15 ∧ k = 4 then .q else .own [], fun _ => false⟩ Try.f4 = some (pc4, rs4) := by kernel_rfl
/-- robotics/roboticslaw06.LexerNames -/
def pc5 : PC :=
  .seq (.reg /- 0 -/ [⟨(some 2), none, .q (.mv (.k (.bool false)))⟩])
  (.seq (.reg /- 1 -/ [⟨(some 8), none, .q (.mv (.t 0))⟩,
      ⟨(some 9), none, .cl 8 [(.t 8)] []⟩,
      ⟨(some 7), none, .q (.mv (.t 9))⟩,
      ⟨(some 10), none, .q (.ex (.t 7) 0)⟩,
      ⟨(some 11), none, .q (.ex (.t 7) 1)⟩,
      ⟨(some 12), none, .q (.ex (.t 7) 2)⟩,
      ⟨(some 3), none, .q (.mv (.t 10))⟩,
      ⟨(some 4), none, .q (.mv (.t 11))⟩,
      ⟨(some 5), none, .q (.mv (.t 12))⟩])
    (.seq (.reg /- 2 -/ [⟨(some 13), none, .q (.mv (.t 4))⟩,
      ⟨(some 14), none, .q (.bin .eql true (.t 13) (.k (.int .i64 0)))⟩,
      ⟨(some 15), none, .q (.mv (.t 14))⟩,
      ⟨(some 16), (some (15, true)), .q (.mv (.t 3))⟩,
      ⟨(some 17), (some (15, true)), .q (.lnL (.t 16))⟩,
      ⟨(some 18), (some (15, true)), .q (.bin .eql true (.t 17) (.k (.int .i64 2)))⟩,
      ⟨(some 19), none, .pick (.t 15) (.t 18) (.k (.bool false))⟩,
      ⟨(some 20), none, .q (.mv (.t 19))⟩,
      ⟨(some 21), (some (20, true)), .q (.mv (.t 3))⟩,
      ⟨(some 22), (some (20, true)), .l (.ia 4 (.t 21) (.k (.int .i64 0)))⟩,
      ⟨(some 23), (some (20, true)), .q (.fa 0 (.t 22))⟩,
      ⟨(some 24), (some (20, true)), .l (.ld1 (.t 23))⟩,
      ⟨(some 25), (some (20, true)), .q (.bin .eql true (.t 24) (.k (.int .i64 1)))⟩,
      ⟨(some 26), none, .pick (.t 20) (.t 25) (.k (.bool false))⟩,
      ⟨(some 27), none, .q (.mv (.t 26))⟩,
      ⟨(some 28), (some (27, true)), .q (.mv (.t 3))⟩,
      ⟨(some 29), (some (27, true)), .l (.ia 4 (.t 28) (.k (.int .i64 0)))⟩,
      ⟨(some 30), (some (27, true)), .q (.fa 1 (.t 29))⟩,
      ⟨(some 31), (some (27, true)), .l (.ld1 (.t 30))⟩,
      ⟨(some 32), (some (27, true)), .q (.mv (.t 0))⟩,
      ⟨(some 33), (some (27, true)), .q (.bin .eql true (.t 31) (.t 32))⟩,
      ⟨(some 34), none, .pick (.t 27) (.t 33) (.k (.bool false))⟩,
      ⟨(some 6), none, .q (.mv (.t 34))⟩])
      (.seq (.reg /- 3 -/ [⟨(some 35), none, .q (.mv (.t 0))⟩,
      ⟨(some 36), none, .cq 12 [(.t 35)]⟩,
      ⟨(some 37), none, .q (.mv (.t 0))⟩,
      ⟨(some 38), none, .cq 13 [(.t 37)]⟩,
      ⟨(some 39), none, .q (.eqB false (.t 36) (.t 38))⟩,
      ⟨(some 40), none, .q (.mv (.t 39))⟩,
      ⟨(some 41), (some (40, true)), .q (.mv (.t 0))⟩,
      ⟨(some 42), (some (40, true)), .cq 12 [(.t 41)]⟩,
      ⟨(some 43), (some (40, true)), .q (.mv (.t 6))⟩,
      ⟨(some 44), (some (40, true)), .q (.eqB false (.t 42) (.t 43))⟩,
      ⟨(some 45), none, .pick (.t 40) (.t 44) (.k (.bool false))⟩,
      ⟨(some 46), none, .q (.mv (.t 45))⟩,
      ⟨(some 47), (some (46, true)), .cq 11 []⟩,
      ⟨(some 48), none, .pick (.t 46) (.t 47) (.k (.bool false))⟩,
      ⟨(some 2), none, .q (.mv (.t 48))⟩])
        (.ret))))
def rs5 : List RV := [.mv (.t 2)]
theorem ok5 : trFn Try.prog true ⟨fun r k => if r = 3 ∧ k = 1 then .q else if r = 3 ∧ k = 3 then .q else if r = 3 ∧ k = 7 then .q else if r = 3 ∧ k = 12 then .q else .own [], fun _ => false⟩ Try.f5 = some (pc5, rs5) := by kernel_rfl
/-- robotics/roboticslaw06.LexerWalks -/
def pc6 : PC :=
  .seq (.reg /- 0 -/ [⟨(some 6), none, .q (.mv (.k (.bool false)))⟩])
  (.seq (.seq (.reg /- 1 -/ [⟨(some 15), none, .q (.mv (.t 1))⟩,
      ⟨(some 16), none, .q (.lnL (.t 15))⟩,
      ⟨(some 17), none, .q (.bin .gtr true (.t 16) (.k (.int .i64 60)))⟩])
    (.cond (.t 17)
      (.seq (.reg /- 2 -/ [⟨(some 18), none, .cq 11 []⟩,
      ⟨(some 6), none, .q (.mv (.t 18))⟩])
        (.ret))
      (.skip)))
    (.seq (.reg /- 3 -/ [⟨(some 20), none, .q (.mv (.t 0))⟩,
      ⟨(some 21), none, .cl 14 [(.t 20)] []⟩,
      ⟨(some 19), none, .q (.mv (.t 21))⟩,
      ⟨(some 22), none, .q (.ex (.t 19) 0)⟩,
      ⟨(some 23), none, .q (.ex (.t 19) 1)⟩,
      ⟨(some 24), none, .q (.ex (.t 19) 2)⟩,
      ⟨(some 7), none, .q (.mv (.t 22))⟩,
      ⟨(some 8), none, .q (.mv (.t 23))⟩,
      ⟨(some 9), none, .q (.mv (.t 24))⟩])
      (.seq (.reg /- 4 -/ [⟨(some 26), none, .q (.mv (.t 0))⟩,
      ⟨(some 27), none, .cl 15 [(.t 26)] []⟩,
      ⟨(some 25), none, .q (.mv (.t 27))⟩,
      ⟨(some 28), none, .q (.ex (.t 25) 0)⟩,
      ⟨(some 29), none, .q (.ex (.t 25) 1)⟩,
      ⟨(some 30), none, .q (.ex (.t 25) 2)⟩,
      ⟨(some 10), none, .e (.al (.agg #[(.slice none 0 0), (.int .i64 0)]) 36)⟩,
      ⟨none, none, .e (.st 2 (.t 10) (.t 28))⟩,
      ⟨(some 11), none, .q (.mv (.t 29))⟩,
      ⟨(some 12), none, .q (.mv (.t 30))⟩])
        (.seq (.seq (.reg /- 5 -/ [⟨(some 31), none, .q (.mv (.t 8))⟩,
      ⟨(some 32), none, .q (.mv (.t 11))⟩,
      ⟨(some 33), none, .q (.bin .neq true (.t 31) (.t 32))⟩,
      ⟨(some 34), none, .q (.mv (.t 33))⟩,
      ⟨(some 35), (some (34, false)), .q (.mv (.t 9))⟩,
      ⟨(some 36), (some (34, false)), .q (.mv (.t 12))⟩,
      ⟨(some 37), (some (34, false)), .q (.bin .neq true (.t 35) (.t 36))⟩,
      ⟨(some 38), none, .pick (.t 34) (.k (.bool true)) (.t 37)⟩,
      ⟨(some 39), none, .q (.mv (.t 38))⟩,
      ⟨(some 40), (some (39, false)), .q (.mv (.t 7))⟩,
      ⟨(some 41), (some (39, false)), .q (.eqP true (.t 40) (.k (.pointer none)))⟩,
      ⟨(some 42), (some (39, false)), .q (.mv (.t 8))⟩,
      ⟨(some 43), (some (39, false)), .q (.bin .eql true (.t 42) (.k (.int .i64 0)))⟩,
      ⟨(some 44), (some (39, false)), .q (.eqB true (.t 41) (.t 43))⟩,
      ⟨(some 45), none, .pick (.t 39) (.k (.bool true)) (.t 44)⟩])
          (.cond (.t 45)
            (.seq (.reg /- 6 -/ [⟨(some 6), none, .q (.mv (.k (.bool false)))⟩])
              (.ret))
            (.skip)))
          (.seq (.seq (.reg /- 7 -/ [⟨(some 13), none, .q (.mv (.k (.int .i64 0)))⟩])
            (.block 0 (.loop (.seq (.seq (.reg /- 8 -/ [⟨(some 46), none, .q (.mv (.t 13))⟩,
      ⟨(some 47), none, .q (.mv (.t 1))⟩,
      ⟨(some 48), none, .q (.lnL (.t 47))⟩,
      ⟨(some 49), none, .q (.bin .lss true (.t 46) (.t 48))⟩,
      ⟨(some 50), none, .q (.mv (.t 49))⟩,
      ⟨(some 51), (some (50, true)), .q (.mv (.t 8))⟩,
      ⟨(some 52), (some (50, true)), .q (.bin .eql true (.t 51) (.k (.int .i64 0)))⟩,
      ⟨(some 53), none, .pick (.t 50) (.t 52) (.k (.bool false))⟩])
                  (.cond (.t 53)
                    (.skip)
                    (.exit 0)))
                  (.seq (.block 1 (.seq (.reg /- 10 -/ [⟨(some 56), none, .q (.mv (.t 1))⟩,
      ⟨(some 57), none, .q (.mv (.t 13))⟩,
      ⟨(some 58), none, .l (.ia 1 (.t 56) (.t 57))⟩,
      ⟨(some 59), none, .l (.ld1 (.t 58))⟩,
      ⟨(some 60), none, .q (.bin .rem true (.t 59) (.k (.int .u8 4)))⟩])
                      (.block 2 (.seq (.reg /- 13 -/ [⟨(some 68), none, .q (.bin .eql true (.t 60) (.k (.int .u8 0)))⟩,
      ⟨(some 67), none, .q (.mv (.t 68))⟩])
                          (.cond (.t 67)
                            (.seq (.reg /- 14 -/ [⟨(some 69), none, .q (.mv (.t 7))⟩,
      ⟨(some 70), none, .cl 16 [(.t 69)] [0]⟩,
      ⟨(some 71), none, .cl 17 [(.t 10)] [0]⟩,
      ⟨(some 72), none, .q (.eqT true [(0, .int .i64), (1, .str), (2, .int .i64), (3, .int .i64)] (.t 70) (.t 71))⟩])
                              (.cond (.t 72)
                                (.seq (.reg /- 15 -/ [⟨(some 6), none, .q (.mv (.k (.bool false)))⟩])
                                  (.ret))
                                (.skip)))
                            (.seq (.reg /- 16 -/ [⟨(some 74), none, .q (.bin .eql true (.t 60) (.k (.int .u8 1)))⟩,
      ⟨(some 73), none, .q (.mv (.t 74))⟩])
                              (.cond (.t 73)
                                (.seq (.reg /- 17 -/ [⟨(some 75), none, .q (.mv (.t 7))⟩,
      ⟨(some 76), none, .cl 18 [(.t 75)] [0]⟩,
      ⟨(some 77), none, .cl 19 [(.t 10)] [0]⟩,
      ⟨(some 78), none, .q (.eqT true [(0, .int .i64), (1, .str), (2, .int .i64), (3, .int .i64)] (.t 76) (.t 77))⟩])
                                  (.cond (.t 78)
                                    (.seq (.reg /- 18 -/ [⟨(some 6), none, .q (.mv (.k (.bool false)))⟩])
                                      (.ret))
                                    (.skip)))
                                (.seq (.reg /- 19 -/ [⟨(some 80), none, .q (.bin .eql true (.t 60) (.k (.int .u8 2)))⟩,
      ⟨(some 79), none, .q (.mv (.t 80))⟩])
                                  (.cond (.t 79)
                                    (.seq (.reg /- 20 -/ [⟨(some 81), none, .q (.mv (.t 7))⟩,
      ⟨(some 82), none, .q (.mv (.t 2))⟩,
      ⟨(some 83), none, .cl 20 [(.t 81), (.t 82)] [0]⟩,
      ⟨(some 84), none, .q (.mv (.t 2))⟩,
      ⟨(some 85), none, .cl 21 [(.t 10), (.t 84)] [0]⟩,
      ⟨(some 86), none, .q (.eqB true (.t 83) (.t 85))⟩])
                                      (.cond (.t 86)
                                        (.seq (.reg /- 21 -/ [⟨(some 6), none, .q (.mv (.k (.bool false)))⟩])
                                          (.ret))
                                        (.skip)))
                                    (.seq (.reg /- 11 -/ [⟨(some 61), none, .q (.mv (.t 7))⟩,
      ⟨(some 62), none, .q (.mv (.t 2))⟩,
      ⟨(some 63), none, .cl 22 [(.t 61), (.t 62)] [0]⟩,
      ⟨(some 64), none, .q (.mv (.t 2))⟩,
      ⟨(some 65), none, .cl 23 [(.t 10), (.t 64)] [0]⟩,
      ⟨(some 66), none, .q (.eqB true (.t 63) (.t 65))⟩])
                                      (.cond (.t 66)
                                        (.seq (.reg /- 12 -/ [⟨(some 6), none, .q (.mv (.k (.bool false)))⟩])
                                          (.ret))
                                        (.skip))))))))))))
                    (.reg /- 9 -/ [⟨(some 54), none, .q (.mv (.t 13))⟩,
      ⟨(some 55), none, .q (.bin .add true (.t 54) (.k (.int .i64 1)))⟩,
      ⟨(some 13), none, .q (.mv (.t 55))⟩]))))))
            (.seq (.reg /- 22 -/ [⟨(some 14), none, .q (.mv (.k (.pointer none)))⟩])
              (.seq (.reg /- 23 -/ [⟨(some 87), none, .q (.mv (.t 14))⟩,
      ⟨(some 88), none, .cl 16 [(.t 87)] [0]⟩,
      ⟨(some 89), none, .q (.bd [(.int .i64 0), (.string (mk [])), (.int .i64 0), (.int .i64 0)] [])⟩,
      ⟨(some 90), none, .q (.eqT false [(0, .int .i64), (1, .str), (2, .int .i64), (3, .int .i64)] (.t 88) (.t 89))⟩,
      ⟨(some 91), none, .q (.mv (.t 90))⟩,
      ⟨(some 92), (some (91, true)), .q (.mv (.t 14))⟩,
      ⟨(some 93), (some (91, true)), .cl 18 [(.t 92)] [0]⟩,
      ⟨(some 94), (some (91, true)), .q (.bd [(.int .i64 0), (.string (mk [])), (.int .i64 0), (.int .i64 0)] [])⟩,
      ⟨(some 95), (some (91, true)), .q (.eqT false [(0, .int .i64), (1, .str), (2, .int .i64), (3, .int .i64)] (.t 93) (.t 94))⟩,
      ⟨(some 96), none, .pick (.t 91) (.t 95) (.k (.bool false))⟩,
      ⟨(some 97), none, .q (.mv (.t 96))⟩,
      ⟨(some 98), (some (97, true)), .q (.mv (.t 14))⟩,
      ⟨(some 99), (some (97, true)), .q (.mv (.t 2))⟩,
      ⟨(some 100), (some (97, true)), .cl 20 [(.t 98), (.t 99)] [0]⟩,
      ⟨(some 101), (some (97, true)), .q (.not (.t 100))⟩,
      ⟨(some 102), none, .pick (.t 97) (.t 101) (.k (.bool false))⟩,
      ⟨(some 103), none, .q (.mv (.t 102))⟩,
      ⟨(some 104), (some (103, true)), .q (.mv (.t 14))⟩,
      ⟨(some 105), (some (103, true)), .q (.mv (.t 2))⟩,
      ⟨(some 106), (some (103, true)), .cl 22 [(.t 104), (.t 105)] [0]⟩,
      ⟨(some 107), (some (103, true)), .q (.not (.t 106))⟩,
      ⟨(some 108), none, .pick (.t 103) (.t 107) (.k (.bool false))⟩,
      ⟨(some 109), none, .q (.mv (.t 108))⟩,
      ⟨(some 110), (some (109, true)), .cq 11 []⟩,
      ⟨(some 111), none, .pick (.t 109) (.t 110) (.k (.bool false))⟩,
      ⟨(some 6), none, .q (.mv (.t 111))⟩])
                (.ret))))))))
def rs6 : List RV := [.mv (.t 6)]
theorem ok6 : trFn Try.prog true ⟨fun r k => if r = 2 ∧ k = 0 then .q else if r = 14 ∧ k = 1 then .own [0] else if r = 14 ∧ k = 2 then .own [0] else if r = 17 ∧ k = 1 then .own [0] else if r = 17 ∧ k = 2 then .own [0] else if r = 20 ∧ k = 2 then .own [0] else if r = 20 ∧ k = 4 then .own [0] else if r = 11 ∧ k = 2 then .own [0] else if r = 11 ∧ k = 4 then .own [0] else if r = 23 ∧ k = 1 then .own [0] else if r = 23 ∧ k = 6 then .own [0] else if r = 23 ∧ k = 13 then .own [0] else if r = 23 ∧ k = 19 then .own [0] else if r = 23 ∧ k = 23 then .q else .own [], fun _ => false⟩ Try.f6 = some (pc6, rs6) := by kernel_rfl
/-- robotics/roboticslaw06.LexerRoundTrip -/
def pc7 : PC :=
  .seq (.reg /- 0 -/ [⟨(some 2), none, .q (.mv (.k (.bool false)))⟩])
  (.seq (.seq (.reg /- 1 -/ [⟨(some 9), none, .q (.mv (.t 0))⟩,
      ⟨(some 10), none, .q (.lnL (.t 9))⟩,
      ⟨(some 11), none, .q (.bin .gtr true (.t 10) (.k (.int .i64 60)))⟩])
    (.cond (.t 11)
      (.seq (.reg /- 2 -/ [⟨(some 12), none, .cq 11 []⟩,
      ⟨(some 2), none, .q (.mv (.t 12))⟩])
        (.ret))
      (.skip)))
    (.seq (.reg /- 3 -/ [⟨(some 13), none, .q (.mv (.t 0))⟩,
      ⟨(some 14), none, .cq 24 [(.t 13)]⟩,
      ⟨(some 3), none, .q (.mv (.t 14))⟩])
      (.seq (.seq (.reg /- 4 -/ [⟨(some 15), none, .q (.mv (.t 3))⟩,
      ⟨(some 16), none, .q (.mv (.t 0))⟩,
      ⟨(some 17), none, .cq 25 [(.t 16)]⟩,
      ⟨(some 18), none, .q (.bin .neq true (.t 15) (.t 17))⟩])
        (.cond (.t 18)
          (.seq (.reg /- 5 -/ [⟨(some 2), none, .q (.mv (.k (.bool false)))⟩])
            (.ret))
          (.skip)))
        (.seq (.seq (.reg /- 6 -/ [⟨(some 19), none, .q (.mv (.t 3))⟩,
      ⟨(some 20), none, .q (.lnS (.t 19))⟩,
      ⟨(some 21), none, .q (.bin .gtr true (.t 20) (.k (.int .i64 4000)))⟩])
          (.cond (.t 21)
            (.seq (.reg /- 7 -/ [⟨(some 22), none, .cq 11 []⟩,
      ⟨(some 2), none, .q (.mv (.t 22))⟩])
              (.ret))
            (.skip)))
          (.seq (.reg /- 8 -/ [⟨(some 24), none, .q (.mv (.t 3))⟩,
      ⟨(some 25), none, .cl 8 [(.t 24)] []⟩,
      ⟨(some 23), none, .q (.mv (.t 25))⟩,
      ⟨(some 26), none, .q (.ex (.t 23) 0)⟩,
      ⟨(some 27), none, .q (.ex (.t 23) 1)⟩,
      ⟨(some 28), none, .q (.ex (.t 23) 2)⟩,
      ⟨(some 4), none, .q (.mv (.t 26))⟩,
      ⟨(some 5), none, .q (.mv (.t 27))⟩,
      ⟨(some 6), none, .q (.mv (.t 28))⟩])
            (.seq (.reg /- 9 -/ [⟨(some 7), none, .q (.mv (.k (.int .i64 0)))⟩])
              (.seq (.seq (.reg /- 10 -/ [⟨(some 8), none, .q (.mv (.k (.int .i64 0)))⟩])
                (.block 0 (.loop (.seq (.seq (.reg /- 11 -/ [⟨(some 29), none, .q (.mv (.t 8))⟩,
      ⟨(some 30), none, .q (.mv (.t 0))⟩,
      ⟨(some 31), none, .q (.lnL (.t 30))⟩,
      ⟨(some 32), none, .q (.bin .lss true (.t 29) (.t 31))⟩])
                      (.cond (.t 32)
                        (.skip)
                        (.exit 0)))
                      (.seq (.block 1 (.seq (.seq (.reg /- 13 -/ [⟨(some 35), none, .q (.mv (.t 0))⟩,
      ⟨(some 36), none, .q (.mv (.t 8))⟩,
      ⟨(some 37), none, .l (.ia 4 (.t 35) (.t 36))⟩,
      ⟨(some 38), none, .l (.ldn 4 (.t 37))⟩,
      ⟨(some 39), none, .cq 26 [(.t 38)]⟩,
      ⟨(some 40), none, .q (.not (.t 39))⟩])
                          (.cond (.t 40)
                            (.exit 1)
                            (.skip)))
                          (.seq (.seq (.reg /- 14 -/ [⟨(some 41), none, .q (.mv (.t 7))⟩,
      ⟨(some 42), none, .q (.mv (.t 4))⟩,
      ⟨(some 43), none, .q (.lnL (.t 42))⟩,
      ⟨(some 44), none, .q (.bin .geq true (.t 41) (.t 43))⟩,
      ⟨(some 45), none, .q (.mv (.t 44))⟩,
      ⟨(some 46), (some (45, false)), .q (.mv (.t 4))⟩,
      ⟨(some 47), (some (45, false)), .q (.mv (.t 7))⟩,
      ⟨(some 48), (some (45, false)), .l (.ia 4 (.t 46) (.t 47))⟩,
      ⟨(some 49), (some (45, false)), .q (.fa 0 (.t 48))⟩,
      ⟨(some 50), (some (45, false)), .l (.ld1 (.t 49))⟩,
      ⟨(some 51), (some (45, false)), .q (.mv (.t 0))⟩,
      ⟨(some 52), (some (45, false)), .q (.mv (.t 8))⟩,
      ⟨(some 53), (some (45, false)), .l (.ia 4 (.t 51) (.t 52))⟩,
      ⟨(some 54), (some (45, false)), .q (.fa 0 (.t 53))⟩,
      ⟨(some 55), (some (45, false)), .l (.ld1 (.t 54))⟩,
      ⟨(some 56), (some (45, false)), .q (.bin .neq true (.t 50) (.t 55))⟩,
      ⟨(some 57), none, .pick (.t 45) (.k (.bool true)) (.t 56)⟩,
      ⟨(some 58), none, .q (.mv (.t 57))⟩,
      ⟨(some 59), (some (58, false)), .q (.mv (.t 4))⟩,
      ⟨(some 60), (some (58, false)), .q (.mv (.t 7))⟩,
      ⟨(some 61), (some (58, false)), .l (.ia 4 (.t 59) (.t 60))⟩,
      ⟨(some 62), (some (58, false)), .q (.fa 1 (.t 61))⟩,
      ⟨(some 63), (some (58, false)), .l (.ld1 (.t 62))⟩,
      ⟨(some 64), (some (58, false)), .q (.mv (.t 0))⟩,
      ⟨(some 65), (some (58, false)), .q (.mv (.t 8))⟩,
      ⟨(some 66), (some (58, false)), .l (.ia 4 (.t 64) (.t 65))⟩,
      ⟨(some 67), (some (58, false)), .q (.fa 1 (.t 66))⟩,
      ⟨(some 68), (some (58, false)), .l (.ld1 (.t 67))⟩,
      ⟨(some 69), (some (58, false)), .q (.bin .neq true (.t 63) (.t 68))⟩,
      ⟨(some 70), none, .pick (.t 58) (.k (.bool true)) (.t 69)⟩,
      ⟨(some 71), none, .q (.mv (.t 70))⟩,
      ⟨(some 72), (some (71, false)), .q (.mv (.t 4))⟩,
      ⟨(some 73), (some (71, false)), .q (.mv (.t 7))⟩,
      ⟨(some 74), (some (71, false)), .l (.ia 4 (.t 72) (.t 73))⟩,
      ⟨(some 75), (some (71, false)), .q (.fa 2 (.t 74))⟩,
      ⟨(some 76), (some (71, false)), .l (.ld1 (.t 75))⟩,
      ⟨(some 77), (some (71, false)), .q (.mv (.t 0))⟩,
      ⟨(some 78), (some (71, false)), .q (.mv (.t 8))⟩,
      ⟨(some 79), (some (71, false)), .l (.ia 4 (.t 77) (.t 78))⟩,
      ⟨(some 80), (some (71, false)), .q (.fa 2 (.t 79))⟩,
      ⟨(some 81), (some (71, false)), .l (.ld1 (.t 80))⟩,
      ⟨(some 82), (some (71, false)), .q (.bin .neq true (.t 76) (.t 81))⟩,
      ⟨(some 83), none, .pick (.t 71) (.k (.bool true)) (.t 82)⟩])
                            (.cond (.t 83)
                              (.seq (.reg /- 15 -/ [⟨(some 2), none, .q (.mv (.k (.bool false)))⟩])
                                (.ret))
                              (.skip)))
                            (.reg /- 16 -/ [⟨(some 84), none, .q (.mv (.t 7))⟩,
      ⟨(some 85), none, .q (.bin .add true (.t 84) (.k (.int .i64 1)))⟩,
      ⟨(some 7), none, .q (.mv (.t 85))⟩]))))
                        (.reg /- 12 -/ [⟨(some 33), none, .q (.mv (.t 8))⟩,
      ⟨(some 34), none, .q (.bin .add true (.t 33) (.k (.int .i64 1)))⟩,
      ⟨(some 8), none, .q (.mv (.t 34))⟩]))))))
                (.seq (.reg /- 17 -/ [⟨(some 86), none, .q (.mv (.t 5))⟩,
      ⟨(some 87), none, .q (.bin .eql true (.t 86) (.k (.int .i64 0)))⟩,
      ⟨(some 88), none, .q (.mv (.t 87))⟩,
      ⟨(some 89), (some (88, true)), .q (.mv (.t 4))⟩,
      ⟨(some 90), (some (88, true)), .q (.lnL (.t 89))⟩,
      ⟨(some 91), (some (88, true)), .q (.mv (.t 7))⟩,
      ⟨(some 92), (some (88, true)), .q (.bin .add true (.t 91) (.k (.int .i64 1)))⟩,
      ⟨(some 93), (some (88, true)), .q (.bin .eql true (.t 90) (.t 92))⟩,
      ⟨(some 94), none, .pick (.t 88) (.t 93) (.k (.bool false))⟩,
      ⟨(some 95), none, .q (.mv (.t 94))⟩,
      ⟨(some 96), (some (95, true)), .q (.mv (.t 4))⟩,
      ⟨(some 97), (some (95, true)), .q (.mv (.t 7))⟩,
      ⟨(some 98), (some (95, true)), .l (.ia 4 (.t 96) (.t 97))⟩,
      ⟨(some 99), (some (95, true)), .q (.fa 0 (.t 98))⟩,
      ⟨(some 100), (some (95, true)), .l (.ld1 (.t 99))⟩,
      ⟨(some 101), (some (95, true)), .q (.bin .eql true (.t 100) (.k (.int .i64 0)))⟩,
      ⟨(some 102), none, .pick (.t 95) (.t 101) (.k (.bool false))⟩,
      ⟨(some 103), none, .q (.mv (.t 102))⟩,
      ⟨(some 104), (some (103, true)), .cq 11 []⟩,
      ⟨(some 105), none, .pick (.t 103) (.t 104) (.k (.bool false))⟩,
      ⟨(some 2), none, .q (.mv (.t 105))⟩])
                  (.ret)))))))))
def rs7 : List RV := [.mv (.t 2)]
theorem ok7 : trFn Try.prog true ⟨fun r k => if r = 2 ∧ k = 0 then .q else if r = 3 ∧ k = 1 then .q else if r = 4 ∧ k = 2 then .q else if r = 7 ∧ k = 0 then .q else if r = 13 ∧ k = 4 then .q else if r = 17 ∧ k = 18 then .q else .own [], fun _ => false⟩ Try.f7 = some (pc7, rs7) := by kernel_rfl
/-- robotics/roboticsref06.Scan -/
def pc9 : PC :=
  .seq (.reg /- 0 -/ [⟨(some 2), none, .q (.mv (.k (.slice none 0 0)))⟩,
      ⟨(some 3), none, .q (.mv (.k (.int .i64 0)))⟩,
      ⟨(some 4), none, .q (.mv (.k (.int .i64 0)))⟩])
  (.seq (.seq (.reg /- 1 -/ [⟨(some 12), none, .q (.mv (.t 0))⟩,
      ⟨(some 13), none, .q (.lnS (.t 12))⟩,
      ⟨(some 14), none, .q (.bin .gtr true (.t 13) (.k (.int .i64 4000)))⟩])
    (.cond (.t 14)
      (.seq (.reg /- 2 -/ [⟨(some 2), none, .q (.mv (.k (.slice none 0 0)))⟩,
      ⟨(some 3), none, .q (.mv (.k (.int .i64 3)))⟩,
      ⟨(some 4), none, .q (.mv (.k (.int .i64 0)))⟩])
        (.ret))
      (.skip)))
    (.seq (.reg /- 3 -/ [⟨(some 5), none, .q (.mv (.k (.slice none 0 0)))⟩])
      (.seq (.reg /- 4 -/ [⟨(some 15), none, .q (.mv (.t 0))⟩,
      ⟨(some 16), none, .cq 28 [(.t 15), (.k (.int .i64 0))]⟩,
      ⟨(some 6), none, .q (.mv (.t 16))⟩])
        (.seq (.block 0 (.loop (.seq (.seq (.reg /- 5 -/ [⟨(some 17), none, .q (.mv (.t 6))⟩,
      ⟨(some 18), none, .q (.mv (.t 0))⟩,
      ⟨(some 19), none, .q (.lnS (.t 18))⟩,
      ⟨(some 20), none, .q (.bin .lss true (.t 17) (.t 19))⟩])
              (.cond (.t 20)
                (.skip)
                (.exit 0)))
              (.block 1 (.seq (.reg /- 6 -/ [⟨(some 21), none, .q (.mv (.t 6))⟩,
      ⟨(some 22), none, .q (.bd [(.int .i64 0), (.string (mk [])), (.int .i64 0), (.int .i64 0)] [(3, 1, (.t 21))])⟩,
      ⟨(some 7), none, .e (.al (.agg #[(.int .i64 0), (.string (mk [])), (.int .i64 0), (.int .i64 0)]) 30)⟩,
      ⟨none, none, .e (.st 4 (.t 7) (.t 22))⟩])
                  (.seq (.reg /- 7 -/ [⟨(some 23), none, .q (.mv (.t 6))⟩,
      ⟨(some 24), none, .q (.bin .add true (.t 23) (.k (.int .i64 1)))⟩,
      ⟨(some 8), none, .q (.mv (.t 24))⟩,
      ⟨(some 9), none, .q (.mv (.k (.int .i64 0)))⟩,
      ⟨(some 10), none, .q (.mv (.k (.int .i64 0)))⟩])
                    (.seq (.reg /- 8 -/ [⟨(some 25), none, .q (.mv (.t 0))⟩,
      ⟨(some 26), none, .q (.mv (.t 6))⟩,
      ⟨(some 27), none, .ix (.t 25) (.t 26)⟩,
      ⟨(some 11), none, .q (.mv (.t 27))⟩])
                      (.seq (.block 2 (.seq (.reg /- 10 -/ [⟨(some 30), none, .q (.mv (.t 11))⟩,
      ⟨(some 31), none, .cq 29 [(.t 30)]⟩,
      ⟨(some 29), none, .q (.mv (.t 31))⟩])
                          (.cond (.t 29)
                            (.seq (.reg /- 11 -/ [⟨(some 33), none, .q (.mv (.t 0))⟩,
      ⟨(some 34), none, .q (.mv (.t 6))⟩,
      ⟨(some 35), none, .cl 30 [(.t 33), (.t 34)] []⟩,
      ⟨(some 32), none, .q (.mv (.t 35))⟩,
      ⟨(some 36), none, .q (.ex (.t 32) 0)⟩,
      ⟨(some 37), none, .q (.ex (.t 32) 1)⟩,
      ⟨(some 38), none, .q (.ex (.t 32) 2)⟩,
      ⟨(some 8), none, .q (.mv (.t 36))⟩,
      ⟨(some 9), none, .q (.mv (.t 37))⟩,
      ⟨(some 10), none, .q (.mv (.t 38))⟩])
                              (.seq (.reg /- 12 -/ [⟨(some 39), none, .q (.fa 0 (.t 7))⟩,
      ⟨none, none, .e (.st 1 (.t 39) (.k (.int .i64 1)))⟩])
                                (.reg /- 13 -/ [⟨(some 40), none, .q (.mv (.t 0))⟩,
      ⟨(some 41), none, .q (.mv (.t 6))⟩,
      ⟨(some 42), none, .q (.mv (.t 8))⟩,
      ⟨(some 43), none, .q (.ss (.t 40) (some (.t 41)) (some (.t 42)))⟩,
      ⟨(some 44), none, .q (.fa 1 (.t 7))⟩,
      ⟨none, none, .e (.st 1 (.t 44) (.t 43))⟩])))
                            (.seq (.reg /- 14 -/ [⟨(some 46), none, .q (.mv (.t 11))⟩,
      ⟨(some 47), none, .cq 31 [(.t 46)]⟩,
      ⟨(some 48), none, .q (.mv (.t 47))⟩,
      ⟨(some 49), (some (48, false)), .q (.mv (.t 11))⟩,
      ⟨(some 50), (some (48, false)), .q (.bin .eql true (.t 49) (.k (.int .u8 45)))⟩,
      ⟨(some 51), none, .pick (.t 48) (.k (.bool true)) (.t 50)⟩,
      ⟨(some 45), none, .q (.mv (.t 51))⟩])
                              (.cond (.t 45)
                                (.seq (.reg /- 15 -/ [⟨(some 53), none, .q (.mv (.t 0))⟩,
      ⟨(some 54), none, .q (.mv (.t 6))⟩,
      ⟨(some 55), none, .cl 32 [(.t 53), (.t 54)] []⟩,
      ⟨(some 52), none, .q (.mv (.t 55))⟩,
      ⟨(some 56), none, .q (.ex (.t 52) 0)⟩,
      ⟨(some 57), none, .q (.ex (.t 52) 1)⟩,
      ⟨(some 58), none, .q (.ex (.t 52) 2)⟩,
      ⟨(some 59), none, .q (.ex (.t 52) 3)⟩,
      ⟨(some 8), none, .q (.mv (.t 56))⟩,
      ⟨(some 60), none, .q (.fa 2 (.t 7))⟩,
      ⟨none, none, .e (.st 1 (.t 60) (.t 57))⟩,
      ⟨(some 9), none, .q (.mv (.t 58))⟩,
      ⟨(some 10), none, .q (.mv (.t 59))⟩])
                                  (.reg /- 16 -/ [⟨(some 61), none, .q (.fa 0 (.t 7))⟩,
      ⟨none, none, .e (.st 1 (.t 61) (.k (.int .i64 2)))⟩]))
                                (.seq (.reg /- 17 -/ [⟨(some 63), none, .q (.mv (.t 11))⟩,
      ⟨(some 64), none, .q (.bin .eql true (.t 63) (.k (.int .u8 34)))⟩,
      ⟨(some 62), none, .q (.mv (.t 64))⟩])
                                  (.cond (.t 62)
                                    (.seq (.reg /- 18 -/ [⟨(some 66), none, .q (.mv (.t 0))⟩,
      ⟨(some 67), none, .q (.mv (.t 6))⟩,
      ⟨(some 68), none, .cl 33 [(.t 66), (.t 67)] []⟩,
      ⟨(some 65), none, .q (.mv (.t 68))⟩,
      ⟨(some 69), none, .q (.ex (.t 65) 0)⟩,
      ⟨(some 70), none, .q (.ex (.t 65) 1)⟩,
      ⟨(some 71), none, .q (.ex (.t 65) 2)⟩,
      ⟨(some 72), none, .q (.ex (.t 65) 3)⟩,
      ⟨(some 8), none, .q (.mv (.t 69))⟩,
      ⟨(some 73), none, .q (.fa 1 (.t 7))⟩,
      ⟨none, none, .e (.st 1 (.t 73) (.t 70))⟩,
      ⟨(some 9), none, .q (.mv (.t 71))⟩,
      ⟨(some 10), none, .q (.mv (.t 72))⟩])
                                      (.reg /- 19 -/ [⟨(some 74), none, .q (.fa 0 (.t 7))⟩,
      ⟨none, none, .e (.st 1 (.t 74) (.k (.int .i64 3)))⟩]))
                                    (.seq (.reg /- 20 -/ [⟨(some 76), none, .q (.mv (.t 11))⟩,
      ⟨(some 77), none, .cq 34 [(.t 76)]⟩,
      ⟨(some 75), none, .q (.mv (.t 77))⟩])
                                      (.cond (.t 75)
                                        (.seq (.reg /- 21 -/ [⟨(some 78), none, .q (.fa 0 (.t 7))⟩,
      ⟨none, none, .e (.st 1 (.t 78) (.k (.int .i64 4)))⟩])
                                          (.reg /- 22 -/ [⟨(some 79), none, .q (.mv (.t 0))⟩,
      ⟨(some 80), none, .q (.mv (.t 6))⟩,
      ⟨(some 81), none, .q (.mv (.t 8))⟩,
      ⟨(some 82), none, .q (.ss (.t 79) (some (.t 80)) (some (.t 81)))⟩,
      ⟨(some 83), none, .q (.fa 1 (.t 7))⟩,
      ⟨none, none, .e (.st 1 (.t 83) (.t 82))⟩]))
                                        (.seq (.reg /- 9 -/ [⟨(some 28), none, .q (.mv (.t 6))⟩,
      ⟨(some 2), none, .q (.mv (.k (.slice none 0 0)))⟩,
      ⟨(some 3), none, .q (.mv (.k (.int .i64 2)))⟩,
      ⟨(some 4), none, .q (.mv (.t 28))⟩])
                                          (.ret)))))))))))
                        (.seq (.seq (.reg /- 23 -/ [⟨(some 84), none, .q (.mv (.t 9))⟩,
      ⟨(some 85), none, .q (.bin .neq true (.t 84) (.k (.int .i64 0)))⟩])
                          (.cond (.t 85)
                            (.seq (.reg /- 24 -/ [⟨(some 86), none, .q (.mv (.t 9))⟩,
      ⟨(some 87), none, .q (.mv (.t 10))⟩,
      ⟨(some 2), none, .q (.mv (.k (.slice none 0 0)))⟩,
      ⟨(some 3), none, .q (.mv (.t 86))⟩,
      ⟨(some 4), none, .q (.mv (.t 87))⟩])
                              (.ret))
                            (.skip)))
                          (.seq (.reg /- 25 -/ [⟨(some 88), none, .q (.mv (.t 5))⟩,
      ⟨(some 89), none, .l (.ldn 4 (.t 7))⟩,
      ⟨(some 90), none, .e (.bsl 30 4 [(.t 89)])⟩,
      ⟨(some 91), none, .e (.ap 30 4 40 (.t 88) (.t 90))⟩,
      ⟨(some 5), none, .q (.mv (.t 91))⟩])
                            (.reg /- 26 -/ [⟨(some 92), none, .q (.mv (.t 0))⟩,
      ⟨(some 93), none, .q (.mv (.t 8))⟩,
      ⟨(some 94), none, .cq 28 [(.t 92), (.t 93)]⟩,
      ⟨(some 6), none, .q (.mv (.t 94))⟩])))))))))))
          (.seq (.reg /- 27 -/ [⟨(some 95), none, .q (.mv (.t 5))⟩,
      ⟨(some 96), none, .q (.mv (.t 0))⟩,
      ⟨(some 97), none, .q (.lnS (.t 96))⟩,
      ⟨(some 98), none, .q (.bd [(.int .i64 0), (.string (mk [])), (.int .i64 0), (.int .i64 0)] [(3, 1, (.t 97))])⟩,
      ⟨(some 99), none, .e (.bsl 30 4 [(.t 98)])⟩,
      ⟨(some 100), none, .e (.ap 30 4 40 (.t 95) (.t 99))⟩,
      ⟨(some 2), none, .q (.mv (.t 100))⟩,
      ⟨(some 3), none, .q (.mv (.k (.int .i64 0)))⟩,
      ⟨(some 4), none, .q (.mv (.k (.int .i64 0)))⟩])
            (.ret))))))
def rs9 : List RV := [.mv (.t 2), .mv (.t 3), .mv (.t 4)]
theorem ok9 : trFn Try.prog true ⟨fun r k => if r = 4 ∧ k = 1 then .q else if r = 10 ∧ k = 1 then .q else if r = 14 ∧ k = 1 then .q else if r = 20 ∧ k = 1 then .q else if r = 26 ∧ k = 2 then .q else .own [], fun _ => false⟩ Try.f9 = some (pc9, rs9) := by kernel_rfl
/-- robotics/roboticsref06.Same -/
def pc10 : PC :=
  .seq (.reg /- 0 -/ [⟨(some 4), none, .q (.mv (.k (.bool false)))⟩])
  (.seq (.seq (.reg /- 1 -/ [⟨(some 6), none, .q (.mv (.t 0))⟩,
      ⟨(some 7), none, .q (.lnL (.t 6))⟩,
      ⟨(some 8), none, .q (.mv (.t 1))⟩,
      ⟨(some 9), none, .q (.lnL (.t 8))⟩,
      ⟨(some 10), none, .q (.bin .neq true (.t 7) (.t 9))⟩])
    (.cond (.t 10)
      (.seq (.reg /- 2 -/ [⟨(some 4), none, .q (.mv (.k (.bool false)))⟩])
        (.ret))
      (.skip)))
    (.seq (.seq (.reg /- 3 -/ [⟨(some 5), none, .q (.mv (.k (.int .i64 0)))⟩])
      (.block 0 (.loop (.seq (.seq (.reg /- 4 -/ [⟨(some 11), none, .q (.mv (.t 5))⟩,
      ⟨(some 12), none, .q (.mv (.t 0))⟩,
      ⟨(some 13), none, .q (.lnL (.t 12))⟩,
      ⟨(some 14), none, .q (.bin .lss true (.t 11) (.t 13))⟩])
            (.cond (.t 14)
              (.skip)
              (.exit 0)))
            (.seq (.block 1 (.seq (.reg /- 6 -/ [⟨(some 17), none, .q (.mv (.t 0))⟩,
      ⟨(some 18), none, .q (.mv (.t 5))⟩,
      ⟨(some 19), none, .l (.ia 4 (.t 17) (.t 18))⟩,
      ⟨(some 20), none, .l (.ldn 4 (.t 19))⟩,
      ⟨(some 21), none, .q (.mv (.t 1))⟩,
      ⟨(some 22), none, .q (.mv (.t 5))⟩,
      ⟨(some 23), none, .l (.ia 4 (.t 21) (.t 22))⟩,
      ⟨(some 24), none, .l (.ldn 4 (.t 23))⟩,
      ⟨(some 25), none, .q (.eqT true [(0, .int .i64), (1, .str), (2, .int .i64), (3, .int .i64)] (.t 20) (.t 24))⟩])
                (.cond (.t 25)
                  (.seq (.reg /- 7 -/ [⟨(some 4), none, .q (.mv (.k (.bool false)))⟩])
                    (.ret))
                  (.skip))))
              (.reg /- 5 -/ [⟨(some 15), none, .q (.mv (.t 5))⟩,
      ⟨(some 16), none, .q (.bin .add true (.t 15) (.k (.int .i64 1)))⟩,
      ⟨(some 5), none, .q (.mv (.t 16))⟩]))))))
      (.seq (.reg /- 8 -/ [⟨(some 4), none, .q (.mv (.k (.bool true)))⟩])
        (.ret))))
def rs10 : List RV := [.mv (.t 4)]
theorem ok10 : trFn Try.prog true ⟨fun _ _ => .own [], fun _ => false⟩ Try.f10 = some (pc10, rs10) := by kernel_rfl
/-- robotics/roboticslaw06.awake -/
def pc11 : PC :=
  .seq (.reg /- 0 -/ [⟨(some 0), none, .q (.mv (.k (.bool false)))⟩])
  (.seq (.reg /- 1 -/ [⟨(some 5), none, .cl 8 [(.k (.string (mk [97, 32, 61, 32, 45, 53])))] []⟩,
      ⟨(some 4), none, .q (.mv (.t 5))⟩,
      ⟨(some 6), none, .q (.ex (.t 4) 0)⟩,
      ⟨(some 7), none, .q (.ex (.t 4) 1)⟩,
      ⟨(some 8), none, .q (.ex (.t 4) 2)⟩,
      ⟨(some 1), none, .q (.mv (.t 6))⟩,
      ⟨(some 2), none, .q (.mv (.t 7))⟩,
      ⟨(some 3), none, .q (.mv (.t 8))⟩])
    (.seq (.reg /- 2 -/ [⟨(some 9), none, .q (.mv (.t 2))⟩,
      ⟨(some 10), none, .q (.bin .eql true (.t 9) (.k (.int .i64 0)))⟩,
      ⟨(some 11), none, .q (.mv (.t 10))⟩,
      ⟨(some 12), (some (11, true)), .q (.mv (.t 1))⟩,
      ⟨(some 13), (some (11, true)), .q (.lnL (.t 12))⟩,
      ⟨(some 14), (some (11, true)), .q (.bin .eql true (.t 13) (.k (.int .i64 4)))⟩,
      ⟨(some 15), none, .pick (.t 11) (.t 14) (.k (.bool false))⟩,
      ⟨(some 16), none, .q (.mv (.t 15))⟩,
      ⟨(some 17), (some (16, true)), .q (.mv (.t 1))⟩,
      ⟨(some 18), (some (16, true)), .l (.ia 4 (.t 17) (.k (.int .i64 0)))⟩,
      ⟨(some 19), (some (16, true)), .l (.ldn 4 (.t 18))⟩,
      ⟨(some 20), (some (16, true)), .q (.bd [(.int .i64 0), (.string (mk [])), (.int .i64 0), (.int .i64 0)] [(0, 1, (.k (.int .i64 1))), (1, 1, (.k (.string (mk [97]))))])⟩,
      ⟨(some 21), (some (16, true)), .q (.eqT false [(0, .int .i64), (1, .str), (2, .int .i64), (3, .int .i64)] (.t 19) (.t 20))⟩,
      ⟨(some 22), none, .pick (.t 16) (.t 21) (.k (.bool false))⟩,
      ⟨(some 23), none, .q (.mv (.t 22))⟩,
      ⟨(some 24), (some (23, true)), .q (.mv (.t 1))⟩,
      ⟨(some 25), (some (23, true)), .l (.ia 4 (.t 24) (.k (.int .i64 2)))⟩,
      ⟨(some 26), (some (23, true)), .l (.ldn 4 (.t 25))⟩,
      ⟨(some 27), (some (23, true)), .q (.bd [(.int .i64 0), (.string (mk [])), (.int .i64 0), (.int .i64 0)] [(0, 1, (.k (.int .i64 2))), (2, 1, (.k (.int .i64 (-5)))), (3, 1, (.k (.int .i64 4)))])⟩,
      ⟨(some 28), (some (23, true)), .q (.eqT false [(0, .int .i64), (1, .str), (2, .int .i64), (3, .int .i64)] (.t 26) (.t 27))⟩,
      ⟨(some 29), none, .pick (.t 23) (.t 28) (.k (.bool false))⟩,
      ⟨(some 30), none, .q (.mv (.t 29))⟩,
      ⟨(some 31), (some (30, true)), .cq 12 [(.k (.string (mk [97, 95, 49])))]⟩,
      ⟨(some 32), none, .pick (.t 30) (.t 31) (.k (.bool false))⟩,
      ⟨(some 0), none, .q (.mv (.t 32))⟩])
      (.ret)))
def rs11 : List RV := [.mv (.t 0)]
theorem ok11 : trFn Try.prog true ⟨fun r k => if r = 2 ∧ k = 22 then .q else .own [], fun _ => false⟩ Try.f11 = some (pc11, rs11) := by kernel_rfl
/-- robotics/roboticsref06.IsName -/
def pc13 : PC :=
  .seq (.reg /- 0 -/ [⟨(some 2), none, .q (.mv (.k (.bool false)))⟩])
  (.seq (.seq (.reg /- 1 -/ [⟨(some 4), none, .q (.mv (.t 0))⟩,
      ⟨(some 5), none, .q (.lnS (.t 4))⟩,
      ⟨(some 6), none, .q (.bin .lss true (.t 5) (.k (.int .i64 1)))⟩,
      ⟨(some 7), none, .q (.mv (.t 6))⟩,
      ⟨(some 8), (some (7, false)), .q (.mv (.t 0))⟩,
      ⟨(some 9), (some (7, false)), .q (.lnS (.t 8))⟩,
      ⟨(some 10), (some (7, false)), .q (.bin .gtr true (.t 9) (.k (.int .i64 16)))⟩,
      ⟨(some 11), none, .pick (.t 7) (.k (.bool true)) (.t 10)⟩,
      ⟨(some 12), none, .q (.mv (.t 11))⟩,
      ⟨(some 13), (some (12, false)), .q (.mv (.t 0))⟩,
      ⟨(some 14), (some (12, false)), .ix (.t 13) (.k (.int .i64 0))⟩,
      ⟨(some 15), (some (12, false)), .cq 29 [(.t 14)]⟩,
      ⟨(some 16), (some (12, false)), .q (.not (.t 15))⟩,
      ⟨(some 17), none, .pick (.t 12) (.k (.bool true)) (.t 16)⟩])
    (.cond (.t 17)
      (.seq (.reg /- 2 -/ [⟨(some 2), none, .q (.mv (.k (.bool false)))⟩])
        (.ret))
      (.skip)))
    (.seq (.seq (.reg /- 3 -/ [⟨(some 3), none, .q (.mv (.k (.int .i64 0)))⟩])
      (.block 0 (.loop (.seq (.seq (.reg /- 4 -/ [⟨(some 18), none, .q (.mv (.t 3))⟩,
      ⟨(some 19), none, .q (.mv (.t 0))⟩,
      ⟨(some 20), none, .q (.lnS (.t 19))⟩,
      ⟨(some 21), none, .q (.bin .lss true (.t 18) (.t 20))⟩])
            (.cond (.t 21)
              (.skip)
              (.exit 0)))
            (.seq (.block 1 (.seq (.reg /- 6 -/ [⟨(some 24), none, .q (.mv (.t 0))⟩,
      ⟨(some 25), none, .q (.mv (.t 3))⟩,
      ⟨(some 26), none, .ix (.t 24) (.t 25)⟩,
      ⟨(some 27), none, .cq 36 [(.t 26)]⟩,
      ⟨(some 28), none, .q (.not (.t 27))⟩])
                (.cond (.t 28)
                  (.seq (.reg /- 7 -/ [⟨(some 2), none, .q (.mv (.k (.bool false)))⟩])
                    (.ret))
                  (.skip))))
              (.reg /- 5 -/ [⟨(some 22), none, .q (.mv (.t 3))⟩,
      ⟨(some 23), none, .q (.bin .add true (.t 22) (.k (.int .i64 1)))⟩,
      ⟨(some 3), none, .q (.mv (.t 23))⟩]))))))
      (.seq (.reg /- 8 -/ [⟨(some 2), none, .q (.mv (.k (.bool true)))⟩])
        (.ret))))
def rs13 : List RV := [.mv (.t 2)]
theorem ok13 : trFn Try.prog true ⟨fun r k => if r = 1 ∧ k = 11 then .q else if r = 6 ∧ k = 3 then .q else .own [], fun _ => false⟩ Try.f13 = some (pc13, rs13) := by kernel_rfl
/-- robotics/roboticsref06.NewScanner -/
def pc15 : PC :=
  .seq (.reg /- 0 -/ [⟨(some 2), none, .e (.al (.agg #[(.slice none 0 0), (.int .i64 0)]) 36)⟩,
      ⟨(some 3), none, .q (.mv (.k (.int .i64 0)))⟩,
      ⟨(some 4), none, .q (.mv (.k (.int .i64 0)))⟩])
  (.seq (.reg /- 1 -/ [⟨(some 9), none, .q (.mv (.t 0))⟩,
      ⟨(some 10), none, .cl 9 [(.t 9)] []⟩,
      ⟨(some 8), none, .q (.mv (.t 10))⟩,
      ⟨(some 11), none, .q (.ex (.t 8) 0)⟩,
      ⟨(some 12), none, .q (.ex (.t 8) 1)⟩,
      ⟨(some 13), none, .q (.ex (.t 8) 2)⟩,
      ⟨(some 5), none, .q (.mv (.t 11))⟩,
      ⟨(some 6), none, .q (.mv (.t 12))⟩,
      ⟨(some 7), none, .q (.mv (.t 13))⟩])
    (.seq (.reg /- 2 -/ [⟨(some 14), none, .q (.mv (.t 5))⟩,
      ⟨(some 15), none, .q (.bd [(.slice none 0 0), (.int .i64 0)] [(0, 1, (.t 14))])⟩,
      ⟨(some 16), none, .q (.mv (.t 6))⟩,
      ⟨(some 17), none, .q (.mv (.t 7))⟩,
      ⟨none, none, .e (.st 2 (.t 2) (.t 15))⟩,
      ⟨(some 3), none, .q (.mv (.t 16))⟩,
      ⟨(some 4), none, .q (.mv (.t 17))⟩])
      (.ret)))
def rs15 : List RV := [.ld (.ldn 2 (.t 2)), .mv (.t 3), .mv (.t 4)]
theorem ok15 : trFn Try.prog true ⟨fun _ _ => .own [], fun _ => false⟩ Try.f15 = some (pc15, rs15) := by kernel_rfl
/-- (*robotics/roboticsref06.Scanner).Next -/
def pc17 : PC :=
  .seq (.reg /- 0 -/ [⟨(some 2), none, .e (.al (.agg #[(.int .i64 0), (.string (mk [])), (.int .i64 0), (.int .i64 0)]) 30)⟩])
  (.seq (.reg /- 1 -/ [⟨(some 4), none, .q (.mv (.t 0))⟩,
      ⟨(some 5), none, .cl 19 [(.t 4)] [0]⟩,
      ⟨(some 3), none, .e (.al (.agg #[(.int .i64 0), (.string (mk [])), (.int .i64 0), (.int .i64 0)]) 30)⟩,
      ⟨none, none, .e (.st 4 (.t 3) (.t 5))⟩])
    (.seq (.seq (.reg /- 2 -/ [⟨(some 6), none, .q (.fa 0 (.t 3))⟩,
      ⟨(some 7), none, .l (.ld1 (.t 6))⟩,
      ⟨(some 8), none, .q (.bin .neq true (.t 7) (.k (.int .i64 0)))⟩])
      (.cond (.t 8)
        (.reg /- 3 -/ [⟨(some 9), none, .q (.mv (.t 0))⟩,
      ⟨(some 10), none, .q (.nc (.t 9))⟩,
      ⟨(some 11), none, .q (.fa 1 (.t 10))⟩,
      ⟨(some 12), none, .l (.ld1 (.t 11))⟩,
      ⟨(some 13), none, .q (.bin .add true (.t 12) (.k (.int .i64 1)))⟩,
      ⟨(some 14), none, .q (.nc (.t 9))⟩,
      ⟨(some 15), none, .q (.fa 1 (.t 14))⟩,
      ⟨none, none, .e (.st 1 (.t 15) (.t 13))⟩])
        (.skip)))
      (.seq (.reg /- 4 -/ [⟨(some 16), none, .l (.ldn 4 (.t 3))⟩,
      ⟨none, none, .e (.st 4 (.t 2) (.t 16))⟩])
        (.ret))))
def rs17 : List RV := [.ld (.ldn 4 (.t 2))]
theorem ok17 : trFn Try.prog true ⟨fun r k => if r = 1 ∧ k = 1 then .own [0] else .own [], fun _ => false⟩ Try.f17 = some (pc17, rs17) := by kernel_rfl
/-- (*robotics/roboticsref06.Scanner).Peek -/
def pc19 : PC :=
  .seq (.reg /- 0 -/ [⟨(some 2), none, .e (.al (.agg #[(.int .i64 0), (.string (mk [])), (.int .i64 0), (.int .i64 0)]) 30)⟩])
  (.seq (.seq (.reg /- 1 -/ [⟨(some 3), none, .q (.mv (.t 0))⟩,
      ⟨(some 4), none, .q (.nc (.t 3))⟩,
      ⟨(some 5), none, .q (.fa 1 (.t 4))⟩,
      ⟨(some 6), none, .l (.ld1 (.t 5))⟩,
      ⟨(some 7), none, .q (.mv (.t 0))⟩,
      ⟨(some 8), none, .q (.nc (.t 7))⟩,
      ⟨(some 9), none, .q (.fa 0 (.t 8))⟩,
      ⟨(some 10), none, .l (.ld1 (.t 9))⟩,
      ⟨(some 11), none, .q (.lnL (.t 10))⟩,
      ⟨(some 12), none, .q (.bin .geq true (.t 6) (.t 11))⟩])
    (.cond (.t 12)
      (.seq (.reg /- 2 -/ [⟨(some 13), none, .q (.bd [(.int .i64 0), (.string (mk [])), (.int .i64 0), (.int .i64 0)] [])⟩,
      ⟨none, none, .e (.st 4 (.t 2) (.t 13))⟩])
        (.ret))
      (.skip)))
    (.seq (.reg /- 3 -/ [⟨(some 14), none, .q (.mv (.t 0))⟩,
      ⟨(some 15), none, .q (.nc (.t 14))⟩,
      ⟨(some 16), none, .q (.fa 0 (.t 15))⟩,
      ⟨(some 17), none, .l (.ld1 (.t 16))⟩,
      ⟨(some 18), none, .q (.mv (.t 0))⟩,
      ⟨(some 19), none, .q (.nc (.t 18))⟩,
      ⟨(some 20), none, .q (.fa 1 (.t 19))⟩,
      ⟨(some 21), none, .l (.ld1 (.t 20))⟩,
      ⟨(some 22), none, .l (.ia 4 (.t 17) (.t 21))⟩,
      ⟨(some 23), none, .l (.ldn 4 (.t 22))⟩,
      ⟨none, none, .e (.st 4 (.t 2) (.t 23))⟩])
      (.ret)))
def rs19 : List RV := [.ld (.ldn 4 (.t 2))]
theorem ok19 : trFn Try.prog true ⟨fun _ _ => .own [], fun _ => false⟩ Try.f19 = some (pc19, rs19) := by kernel_rfl
/-- (*robotics/roboticsref06.Scanner).Mark -/
def pc21 : PC :=
  .seq (.reg /- 0 -/ [⟨(some 4), none, .q (.mv (.k (.bool false)))⟩])
  (.seq (.reg /- 1 -/ [⟨(some 6), none, .q (.mv (.t 0))⟩,
      ⟨(some 7), none, .cl 19 [(.t 6)] [0]⟩,
      ⟨(some 5), none, .e (.al (.agg #[(.int .i64 0), (.string (mk [])), (.int .i64 0), (.int .i64 0)]) 30)⟩,
      ⟨none, none, .e (.st 4 (.t 5) (.t 7))⟩])
    (.seq (.seq (.reg /- 2 -/ [⟨(some 8), none, .q (.fa 0 (.t 5))⟩,
      ⟨(some 9), none, .l (.ld1 (.t 8))⟩,
      ⟨(some 10), none, .q (.bin .neq true (.t 9) (.k (.int .i64 4)))⟩,
      ⟨(some 11), none, .q (.mv (.t 10))⟩,
      ⟨(some 12), (some (11, false)), .q (.fa 1 (.t 5))⟩,
      ⟨(some 13), (some (11, false)), .l (.ld1 (.t 12))⟩,
      ⟨(some 14), (some (11, false)), .q (.mv (.t 1))⟩,
      ⟨(some 15), (some (11, false)), .q (.bin .neq true (.t 13) (.t 14))⟩,
      ⟨(some 16), none, .pick (.t 11) (.k (.bool true)) (.t 15)⟩])
      (.cond (.t 16)
        (.seq (.reg /- 3 -/ [⟨(some 4), none, .q (.mv (.k (.bool false)))⟩])
          (.ret))
        (.skip)))
      (.seq (.reg /- 4 -/ [⟨(some 17), none, .q (.mv (.t 0))⟩,
      ⟨(some 18), none, .q (.nc (.t 17))⟩,
      ⟨(some 19), none, .q (.fa 1 (.t 18))⟩,
      ⟨(some 20), none, .l (.ld1 (.t 19))⟩,
      ⟨(some 21), none, .q (.bin .add true (.t 20) (.k (.int .i64 1)))⟩,
      ⟨(some 22), none, .q (.nc (.t 17))⟩,
      ⟨(some 23), none, .q (.fa 1 (.t 22))⟩,
      ⟨none, none, .e (.st 1 (.t 23) (.t 21))⟩])
        (.seq (.reg /- 5 -/ [⟨(some 4), none, .q (.mv (.k (.bool true)))⟩])
          (.ret)))))
def rs21 : List RV := [.mv (.t 4)]
theorem ok21 : trFn Try.prog true ⟨fun r k => if r = 1 ∧ k = 1 then .own [0] else .own [], fun _ => false⟩ Try.f21 = some (pc21, rs21) := by kernel_rfl
/-- (*robotics/roboticsref06.Scanner).Word -/
def pc23 : PC :=
  .seq (.reg /- 0 -/ [⟨(some 4), none, .q (.mv (.k (.bool false)))⟩])
  (.seq (.reg /- 1 -/ [⟨(some 6), none, .q (.mv (.t 0))⟩,
      ⟨(some 7), none, .cl 19 [(.t 6)] [0]⟩,
      ⟨(some 5), none, .e (.al (.agg #[(.int .i64 0), (.string (mk [])), (.int .i64 0), (.int .i64 0)]) 30)⟩,
      ⟨none, none, .e (.st 4 (.t 5) (.t 7))⟩])
    (.seq (.seq (.reg /- 2 -/ [⟨(some 8), none, .q (.fa 0 (.t 5))⟩,
      ⟨(some 9), none, .l (.ld1 (.t 8))⟩,
      ⟨(some 10), none, .q (.bin .neq true (.t 9) (.k (.int .i64 1)))⟩,
      ⟨(some 11), none, .q (.mv (.t 10))⟩,
      ⟨(some 12), (some (11, false)), .q (.fa 1 (.t 5))⟩,
      ⟨(some 13), (some (11, false)), .l (.ld1 (.t 12))⟩,
      ⟨(some 14), (some (11, false)), .q (.mv (.t 1))⟩,
      ⟨(some 15), (some (11, false)), .q (.bin .neq true (.t 13) (.t 14))⟩,
      ⟨(some 16), none, .pick (.t 11) (.k (.bool true)) (.t 15)⟩])
      (.cond (.t 16)
        (.seq (.reg /- 3 -/ [⟨(some 4), none, .q (.mv (.k (.bool false)))⟩])
          (.ret))
        (.skip)))
      (.seq (.reg /- 4 -/ [⟨(some 17), none, .q (.mv (.t 0))⟩,
      ⟨(some 18), none, .q (.nc (.t 17))⟩,
      ⟨(some 19), none, .q (.fa 1 (.t 18))⟩,
      ⟨(some 20), none, .l (.ld1 (.t 19))⟩,
      ⟨(some 21), none, .q (.bin .add true (.t 20) (.k (.int .i64 1)))⟩,
      ⟨(some 22), none, .q (.nc (.t 17))⟩,
      ⟨(some 23), none, .q (.fa 1 (.t 22))⟩,
      ⟨none, none, .e (.st 1 (.t 23) (.t 21))⟩])
        (.seq (.reg /- 5 -/ [⟨(some 4), none, .q (.mv (.k (.bool true)))⟩])
          (.ret)))))
def rs23 : List RV := [.mv (.t 4)]
theorem ok23 : trFn Try.prog true ⟨fun r k => if r = 1 ∧ k = 1 then .own [0] else .own [], fun _ => false⟩ Try.f23 = some (pc23, rs23) := by kernel_rfl
/-- robotics/roboticsref06.Print -/
def pc25 : PC :=
  .seq (.reg /- 0 -/ [⟨(some 2), none, .q (.mv (.k (.string (mk []))))⟩])
  (.seq (.reg /- 1 -/ [⟨(some 3), none, .q (.mv (.k (.string (mk []))))⟩])
    (.seq (.seq (.reg /- 2 -/ [⟨(some 4), none, .q (.mv (.k (.int .i64 0)))⟩])
      (.block 0 (.loop (.seq (.seq (.reg /- 3 -/ [⟨(some 5), none, .q (.mv (.t 4))⟩,
      ⟨(some 6), none, .q (.mv (.t 0))⟩,
      ⟨(some 7), none, .q (.lnL (.t 6))⟩,
      ⟨(some 8), none, .q (.bin .lss true (.t 5) (.t 7))⟩])
            (.cond (.t 8)
              (.skip)
              (.exit 0)))
            (.seq (.block 1 (.seq (.seq (.reg /- 5 -/ [⟨(some 11), none, .q (.mv (.t 0))⟩,
      ⟨(some 12), none, .q (.mv (.t 4))⟩,
      ⟨(some 13), none, .l (.ia 4 (.t 11) (.t 12))⟩,
      ⟨(some 14), none, .l (.ldn 4 (.t 13))⟩,
      ⟨(some 15), none, .cq 26 [(.t 14)]⟩,
      ⟨(some 16), none, .q (.not (.t 15))⟩])
                (.cond (.t 16)
                  (.exit 1)
                  (.skip)))
                (.seq (.seq (.reg /- 6 -/ [⟨(some 17), none, .q (.mv (.t 3))⟩,
      ⟨(some 18), none, .q (.bin .neq true (.t 17) (.k (.string (mk []))))⟩])
                  (.cond (.t 18)
                    (.reg /- 7 -/ [⟨(some 19), none, .q (.mv (.t 3))⟩,
      ⟨(some 20), none, .q (.bin .add true (.t 19) (.k (.string (mk [32]))))⟩,
      ⟨(some 3), none, .q (.mv (.t 20))⟩])
                    (.skip)))
                  (.seq (.reg /- 8 -/ [⟨(some 21), none, .q (.mv (.t 0))⟩,
      ⟨(some 22), none, .q (.mv (.t 4))⟩,
      ⟨(some 23), none, .l (.ia 4 (.t 21) (.t 22))⟩,
      ⟨(some 24), none, .q (.fa 0 (.t 23))⟩,
      ⟨(some 25), none, .l (.ld1 (.t 24))⟩])
                    (.block 2 (.seq (.reg /- 10 -/ [⟨(some 34), none, .q (.bin .eql true (.t 25) (.k (.int .i64 2)))⟩,
      ⟨(some 33), none, .q (.mv (.t 34))⟩])
                        (.cond (.t 33)
                          (.reg /- 11 -/ [⟨(some 35), none, .q (.mv (.t 3))⟩,
      ⟨(some 36), none, .q (.mv (.t 0))⟩,
      ⟨(some 37), none, .q (.mv (.t 4))⟩,
      ⟨(some 38), none, .l (.ia 4 (.t 36) (.t 37))⟩,
      ⟨(some 39), none, .q (.fa 2 (.t 38))⟩,
      ⟨(some 40), none, .l (.ld1 (.t 39))⟩,
      ⟨(some 41), none, .cq 43 [(.t 40)]⟩,
      ⟨(some 42), none, .q (.bin .add true (.t 35) (.t 41))⟩,
      ⟨(some 3), none, .q (.mv (.t 42))⟩])
                          (.seq (.reg /- 12 -/ [⟨(some 44), none, .q (.bin .eql true (.t 25) (.k (.int .i64 3)))⟩,
      ⟨(some 43), none, .q (.mv (.t 44))⟩])
                            (.cond (.t 43)
                              (.reg /- 13 -/ [⟨(some 45), none, .q (.mv (.t 3))⟩,
      ⟨(some 46), none, .q (.mv (.t 0))⟩,
      ⟨(some 47), none, .q (.mv (.t 4))⟩,
      ⟨(some 48), none, .l (.ia 4 (.t 46) (.t 47))⟩,
      ⟨(some 49), none, .q (.fa 1 (.t 48))⟩,
      ⟨(some 50), none, .l (.ld1 (.t 49))⟩,
      ⟨(some 51), none, .cq 44 [(.t 50)]⟩,
      ⟨(some 52), none, .q (.bin .add true (.t 45) (.t 51))⟩,
      ⟨(some 3), none, .q (.mv (.t 52))⟩])
                              (.reg /- 9 -/ [⟨(some 26), none, .q (.mv (.t 3))⟩,
      ⟨(some 27), none, .q (.mv (.t 0))⟩,
      ⟨(some 28), none, .q (.mv (.t 4))⟩,
      ⟨(some 29), none, .l (.ia 4 (.t 27) (.t 28))⟩,
      ⟨(some 30), none, .q (.fa 1 (.t 29))⟩,
      ⟨(some 31), none, .l (.ld1 (.t 30))⟩,
      ⟨(some 32), none, .q (.bin .add true (.t 26) (.t 31))⟩,
      ⟨(some 3), none, .q (.mv (.t 32))⟩]))))))))))
              (.reg /- 4 -/ [⟨(some 9), none, .q (.mv (.t 4))⟩,
      ⟨(some 10), none, .q (.bin .add true (.t 9) (.k (.int .i64 1)))⟩,
      ⟨(some 4), none, .q (.mv (.t 10))⟩]))))))
      (.seq (.reg /- 14 -/ [⟨(some 53), none, .q (.mv (.t 3))⟩,
      ⟨(some 2), none, .q (.mv (.t 53))⟩])
        (.ret))))
def rs25 : List RV := [.mv (.t 2)]
theorem ok25 : trFn Try.prog true ⟨fun r k => if r = 5 ∧ k = 4 then .q else if r = 11 ∧ k = 6 then .q else if r = 13 ∧ k = 6 then .q else .own [], fun _ => false⟩ Try.f25 = some (pc25, rs25) := by kernel_rfl
/-- robotics/roboticsref06.Valid -/
def pc26 : PC :=
  .seq (.reg /- 0 -/ [⟨(some 1), none, .e (.bx 30 (.t 0))⟩,
      ⟨(some 2), none, .q (.mv (.k (.bool false)))⟩])
  (.seq (.seq (.reg /- 1 -/ [⟨(some 4), none, .q (.fa 0 (.t 1))⟩,
      ⟨(some 5), none, .l (.ld1 (.t 4))⟩])
    (.block 0 (.seq (.reg /- 2 -/ [⟨(some 7), none, .q (.bin .eql true (.t 5) (.k (.int .i64 1)))⟩,
      ⟨(some 6), none, .q (.mv (.t 7))⟩])
        (.cond (.t 6)
          (.seq (.reg /- 3 -/ [⟨(some 8), none, .q (.fa 1 (.t 1))⟩,
      ⟨(some 9), none, .l (.ld1 (.t 8))⟩,
      ⟨(some 10), none, .cq 13 [(.t 9)]⟩,
      ⟨(some 11), none, .q (.mv (.t 10))⟩,
      ⟨(some 12), (some (11, true)), .q (.fa 2 (.t 1))⟩,
      ⟨(some 13), (some (11, true)), .l (.ld1 (.t 12))⟩,
      ⟨(some 14), (some (11, true)), .q (.bin .eql true (.t 13) (.k (.int .i64 0)))⟩,
      ⟨(some 15), none, .pick (.t 11) (.t 14) (.k (.bool false))⟩,
      ⟨(some 2), none, .q (.mv (.t 15))⟩])
            (.ret))
          (.seq (.reg /- 4 -/ [⟨(some 17), none, .q (.bin .eql true (.t 5) (.k (.int .i64 2)))⟩,
      ⟨(some 16), none, .q (.mv (.t 17))⟩])
            (.cond (.t 16)
              (.seq (.reg /- 5 -/ [⟨(some 18), none, .q (.fa 1 (.t 1))⟩,
      ⟨(some 19), none, .l (.ld1 (.t 18))⟩,
      ⟨(some 20), none, .q (.bin .eql true (.t 19) (.k (.string (mk []))))⟩,
      ⟨(some 2), none, .q (.mv (.t 20))⟩])
                (.ret))
              (.seq (.reg /- 6 -/ [⟨(some 22), none, .q (.bin .eql true (.t 5) (.k (.int .i64 3)))⟩,
      ⟨(some 21), none, .q (.mv (.t 22))⟩])
                (.cond (.t 21)
                  (.seq (.seq (.reg /- 7 -/ [⟨(some 3), none, .q (.mv (.k (.int .i64 0)))⟩])
                    (.block 1 (.loop (.seq (.seq (.reg /- 8 -/ [⟨(some 23), none, .q (.mv (.t 3))⟩,
      ⟨(some 24), none, .q (.fa 1 (.t 1))⟩,
      ⟨(some 25), none, .l (.ld1 (.t 24))⟩,
      ⟨(some 26), none, .q (.lnS (.t 25))⟩,
      ⟨(some 27), none, .q (.bin .lss true (.t 23) (.t 26))⟩])
                          (.cond (.t 27)
                            (.skip)
                            (.exit 1)))
                          (.seq (.block 2 (.seq (.reg /- 10 -/ [⟨(some 30), none, .q (.fa 1 (.t 1))⟩,
      ⟨(some 31), none, .l (.ld1 (.t 30))⟩,
      ⟨(some 32), none, .q (.mv (.t 3))⟩,
      ⟨(some 33), none, .ix (.t 31) (.t 32)⟩,
      ⟨(some 34), none, .q (.bin .lss true (.t 33) (.k (.int .u8 32)))⟩,
      ⟨(some 35), none, .q (.mv (.t 34))⟩,
      ⟨(some 36), (some (35, false)), .q (.fa 1 (.t 1))⟩,
      ⟨(some 37), (some (35, false)), .l (.ld1 (.t 36))⟩,
      ⟨(some 38), (some (35, false)), .q (.mv (.t 3))⟩,
      ⟨(some 39), (some (35, false)), .ix (.t 37) (.t 38)⟩,
      ⟨(some 40), (some (35, false)), .q (.bin .gtr true (.t 39) (.k (.int .u8 126)))⟩,
      ⟨(some 41), none, .pick (.t 35) (.k (.bool true)) (.t 40)⟩])
                              (.cond (.t 41)
                                (.seq (.reg /- 11 -/ [⟨(some 2), none, .q (.mv (.k (.bool false)))⟩])
                                  (.ret))
                                (.skip))))
                            (.reg /- 9 -/ [⟨(some 28), none, .q (.mv (.t 3))⟩,
      ⟨(some 29), none, .q (.bin .add true (.t 28) (.k (.int .i64 1)))⟩,
      ⟨(some 3), none, .q (.mv (.t 29))⟩]))))))
                    (.seq (.reg /- 12 -/ [⟨(some 42), none, .q (.fa 1 (.t 1))⟩,
      ⟨(some 43), none, .l (.ld1 (.t 42))⟩,
      ⟨(some 44), none, .q (.lnS (.t 43))⟩,
      ⟨(some 45), none, .q (.bin .leq true (.t 44) (.k (.int .i64 200)))⟩,
      ⟨(some 46), none, .q (.mv (.t 45))⟩,
      ⟨(some 47), (some (46, true)), .q (.fa 2 (.t 1))⟩,
      ⟨(some 48), (some (46, true)), .l (.ld1 (.t 47))⟩,
      ⟨(some 49), (some (46, true)), .q (.bin .eql true (.t 48) (.k (.int .i64 0)))⟩,
      ⟨(some 50), none, .pick (.t 46) (.t 49) (.k (.bool false))⟩,
      ⟨(some 2), none, .q (.mv (.t 50))⟩])
                      (.ret)))
                  (.seq (.reg /- 13 -/ [⟨(some 52), none, .q (.bin .eql true (.t 5) (.k (.int .i64 4)))⟩,
      ⟨(some 51), none, .q (.mv (.t 52))⟩])
                    (.cond (.t 51)
                      (.seq (.reg /- 14 -/ [⟨(some 53), none, .q (.fa 1 (.t 1))⟩,
      ⟨(some 54), none, .l (.ld1 (.t 53))⟩,
      ⟨(some 55), none, .q (.lnS (.t 54))⟩,
      ⟨(some 56), none, .q (.bin .eql true (.t 55) (.k (.int .i64 1)))⟩,
      ⟨(some 57), none, .q (.mv (.t 56))⟩,
      ⟨(some 58), (some (57, true)), .q (.fa 1 (.t 1))⟩,
      ⟨(some 59), (some (57, true)), .l (.ld1 (.t 58))⟩,
      ⟨(some 60), (some (57, true)), .ix (.t 59) (.k (.int .i64 0))⟩,
      ⟨(some 61), (some (57, true)), .cq 34 [(.t 60)]⟩,
      ⟨(some 62), none, .pick (.t 57) (.t 61) (.k (.bool false))⟩,
      ⟨(some 63), none, .q (.mv (.t 62))⟩,
      ⟨(some 64), (some (63, true)), .q (.fa 2 (.t 1))⟩,
      ⟨(some 65), (some (63, true)), .l (.ld1 (.t 64))⟩,
      ⟨(some 66), (some (63, true)), .q (.bin .eql true (.t 65) (.k (.int .i64 0)))⟩,
      ⟨(some 67), none, .pick (.t 63) (.t 66) (.k (.bool false))⟩,
      ⟨(some 2), none, .q (.mv (.t 67))⟩])
                        (.ret))
                      (.skip)))))))))))
    (.seq (.reg /- 15 -/ [⟨(some 2), none, .q (.mv (.k (.bool false)))⟩])
      (.ret)))
def rs26 : List RV := [.mv (.t 2)]
theorem ok26 : trFn Try.prog true ⟨fun r k => if r = 3 ∧ k = 2 then .q else if r = 14 ∧ k = 8 then .q else .own [], fun _ => false⟩ Try.f26 = some (pc26, rs26) := by kernel_rfl
/-- robotics/roboticsref06.skip -/
def pc28 : PC :=
  .seq (.reg /- 0 -/ [⟨(some 4), none, .q (.mv (.k (.int .i64 0)))⟩])
  (.seq (.reg /- 1 -/ [⟨(some 5), none, .q (.mv (.k (.bool false)))⟩])
    (.seq (.block 0 (.loop (.seq (.seq (.reg /- 2 -/ [⟨(some 7), none, .q (.mv (.t 1))⟩,
      ⟨(some 8), none, .q (.mv (.t 0))⟩,
      ⟨(some 9), none, .q (.lnS (.t 8))⟩,
      ⟨(some 10), none, .q (.bin .lss true (.t 7) (.t 9))⟩])
          (.cond (.t 10)
            (.skip)
            (.exit 0)))
          (.block 1 (.seq (.reg /- 3 -/ [⟨(some 11), none, .q (.mv (.t 0))⟩,
      ⟨(some 12), none, .q (.mv (.t 1))⟩,
      ⟨(some 13), none, .ix (.t 11) (.t 12)⟩,
      ⟨(some 6), none, .q (.mv (.t 13))⟩])
              (.seq (.seq (.reg /- 4 -/ [⟨(some 14), none, .q (.mv (.t 6))⟩,
      ⟨(some 15), none, .q (.bin .eql true (.t 14) (.k (.int .u8 10)))⟩])
                (.cond (.t 15)
                  (.reg /- 5 -/ [⟨(some 5), none, .q (.mv (.k (.bool false)))⟩])
                  (.skip)))
                (.seq (.seq (.reg /- 6 -/ [⟨(some 16), none, .q (.mv (.t 6))⟩,
      ⟨(some 17), none, .q (.bin .eql true (.t 16) (.k (.int .u8 35)))⟩])
                  (.cond (.t 17)
                    (.reg /- 7 -/ [⟨(some 5), none, .q (.mv (.k (.bool true)))⟩])
                    (.skip)))
                  (.seq (.seq (.reg /- 8 -/ [⟨(some 18), none, .q (.mv (.t 5))⟩,
      ⟨(some 19), none, .q (.not (.t 18))⟩,
      ⟨(some 20), none, .q (.mv (.t 19))⟩,
      ⟨(some 21), (some (20, true)), .q (.mv (.t 6))⟩,
      ⟨(some 22), (some (20, true)), .q (.bin .neq true (.t 21) (.k (.int .u8 32)))⟩,
      ⟨(some 23), none, .pick (.t 20) (.t 22) (.k (.bool false))⟩,
      ⟨(some 24), none, .q (.mv (.t 23))⟩,
      ⟨(some 25), (some (24, true)), .q (.mv (.t 6))⟩,
      ⟨(some 26), (some (24, true)), .q (.bin .neq true (.t 25) (.k (.int .u8 9)))⟩,
      ⟨(some 27), none, .pick (.t 24) (.t 26) (.k (.bool false))⟩,
      ⟨(some 28), none, .q (.mv (.t 27))⟩,
      ⟨(some 29), (some (28, true)), .q (.mv (.t 6))⟩,
      ⟨(some 30), (some (28, true)), .q (.bin .neq true (.t 29) (.k (.int .u8 10)))⟩,
      ⟨(some 31), none, .pick (.t 28) (.t 30) (.k (.bool false))⟩])
                    (.cond (.t 31)
                      (.seq (.reg /- 9 -/ [⟨(some 32), none, .q (.mv (.t 1))⟩,
      ⟨(some 4), none, .q (.mv (.t 32))⟩])
                        (.ret))
                      (.skip)))
                    (.reg /- 10 -/ [⟨(some 33), none, .q (.mv (.t 1))⟩,
      ⟨(some 34), none, .q (.bin .add true (.t 33) (.k (.int .i64 1)))⟩,
      ⟨(some 1), none, .q (.mv (.t 34))⟩])))))))))
      (.seq (.reg /- 11 -/ [⟨(some 35), none, .q (.mv (.t 1))⟩,
      ⟨(some 4), none, .q (.mv (.t 35))⟩])
        (.ret))))
def rs28 : List RV := [.mv (.t 4)]
theorem ok28 : trFn Try.prog true ⟨fun _ _ => .own [], fun _ => false⟩ Try.f28 = some (pc28, rs28) := by kernel_rfl
/-- robotics/roboticsref06.letter -/
def pc29 : PC :=
  .seq (.reg /- 0 -/ [⟨(some 2), none, .q (.mv (.k (.bool false)))⟩])
  (.seq (.reg /- 1 -/ [⟨(some 3), none, .q (.mv (.t 0))⟩,
      ⟨(some 4), none, .q (.bin .geq true (.t 3) (.k (.int .u8 97)))⟩,
      ⟨(some 5), none, .q (.mv (.t 4))⟩,
      ⟨(some 6), (some (5, true)), .q (.mv (.t 0))⟩,
      ⟨(some 7), (some (5, true)), .q (.bin .leq true (.t 6) (.k (.int .u8 122)))⟩,
      ⟨(some 8), none, .pick (.t 5) (.t 7) (.k (.bool false))⟩,
      ⟨(some 9), none, .q (.mv (.t 8))⟩,
      ⟨(some 10), (some (9, false)), .q (.mv (.t 0))⟩,
      ⟨(some 11), (some (9, false)), .q (.bin .geq true (.t 10) (.k (.int .u8 65)))⟩,
      ⟨(some 12), (some (9, false)), .q (.mv (.t 11))⟩,
      ⟨(some 13), (some (12, true)), .q (.mv (.t 0))⟩,
      ⟨(some 14), (some (12, true)), .q (.bin .leq true (.t 13) (.k (.int .u8 90)))⟩,
      ⟨(some 15), (some (9, false)), .pick (.t 12) (.t 14) (.k (.bool false))⟩,
      ⟨(some 16), none, .pick (.t 9) (.k (.bool true)) (.t 15)⟩,
      ⟨(some 2), none, .q (.mv (.t 16))⟩])
    (.ret))
def rs29 : List RV := [.mv (.t 2)]
theorem ok29 : trFn Try.prog true ⟨fun _ _ => .own [], fun _ => false⟩ Try.f29 = some (pc29, rs29) := by kernel_rfl
/-- robotics/roboticsref06.name -/
def pc30 : PC :=
  .seq (.reg /- 0 -/ [⟨(some 4), none, .q (.mv (.k (.int .i64 0)))⟩,
      ⟨(some 5), none, .q (.mv (.k (.int .i64 0)))⟩,
      ⟨(some 6), none, .q (.mv (.k (.int .i64 0)))⟩])
  (.seq (.reg /- 1 -/ [⟨(some 8), none, .q (.mv (.t 1))⟩,
      ⟨(some 7), none, .q (.mv (.t 8))⟩])
    (.seq (.block 0 (.loop (.seq (.seq (.reg /- 2 -/ [⟨(some 9), none, .q (.mv (.t 7))⟩,
      ⟨(some 10), none, .q (.mv (.t 0))⟩,
      ⟨(some 11), none, .q (.lnS (.t 10))⟩,
      ⟨(some 12), none, .q (.bin .lss true (.t 9) (.t 11))⟩,
      ⟨(some 13), none, .q (.mv (.t 12))⟩,
      ⟨(some 14), (some (13, true)), .q (.mv (.t 0))⟩,
      ⟨(some 15), (some (13, true)), .q (.mv (.t 7))⟩,
      ⟨(some 16), (some (13, true)), .ix (.t 14) (.t 15)⟩,
      ⟨(some 17), (some (13, true)), .cq 36 [(.t 16)]⟩,
      ⟨(some 18), none, .pick (.t 13) (.t 17) (.k (.bool false))⟩])
          (.cond (.t 18)
            (.skip)
            (.exit 0)))
          (.block 1 (.reg /- 3 -/ [⟨(some 19), none, .q (.mv (.t 7))⟩,
      ⟨(some 20), none, .q (.bin .add true (.t 19) (.k (.int .i64 1)))⟩,
      ⟨(some 7), none, .q (.mv (.t 20))⟩])))))
      (.seq (.seq (.reg /- 4 -/ [⟨(some 21), none, .q (.mv (.t 7))⟩,
      ⟨(some 22), none, .q (.mv (.t 1))⟩,
      ⟨(some 23), none, .q (.bin .sub true (.t 21) (.t 22))⟩,
      ⟨(some 24), none, .q (.bin .gtr true (.t 23) (.k (.int .i64 16)))⟩])
        (.cond (.t 24)
          (.seq (.reg /- 5 -/ [⟨(some 25), none, .q (.mv (.t 7))⟩,
      ⟨(some 26), none, .q (.mv (.t 1))⟩,
      ⟨(some 4), none, .q (.mv (.t 25))⟩,
      ⟨(some 5), none, .q (.mv (.k (.int .i64 3)))⟩,
      ⟨(some 6), none, .q (.mv (.t 26))⟩])
            (.ret))
          (.skip)))
        (.seq (.seq (.reg /- 6 -/ [⟨(some 27), none, .q (.mv (.t 7))⟩,
      ⟨(some 28), none, .q (.mv (.t 0))⟩,
      ⟨(some 29), none, .q (.lnS (.t 28))⟩,
      ⟨(some 30), none, .q (.bin .lss true (.t 27) (.t 29))⟩,
      ⟨(some 31), none, .q (.mv (.t 30))⟩,
      ⟨(some 32), (some (31, true)), .q (.mv (.t 0))⟩,
      ⟨(some 33), (some (31, true)), .q (.mv (.t 7))⟩,
      ⟨(some 34), (some (31, true)), .ix (.t 32) (.t 33)⟩,
      ⟨(some 35), (some (31, true)), .q (.bin .eql true (.t 34) (.k (.int .u8 45)))⟩,
      ⟨(some 36), none, .pick (.t 31) (.t 35) (.k (.bool false))⟩])
          (.cond (.t 36)
            (.seq (.reg /- 7 -/ [⟨(some 37), none, .q (.mv (.t 7))⟩,
      ⟨(some 38), none, .q (.mv (.t 7))⟩,
      ⟨(some 4), none, .q (.mv (.t 37))⟩,
      ⟨(some 5), none, .q (.mv (.k (.int .i64 2)))⟩,
      ⟨(some 6), none, .q (.mv (.t 38))⟩])
              (.ret))
            (.skip)))
          (.seq (.reg /- 8 -/ [⟨(some 39), none, .q (.mv (.t 7))⟩,
      ⟨(some 4), none, .q (.mv (.t 39))⟩,
      ⟨(some 5), none, .q (.mv (.k (.int .i64 0)))⟩,
      ⟨(some 6), none, .q (.mv (.k (.int .i64 0)))⟩])
            (.ret))))))
def rs30 : List RV := [.mv (.t 4), .mv (.t 5), .mv (.t 6)]
theorem ok30 : trFn Try.prog true ⟨fun r k => if r = 2 ∧ k = 8 then .q else .own [], fun _ => false⟩ Try.f30 = some (pc30, rs30) := by kernel_rfl
/-- robotics/roboticsref06.digit -/
def pc31 : PC :=
  .seq (.reg /- 0 -/ [⟨(some 2), none, .q (.mv (.k (.bool false)))⟩])
  (.seq (.reg /- 1 -/ [⟨(some 3), none, .q (.mv (.t 0))⟩,
      ⟨(some 4), none, .q (.bin .geq true (.t 3) (.k (.int .u8 48)))⟩,
      ⟨(some 5), none, .q (.mv (.t 4))⟩,
      ⟨(some 6), (some (5, true)), .q (.mv (.t 0))⟩,
      ⟨(some 7), (some (5, true)), .q (.bin .leq true (.t 6) (.k (.int .u8 57)))⟩,
      ⟨(some 8), none, .pick (.t 5) (.t 7) (.k (.bool false))⟩,
      ⟨(some 2), none, .q (.mv (.t 8))⟩])
    (.ret))
def rs31 : List RV := [.mv (.t 2)]
theorem ok31 : trFn Try.prog true ⟨fun _ _ => .own [], fun _ => false⟩ Try.f31 = some (pc31, rs31) := by kernel_rfl
/-- robotics/roboticsref06.number -/
def pc32 : PC :=
  .seq (.reg /- 0 -/ [⟨(some 4), none, .q (.mv (.k (.int .i64 0)))⟩,
      ⟨(some 5), none, .q (.mv (.k (.int .i64 0)))⟩,
      ⟨(some 6), none, .q (.mv (.k (.int .i64 0)))⟩,
      ⟨(some 7), none, .q (.mv (.k (.int .i64 0)))⟩])
  (.seq (.reg /- 1 -/ [⟨(some 11), none, .q (.mv (.t 1))⟩,
      ⟨(some 8), none, .q (.mv (.t 11))⟩])
    (.seq (.seq (.reg /- 2 -/ [⟨(some 12), none, .q (.mv (.t 0))⟩,
      ⟨(some 13), none, .q (.mv (.t 8))⟩,
      ⟨(some 14), none, .ix (.t 12) (.t 13)⟩,
      ⟨(some 15), none, .q (.bin .eql true (.t 14) (.k (.int .u8 45)))⟩])
      (.cond (.t 15)
        (.reg /- 3 -/ [⟨(some 16), none, .q (.mv (.t 8))⟩,
      ⟨(some 17), none, .q (.bin .add true (.t 16) (.k (.int .i64 1)))⟩,
      ⟨(some 8), none, .q (.mv (.t 17))⟩])
        (.skip)))
      (.seq (.block 0 (.loop (.seq (.seq (.reg /- 4 -/ [⟨(some 18), none, .q (.mv (.t 8))⟩,
      ⟨(some 19), none, .q (.mv (.t 0))⟩,
      ⟨(some 20), none, .q (.lnS (.t 19))⟩,
      ⟨(some 21), none, .q (.bin .lss true (.t 18) (.t 20))⟩,
      ⟨(some 22), none, .q (.mv (.t 21))⟩,
      ⟨(some 23), (some (22, true)), .q (.mv (.t 0))⟩,
      ⟨(some 24), (some (22, true)), .q (.mv (.t 8))⟩,
      ⟨(some 25), (some (22, true)), .ix (.t 23) (.t 24)⟩,
      ⟨(some 26), (some (22, true)), .cq 31 [(.t 25)]⟩,
      ⟨(some 27), none, .pick (.t 22) (.t 26) (.k (.bool false))⟩])
            (.cond (.t 27)
              (.skip)
              (.exit 0)))
            (.block 1 (.reg /- 5 -/ [⟨(some 28), none, .q (.mv (.t 8))⟩,
      ⟨(some 29), none, .q (.bin .add true (.t 28) (.k (.int .i64 1)))⟩,
      ⟨(some 8), none, .q (.mv (.t 29))⟩])))))
        (.seq (.reg /- 6 -/ [⟨(some 31), none, .q (.mv (.t 0))⟩,
      ⟨(some 32), none, .q (.mv (.t 1))⟩,
      ⟨(some 33), none, .q (.mv (.t 8))⟩,
      ⟨(some 34), none, .q (.ss (.t 31) (some (.t 32)) (some (.t 33)))⟩,
      ⟨(some 35), none, .cl 51 [(.t 34)] []⟩,
      ⟨(some 30), none, .q (.mv (.t 35))⟩,
      ⟨(some 36), none, .q (.ex (.t 30) 0)⟩,
      ⟨(some 37), none, .q (.ex (.t 30) 1)⟩,
      ⟨(some 9), none, .q (.mv (.t 36))⟩,
      ⟨(some 10), none, .q (.mv (.t 37))⟩])
          (.seq (.seq (.reg /- 7 -/ [⟨(some 38), none, .q (.mv (.t 10))⟩,
      ⟨(some 39), none, .q (.bin .eql true (.t 38) (.k (.int .i64 2)))⟩])
            (.cond (.t 39)
              (.seq (.reg /- 8 -/ [⟨(some 40), none, .q (.mv (.t 8))⟩,
      ⟨(some 41), none, .q (.mv (.t 1))⟩,
      ⟨(some 4), none, .q (.mv (.t 40))⟩,
      ⟨(some 5), none, .q (.mv (.k (.int .i64 0)))⟩,
      ⟨(some 6), none, .q (.mv (.k (.int .i64 2)))⟩,
      ⟨(some 7), none, .q (.mv (.t 41))⟩])
                (.ret))
              (.skip)))
            (.seq (.seq (.reg /- 9 -/ [⟨(some 42), none, .q (.mv (.t 10))⟩,
      ⟨(some 43), none, .q (.bin .eql true (.t 42) (.k (.int .i64 1)))⟩])
              (.cond (.t 43)
                (.seq (.reg /- 10 -/ [⟨(some 44), none, .q (.mv (.t 8))⟩,
      ⟨(some 45), none, .q (.mv (.t 1))⟩,
      ⟨(some 4), none, .q (.mv (.t 44))⟩,
      ⟨(some 5), none, .q (.mv (.k (.int .i64 0)))⟩,
      ⟨(some 6), none, .q (.mv (.k (.int .i64 4)))⟩,
      ⟨(some 7), none, .q (.mv (.t 45))⟩])
                  (.ret))
                (.skip)))
              (.seq (.seq (.reg /- 11 -/ [⟨(some 46), none, .q (.mv (.t 8))⟩,
      ⟨(some 47), none, .q (.mv (.t 0))⟩,
      ⟨(some 48), none, .q (.lnS (.t 47))⟩,
      ⟨(some 49), none, .q (.bin .lss true (.t 46) (.t 48))⟩,
      ⟨(some 50), none, .q (.mv (.t 49))⟩,
      ⟨(some 51), (some (50, true)), .q (.mv (.t 0))⟩,
      ⟨(some 52), (some (50, true)), .q (.mv (.t 8))⟩,
      ⟨(some 53), (some (50, true)), .ix (.t 51) (.t 52)⟩,
      ⟨(some 54), (some (50, true)), .cq 36 [(.t 53)]⟩,
      ⟨(some 55), (some (50, true)), .q (.mv (.t 54))⟩,
      ⟨(some 56), (some (55, false)), .q (.mv (.t 0))⟩,
      ⟨(some 57), (some (55, false)), .q (.mv (.t 8))⟩,
      ⟨(some 58), (some (55, false)), .ix (.t 56) (.t 57)⟩,
      ⟨(some 59), (some (55, false)), .q (.bin .eql true (.t 58) (.k (.int .u8 45)))⟩,
      ⟨(some 60), (some (50, true)), .pick (.t 55) (.k (.bool true)) (.t 59)⟩,
      ⟨(some 61), none, .pick (.t 50) (.t 60) (.k (.bool false))⟩])
                (.cond (.t 61)
                  (.seq (.reg /- 12 -/ [⟨(some 62), none, .q (.mv (.t 8))⟩,
      ⟨(some 63), none, .q (.mv (.t 8))⟩,
      ⟨(some 4), none, .q (.mv (.t 62))⟩,
      ⟨(some 5), none, .q (.mv (.k (.int .i64 0)))⟩,
      ⟨(some 6), none, .q (.mv (.k (.int .i64 2)))⟩,
      ⟨(some 7), none, .q (.mv (.t 63))⟩])
                    (.ret))
                  (.skip)))
                (.seq (.reg /- 13 -/ [⟨(some 64), none, .q (.mv (.t 8))⟩,
      ⟨(some 65), none, .q (.mv (.t 9))⟩,
      ⟨(some 4), none, .q (.mv (.t 64))⟩,
      ⟨(some 5), none, .q (.mv (.t 65))⟩,
      ⟨(some 6), none, .q (.mv (.k (.int .i64 0)))⟩,
      ⟨(some 7), none, .q (.mv (.k (.int .i64 0)))⟩])
                  (.ret)))))))))
def rs32 : List RV := [.mv (.t 4), .mv (.t 5), .mv (.t 6), .mv (.t 7)]
theorem ok32 : trFn Try.prog true ⟨fun r k => if r = 4 ∧ k = 8 then .q else if r = 11 ∧ k = 8 then .q else .own [], fun _ => false⟩ Try.f32 = some (pc32, rs32) := by kernel_rfl
/-- robotics/roboticsref06.quoted -/
def pc33 : PC :=
  .seq (.reg /- 0 -/ [⟨(some 4), none, .q (.mv (.k (.int .i64 0)))⟩,
      ⟨(some 5), none, .q (.mv (.k (.string (mk []))))⟩,
      ⟨(some 6), none, .q (.mv (.k (.int .i64 0)))⟩,
      ⟨(some 7), none, .q (.mv (.k (.int .i64 0)))⟩])
  (.seq (.reg /- 1 -/ [⟨(some 8), none, .q (.mv (.k (.string (mk []))))⟩])
    (.seq (.reg /- 2 -/ [⟨(some 11), none, .q (.mv (.t 1))⟩,
      ⟨(some 12), none, .q (.bin .add true (.t 11) (.k (.int .i64 1)))⟩,
      ⟨(some 9), none, .q (.mv (.t 12))⟩])
      (.block 0 (.loop (.block 1 (.seq (.seq (.reg /- 3 -/ [⟨(some 13), none, .q (.mv (.t 9))⟩,
      ⟨(some 14), none, .q (.mv (.t 0))⟩,
      ⟨(some 15), none, .q (.lnS (.t 14))⟩,
      ⟨(some 16), none, .q (.bin .geq true (.t 13) (.t 15))⟩])
              (.cond (.t 16)
                (.seq (.reg /- 4 -/ [⟨(some 17), none, .q (.mv (.t 9))⟩,
      ⟨(some 18), none, .q (.mv (.t 0))⟩,
      ⟨(some 19), none, .q (.lnS (.t 18))⟩,
      ⟨(some 4), none, .q (.mv (.t 17))⟩,
      ⟨(some 5), none, .q (.mv (.k (.string (mk []))))⟩,
      ⟨(some 6), none, .q (.mv (.k (.int .i64 2)))⟩,
      ⟨(some 7), none, .q (.mv (.t 19))⟩])
                  (.ret))
                (.skip)))
              (.seq (.reg /- 5 -/ [⟨(some 20), none, .q (.mv (.t 0))⟩,
      ⟨(some 21), none, .q (.mv (.t 9))⟩,
      ⟨(some 22), none, .ix (.t 20) (.t 21)⟩,
      ⟨(some 10), none, .q (.mv (.t 22))⟩])
                (.seq (.seq (.reg /- 6 -/ [⟨(some 23), none, .q (.mv (.t 10))⟩,
      ⟨(some 24), none, .q (.bin .eql true (.t 23) (.k (.int .u8 34)))⟩])
                  (.cond (.t 24)
                    (.seq (.seq (.reg /- 7 -/ [⟨(some 25), none, .q (.mv (.t 8))⟩,
      ⟨(some 26), none, .q (.lnS (.t 25))⟩,
      ⟨(some 27), none, .q (.bin .gtr true (.t 26) (.k (.int .i64 200)))⟩])
                      (.cond (.t 27)
                        (.seq (.reg /- 8 -/ [⟨(some 28), none, .q (.mv (.t 9))⟩,
      ⟨(some 29), none, .q (.mv (.t 1))⟩,
      ⟨(some 4), none, .q (.mv (.t 28))⟩,
      ⟨(some 5), none, .q (.mv (.k (.string (mk []))))⟩,
      ⟨(some 6), none, .q (.mv (.k (.int .i64 3)))⟩,
      ⟨(some 7), none, .q (.mv (.t 29))⟩])
                          (.ret))
                        (.skip)))
                      (.seq (.reg /- 9 -/ [⟨(some 30), none, .q (.mv (.t 9))⟩,
      ⟨(some 31), none, .q (.bin .add true (.t 30) (.k (.int .i64 1)))⟩,
      ⟨(some 32), none, .q (.mv (.t 8))⟩,
      ⟨(some 4), none, .q (.mv (.t 31))⟩,
      ⟨(some 5), none, .q (.mv (.t 32))⟩,
      ⟨(some 6), none, .q (.mv (.k (.int .i64 0)))⟩,
      ⟨(some 7), none, .q (.mv (.k (.int .i64 0)))⟩])
                        (.ret)))
                    (.skip)))
                  (.seq (.seq (.reg /- 10 -/ [⟨(some 33), none, .q (.mv (.t 10))⟩,
      ⟨(some 34), none, .q (.bin .lss true (.t 33) (.k (.int .u8 32)))⟩,
      ⟨(some 35), none, .q (.mv (.t 34))⟩,
      ⟨(some 36), (some (35, false)), .q (.mv (.t 10))⟩,
      ⟨(some 37), (some (35, false)), .q (.bin .gtr true (.t 36) (.k (.int .u8 126)))⟩,
      ⟨(some 38), none, .pick (.t 35) (.k (.bool true)) (.t 37)⟩,
      ⟨(some 39), none, .q (.mv (.t 38))⟩,
      ⟨(some 40), (some (39, false)), .q (.mv (.t 10))⟩,
      ⟨(some 41), (some (39, false)), .q (.bin .eql true (.t 40) (.k (.int .u8 92)))⟩,
      ⟨(some 42), (some (39, false)), .q (.mv (.t 41))⟩,
      ⟨(some 43), (some (42, true)), .q (.mv (.t 9))⟩,
      ⟨(some 44), (some (42, true)), .q (.bin .add true (.t 43) (.k (.int .i64 1)))⟩,
      ⟨(some 45), (some (42, true)), .q (.mv (.t 0))⟩,
      ⟨(some 46), (some (42, true)), .q (.lnS (.t 45))⟩,
      ⟨(some 47), (some (42, true)), .q (.bin .geq true (.t 44) (.t 46))⟩,
      ⟨(some 48), (some (42, true)), .q (.mv (.t 47))⟩,
      ⟨(some 49), (some (48, false)), .q (.mv (.t 0))⟩,
      ⟨(some 50), (some (48, false)), .q (.mv (.t 9))⟩,
      ⟨(some 51), (some (48, false)), .q (.bin .add true (.t 50) (.k (.int .i64 1)))⟩,
      ⟨(some 52), (some (48, false)), .ix (.t 49) (.t 51)⟩,
      ⟨(some 53), (some (48, false)), .q (.bin .neq true (.t 52) (.k (.int .u8 34)))⟩,
      ⟨(some 54), (some (48, false)), .q (.mv (.t 53))⟩,
      ⟨(some 55), (some (54, true)), .q (.mv (.t 0))⟩,
      ⟨(some 56), (some (54, true)), .q (.mv (.t 9))⟩,
      ⟨(some 57), (some (54, true)), .q (.bin .add true (.t 56) (.k (.int .i64 1)))⟩,
      ⟨(some 58), (some (54, true)), .ix (.t 55) (.t 57)⟩,
      ⟨(some 59), (some (54, true)), .q (.bin .neq true (.t 58) (.k (.int .u8 92)))⟩,
      ⟨(some 60), (some (48, false)), .pick (.t 54) (.t 59) (.k (.bool false))⟩,
      ⟨(some 61), (some (42, true)), .pick (.t 48) (.k (.bool true)) (.t 60)⟩,
      ⟨(some 62), (some (39, false)), .pick (.t 42) (.t 61) (.k (.bool false))⟩,
      ⟨(some 63), none, .pick (.t 39) (.k (.bool true)) (.t 62)⟩])
                    (.cond (.t 63)
                      (.seq (.reg /- 11 -/ [⟨(some 64), none, .q (.mv (.t 9))⟩,
      ⟨(some 65), none, .q (.mv (.t 9))⟩,
      ⟨(some 4), none, .q (.mv (.t 64))⟩,
      ⟨(some 5), none, .q (.mv (.k (.string (mk []))))⟩,
      ⟨(some 6), none, .q (.mv (.k (.int .i64 2)))⟩,
      ⟨(some 7), none, .q (.mv (.t 65))⟩])
                        (.ret))
                      (.skip)))
                    (.seq (.seq (.reg /- 12 -/ [⟨(some 66), none, .q (.mv (.t 10))⟩,
      ⟨(some 67), none, .q (.bin .eql true (.t 66) (.k (.int .u8 92)))⟩])
                      (.cond (.t 67)
                        (.reg /- 13 -/ [⟨(some 68), none, .q (.mv (.t 9))⟩,
      ⟨(some 69), none, .q (.bin .add true (.t 68) (.k (.int .i64 1)))⟩,
      ⟨(some 9), none, .q (.mv (.t 69))⟩])
                        (.skip)))
                      (.seq (.reg /- 14 -/ [⟨(some 70), none, .q (.mv (.t 8))⟩,
      ⟨(some 71), none, .q (.mv (.t 0))⟩,
      ⟨(some 72), none, .q (.mv (.t 9))⟩,
      ⟨(some 73), none, .q (.mv (.t 9))⟩,
      ⟨(some 74), none, .q (.bin .add true (.t 73) (.k (.int .i64 1)))⟩,
      ⟨(some 75), none, .q (.ss (.t 71) (some (.t 72)) (some (.t 74)))⟩,
      ⟨(some 76), none, .q (.bin .add true (.t 70) (.t 75))⟩,
      ⟨(some 8), none, .q (.mv (.t 76))⟩])
                        (.reg /- 15 -/ [⟨(some 77), none, .q (.mv (.t 9))⟩,
      ⟨(some 78), none, .q (.bin .add true (.t 77) (.k (.int .i64 1)))⟩,
      ⟨(some 9), none, .q (.mv (.t 78))⟩]))))))))))))
def rs33 : List RV := [.mv (.t 4), .mv (.t 5), .mv (.t 6), .mv (.t 7)]
theorem ok33 : trFn Try.prog true ⟨fun _ _ => .own [], fun _ => false⟩ Try.f33 = some (pc33, rs33) := by kernel_rfl
/-- robotics/roboticsref06.mark -/
def pc34 : PC :=
  .seq (.reg /- 0 -/ [⟨(some 2), none, .q (.mv (.k (.bool false)))⟩])
  (.seq (.reg /- 1 -/ [⟨(some 3), none, .q (.mv (.k (.string (mk [123, 125, 40, 41, 91, 93, 58, 59, 44, 61, 46, 63, 33, 38, 124, 64]))))⟩])
    (.seq (.seq (.reg /- 2 -/ [⟨(some 4), none, .q (.mv (.k (.int .i64 0)))⟩])
      (.block 0 (.loop (.seq (.seq (.reg /- 3 -/ [⟨(some 5), none, .q (.mv (.t 4))⟩,
      ⟨(some 6), none, .q (.mv (.t 3))⟩,
      ⟨(some 7), none, .q (.lnS (.t 6))⟩,
      ⟨(some 8), none, .q (.bin .lss true (.t 5) (.t 7))⟩])
            (.cond (.t 8)
              (.skip)
              (.exit 0)))
            (.seq (.block 1 (.seq (.reg /- 5 -/ [⟨(some 11), none, .q (.mv (.t 3))⟩,
      ⟨(some 12), none, .q (.mv (.t 4))⟩,
      ⟨(some 13), none, .ix (.t 11) (.t 12)⟩,
      ⟨(some 14), none, .q (.mv (.t 0))⟩,
      ⟨(some 15), none, .q (.bin .eql true (.t 13) (.t 14))⟩])
                (.cond (.t 15)
                  (.seq (.reg /- 6 -/ [⟨(some 2), none, .q (.mv (.k (.bool true)))⟩])
                    (.ret))
                  (.skip))))
              (.reg /- 4 -/ [⟨(some 9), none, .q (.mv (.t 4))⟩,
      ⟨(some 10), none, .q (.bin .add true (.t 9) (.k (.int .i64 1)))⟩,
      ⟨(some 4), none, .q (.mv (.t 10))⟩]))))))
      (.seq (.reg /- 7 -/ [⟨(some 2), none, .q (.mv (.k (.bool false)))⟩])
        (.ret))))
def rs34 : List RV := [.mv (.t 2)]
theorem ok34 : trFn Try.prog true ⟨fun _ _ => .own [], fun _ => false⟩ Try.f34 = some (pc34, rs34) := by kernel_rfl
/-- robotics/roboticsref06.word -/
def pc36 : PC :=
  .seq (.reg /- 0 -/ [⟨(some 2), none, .q (.mv (.k (.bool false)))⟩])
  (.seq (.reg /- 1 -/ [⟨(some 3), none, .q (.mv (.t 0))⟩,
      ⟨(some 4), none, .cq 29 [(.t 3)]⟩,
      ⟨(some 5), none, .q (.mv (.t 4))⟩,
      ⟨(some 6), (some (5, false)), .q (.mv (.t 0))⟩,
      ⟨(some 7), (some (5, false)), .cq 31 [(.t 6)]⟩,
      ⟨(some 8), none, .pick (.t 5) (.k (.bool true)) (.t 7)⟩,
      ⟨(some 9), none, .q (.mv (.t 8))⟩,
      ⟨(some 10), (some (9, false)), .q (.mv (.t 0))⟩,
      ⟨(some 11), (some (9, false)), .q (.bin .eql true (.t 10) (.k (.int .u8 95)))⟩,
      ⟨(some 12), none, .pick (.t 9) (.k (.bool true)) (.t 11)⟩,
      ⟨(some 2), none, .q (.mv (.t 12))⟩])
    (.ret))
def rs36 : List RV := [.mv (.t 2)]
theorem ok36 : trFn Try.prog true ⟨fun r k => if r = 1 ∧ k = 1 then .q else if r = 1 ∧ k = 4 then .q else .own [], fun _ => false⟩ Try.f36 = some (pc36, rs36) := by kernel_rfl
/-- robotics/roboticsref06.Decimal -/
def pc43 : PC :=
  .seq (.reg /- 0 -/ [⟨(some 2), none, .q (.mv (.k (.string (mk []))))⟩])
  (.seq (.reg /- 1 -/ [⟨(some 3), none, .q (.mv (.k (.string (mk []))))⟩])
    (.seq (.reg /- 2 -/ [⟨(some 6), none, .q (.mv (.t 0))⟩,
      ⟨(some 7), none, .q (.bin .lss true (.t 6) (.k (.int .i64 0)))⟩,
      ⟨(some 4), none, .q (.mv (.t 7))⟩])
      (.seq (.block 0 (.loop (.block 1 (.seq (.reg /- 3 -/ [⟨(some 8), none, .q (.mv (.t 0))⟩,
      ⟨(some 9), none, .q (.bin .rem true (.t 8) (.k (.int .i64 10)))⟩,
      ⟨(some 5), none, .q (.mv (.t 9))⟩])
              (.seq (.seq (.reg /- 4 -/ [⟨(some 10), none, .q (.mv (.t 5))⟩,
      ⟨(some 11), none, .q (.bin .lss true (.t 10) (.k (.int .i64 0)))⟩])
                (.cond (.t 11)
                  (.reg /- 5 -/ [⟨(some 12), none, .q (.mv (.t 5))⟩,
      ⟨(some 13), none, .q (.bin .sub true (.k (.int .i64 0)) (.t 12))⟩,
      ⟨(some 5), none, .q (.mv (.t 13))⟩])
                  (.skip)))
                (.seq (.reg /- 6 -/ [⟨(some 14), none, .q (.mv (.t 5))⟩,
      ⟨(some 15), none, .q (.mv (.t 5))⟩,
      ⟨(some 16), none, .q (.bin .add true (.t 15) (.k (.int .i64 1)))⟩,
      ⟨(some 17), none, .q (.ss (.k (.string (mk [48, 49, 50, 51, 52, 53, 54, 55, 56, 57]))) (some (.t 14)) (some (.t 16)))⟩,
      ⟨(some 18), none, .q (.mv (.t 3))⟩,
      ⟨(some 19), none, .q (.bin .add true (.t 17) (.t 18))⟩,
      ⟨(some 3), none, .q (.mv (.t 19))⟩])
                  (.seq (.reg /- 7 -/ [⟨(some 20), none, .q (.mv (.t 0))⟩,
      ⟨(some 21), none, .q (.bin .quo true (.t 20) (.k (.int .i64 10)))⟩,
      ⟨(some 0), none, .q (.mv (.t 21))⟩])
                    (.seq (.reg /- 8 -/ [⟨(some 22), none, .q (.mv (.t 0))⟩,
      ⟨(some 23), none, .q (.bin .eql true (.t 22) (.k (.int .i64 0)))⟩])
                      (.cond (.t 23)
                        (.exit 0)
                        (.skip))))))))))
        (.seq (.seq (.reg /- 9 -/ [⟨(some 24), none, .q (.mv (.t 4))⟩])
          (.cond (.t 24)
            (.seq (.reg /- 10 -/ [⟨(some 25), none, .q (.mv (.t 3))⟩,
      ⟨(some 26), none, .q (.bin .add true (.k (.string (mk [45]))) (.t 25))⟩,
      ⟨(some 2), none, .q (.mv (.t 26))⟩])
              (.ret))
            (.skip)))
          (.seq (.reg /- 11 -/ [⟨(some 27), none, .q (.mv (.t 3))⟩,
      ⟨(some 2), none, .q (.mv (.t 27))⟩])
            (.ret))))))
def rs43 : List RV := [.mv (.t 2)]
theorem ok43 : trFn Try.prog true ⟨fun _ _ => .own [], fun _ => false⟩ Try.f43 = some (pc43, rs43) := by kernel_rfl
/-- robotics/roboticsref06.Quoted -/
def pc44 : PC :=
  .seq (.reg /- 0 -/ [⟨(some 2), none, .q (.mv (.k (.string (mk []))))⟩])
  (.seq (.reg /- 1 -/ [⟨(some 3), none, .q (.mv (.k (.string (mk [34]))))⟩])
    (.seq (.seq (.reg /- 2 -/ [⟨(some 4), none, .q (.mv (.k (.int .i64 0)))⟩])
      (.block 0 (.loop (.seq (.seq (.reg /- 3 -/ [⟨(some 5), none, .q (.mv (.t 4))⟩,
      ⟨(some 6), none, .q (.mv (.t 0))⟩,
      ⟨(some 7), none, .q (.lnS (.t 6))⟩,
      ⟨(some 8), none, .q (.bin .lss true (.t 5) (.t 7))⟩])
            (.cond (.t 8)
              (.skip)
              (.exit 0)))
            (.seq (.block 1 (.seq (.seq (.reg /- 5 -/ [⟨(some 11), none, .q (.mv (.t 0))⟩,
      ⟨(some 12), none, .q (.mv (.t 4))⟩,
      ⟨(some 13), none, .ix (.t 11) (.t 12)⟩,
      ⟨(some 14), none, .q (.bin .eql true (.t 13) (.k (.int .u8 34)))⟩,
      ⟨(some 15), none, .q (.mv (.t 14))⟩,
      ⟨(some 16), (some (15, false)), .q (.mv (.t 0))⟩,
      ⟨(some 17), (some (15, false)), .q (.mv (.t 4))⟩,
      ⟨(some 18), (some (15, false)), .ix (.t 16) (.t 17)⟩,
      ⟨(some 19), (some (15, false)), .q (.bin .eql true (.t 18) (.k (.int .u8 92)))⟩,
      ⟨(some 20), none, .pick (.t 15) (.k (.bool true)) (.t 19)⟩])
                (.cond (.t 20)
                  (.reg /- 6 -/ [⟨(some 21), none, .q (.mv (.t 3))⟩,
      ⟨(some 22), none, .q (.bin .add true (.t 21) (.k (.string (mk [92]))))⟩,
      ⟨(some 3), none, .q (.mv (.t 22))⟩])
                  (.skip)))
                (.reg /- 7 -/ [⟨(some 23), none, .q (.mv (.t 3))⟩,
      ⟨(some 24), none, .q (.mv (.t 0))⟩,
      ⟨(some 25), none, .q (.mv (.t 4))⟩,
      ⟨(some 26), none, .q (.mv (.t 4))⟩,
      ⟨(some 27), none, .q (.bin .add true (.t 26) (.k (.int .i64 1)))⟩,
      ⟨(some 28), none, .q (.ss (.t 24) (some (.t 25)) (some (.t 27)))⟩,
      ⟨(some 29), none, .q (.bin .add true (.t 23) (.t 28))⟩,
      ⟨(some 3), none, .q (.mv (.t 29))⟩])))
              (.reg /- 4 -/ [⟨(some 9), none, .q (.mv (.t 4))⟩,
      ⟨(some 10), none, .q (.bin .add true (.t 9) (.k (.int .i64 1)))⟩,
      ⟨(some 4), none, .q (.mv (.t 10))⟩]))))))
      (.seq (.reg /- 8 -/ [⟨(some 30), none, .q (.mv (.t 3))⟩,
      ⟨(some 31), none, .q (.bin .add true (.t 30) (.k (.string (mk [34]))))⟩,
      ⟨(some 2), none, .q (.mv (.t 31))⟩])
        (.ret))))
def rs44 : List RV := [.mv (.t 2)]
theorem ok44 : trFn Try.prog true ⟨fun _ _ => .own [], fun _ => false⟩ Try.f44 = some (pc44, rs44) := by kernel_rfl
/-- robotics/roboticsref06.Number -/
def pc51 : PC :=
  .seq (.reg /- 0 -/ [⟨(some 2), none, .q (.mv (.k (.int .i64 0)))⟩,
      ⟨(some 3), none, .q (.mv (.k (.int .i64 0)))⟩])
  (.seq (.reg /- 1 -/ [⟨(some 4), none, .q (.mv (.k (.int .i64 0)))⟩])
    (.seq (.seq (.reg /- 2 -/ [⟨(some 7), none, .q (.mv (.t 4))⟩,
      ⟨(some 8), none, .q (.mv (.t 0))⟩,
      ⟨(some 9), none, .q (.lnS (.t 8))⟩,
      ⟨(some 10), none, .q (.bin .lss true (.t 7) (.t 9))⟩,
      ⟨(some 11), none, .q (.mv (.t 10))⟩,
      ⟨(some 12), (some (11, true)), .q (.mv (.t 0))⟩,
      ⟨(some 13), (some (11, true)), .ix (.t 12) (.k (.int .i64 0))⟩,
      ⟨(some 14), (some (11, true)), .q (.bin .eql true (.t 13) (.k (.int .u8 45)))⟩,
      ⟨(some 15), none, .pick (.t 11) (.t 14) (.k (.bool false))⟩])
      (.cond (.t 15)
        (.reg /- 3 -/ [⟨(some 4), none, .q (.mv (.k (.int .i64 1)))⟩])
        (.skip)))
      (.seq (.seq (.reg /- 4 -/ [⟨(some 16), none, .q (.mv (.t 4))⟩,
      ⟨(some 17), none, .q (.mv (.t 0))⟩,
      ⟨(some 18), none, .q (.lnS (.t 17))⟩,
      ⟨(some 19), none, .q (.bin .geq true (.t 16) (.t 18))⟩,
      ⟨(some 20), none, .q (.mv (.t 19))⟩,
      ⟨(some 21), (some (20, false)), .q (.mv (.t 0))⟩,
      ⟨(some 22), (some (20, false)), .q (.lnS (.t 21))⟩,
      ⟨(some 23), (some (20, false)), .q (.mv (.t 4))⟩,
      ⟨(some 24), (some (20, false)), .q (.bin .sub true (.t 22) (.t 23))⟩,
      ⟨(some 25), (some (20, false)), .q (.bin .gtr true (.t 24) (.k (.int .i64 1)))⟩,
      ⟨(some 26), (some (20, false)), .q (.mv (.t 25))⟩,
      ⟨(some 27), (some (26, true)), .q (.mv (.t 0))⟩,
      ⟨(some 28), (some (26, true)), .q (.mv (.t 4))⟩,
      ⟨(some 29), (some (26, true)), .ix (.t 27) (.t 28)⟩,
      ⟨(some 30), (some (26, true)), .q (.bin .eql true (.t 29) (.k (.int .u8 48)))⟩,
      ⟨(some 31), (some (20, false)), .pick (.t 26) (.t 30) (.k (.bool false))⟩,
      ⟨(some 32), none, .pick (.t 20) (.k (.bool true)) (.t 31)⟩,
      ⟨(some 33), none, .q (.mv (.t 32))⟩,
      ⟨(some 34), (some (33, false)), .q (.mv (.t 4))⟩,
      ⟨(some 35), (some (33, false)), .q (.bin .eql true (.t 34) (.k (.int .i64 1)))⟩,
      ⟨(some 36), (some (33, false)), .q (.mv (.t 35))⟩,
      ⟨(some 37), (some (36, true)), .q (.mv (.t 0))⟩,
      ⟨(some 38), (some (36, true)), .q (.mv (.t 4))⟩,
      ⟨(some 39), (some (36, true)), .ix (.t 37) (.t 38)⟩,
      ⟨(some 40), (some (36, true)), .q (.bin .eql true (.t 39) (.k (.int .u8 48)))⟩,
      ⟨(some 41), (some (33, false)), .pick (.t 36) (.t 40) (.k (.bool false))⟩,
      ⟨(some 42), none, .pick (.t 33) (.k (.bool true)) (.t 41)⟩])
        (.cond (.t 42)
          (.seq (.reg /- 5 -/ [⟨(some 2), none, .q (.mv (.k (.int .i64 0)))⟩,
      ⟨(some 3), none, .q (.mv (.k (.int .i64 2)))⟩])
            (.ret))
          (.skip)))
        (.seq (.reg /- 6 -/ [⟨(some 5), none, .q (.mv (.k (.int .u64 0)))⟩])
          (.seq (.seq (.reg /- 7 -/ [⟨(some 43), none, .q (.mv (.t 4))⟩,
      ⟨(some 6), none, .q (.mv (.t 43))⟩])
            (.block 0 (.loop (.seq (.seq (.reg /- 8 -/ [⟨(some 44), none, .q (.mv (.t 6))⟩,
      ⟨(some 45), none, .q (.mv (.t 0))⟩,
      ⟨(some 46), none, .q (.lnS (.t 45))⟩,
      ⟨(some 47), none, .q (.bin .lss true (.t 44) (.t 46))⟩])
                  (.cond (.t 47)
                    (.skip)
                    (.exit 0)))
                  (.seq (.block 1 (.seq (.seq (.reg /- 10 -/ [⟨(some 50), none, .q (.mv (.t 0))⟩,
      ⟨(some 51), none, .q (.mv (.t 6))⟩,
      ⟨(some 52), none, .ix (.t 50) (.t 51)⟩,
      ⟨(some 53), none, .cq 31 [(.t 52)]⟩,
      ⟨(some 54), none, .q (.not (.t 53))⟩])
                      (.cond (.t 54)
                        (.seq (.reg /- 11 -/ [⟨(some 2), none, .q (.mv (.k (.int .i64 0)))⟩,
      ⟨(some 3), none, .q (.mv (.k (.int .i64 2)))⟩])
                          (.ret))
                        (.skip)))
                      (.seq (.seq (.reg /- 12 -/ [⟨(some 55), none, .q (.mv (.t 5))⟩,
      ⟨(some 56), none, .q (.bin .gtr true (.t 55) (.k (.int .u64 1000000000000000000)))⟩])
                        (.cond (.t 56)
                          (.seq (.reg /- 13 -/ [⟨(some 2), none, .q (.mv (.k (.int .i64 0)))⟩,
      ⟨(some 3), none, .q (.mv (.k (.int .i64 1)))⟩])
                            (.ret))
                          (.skip)))
                        (.reg /- 14 -/ [⟨(some 57), none, .q (.mv (.t 5))⟩,
      ⟨(some 58), none, .q (.bin .mul true (.k (.int .u64 10)) (.t 57))⟩,
      ⟨(some 59), none, .q (.mv (.t 0))⟩,
      ⟨(some 60), none, .q (.mv (.t 6))⟩,
      ⟨(some 61), none, .ix (.t 59) (.t 60)⟩,
      ⟨(some 62), none, .q (.bin .sub true (.t 61) (.k (.int .u8 48)))⟩,
      ⟨(some 63), none, .q (.cvt .u64 (.t 62))⟩,
      ⟨(some 64), none, .q (.bin .add true (.t 58) (.t 63))⟩,
      ⟨(some 5), none, .q (.mv (.t 64))⟩]))))
                    (.reg /- 9 -/ [⟨(some 48), none, .q (.mv (.t 6))⟩,
      ⟨(some 49), none, .q (.bin .add true (.t 48) (.k (.int .i64 1)))⟩,
      ⟨(some 6), none, .q (.mv (.t 49))⟩]))))))
            (.seq (.seq (.reg /- 15 -/ [⟨(some 65), none, .q (.mv (.t 4))⟩,
      ⟨(some 66), none, .q (.bin .eql true (.t 65) (.k (.int .i64 1)))⟩])
              (.cond (.t 66)
                (.seq (.seq (.reg /- 16 -/ [⟨(some 67), none, .q (.mv (.t 5))⟩,
      ⟨(some 68), none, .q (.bin .gtr true (.t 67) (.k (.int .u64 9223372036854775808)))⟩])
                  (.cond (.t 68)
                    (.seq (.reg /- 17 -/ [⟨(some 2), none, .q (.mv (.k (.int .i64 0)))⟩,
      ⟨(some 3), none, .q (.mv (.k (.int .i64 1)))⟩])
                      (.ret))
                    (.skip)))
                  (.seq (.reg /- 18 -/ [⟨(some 69), none, .q (.mv (.t 5))⟩,
      ⟨(some 70), none, .q (.bin .sub true (.t 69) (.k (.int .u64 1)))⟩,
      ⟨(some 71), none, .q (.cvt .i64 (.t 70))⟩,
      ⟨(some 72), none, .q (.bin .sub true (.k (.int .i64 0)) (.t 71))⟩,
      ⟨(some 73), none, .q (.bin .sub true (.t 72) (.k (.int .i64 1)))⟩,
      ⟨(some 2), none, .q (.mv (.t 73))⟩,
      ⟨(some 3), none, .q (.mv (.k (.int .i64 0)))⟩])
                    (.ret)))
                (.skip)))
              (.seq (.seq (.reg /- 19 -/ [⟨(some 74), none, .q (.mv (.t 5))⟩,
      ⟨(some 75), none, .q (.bin .gtr true (.t 74) (.k (.int .u64 9223372036854775807)))⟩])
                (.cond (.t 75)
                  (.seq (.reg /- 20 -/ [⟨(some 2), none, .q (.mv (.k (.int .i64 0)))⟩,
      ⟨(some 3), none, .q (.mv (.k (.int .i64 1)))⟩])
                    (.ret))
                  (.skip)))
                (.seq (.reg /- 21 -/ [⟨(some 76), none, .q (.mv (.t 5))⟩,
      ⟨(some 77), none, .q (.cvt .i64 (.t 76))⟩,
      ⟨(some 2), none, .q (.mv (.t 77))⟩,
      ⟨(some 3), none, .q (.mv (.k (.int .i64 0)))⟩])
                  (.ret)))))))))
def rs51 : List RV := [.mv (.t 2), .mv (.t 3)]
theorem ok51 : trFn Try.prog true ⟨fun r k => if r = 10 ∧ k = 3 then .q else .own [], fun _ => false⟩ Try.f51 = some (pc51, rs51) := by kernel_rfl
end Go.Proofs.Ytgophdhegdcekaa
