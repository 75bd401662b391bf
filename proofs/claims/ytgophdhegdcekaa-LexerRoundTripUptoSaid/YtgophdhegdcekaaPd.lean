import Derived.Test.YtgophdhegdcekaaProg
import Derived.Test.YtgophdhegdcekaaW15
namespace Go.Proofs.Ytgophdhegdcekaa
open Go.W
/-- robotics/roboticslaw06.LexerScans -/
def pc3 : PC :=
  .seq (.reg /- 0 -/ [⟨(some 2), none, .q (.mv (.k (.bool false)))⟩])
  (.seq (.reg /- 1 -/ [⟨(some 10), none, .q (.mv (.t 0))⟩,
      ⟨(some 11), none, .cl 8 [(.t 10)] []⟩,
      ⟨(some 9), none, .q (.mv (.t 11))⟩,
      ⟨(some 12), none, .q (.ex (.t 9) 0)⟩,
      ⟨(some 13), none, .q (.ex (.t 9) 1)⟩,
      ⟨(some 14), none, .q (.ex (.t 9) 2)⟩,
      ⟨(some 3), none, .q (.mv (.t 12))⟩,
      ⟨(some 4), none, .q (.mv (.t 13))⟩,
      ⟨(some 5), none, .q (.mv (.t 14))⟩])
    (.seq (.reg /- 2 -/ [⟨(some 16), none, .q (.mv (.t 0))⟩,
      ⟨(some 17), none, .cl 9 [(.t 16)] []⟩,
      ⟨(some 15), none, .q (.mv (.t 17))⟩,
      ⟨(some 18), none, .q (.ex (.t 15) 0)⟩,
      ⟨(some 19), none, .q (.ex (.t 15) 1)⟩,
      ⟨(some 20), none, .q (.ex (.t 15) 2)⟩,
      ⟨(some 6), none, .q (.mv (.t 18))⟩,
      ⟨(some 7), none, .q (.mv (.t 19))⟩,
      ⟨(some 8), none, .q (.mv (.t 20))⟩])
      (.seq (.reg /- 3 -/ [⟨(some 21), none, .q (.mv (.t 4))⟩,
      ⟨(some 22), none, .q (.mv (.t 7))⟩,
      ⟨(some 23), none, .q (.bin .eql true (.t 21) (.t 22))⟩,
      ⟨(some 24), none, .q (.mv (.t 23))⟩,
      ⟨(some 25), (some (24, true)), .q (.mv (.t 5))⟩,
      ⟨(some 26), (some (24, true)), .q (.mv (.t 8))⟩,
      ⟨(some 27), (some (24, true)), .q (.bin .eql true (.t 25) (.t 26))⟩,
      ⟨(some 28), none, .pick (.t 24) (.t 27) (.k (.bool false))⟩,
      ⟨(some 29), none, .q (.mv (.t 28))⟩,
      ⟨(some 30), (some (29, true)), .q (.mv (.t 3))⟩,
      ⟨(some 31), (some (29, true)), .q (.mv (.t 6))⟩,
      ⟨(some 32), (some (29, true)), .cq 10 [(.t 30), (.t 31)]⟩,
      ⟨(some 33), none, .pick (.t 29) (.t 32) (.k (.bool false))⟩,
      ⟨(some 34), none, .q (.mv (.t 33))⟩,
      ⟨(some 35), (some (34, true)), .cq 11 []⟩,
      ⟨(some 36), none, .pick (.t 34) (.t 35) (.k (.bool false))⟩,
      ⟨(some 2), none, .q (.mv (.t 36))⟩])
        (.ret))))
def rs3 : List RV := [.mv (.t 2)]
theorem ok3 : trFn Try.prog true ⟨fun r k => if r = 3 ∧ k = 11 then .q else if r = 3 ∧ k = 14 then .q else .own [], fun _ => false⟩ Try.f3 = some (pc3, rs3) := by kernel_rfl
/-- robotics/roboticslaw06.LexerOffsets -/
def pc4 : PC :=
  .seq (.reg /- 0 -/ [⟨(some 2), none, .q (.mv (.k (.bool false)))⟩])
  (.seq (.reg /- 1 -/ [⟨(some 9), none, .q (.mv (.t 0))⟩,
      ⟨(some 10), none, .cl 8 [(.t 9)] []⟩,
      ⟨(some 8), none, .q (.mv (.t 10))⟩,
      ⟨(some 11), none, .q (.ex (.t 8) 0)⟩,
      ⟨(some 12), none, .q (.ex (.t 8) 1)⟩,
      ⟨(some 13), none, .q (.ex (.t 8) 2)⟩,
      ⟨(some 3), none, .q (.mv (.t 11))⟩,
      ⟨(some 4), none, .q (.mv (.t 12))⟩,
      ⟨(some 5), none, .q (.mv (.t 13))⟩])
    (.seq (.seq (.reg /- 2 -/ [⟨(some 14), none, .q (.mv (.t 4))⟩,
      ⟨(some 15), none, .q (.bin .neq true (.t 14) (.k (.int .i64 0)))⟩])
      (.cond (.t 15)
        (.seq (.reg /- 3 -/ [⟨(some 16), none, .q (.mv (.t 3))⟩,
      ⟨(some 17), none, .q (.lnL (.t 16))⟩,
      ⟨(some 18), none, .q (.bin .eql true (.t 17) (.k (.int .i64 0)))⟩,
      ⟨(some 19), none, .q (.mv (.t 18))⟩,
      ⟨(some 20), (some (19, true)), .q (.mv (.t 5))⟩,
      ⟨(some 21), (some (19, true)), .q (.bin .geq true (.t 20) (.k (.int .i64 0)))⟩,
      ⟨(some 22), none, .pick (.t 19) (.t 21) (.k (.bool false))⟩,
      ⟨(some 23), none, .q (.mv (.t 22))⟩,
      ⟨(some 24), (some (23, true)), .q (.mv (.t 5))⟩,
      ⟨(some 25), (some (23, true)), .q (.mv (.t 0))⟩,
      ⟨(some 26), (some (23, true)), .q (.lnS (.t 25))⟩,
      ⟨(some 27), (some (23, true)), .q (.bin .leq true (.t 24) (.t 26))⟩,
      ⟨(some 28), none, .pick (.t 23) (.t 27) (.k (.bool false))⟩,
      ⟨(some 29), none, .q (.mv (.t 28))⟩,
      ⟨(some 30), (some (29, true)), .cq 11 []⟩,
      ⟨(some 31), none, .pick (.t 29) (.t 30) (.k (.bool false))⟩,
      ⟨(some 2), none, .q (.mv (.t 31))⟩])
          (.ret))
        (.skip)))
      (.seq (.seq (.reg /- 4 -/ [⟨(some 6), none, .q (.mv (.k (.int .i64 0)))⟩])
        (.block 0 (.loop (.seq (.seq (.reg /- 5 -/ [⟨(some 32), none, .q (.mv (.t 6))⟩,
      ⟨(some 33), none, .q (.mv (.t 3))⟩,
      ⟨(some 34), none, .q (.lnL (.t 33))⟩,
      ⟨(some 35), none, .q (.bin .lss true (.t 32) (.t 34))⟩])
              (.cond (.t 35)
                (.skip)
                (.exit 0)))
              (.seq (.block 1 (.seq (.reg /- 7 -/ [⟨(some 38), none, .q (.mv (.t 3))⟩,
      ⟨(some 39), none, .q (.mv (.t 6))⟩,
      ⟨(some 40), none, .l (.ia 4 (.t 38) (.t 39))⟩,
      ⟨(some 41), none, .l (.ldn 4 (.t 40))⟩,
      ⟨(some 7), none, .e (.al (.agg #[(.int .i64 0), (.string (mk [])), (.int .i64 0), (.int .i64 0)]) 30)⟩,
      ⟨none, none, .e (.st 4 (.t 7) (.t 41))⟩])
                  (.seq (.seq (.reg /- 8 -/ [⟨(some 42), none, .q (.fa 0 (.t 7))⟩,
      ⟨(some 43), none, .l (.ld1 (.t 42))⟩,
      ⟨(some 44), none, .q (.bin .eql true (.t 43) (.k (.int .i64 0)))⟩,
      ⟨(some 45), none, .q (.mv (.t 6))⟩,
      ⟨(some 46), none, .q (.mv (.t 3))⟩,
      ⟨(some 47), none, .q (.lnL (.t 46))⟩,
      ⟨(some 48), none, .q (.bin .sub true (.t 47) (.k (.int .i64 1)))⟩,
      ⟨(some 49), none, .q (.bin .eql true (.t 45) (.t 48))⟩,
      ⟨(some 50), none, .q (.eqB true (.t 44) (.t 49))⟩,
      ⟨(some 51), none, .q (.mv (.t 50))⟩,
      ⟨(some 52), (some (51, false)), .q (.fa 3 (.t 7))⟩,
      ⟨(some 53), (some (51, false)), .l (.ld1 (.t 52))⟩,
      ⟨(some 54), (some (51, false)), .q (.bin .lss true (.t 53) (.k (.int .i64 0)))⟩,
      ⟨(some 55), none, .pick (.t 51) (.k (.bool true)) (.t 54)⟩,
      ⟨(some 56), none, .q (.mv (.t 55))⟩,
      ⟨(some 57), (some (56, false)), .q (.mv (.t 6))⟩,
      ⟨(some 58), (some (56, false)), .q (.bin .gtr true (.t 57) (.k (.int .i64 0)))⟩,
      ⟨(some 59), (some (56, false)), .q (.mv (.t 58))⟩,
      ⟨(some 60), (some (59, true)), .q (.fa 3 (.t 7))⟩,
      ⟨(some 61), (some (59, true)), .l (.ld1 (.t 60))⟩,
      ⟨(some 62), (some (59, true)), .q (.mv (.t 3))⟩,
      ⟨(some 63), (some (59, true)), .q (.mv (.t 6))⟩,
      ⟨(some 64), (some (59, true)), .q (.bin .sub true (.t 63) (.k (.int .i64 1)))⟩,
      ⟨(some 65), (some (59, true)), .l (.ia 4 (.t 62) (.t 64))⟩,
      ⟨(some 66), (some (59, true)), .q (.fa 3 (.t 65))⟩,
      ⟨(some 67), (some (59, true)), .l (.ld1 (.t 66))⟩,
      ⟨(some 68), (some (59, true)), .q (.bin .leq true (.t 61) (.t 67))⟩,
      ⟨(some 69), (some (56, false)), .pick (.t 59) (.t 68) (.k (.bool false))⟩,
      ⟨(some 70), none, .pick (.t 56) (.k (.bool true)) (.t 69)⟩])
                    (.cond (.t 70)
                      (.seq (.reg /- 9 -/ [⟨(some 2), none, .q (.mv (.k (.bool false)))⟩])
                        (.ret))
                      (.skip)))
                    (.seq (.seq (.reg /- 10 -/ [⟨(some 71), none, .q (.fa 0 (.t 7))⟩,
      ⟨(some 72), none, .l (.ld1 (.t 71))⟩,
      ⟨(some 73), none, .q (.bin .eql true (.t 72) (.k (.int .i64 0)))⟩])
                      (.cond (.t 73)
                        (.seq (.seq (.reg /- 11 -/ [⟨(some 74), none, .q (.fa 3 (.t 7))⟩,
      ⟨(some 75), none, .l (.ld1 (.t 74))⟩,
      ⟨(some 76), none, .q (.mv (.t 0))⟩,
      ⟨(some 77), none, .q (.lnS (.t 76))⟩,
      ⟨(some 78), none, .q (.bin .neq true (.t 75) (.t 77))⟩])
                          (.cond (.t 78)
                            (.seq (.reg /- 12 -/ [⟨(some 2), none, .q (.mv (.k (.bool false)))⟩])
                              (.ret))
                            (.skip)))
                          (.exit 1))
                        (.skip)))
                      (.seq (.reg /- 13 -/ [⟨(some 79), none, .q (.fa 3 (.t 7))⟩,
      ⟨(some 80), none, .l (.ld1 (.t 79))⟩,
      ⟨(some 81), none, .q (.mv (.t 0))⟩,
      ⟨(some 82), none, .q (.lnS (.t 81))⟩,
      ⟨(some 83), none, .q (.bin .geq true (.t 80) (.t 82))⟩,
      ⟨(some 84), none, .q (.mv (.t 83))⟩,
      ⟨(some 85), (some (84, false)), .q (.mv (.t 0))⟩,
      ⟨(some 86), (some (84, false)), .q (.fa 3 (.t 7))⟩,
      ⟨(some 87), (some (84, false)), .l (.ld1 (.t 86))⟩,
      ⟨(some 88), (some (84, false)), .ix (.t 85) (.t 87)⟩,
      ⟨(some 89), (some (84, false)), .q (.bin .leq true (.t 88) (.k (.int .u8 32)))⟩,
      ⟨(some 90), none, .pick (.t 84) (.k (.bool true)) (.t 89)⟩,
      ⟨(some 91), none, .q (.mv (.t 90))⟩,
      ⟨(some 92), (some (91, false)), .q (.mv (.t 0))⟩,
      ⟨(some 93), (some (91, false)), .q (.fa 3 (.t 7))⟩,
      ⟨(some 94), (some (91, false)), .l (.ld1 (.t 93))⟩,
      ⟨(some 95), (some (91, false)), .ix (.t 92) (.t 94)⟩,
      ⟨(some 96), (some (91, false)), .q (.bin .eql true (.t 95) (.k (.int .u8 35)))⟩,
      ⟨(some 97), none, .pick (.t 91) (.k (.bool true)) (.t 96)⟩,
      ⟨(some 98), none, .q (.mv (.t 97))⟩,
      ⟨(some 99), (some (98, false)), .q (.mv (.t 0))⟩,
      ⟨(some 100), (some (98, false)), .q (.fa 3 (.t 7))⟩,
      ⟨(some 101), (some (98, false)), .l (.ld1 (.t 100))⟩,
      ⟨(some 102), (some (98, false)), .ix (.t 99) (.t 101)⟩,
      ⟨(some 103), (some (98, false)), .q (.bin .eql true (.t 102) (.k (.int .u8 34)))⟩,
      ⟨(some 104), (some (98, false)), .q (.fa 0 (.t 7))⟩,
      ⟨(some 105), (some (98, false)), .l (.ld1 (.t 104))⟩,
      ⟨(some 106), (some (98, false)), .q (.bin .eql true (.t 105) (.k (.int .i64 3)))⟩,
      ⟨(some 107), (some (98, false)), .q (.eqB true (.t 103) (.t 106))⟩,
      ⟨(some 108), none, .pick (.t 98) (.k (.bool true)) (.t 107)⟩,
      ⟨(some 109), none, .q (.mv (.t 108))⟩,
      ⟨(some 110), (some (109, false)), .q (.fa 0 (.t 7))⟩,
      ⟨(some 111), (some (109, false)), .l (.ld1 (.t 110))⟩,
      ⟨(some 112), (some (109, false)), .q (.bin .eql true (.t 111) (.k (.int .i64 1)))⟩,
      ⟨(some 113), (some (109, false)), .q (.mv (.t 0))⟩,
      ⟨(some 114), (some (109, false)), .q (.fa 3 (.t 7))⟩,
      ⟨(some 115), (some (109, false)), .l (.ld1 (.t 114))⟩,
      ⟨(some 116), (some (109, false)), .q (.fa 3 (.t 7))⟩,
      ⟨(some 117), (some (109, false)), .l (.ld1 (.t 116))⟩,
      ⟨(some 118), (some (109, false)), .q (.bin .add true (.t 117) (.k (.int .i64 1)))⟩,
      ⟨(some 119), (some (109, false)), .q (.ss (.t 113) (some (.t 115)) (some (.t 118)))⟩,
      ⟨(some 120), (some (109, false)), .cq 12 [(.t 119)]⟩,
      ⟨(some 121), (some (109, false)), .q (.eqB true (.t 112) (.t 120))⟩,
      ⟨(some 122), none, .pick (.t 109) (.k (.bool true)) (.t 121)⟩])
                        (.cond (.t 122)
                          (.seq (.reg /- 14 -/ [⟨(some 2), none, .q (.mv (.k (.bool false)))⟩])
                            (.ret))
                          (.skip)))))))
                (.reg /- 6 -/ [⟨(some 36), none, .q (.mv (.t 6))⟩,
      ⟨(some 37), none, .q (.bin .add true (.t 36) (.k (.int .i64 1)))⟩,
      ⟨(some 6), none, .q (.mv (.t 37))⟩]))))))
        (.seq (.reg /- 15 -/ [⟨(some 123), none, .q (.mv (.t 3))⟩,
      ⟨(some 124), none, .q (.lnL (.t 123))⟩,
      ⟨(some 125), none, .q (.bin .gtr true (.t 124) (.k (.int .i64 0)))⟩,
      ⟨(some 126), none, .q (.mv (.t 125))⟩,
      ⟨(some 127), (some (126, true)), .cq 11 []⟩,
      ⟨(some 128), none, .pick (.t 126) (.t 127) (.k (.bool false))⟩,
      ⟨(some 2), none, .q (.mv (.t 128))⟩])
          (.ret)))))
def rs4 : List RV := [.mv (.t 2)]
theorem ok4 : trFn Try.prog true ⟨fun r k => if r = 3 ∧ k = 14 then .q else if r = 13 ∧ k = 41 then .q else if r = 15 ∧ k = 4 then .q else .own [], fun _ => false⟩ Try.f4 = some (pc4, rs4) := by kernel_rfl
/-- robotics/roboticslaw06.LexerNames -/
def pc5 : PC :=
  .seq (.reg /- 0 -/ [⟨(some 2), none, .q (.mv (.k (.bool false)))⟩])
  (.seq (.reg /- 1 -/ [⟨(some 8), none, .q (.mv (.t 0))⟩,
      ⟨(some 9), none, .cl 8 [(.t 8)] []⟩,
      ⟨(some 7), none, .q (.mv (.t 9))⟩,
      ⟨(some 10), none, .q (.ex (.t 7) 0)⟩,
      ⟨(some 11), none, .q (.ex (.t 7) 1)⟩,
      ⟨(some 12), none, .q (.ex (.t 7) 2)⟩,
      ⟨(some 3), none, .q (.mv (.t 10))⟩,
      ⟨(some 4), none, .q (.mv (.t 11))⟩,
      ⟨(some 5), none, .q (.mv (.t 12))⟩])
    (.seq (.reg /- 2 -/ [⟨(some 13), none, .q (.mv (.t 4))⟩,
      ⟨(some 14), none, .q (.bin .eql true (.t 13) (.k (.int .i64 0)))⟩,
      ⟨(some 15), none, .q (.mv (.t 14))⟩,
      ⟨(some 16), (some (15, true)), .q (.mv (.t 3))⟩,
      ⟨(some 17), (some (15, true)), .q (.lnL (.t 16))⟩,
      ⟨(some 18), (some (15, true)), .q (.bin .eql true (.t 17) (.k (.int .i64 2)))⟩,
      ⟨(some 19), none, .pick (.t 15) (.t 18) (.k (.bool false))⟩,
      ⟨(some 20), none, .q (.mv (.t 19))⟩,
      ⟨(some 21), (some (20, true)), .q (.mv (.t 3))⟩,
      ⟨(some 22), (some (20, true)), .l (.ia 4 (.t 21) (.k (.int .i64 0)))⟩,
      ⟨(some 23), (some (20, true)), .q (.fa 0 (.t 22))⟩,
      ⟨(some 24), (some (20, true)), .l (.ld1 (.t 23))⟩,
      ⟨(some 25), (some (20, true)), .q (.bin .eql true (.t 24) (.k (.int .i64 1)))⟩,
      ⟨(some 26), none, .pick (.t 20) (.t 25) (.k (.bool false))⟩,
      ⟨(some 27), none, .q (.mv (.t 26))⟩,
      ⟨(some 28), (some (27, true)), .q (.mv (.t 3))⟩,
      ⟨(some 29), (some (27, true)), .l (.ia 4 (.t 28) (.k (.int .i64 0)))⟩,
      ⟨(some 30), (some (27, true)), .q (.fa 1 (.t 29))⟩,
      ⟨(some 31), (some (27, true)), .l (.ld1 (.t 30))⟩,
      ⟨(some 32), (some (27, true)), .q (.mv (.t 0))⟩,
      ⟨(some 33), (some (27, true)), .q (.bin .eql true (.t 31) (.t 32))⟩,
      ⟨(some 34), none, .pick (.t 27) (.t 33) (.k (.bool false))⟩,
      ⟨(some 6), none, .q (.mv (.t 34))⟩])
      (.seq (.reg /- 3 -/ [⟨(some 35), none, .q (.mv (.t 0))⟩,
      ⟨(some 36), none, .cq 12 [(.t 35)]⟩,
      ⟨(some 37), none, .q (.mv (.t 0))⟩,
      ⟨(some 38), none, .cq 13 [(.t 37)]⟩,
      ⟨(some 39), none, .q (.eqB false (.t 36) (.t 38))⟩,
      ⟨(some 40), none, .q (.mv (.t 39))⟩,
      ⟨(some 41), (some (40, true)), .q (.mv (.t 0))⟩,
      ⟨(some 42), (some (40, true)), .cq 12 [(.t 41)]⟩,
      ⟨(some 43), (some (40, true)), .q (.mv (.t 6))⟩,
      ⟨(some 44), (some (40, true)), .q (.eqB false (.t 42) (.t 43))⟩,
      ⟨(some 45), none, .pick (.t 40) (.t 44) (.k (.bool false))⟩,
      ⟨(some 46), none, .q (.mv (.t 45))⟩,
      ⟨(some 47), (some (46, true)), .cq 11 []⟩,
      ⟨(some 48), none, .pick (.t 46) (.t 47) (.k (.bool false))⟩,
      ⟨(some 2), none, .q (.mv (.t 48))⟩])
        (.ret))))
def rs5 : List RV := [.mv (.t 2)]
theorem ok5 : trFn Try.prog true ⟨fun r k => if r = 3 ∧ k = 1 then .q else if r = 3 ∧ k = 3 then .q else if r = 3 ∧ k = 7 then .q else if r = 3 ∧ k = 12 then .q else .own [], fun _ => false⟩ Try.f5 = some (pc5, rs5) := by kernel_rfl
/-- robotics/roboticslaw06.LexerWalks -/
def pc6 : PC :=
  .seq (.reg /- 0 -/ [⟨(some 6), none, .q (.mv (.k (.bool false)))⟩])
  (.seq (.seq (.reg /- 1 -/ [⟨(some 15), none, .q (.mv (.t 1))⟩,
      ⟨(some 16), none, .q (.lnL (.t 15))⟩,
      ⟨(some 17), none, .q (.bin .gtr true (.t 16) (.k (.int .i64 60)))⟩])
    (.cond (.t 17)
      (.seq (.reg /- 2 -/ [⟨(some 18), none, .cq 11 []⟩,
      ⟨(some 6), none, .q (.mv (.t 18))⟩])
        (.ret))
      (.skip)))
    (.seq (.reg /- 3 -/ [⟨(some 20), none, .q (.mv (.t 0))⟩,
      ⟨(some 21), none, .cl 14 [(.t 20)] []⟩,
      ⟨(some 19), none, .q (.mv (.t 21))⟩,
      ⟨(some 22), none, .q (.ex (.t 19) 0)⟩,
      ⟨(some 23), none, .q (.ex (.t 19) 1)⟩,
      ⟨(some 24), none, .q (.ex (.t 19) 2)⟩,
      ⟨(some 7), none, .q (.mv (.t 22))⟩,
      ⟨(some 8), none, .q (.mv (.t 23))⟩,
      ⟨(some 9), none, .q (.mv (.t 24))⟩])
      (.seq (.reg /- 4 -/ [⟨(some 26), none, .q (.mv (.t 0))⟩,
      ⟨(some 27), none, .cl 15 [(.t 26)] []⟩,
      ⟨(some 25), none, .q (.mv (.t 27))⟩,
      ⟨(some 28), none, .q (.ex (.t 25) 0)⟩,
      ⟨(some 29), none, .q (.ex (.t 25) 1)⟩,
      ⟨(some 30), none, .q (.ex (.t 25) 2)⟩,
      ⟨(some 10), none, .e (.al (.agg #[(.slice none 0 0), (.int .i64 0)]) 36)⟩,
      ⟨none, none, .e (.st 2 (.t 10) (.t 28))⟩,
      ⟨(some 11), none, .q (.mv (.t 29))⟩,
      ⟨(some 12), none, .q (.mv (.t 30))⟩])
        (.seq (.seq (.reg /- 5 -/ [⟨(some 31), none, .q (.mv (.t 8))⟩,
      ⟨(some 32), none, .q (.mv (.t 11))⟩,
      ⟨(some 33), none, .q (.bin .neq true (.t 31) (.t 32))⟩,
      ⟨(some 34), none, .q (.mv (.t 33))⟩,
      ⟨(some 35), (some (34, false)), .q (.mv (.t 9))⟩,
      ⟨(some 36), (some (34, false)), .q (.mv (.t 12))⟩,
      ⟨(some 37), (some (34, false)), .q (.bin .neq true (.t 35) (.t 36))⟩,
      ⟨(some 38), none, .pick (.t 34) (.k (.bool true)) (.t 37)⟩,
      ⟨(some 39), none, .q (.mv (.t 38))⟩,
      ⟨(some 40), (some (39, false)), .q (.mv (.t 7))⟩,
      ⟨(some 41), (some (39, false)), .q (.eqP true (.t 40) (.k (.pointer none)))⟩,
      ⟨(some 42), (some (39, false)), .q (.mv (.t 8))⟩,
      ⟨(some 43), (some (39, false)), .q (.bin .eql true (.t 42) (.k (.int .i64 0)))⟩,
      ⟨(some 44), (some (39, false)), .q (.eqB true (.t 41) (.t 43))⟩,
      ⟨(some 45), none, .pick (.t 39) (.k (.bool true)) (.t 44)⟩])
          (.cond (.t 45)
            (.seq (.reg /- 6 -/ [⟨(some 6), none, .q (.mv (.k (.bool false)))⟩])
              (.ret))
            (.skip)))
          (.seq (.seq (.reg /- 7 -/ [⟨(some 13), none, .q (.mv (.k (.int .i64 0)))⟩])
            (.block 0 (.loop (.seq (.seq (.reg /- 8 -/ [⟨(some 46), none, .q (.mv (.t 13))⟩,
      ⟨(some 47), none, .q (.mv (.t 1))⟩,
      ⟨(some 48), none, .q (.lnL (.t 47))⟩,
      ⟨(some 49), none, .q (.bin .lss true (.t 46) (.t 48))⟩,
      ⟨(some 50), none, .q (.mv (.t 49))⟩,
      ⟨(some 51), (some (50, true)), .q (.mv (.t 8))⟩,
      ⟨(some 52), (some (50, true)), .q (.bin .eql true (.t 51) (.k (.int .i64 0)))⟩,
      ⟨(some 53), none, .pick (.t 50) (.t 52) (.k (.bool false))⟩])
                  (.cond (.t 53)
                    (.skip)
                    (.exit 0)))
                  (.seq (.block 1 (.seq (.reg /- 10 -/ [⟨(some 56), none, .q (.mv (.t 1))⟩,
      ⟨(some 57), none, .q (.mv (.t 13))⟩,
      ⟨(some 58), none, .l (.ia 1 (.t 56) (.t 57))⟩,
      ⟨(some 59), none, .l (.ld1 (.t 58))⟩,
      ⟨(some 60), none, .q (.bin .rem true (.t 59) (.k (.int .u8 4)))⟩])
                      (.block 2 (.seq (.reg /- 13 -/ [⟨(some 68), none, .q (.bin .eql true (.t 60) (.k (.int .u8 0)))⟩,
      ⟨(some 67), none, .q (.mv (.t 68))⟩])
                          (.cond (.t 67)
                            (.seq (.reg /- 14 -/ [⟨(some 69), none, .q (.mv (.t 7))⟩,
      ⟨(some 70), none, .cl 16 [(.t 69)] [0]⟩,
      ⟨(some 71), none, .cl 17 [(.t 10)] [1]⟩,
      ⟨(some 72), none, .q (.eqT true [(0, .int .i64), (1, .str), (2, .int .i64), (3, .int .i64)] (.t 70) (.t 71))⟩])
                              (.cond (.t 72)
                                (.seq (.reg /- 15 -/ [⟨(some 6), none, .q (.mv (.k (.bool false)))⟩])
                                  (.ret))
                                (.skip)))
                            (.seq (.reg /- 16 -/ [⟨(some 74), none, .q (.bin .eql true (.t 60) (.k (.int .u8 1)))⟩,
      ⟨(some 73), none, .q (.mv (.t 74))⟩])
                              (.cond (.t 73)
                                (.seq (.reg /- 17 -/ [⟨(some 75), none, .q (.mv (.t 7))⟩,
      ⟨(some 76), none, .cl 18 [(.t 75)] [0]⟩,
      ⟨(some 77), none, .cl 19 [(.t 10)] [1]⟩,
      ⟨(some 78), none, .q (.eqT true [(0, .int .i64), (1, .str), (2, .int .i64), (3, .int .i64)] (.t 76) (.t 77))⟩])
                                  (.cond (.t 78)
                                    (.seq (.reg /- 18 -/ [⟨(some 6), none, .q (.mv (.k (.bool false)))⟩])
                                      (.ret))
                                    (.skip)))
                                (.seq (.reg /- 19 -/ [⟨(some 80), none, .q (.bin .eql true (.t 60) (.k (.int .u8 2)))⟩,
      ⟨(some 79), none, .q (.mv (.t 80))⟩])
                                  (.cond (.t 79)
                                    (.seq (.reg /- 20 -/ [⟨(some 81), none, .q (.mv (.t 7))⟩,
      ⟨(some 82), none, .q (.mv (.t 2))⟩,
      ⟨(some 83), none, .cl 20 [(.t 81), (.t 82)] [0]⟩,
      ⟨(some 84), none, .q (.mv (.t 2))⟩,
      ⟨(some 85), none, .cl 21 [(.t 10), (.t 84)] [1]⟩,
      ⟨(some 86), none, .q (.eqB true (.t 83) (.t 85))⟩])
                                      (.cond (.t 86)
                                        (.seq (.reg /- 21 -/ [⟨(some 6), none, .q (.mv (.k (.bool false)))⟩])
                                          (.ret))
                                        (.skip)))
                                    (.seq (.reg /- 11 -/ [⟨(some 61), none, .q (.mv (.t 7))⟩,
      ⟨(some 62), none, .q (.mv (.t 2))⟩,
      ⟨(some 63), none, .cl 22 [(.t 61), (.t 62)] [0]⟩,
      ⟨(some 64), none, .q (.mv (.t 2))⟩,
      ⟨(some 65), none, .cl 23 [(.t 10), (.t 64)] [1]⟩,
      ⟨(some 66), none, .q (.eqB true (.t 63) (.t 65))⟩])
                                      (.cond (.t 66)
                                        (.seq (.reg /- 12 -/ [⟨(some 6), none, .q (.mv (.k (.bool false)))⟩])
                                          (.ret))
                                        (.skip))))))))))))
                    (.reg /- 9 -/ [⟨(some 54), none, .q (.mv (.t 13))⟩,
      ⟨(some 55), none, .q (.bin .add true (.t 54) (.k (.int .i64 1)))⟩,
      ⟨(some 13), none, .q (.mv (.t 55))⟩]))))))
            (.seq (.reg /- 22 -/ [⟨(some 14), none, .q (.mv (.k (.pointer none)))⟩])
              (.seq (.reg /- 23 -/ [⟨(some 87), none, .q (.mv (.t 14))⟩,
      ⟨(some 88), none, .cq 16 [(.t 87)]⟩,
      ⟨(some 89), none, .q (.bd [(.int .i64 0), (.string (mk [])), (.int .i64 0), (.int .i64 0)] [])⟩,
      ⟨(some 90), none, .q (.eqT false [(0, .int .i64), (1, .str), (2, .int .i64), (3, .int .i64)] (.t 88) (.t 89))⟩,
      ⟨(some 91), none, .q (.mv (.t 90))⟩,
      ⟨(some 92), (some (91, true)), .q (.mv (.t 14))⟩,
      ⟨(some 93), (some (91, true)), .cq 18 [(.t 92)]⟩,
      ⟨(some 94), (some (91, true)), .q (.bd [(.int .i64 0), (.string (mk [])), (.int .i64 0), (.int .i64 0)] [])⟩,
      ⟨(some 95), (some (91, true)), .q (.eqT false [(0, .int .i64), (1, .str), (2, .int .i64), (3, .int .i64)] (.t 93) (.t 94))⟩,
      ⟨(some 96), none, .pick (.t 91) (.t 95) (.k (.bool false))⟩,
      ⟨(some 97), none, .q (.mv (.t 96))⟩,
      ⟨(some 98), (some (97, true)), .q (.mv (.t 14))⟩,
      ⟨(some 99), (some (97, true)), .q (.mv (.t 2))⟩,
      ⟨(some 100), (some (97, true)), .cq 20 [(.t 98), (.t 99)]⟩,
      ⟨(some 101), (some (97, true)), .q (.not (.t 100))⟩,
      ⟨(some 102), none, .pick (.t 97) (.t 101) (.k (.bool false))⟩,
      ⟨(some 103), none, .q (.mv (.t 102))⟩,
      ⟨(some 104), (some (103, true)), .q (.mv (.t 14))⟩,
      ⟨(some 105), (some (103, true)), .q (.mv (.t 2))⟩,
      ⟨(some 106), (some (103, true)), .cq 22 [(.t 104), (.t 105)]⟩,
      ⟨(some 107), (some (103, true)), .q (.not (.t 106))⟩,
      ⟨(some 108), none, .pick (.t 103) (.t 107) (.k (.bool false))⟩,
      ⟨(some 109), none, .q (.mv (.t 108))⟩,
      ⟨(some 110), (some (109, true)), .cq 11 []⟩,
      ⟨(some 111), none, .pick (.t 109) (.t 110) (.k (.bool false))⟩,
      ⟨(some 6), none, .q (.mv (.t 111))⟩])
                (.ret))))))))
def rs6 : List RV := [.mv (.t 6)]
theorem ok6 : trFn Try.prog true ⟨fun r k => if r = 2 ∧ k = 0 then .q else if r = 14 ∧ k = 1 then .own [0] else if r = 14 ∧ k = 2 then .own [1] else if r = 17 ∧ k = 1 then .own [0] else if r = 17 ∧ k = 2 then .own [1] else if r = 20 ∧ k = 2 then .own [0] else if r = 20 ∧ k = 4 then .own [1] else if r = 11 ∧ k = 2 then .own [0] else if r = 11 ∧ k = 4 then .own [1] else if r = 23 ∧ k = 1 then .q else if r = 23 ∧ k = 6 then .q else if r = 23 ∧ k = 13 then .q else if r = 23 ∧ k = 19 then .q else if r = 23 ∧ k = 23 then .q else .own [], fun _ => false⟩ Try.f6 = some (pc6, rs6) := by kernel_rfl
/-- robotics/roboticslaw06.LexerRoundTrip -/
def pc7 : PC :=
  .seq (.reg /- 0 -/ [⟨(some 2), none, .q (.mv (.k (.bool false)))⟩])
  (.seq (.seq (.reg /- 1 -/ [⟨(some 9), none, .q (.mv (.t 0))⟩,
      ⟨(some 10), none, .q (.lnL (.t 9))⟩,
      ⟨(some 11), none, .q (.bin .gtr true (.t 10) (.k (.int .i64 60)))⟩])
    (.cond (.t 11)
      (.seq (.reg /- 2 -/ [⟨(some 12), none, .cq 11 []⟩,
      ⟨(some 2), none, .q (.mv (.t 12))⟩])
        (.ret))
      (.skip)))
    (.seq (.reg /- 3 -/ [⟨(some 13), none, .q (.mv (.t 0))⟩,
      ⟨(some 14), none, .cq 24 [(.t 13)]⟩,
      ⟨(some 3), none, .q (.mv (.t 14))⟩])
      (.seq (.seq (.reg /- 4 -/ [⟨(some 15), none, .q (.mv (.t 3))⟩,
      ⟨(some 16), none, .q (.mv (.t 0))⟩,
      ⟨(some 17), none, .cq 25 [(.t 16)]⟩,
      ⟨(some 18), none, .q (.bin .neq true (.t 15) (.t 17))⟩])
        (.cond (.t 18)
          (.seq (.reg /- 5 -/ [⟨(some 2), none, .q (.mv (.k (.bool false)))⟩])
            (.ret))
          (.skip)))
        (.seq (.seq (.reg /- 6 -/ [⟨(some 19), none, .q (.mv (.t 3))⟩,
      ⟨(some 20), none, .q (.lnS (.t 19))⟩,
      ⟨(some 21), none, .q (.bin .gtr true (.t 20) (.k (.int .i64 4000)))⟩])
          (.cond (.t 21)
            (.seq (.reg /- 7 -/ [⟨(some 22), none, .cq 11 []⟩,
      ⟨(some 2), none, .q (.mv (.t 22))⟩])
              (.ret))
            (.skip)))
          (.seq (.reg /- 8 -/ [⟨(some 24), none, .q (.mv (.t 3))⟩,
      ⟨(some 25), none, .cl 8 [(.t 24)] []⟩,
      ⟨(some 23), none, .q (.mv (.t 25))⟩,
      ⟨(some 26), none, .q (.ex (.t 23) 0)⟩,
      ⟨(some 27), none, .q (.ex (.t 23) 1)⟩,
      ⟨(some 28), none, .q (.ex (.t 23) 2)⟩,
      ⟨(some 4), none, .q (.mv (.t 26))⟩,
      ⟨(some 5), none, .q (.mv (.t 27))⟩,
      ⟨(some 6), none, .q (.mv (.t 28))⟩])
            (.seq (.reg /- 9 -/ [⟨(some 7), none, .q (.mv (.k (.int .i64 0)))⟩])
              (.seq (.seq (.reg /- 10 -/ [⟨(some 8), none, .q (.mv (.k (.int .i64 0)))⟩])
                (.block 0 (.loop (.seq (.seq (.reg /- 11 -/ [⟨(some 29), none, .q (.mv (.t 8))⟩,
      ⟨(some 30), none, .q (.mv (.t 0))⟩,
      ⟨(some 31), none, .q (.lnL (.t 30))⟩,
      ⟨(some 32), none, .q (.bin .lss true (.t 29) (.t 31))⟩])
                      (.cond (.t 32)
                        (.skip)
                        (.exit 0)))
                      (.seq (.block 1 (.seq (.seq (.reg /- 13 -/ [⟨(some 35), none, .q (.mv (.t 0))⟩,
      ⟨(some 36), none, .q (.mv (.t 8))⟩,
      ⟨(some 37), none, .l (.ia 4 (.t 35) (.t 36))⟩,
      ⟨(some 38), none, .l (.ldn 4 (.t 37))⟩,
      ⟨(some 39), none, .cq 26 [(.t 38)]⟩,
      ⟨(some 40), none, .q (.not (.t 39))⟩])
                          (.cond (.t 40)
                            (.exit 1)
                            (.skip)))
                          (.seq (.seq (.reg /- 14 -/ [⟨(some 41), none, .q (.mv (.t 7))⟩,
      ⟨(some 42), none, .q (.mv (.t 4))⟩,
      ⟨(some 43), none, .q (.lnL (.t 42))⟩,
      ⟨(some 44), none, .q (.bin .geq true (.t 41) (.t 43))⟩,
      ⟨(some 45), none, .q (.mv (.t 44))⟩,
      ⟨(some 46), (some (45, false)), .q (.mv (.t 4))⟩,
      ⟨(some 47), (some (45, false)), .q (.mv (.t 7))⟩,
      ⟨(some 48), (some (45, false)), .l (.ia 4 (.t 46) (.t 47))⟩,
      ⟨(some 49), (some (45, false)), .q (.fa 0 (.t 48))⟩,
      ⟨(some 50), (some (45, false)), .l (.ld1 (.t 49))⟩,
      ⟨(some 51), (some (45, false)), .q (.mv (.t 0))⟩,
      ⟨(some 52), (some (45, false)), .q (.mv (.t 8))⟩,
      ⟨(some 53), (some (45, false)), .l (.ia 4 (.t 51) (.t 52))⟩,
      ⟨(some 54), (some (45, false)), .q (.fa 0 (.t 53))⟩,
      ⟨(some 55), (some (45, false)), .l (.ld1 (.t 54))⟩,
      ⟨(some 56), (some (45, false)), .q (.bin .neq true (.t 50) (.t 55))⟩,
      ⟨(some 57), none, .pick (.t 45) (.k (.bool true)) (.t 56)⟩,
      ⟨(some 58), none, .q (.mv (.t 57))⟩,
      ⟨(some 59), (some (58, false)), .q (.mv (.t 4))⟩,
      ⟨(some 60), (some (58, false)), .q (.mv (.t 7))⟩,
      ⟨(some 61), (some (58, false)), .l (.ia 4 (.t 59) (.t 60))⟩,
      ⟨(some 62), (some (58, false)), .q (.fa 1 (.t 61))⟩,
      ⟨(some 63), (some (58, false)), .l (.ld1 (.t 62))⟩,
      ⟨(some 64), (some (58, false)), .q (.mv (.t 0))⟩,
      ⟨(some 65), (some (58, false)), .q (.mv (.t 8))⟩,
      ⟨(some 66), (some (58, false)), .l (.ia 4 (.t 64) (.t 65))⟩,
      ⟨(some 67), (some (58, false)), .q (.fa 1 (.t 66))⟩,
      ⟨(some 68), (some (58, false)), .l (.ld1 (.t 67))⟩,
      ⟨(some 69), (some (58, false)), .q (.bin .neq true (.t 63) (.t 68))⟩,
      ⟨(some 70), none, .pick (.t 58) (.k (.bool true)) (.t 69)⟩,
      ⟨(some 71), none, .q (.mv (.t 70))⟩,
      ⟨(some 72), (some (71, false)), .q (.mv (.t 4))⟩,
      ⟨(some 73), (some (71, false)), .q (.mv (.t 7))⟩,
      ⟨(some 74), (some (71, false)), .l (.ia 4 (.t 72) (.t 73))⟩,
      ⟨(some 75), (some (71, false)), .q (.fa 2 (.t 74))⟩,
      ⟨(some 76), (some (71, false)), .l (.ld1 (.t 75))⟩,
      ⟨(some 77), (some (71, false)), .q (.mv (.t 0))⟩,
      ⟨(some 78), (some (71, false)), .q (.mv (.t 8))⟩,
      ⟨(some 79), (some (71, false)), .l (.ia 4 (.t 77) (.t 78))⟩,
      ⟨(some 80), (some (71, false)), .q (.fa 2 (.t 79))⟩,
      ⟨(some 81), (some (71, false)), .l (.ld1 (.t 80))⟩,
      ⟨(some 82), (some (71, false)), .q (.bin .neq true (.t 76) (.t 81))⟩,
      ⟨(some 83), none, .pick (.t 71) (.k (.bool true)) (.t 82)⟩])
                            (.cond (.t 83)
                              (.seq (.reg /- 15 -/ [⟨(some 2), none, .q (.mv (.k (.bool false)))⟩])
                                (.ret))
                              (.skip)))
                            (.reg /- 16 -/ [⟨(some 84), none, .q (.mv (.t 7))⟩,
      ⟨(some 85), none, .q (.bin .add true (.t 84) (.k (.int .i64 1)))⟩,
      ⟨(some 7), none, .q (.mv (.t 85))⟩]))))
                        (.reg /- 12 -/ [⟨(some 33), none, .q (.mv (.t 8))⟩,
      ⟨(some 34), none, .q (.bin .add true (.t 33) (.k (.int .i64 1)))⟩,
      ⟨(some 8), none, .q (.mv (.t 34))⟩]))))))
                (.seq (.reg /- 17 -/ [⟨(some 86), none, .q (.mv (.t 5))⟩,
      ⟨(some 87), none, .q (.bin .eql true (.t 86) (.k (.int .i64 0)))⟩,
      ⟨(some 88), none, .q (.mv (.t 87))⟩,
      ⟨(some 89), (some (88, true)), .q (.mv (.t 4))⟩,
      ⟨(some 90), (some (88, true)), .q (.lnL (.t 89))⟩,
      ⟨(some 91), (some (88, true)), .q (.mv (.t 7))⟩,
      ⟨(some 92), (some (88, true)), .q (.bin .add true (.t 91) (.k (.int .i64 1)))⟩,
      ⟨(some 93), (some (88, true)), .q (.bin .eql true (.t 90) (.t 92))⟩,
      ⟨(some 94), none, .pick (.t 88) (.t 93) (.k (.bool false))⟩,
      ⟨(some 95), none, .q (.mv (.t 94))⟩,
      ⟨(some 96), (some (95, true)), .q (.mv (.t 4))⟩,
      ⟨(some 97), (some (95, true)), .q (.mv (.t 7))⟩,
      ⟨(some 98), (some (95, true)), .l (.ia 4 (.t 96) (.t 97))⟩,
      ⟨(some 99), (some (95, true)), .q (.fa 0 (.t 98))⟩,
      ⟨(some 100), (some (95, true)), .l (.ld1 (.t 99))⟩,
      ⟨(some 101), (some (95, true)), .q (.bin .eql true (.t 100) (.k (.int .i64 0)))⟩,
      ⟨(some 102), none, .pick (.t 95) (.t 101) (.k (.bool false))⟩,
      ⟨(some 103), none, .q (.mv (.t 102))⟩,
      ⟨(some 104), (some (103, true)), .cq 11 []⟩,
      ⟨(some 105), none, .pick (.t 103) (.t 104) (.k (.bool false))⟩,
      ⟨(some 2), none, .q (.mv (.t 105))⟩])
                  (.ret)))))))))
def rs7 : List RV := [.mv (.t 2)]
theorem ok7 : trFn Try.prog true ⟨fun r k => if r = 2 ∧ k = 0 then .q else if r = 3 ∧ k = 1 then .q else if r = 4 ∧ k = 2 then .q else if r = 7 ∧ k = 0 then .q else if r = 13 ∧ k = 4 then .q else if r = 17 ∧ k = 18 then .q else .own [], fun _ => false⟩ Try.f7 = some (pc7, rs7) := by kernel_rfl
/-- robotics/roboticslaw06.awake -/
def pc11 : PC :=
  .seq (.reg /- 0 -/ [⟨(some 0), none, .q (.mv (.k (.bool false)))⟩])
  (.seq (.reg /- 1 -/ [⟨(some 5), none, .cl 8 [(.k (.string (mk [97, 32, 61, 32, 45, 53])))] []⟩,
      ⟨(some 4), none, .q (.mv (.t 5))⟩,
      ⟨(some 6), none, .q (.ex (.t 4) 0)⟩,
      ⟨(some 7), none, .q (.ex (.t 4) 1)⟩,
      ⟨(some 8), none, .q (.ex (.t 4) 2)⟩,
      ⟨(some 1), none, .q (.mv (.t 6))⟩,
      ⟨(some 2), none, .q (.mv (.t 7))⟩,
      ⟨(some 3), none, .q (.mv (.t 8))⟩])
    (.seq (.reg /- 2 -/ [⟨(some 9), none, .q (.mv (.t 2))⟩,
      ⟨(some 10), none, .q (.bin .eql true (.t 9) (.k (.int .i64 0)))⟩,
      ⟨(some 11), none, .q (.mv (.t 10))⟩,
      ⟨(some 12), (some (11, true)), .q (.mv (.t 1))⟩,
      ⟨(some 13), (some (11, true)), .q (.lnL (.t 12))⟩,
      ⟨(some 14), (some (11, true)), .q (.bin .eql true (.t 13) (.k (.int .i64 4)))⟩,
      ⟨(some 15), none, .pick (.t 11) (.t 14) (.k (.bool false))⟩,
      ⟨(some 16), none, .q (.mv (.t 15))⟩,
      ⟨(some 17), (some (16, true)), .q (.mv (.t 1))⟩,
      ⟨(some 18), (some (16, true)), .l (.ia 4 (.t 17) (.k (.int .i64 0)))⟩,
      ⟨(some 19), (some (16, true)), .l (.ldn 4 (.t 18))⟩,
      ⟨(some 20), (some (16, true)), .q (.bd [(.int .i64 0), (.string (mk [])), (.int .i64 0), (.int .i64 0)] [(0, 1, (.k (.int .i64 1))), (1, 1, (.k (.string (mk [97]))))])⟩,
      ⟨(some 21), (some (16, true)), .q (.eqT false [(0, .int .i64), (1, .str), (2, .int .i64), (3, .int .i64)] (.t 19) (.t 20))⟩,
      ⟨(some 22), none, .pick (.t 16) (.t 21) (.k (.bool false))⟩,
      ⟨(some 23), none, .q (.mv (.t 22))⟩,
      ⟨(some 24), (some (23, true)), .q (.mv (.t 1))⟩,
      ⟨(some 25), (some (23, true)), .l (.ia 4 (.t 24) (.k (.int .i64 2)))⟩,
      ⟨(some 26), (some (23, true)), .l (.ldn 4 (.t 25))⟩,
      ⟨(some 27), (some (23, true)), .q (.bd [(.int .i64 0), (.string (mk [])), (.int .i64 0), (.int .i64 0)] [(0, 1, (.k (.int .i64 2))), (2, 1, (.k (.int .i64 (-5)))), (3, 1, (.k (.int .i64 4)))])⟩,
      ⟨(some 28), (some (23, true)), .q (.eqT false [(0, .int .i64), (1, .str), (2, .int .i64), (3, .int .i64)] (.t 26) (.t 27))⟩,
      ⟨(some 29), none, .pick (.t 23) (.t 28) (.k (.bool false))⟩,
      ⟨(some 30), none, .q (.mv (.t 29))⟩,
      ⟨(some 31), (some (30, true)), .cq 12 [(.k (.string (mk [97, 95, 49])))]⟩,
      ⟨(some 32), none, .pick (.t 30) (.t 31) (.k (.bool false))⟩,
      ⟨(some 0), none, .q (.mv (.t 32))⟩])
      (.ret)))
def rs11 : List RV := [.mv (.t 0)]
theorem ok11 : trFn Try.prog true ⟨fun r k => if r = 2 ∧ k = 22 then .q else .own [], fun _ => false⟩ Try.f11 = some (pc11, rs11) := by kernel_rfl
/-- robotics/roboticsref06.IsName -/
def pc13 : PC :=
  .seq (.reg /- 0 -/ [⟨(some 2), none, .q (.mv (.k (.bool false)))⟩])
  (.seq (.seq (.reg /- 1 -/ [⟨(some 4), none, .q (.mv (.t 0))⟩,
      ⟨(some 5), none, .q (.lnS (.t 4))⟩,
      ⟨(some 6), none, .q (.bin .lss true (.t 5) (.k (.int .i64 1)))⟩,
      ⟨(some 7), none, .q (.mv (.t 6))⟩,
      ⟨(some 8), (some (7, false)), .q (.mv (.t 0))⟩,
      ⟨(some 9), (some (7, false)), .q (.lnS (.t 8))⟩,
      ⟨(some 10), (some (7, false)), .q (.bin .gtr true (.t 9) (.k (.int .i64 16)))⟩,
      ⟨(some 11), none, .pick (.t 7) (.k (.bool true)) (.t 10)⟩,
      ⟨(some 12), none, .q (.mv (.t 11))⟩,
      ⟨(some 13), (some (12, false)), .q (.mv (.t 0))⟩,
      ⟨(some 14), (some (12, false)), .ix (.t 13) (.k (.int .i64 0))⟩,
      ⟨(some 15), (some (12, false)), .cq 29 [(.t 14)]⟩,
      ⟨(some 16), (some (12, false)), .q (.not (.t 15))⟩,
      ⟨(some 17), none, .pick (.t 12) (.k (.bool true)) (.t 16)⟩])
    (.cond (.t 17)
      (.seq (.reg /- 2 -/ [⟨(some 2), none, .q (.mv (.k (.bool false)))⟩])
        (.ret))
      (.skip)))
    (.seq (.seq (.reg /- 3 -/ [⟨(some 3), none, .q (.mv (.k (.int .i64 0)))⟩])
      (.block 0 (.loop (.seq (.seq (.reg /- 4 -/ [⟨(some 18), none, .q (.mv (.t 3))⟩,
      ⟨(some 19), none, .q (.mv (.t 0))⟩,
      ⟨(some 20), none, .q (.lnS (.t 19))⟩,
      ⟨(some 21), none, .q (.bin .lss true (.t 18) (.t 20))⟩])
            (.cond (.t 21)
              (.skip)
              (.exit 0)))
            (.seq (.block 1 (.seq (.reg /- 6 -/ [⟨(some 24), none, .q (.mv (.t 0))⟩,
      ⟨(some 25), none, .q (.mv (.t 3))⟩,
      ⟨(some 26), none, .ix (.t 24) (.t 25)⟩,
      ⟨(some 27), none, .cq 36 [(.t 26)]⟩,
      ⟨(some 28), none, .q (.not (.t 27))⟩])
                (.cond (.t 28)
                  (.seq (.reg /- 7 -/ [⟨(some 2), none, .q (.mv (.k (.bool false)))⟩])
                    (.ret))
                  (.skip))))
              (.reg /- 5 -/ [⟨(some 22), none, .q (.mv (.t 3))⟩,
      ⟨(some 23), none, .q (.bin .add true (.t 22) (.k (.int .i64 1)))⟩,
      ⟨(some 3), none, .q (.mv (.t 23))⟩]))))))
      (.seq (.reg /- 8 -/ [⟨(some 2), none, .q (.mv (.k (.bool true)))⟩])
        (.ret))))
def rs13 : List RV := [.mv (.t 2)]
theorem ok13 : trFn Try.prog true ⟨fun r k => if r = 1 ∧ k = 11 then .q else if r = 6 ∧ k = 3 then .q else .own [], fun _ => false⟩ Try.f13 = some (pc13, rs13) := by kernel_rfl
/-- robotics/roboticsref06.letter -/
def pc29 : PC :=
  .seq (.reg /- 0 -/ [⟨(some 2), none, .q (.mv (.k (.bool false)))⟩])
  (.seq (.reg /- 1 -/ [⟨(some 3), none, .q (.mv (.t 0))⟩,
      ⟨(some 4), none, .q (.bin .geq true (.t 3) (.k (.int .u8 97)))⟩,
      ⟨(some 5), none, .q (.mv (.t 4))⟩,
      ⟨(some 6), (some (5, true)), .q (.mv (.t 0))⟩,
      ⟨(some 7), (some (5, true)), .q (.bin .leq true (.t 6) (.k (.int .u8 122)))⟩,
      ⟨(some 8), none, .pick (.t 5) (.t 7) (.k (.bool false))⟩,
      ⟨(some 9), none, .q (.mv (.t 8))⟩,
      ⟨(some 10), (some (9, false)), .q (.mv (.t 0))⟩,
      ⟨(some 11), (some (9, false)), .q (.bin .geq true (.t 10) (.k (.int .u8 65)))⟩,
      ⟨(some 12), (some (9, false)), .q (.mv (.t 11))⟩,
      ⟨(some 13), (some (12, true)), .q (.mv (.t 0))⟩,
      ⟨(some 14), (some (12, true)), .q (.bin .leq true (.t 13) (.k (.int .u8 90)))⟩,
      ⟨(some 15), (some (9, false)), .pick (.t 12) (.t 14) (.k (.bool false))⟩,
      ⟨(some 16), none, .pick (.t 9) (.k (.bool true)) (.t 15)⟩,
      ⟨(some 2), none, .q (.mv (.t 16))⟩])
    (.ret))
def rs29 : List RV := [.mv (.t 2)]
theorem ok29 : trFn Try.prog true ⟨fun _ _ => .own [], fun _ => false⟩ Try.f29 = some (pc29, rs29) := by kernel_rfl
/-- robotics/roboticsref06.digit -/
def pc31 : PC :=
  .seq (.reg /- 0 -/ [⟨(some 2), none, .q (.mv (.k (.bool false)))⟩])
  (.seq (.reg /- 1 -/ [⟨(some 3), none, .q (.mv (.t 0))⟩,
      ⟨(some 4), none, .q (.bin .geq true (.t 3) (.k (.int .u8 48)))⟩,
      ⟨(some 5), none, .q (.mv (.t 4))⟩,
      ⟨(some 6), (some (5, true)), .q (.mv (.t 0))⟩,
      ⟨(some 7), (some (5, true)), .q (.bin .leq true (.t 6) (.k (.int .u8 57)))⟩,
      ⟨(some 8), none, .pick (.t 5) (.t 7) (.k (.bool false))⟩,
      ⟨(some 2), none, .q (.mv (.t 8))⟩])
    (.ret))
def rs31 : List RV := [.mv (.t 2)]
theorem ok31 : trFn Try.prog true ⟨fun _ _ => .own [], fun _ => false⟩ Try.f31 = some (pc31, rs31) := by kernel_rfl
/-- robotics/roboticsref06.mark -/
def pc34 : PC :=
  .seq (.reg /- 0 -/ [⟨(some 2), none, .q (.mv (.k (.bool false)))⟩])
  (.seq (.reg /- 1 -/ [⟨(some 3), none, .q (.mv (.k (.string (mk [123, 125, 40, 41, 91, 93, 58, 59, 44, 61, 46, 63, 33, 38, 124, 64]))))⟩])
    (.seq (.seq (.reg /- 2 -/ [⟨(some 4), none, .q (.mv (.k (.int .i64 0)))⟩])
      (.block 0 (.loop (.seq (.seq (.reg /- 3 -/ [⟨(some 5), none, .q (.mv (.t 4))⟩,
      ⟨(some 6), none, .q (.mv (.t 3))⟩,
      ⟨(some 7), none, .q (.lnS (.t 6))⟩,
      ⟨(some 8), none, .q (.bin .lss true (.t 5) (.t 7))⟩])
            (.cond (.t 8)
              (.skip)
              (.exit 0)))
            (.seq (.block 1 (.seq (.reg /- 5 -/ [⟨(some 11), none, .q (.mv (.t 3))⟩,
      ⟨(some 12), none, .q (.mv (.t 4))⟩,
      ⟨(some 13), none, .ix (.t 11) (.t 12)⟩,
      ⟨(some 14), none, .q (.mv (.t 0))⟩,
      ⟨(some 15), none, .q (.bin .eql true (.t 13) (.t 14))⟩])
                (.cond (.t 15)
                  (.seq (.reg /- 6 -/ [⟨(some 2), none, .q (.mv (.k (.bool true)))⟩])
                    (.ret))
                  (.skip))))
              (.reg /- 4 -/ [⟨(some 9), none, .q (.mv (.t 4))⟩,
      ⟨(some 10), none, .q (.bin .add true (.t 9) (.k (.int .i64 1)))⟩,
      ⟨(some 4), none, .q (.mv (.t 10))⟩]))))))
      (.seq (.reg /- 7 -/ [⟨(some 2), none, .q (.mv (.k (.bool false)))⟩])
        (.ret))))
def rs34 : List RV := [.mv (.t 2)]
theorem ok34 : trFn Try.prog true ⟨fun _ _ => .own [], fun _ => false⟩ Try.f34 = some (pc34, rs34) := by kernel_rfl
/-- robotics/roboticsref06.word -/
def pc36 : PC :=
  .seq (.reg /- 0 -/ [⟨(some 2), none, .q (.mv (.k (.bool false)))⟩])
  (.seq (.reg /- 1 -/ [⟨(some 3), none, .q (.mv (.t 0))⟩,
      ⟨(some 4), none, .cq 29 [(.t 3)]⟩,
      ⟨(some 5), none, .q (.mv (.t 4))⟩,
      ⟨(some 6), (some (5, false)), .q (.mv (.t 0))⟩,
      ⟨(some 7), (some (5, false)), .cq 31 [(.t 6)]⟩,
      ⟨(some 8), none, .pick (.t 5) (.k (.bool true)) (.t 7)⟩,
      ⟨(some 9), none, .q (.mv (.t 8))⟩,
      ⟨(some 10), (some (9, false)), .q (.mv (.t 0))⟩,
      ⟨(some 11), (some (9, false)), .q (.bin .eql true (.t 10) (.k (.int .u8 95)))⟩,
      ⟨(some 12), none, .pick (.t 9) (.k (.bool true)) (.t 11)⟩,
      ⟨(some 2), none, .q (.mv (.t 12))⟩])
    (.ret))
def rs36 : List RV := [.mv (.t 2)]
theorem ok36 : trFn Try.prog true ⟨fun r k => if r = 1 ∧ k = 1 then .q else if r = 1 ∧ k = 4 then .q else .own [], fun _ => false⟩ Try.f36 = some (pc36, rs36) := by kernel_rfl
end Go.Proofs.Ytgophdhegdcekaa
