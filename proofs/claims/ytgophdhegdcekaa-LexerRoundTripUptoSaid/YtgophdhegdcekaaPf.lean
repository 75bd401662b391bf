import Derived.Test.YtgophdhegdcekaaProg
import Derived.Test.YtgophdhegdcekaaW15
namespace Go.Proofs.Ytgophdhegdcekaa
open Go.W
/-- robotics/roboticsref06.NewScanner -/
def pc15 : PC :=
  .seq (.reg /- 0 -/ [⟨(some 2), none, .e (.al (.agg #[(.slice none 0 0), (.int .i64 0)]) 36)⟩,
      ⟨(some 3), none, .q (.mv (.k (.int .i64 0)))⟩,
      ⟨(some 4), none, .q (.mv (.k (.int .i64 0)))⟩])
  (.seq (.reg /- 1 -/ [⟨(some 9), none, .q (.mv (.t 0))⟩,
      ⟨(some 10), none, .cl 9 [(.t 9)] []⟩,
      ⟨(some 8), none, .q (.mv (.t 10))⟩,
      ⟨(some 11), none, .q (.ex (.t 8) 0)⟩,
      ⟨(some 12), none, .q (.ex (.t 8) 1)⟩,
      ⟨(some 13), none, .q (.ex (.t 8) 2)⟩,
      ⟨(some 5), none, .q (.mv (.t 11))⟩,
      ⟨(some 6), none, .q (.mv (.t 12))⟩,
      ⟨(some 7), none, .q (.mv (.t 13))⟩])
    (.seq (.reg /- 2 -/ [⟨(some 14), none, .q (.mv (.t 5))⟩,
      ⟨(some 15), none, .q (.bd [(.slice none 0 0), (.int .i64 0)] [(0, 1, (.t 14))])⟩,
      ⟨(some 16), none, .q (.mv (.t 6))⟩,
      ⟨(some 17), none, .q (.mv (.t 7))⟩,
      ⟨none, none, .e (.st 2 (.t 2) (.t 15))⟩,
      ⟨(some 3), none, .q (.mv (.t 16))⟩,
      ⟨(some 4), none, .q (.mv (.t 17))⟩])
      (.ret)))
def rs15 : List RV := [.ld (.ldn 2 (.t 2)), .mv (.t 3), .mv (.t 4)]
theorem ok15 : trFn Try.prog true ⟨fun _ _ => .own [], fun _ => false⟩ Try.f15 = some (pc15, rs15) := by kernel_rfl
/-- (*robotics/roboticsref06.Scanner).Next -/
def pc17 : PC :=
  .seq (.reg /- 0 -/ [⟨(some 2), none, .e (.al (.agg #[(.int .i64 0), (.string (mk [])), (.int .i64 0), (.int .i64 0)]) 30)⟩])
  (.seq (.reg /- 1 -/ [⟨(some 4), none, .q (.mv (.t 0))⟩,
      ⟨(some 5), none, .cl 19 [(.t 4)] [0]⟩,
      ⟨(some 3), none, .e (.al (.agg #[(.int .i64 0), (.string (mk [])), (.int .i64 0), (.int .i64 0)]) 30)⟩,
      ⟨none, none, .e (.st 4 (.t 3) (.t 5))⟩])
    (.seq (.seq (.reg /- 2 -/ [⟨(some 6), none, .q (.fa 0 (.t 3))⟩,
      ⟨(some 7), none, .l (.ld1 (.t 6))⟩,
      ⟨(some 8), none, .q (.bin .neq true (.t 7) (.k (.int .i64 0)))⟩])
      (.cond (.t 8)
        (.reg /- 3 -/ [⟨(some 9), none, .q (.mv (.t 0))⟩,
      ⟨(some 10), none, .q (.nc (.t 9))⟩,
      ⟨(some 11), none, .q (.fa 1 (.t 10))⟩,
      ⟨(some 12), none, .l (.ld1 (.t 11))⟩,
      ⟨(some 13), none, .q (.bin .add true (.t 12) (.k (.int .i64 1)))⟩,
      ⟨(some 14), none, .q (.nc (.t 9))⟩,
      ⟨(some 15), none, .q (.fa 1 (.t 14))⟩,
      ⟨none, none, .e (.st 1 (.t 15) (.t 13))⟩])
        (.skip)))
      (.seq (.reg /- 4 -/ [⟨(some 16), none, .l (.ldn 4 (.t 3))⟩,
      ⟨none, none, .e (.st 4 (.t 2) (.t 16))⟩])
        (.ret))))
def rs17 : List RV := [.ld (.ldn 4 (.t 2))]
theorem ok17 : trFn Try.prog true ⟨fun r k => if r = 1 ∧ k = 1 then .own [0] else .own [], fun _ => false⟩ Try.f17 = some (pc17, rs17) := by kernel_rfl
/-- (*robotics/roboticsref06.Scanner).Peek -/
def pc19 : PC :=
  .seq (.reg /- 0 -/ [⟨(some 2), none, .e (.al (.agg #[(.int .i64 0), (.string (mk [])), (.int .i64 0), (.int .i64 0)]) 30)⟩])
  (.seq (.seq (.reg /- 1 -/ [⟨(some 3), none, .q (.mv (.t 0))⟩,
      ⟨(some 4), none, .q (.nc (.t 3))⟩,
      ⟨(some 5), none, .q (.fa 1 (.t 4))⟩,
      ⟨(some 6), none, .l (.ld1 (.t 5))⟩,
      ⟨(some 7), none, .q (.mv (.t 0))⟩,
      ⟨(some 8), none, .q (.nc (.t 7))⟩,
      ⟨(some 9), none, .q (.fa 0 (.t 8))⟩,
      ⟨(some 10), none, .l (.ld1 (.t 9))⟩,
      ⟨(some 11), none, .q (.lnL (.t 10))⟩,
      ⟨(some 12), none, .q (.bin .geq true (.t 6) (.t 11))⟩])
    (.cond (.t 12)
      (.seq (.reg /- 2 -/ [⟨(some 13), none, .q (.bd [(.int .i64 0), (.string (mk [])), (.int .i64 0), (.int .i64 0)] [])⟩,
      ⟨none, none, .e (.st 4 (.t 2) (.t 13))⟩])
        (.ret))
      (.skip)))
    (.seq (.reg /- 3 -/ [⟨(some 14), none, .q (.mv (.t 0))⟩,
      ⟨(some 15), none, .q (.nc (.t 14))⟩,
      ⟨(some 16), none, .q (.fa 0 (.t 15))⟩,
      ⟨(some 17), none, .l (.ld1 (.t 16))⟩,
      ⟨(some 18), none, .q (.mv (.t 0))⟩,
      ⟨(some 19), none, .q (.nc (.t 18))⟩,
      ⟨(some 20), none, .q (.fa 1 (.t 19))⟩,
      ⟨(some 21), none, .l (.ld1 (.t 20))⟩,
      ⟨(some 22), none, .l (.ia 4 (.t 17) (.t 21))⟩,
      ⟨(some 23), none, .l (.ldn 4 (.t 22))⟩,
      ⟨none, none, .e (.st 4 (.t 2) (.t 23))⟩])
      (.ret)))
def rs19 : List RV := [.ld (.ldn 4 (.t 2))]
theorem ok19 : trFn Try.prog true ⟨fun _ _ => .own [], fun _ => false⟩ Try.f19 = some (pc19, rs19) := by kernel_rfl
/-- (*robotics/roboticsref06.Scanner).Mark -/
def pc21 : PC :=
  .seq (.reg /- 0 -/ [⟨(some 4), none, .q (.mv (.k (.bool false)))⟩])
  (.seq (.reg /- 1 -/ [⟨(some 6), none, .q (.mv (.t 0))⟩,
      ⟨(some 7), none, .cl 19 [(.t 6)] [0]⟩,
      ⟨(some 5), none, .e (.al (.agg #[(.int .i64 0), (.string (mk [])), (.int .i64 0), (.int .i64 0)]) 30)⟩,
      ⟨none, none, .e (.st 4 (.t 5) (.t 7))⟩])
    (.seq (.seq (.reg /- 2 -/ [⟨(some 8), none, .q (.fa 0 (.t 5))⟩,
      ⟨(some 9), none, .l (.ld1 (.t 8))⟩,
      ⟨(some 10), none, .q (.bin .neq true (.t 9) (.k (.int .i64 4)))⟩,
      ⟨(some 11), none, .q (.mv (.t 10))⟩,
      ⟨(some 12), (some (11, false)), .q (.fa 1 (.t 5))⟩,
      ⟨(some 13), (some (11, false)), .l (.ld1 (.t 12))⟩,
      ⟨(some 14), (some (11, false)), .q (.mv (.t 1))⟩,
      ⟨(some 15), (some (11, false)), .q (.bin .neq true (.t 13) (.t 14))⟩,
      ⟨(some 16), none, .pick (.t 11) (.k (.bool true)) (.t 15)⟩])
      (.cond (.t 16)
        (.seq (.reg /- 3 -/ [⟨(some 4), none, .q (.mv (.k (.bool false)))⟩])
          (.ret))
        (.skip)))
      (.seq (.reg /- 4 -/ [⟨(some 17), none, .q (.mv (.t 0))⟩,
      ⟨(some 18), none, .q (.nc (.t 17))⟩,
      ⟨(some 19), none, .q (.fa 1 (.t 18))⟩,
      ⟨(some 20), none, .l (.ld1 (.t 19))⟩,
      ⟨(some 21), none, .q (.bin .add true (.t 20) (.k (.int .i64 1)))⟩,
      ⟨(some 22), none, .q (.nc (.t 17))⟩,
      ⟨(some 23), none, .q (.fa 1 (.t 22))⟩,
      ⟨none, none, .e (.st 1 (.t 23) (.t 21))⟩])
        (.seq (.reg /- 5 -/ [⟨(some 4), none, .q (.mv (.k (.bool true)))⟩])
          (.ret)))))
def rs21 : List RV := [.mv (.t 4)]
theorem ok21 : trFn Try.prog true ⟨fun r k => if r = 1 ∧ k = 1 then .own [0] else .own [], fun _ => false⟩ Try.f21 = some (pc21, rs21) := by kernel_rfl
/-- (*robotics/roboticsref06.Scanner).Word -/
def pc23 : PC :=
  .seq (.reg /- 0 -/ [⟨(some 4), none, .q (.mv (.k (.bool false)))⟩])
  (.seq (.reg /- 1 -/ [⟨(some 6), none, .q (.mv (.t 0))⟩,
      ⟨(some 7), none, .cl 19 [(.t 6)] [0]⟩,
      ⟨(some 5), none, .e (.al (.agg #[(.int .i64 0), (.string (mk [])), (.int .i64 0), (.int .i64 0)]) 30)⟩,
      ⟨none, none, .e (.st 4 (.t 5) (.t 7))⟩])
    (.seq (.seq (.reg /- 2 -/ [⟨(some 8), none, .q (.fa 0 (.t 5))⟩,
      ⟨(some 9), none, .l (.ld1 (.t 8))⟩,
      ⟨(some 10), none, .q (.bin .neq true (.t 9) (.k (.int .i64 1)))⟩,
      ⟨(some 11), none, .q (.mv (.t 10))⟩,
      ⟨(some 12), (some (11, false)), .q (.fa 1 (.t 5))⟩,
      ⟨(some 13), (some (11, false)), .l (.ld1 (.t 12))⟩,
      ⟨(some 14), (some (11, false)), .q (.mv (.t 1))⟩,
      ⟨(some 15), (some (11, false)), .q (.bin .neq true (.t 13) (.t 14))⟩,
      ⟨(some 16), none, .pick (.t 11) (.k (.bool true)) (.t 15)⟩])
      (.cond (.t 16)
        (.seq (.reg /- 3 -/ [⟨(some 4), none, .q (.mv (.k (.bool false)))⟩])
          (.ret))
        (.skip)))
      (.seq (.reg /- 4 -/ [⟨(some 17), none, .q (.mv (.t 0))⟩,
      ⟨(some 18), none, .q (.nc (.t 17))⟩,
      ⟨(some 19), none, .q (.fa 1 (.t 18))⟩,
      ⟨(some 20), none, .l (.ld1 (.t 19))⟩,
      ⟨(some 21), none, .q (.bin .add true (.t 20) (.k (.int .i64 1)))⟩,
      ⟨(some 22), none, .q (.nc (.t 17))⟩,
      ⟨(some 23), none, .q (.fa 1 (.t 22))⟩,
      ⟨none, none, .e (.st 1 (.t 23) (.t 21))⟩])
        (.seq (.reg /- 5 -/ [⟨(some 4), none, .q (.mv (.k (.bool true)))⟩])
          (.ret)))))
def rs23 : List RV := [.mv (.t 4)]
theorem ok23 : trFn Try.prog true ⟨fun r k => if r = 1 ∧ k = 1 then .own [0] else .own [], fun _ => false⟩ Try.f23 = some (pc23, rs23) := by kernel_rfl
/-- robotics/roboticsref06.Print -/
def pc25 : PC :=
  .seq (.reg /- 0 -/ [⟨(some 2), none, .q (.mv (.k (.string (mk []))))⟩])
  (.seq (.reg /- 1 -/ [⟨(some 3), none, .q (.mv (.k (.string (mk []))))⟩])
    (.seq (.seq (.reg /- 2 -/ [⟨(some 4), none, .q (.mv (.k (.int .i64 0)))⟩])
      (.block 0 (.loop (.seq (.seq (.reg /- 3 -/ [⟨(some 5), none, .q (.mv (.t 4))⟩,
      ⟨(some 6), none, .q (.mv (.t 0))⟩,
      ⟨(some 7), none, .q (.lnL (.t 6))⟩,
      ⟨(some 8), none, .q (.bin .lss true (.t 5) (.t 7))⟩])
            (.cond (.t 8)
              (.skip)
              (.exit 0)))
            (.seq (.block 1 (.seq (.seq (.reg /- 5 -/ [⟨(some 11), none, .q (.mv (.t 0))⟩,
      ⟨(some 12), none, .q (.mv (.t 4))⟩,
      ⟨(some 13), none, .l (.ia 4 (.t 11) (.t 12))⟩,
      ⟨(some 14), none, .l (.ldn 4 (.t 13))⟩,
      ⟨(some 15), none, .cq 26 [(.t 14)]⟩,
      ⟨(some 16), none, .q (.not (.t 15))⟩])
                (.cond (.t 16)
                  (.exit 1)
                  (.skip)))
                (.seq (.seq (.reg /- 6 -/ [⟨(some 17), none, .q (.mv (.t 3))⟩,
      ⟨(some 18), none, .q (.bin .neq true (.t 17) (.k (.string (mk []))))⟩])
                  (.cond (.t 18)
                    (.reg /- 7 -/ [⟨(some 19), none, .q (.mv (.t 3))⟩,
      ⟨(some 20), none, .q (.bin .add true (.t 19) (.k (.string (mk [32]))))⟩,
      ⟨(some 3), none, .q (.mv (.t 20))⟩])
                    (.skip)))
                  (.seq (.reg /- 8 -/ [⟨(some 21), none, .q (.mv (.t 0))⟩,
      ⟨(some 22), none, .q (.mv (.t 4))⟩,
      ⟨(some 23), none, .l (.ia 4 (.t 21) (.t 22))⟩,
      ⟨(some 24), none, .q (.fa 0 (.t 23))⟩,
      ⟨(some 25), none, .l (.ld1 (.t 24))⟩])
                    (.block 2 (.seq (.reg /- 10 -/ [⟨(some 34), none, .q (.bin .eql true (.t 25) (.k (.int .i64 2)))⟩,
      ⟨(some 33), none, .q (.mv (.t 34))⟩])
                        (.cond (.t 33)
                          (.reg /- 11 -/ [⟨(some 35), none, .q (.mv (.t 3))⟩,
      ⟨(some 36), none, .q (.mv (.t 0))⟩,
      ⟨(some 37), none, .q (.mv (.t 4))⟩,
      ⟨(some 38), none, .l (.ia 4 (.t 36) (.t 37))⟩,
      ⟨(some 39), none, .q (.fa 2 (.t 38))⟩,
      ⟨(some 40), none, .l (.ld1 (.t 39))⟩,
      ⟨(some 41), none, .cq 43 [(.t 40)]⟩,
      ⟨(some 42), none, .q (.bin .add true (.t 35) (.t 41))⟩,
      ⟨(some 3), none, .q (.mv (.t 42))⟩])
                          (.seq (.reg /- 12 -/ [⟨(some 44), none, .q (.bin .eql true (.t 25) (.k (.int .i64 3)))⟩,
      ⟨(some 43), none, .q (.mv (.t 44))⟩])
                            (.cond (.t 43)
                              (.reg /- 13 -/ [⟨(some 45), none, .q (.mv (.t 3))⟩,
      ⟨(some 46), none, .q (.mv (.t 0))⟩,
      ⟨(some 47), none, .q (.mv (.t 4))⟩,
      ⟨(some 48), none, .l (.ia 4 (.t 46) (.t 47))⟩,
      ⟨(some 49), none, .q (.fa 1 (.t 48))⟩,
      ⟨(some 50), none, .l (.ld1 (.t 49))⟩,
      ⟨(some 51), none, .cq 44 [(.t 50)]⟩,
      ⟨(some 52), none, .q (.bin .add true (.t 45) (.t 51))⟩,
      ⟨(some 3), none, .q (.mv (.t 52))⟩])
                              (.reg /- 9 -/ [⟨(some 26), none, .q (.mv (.t 3))⟩,
      ⟨(some 27), none, .q (.mv (.t 0))⟩,
      ⟨(some 28), none, .q (.mv (.t 4))⟩,
      ⟨(some 29), none, .l (.ia 4 (.t 27) (.t 28))⟩,
      ⟨(some 30), none, .q (.fa 1 (.t 29))⟩,
      ⟨(some 31), none, .l (.ld1 (.t 30))⟩,
      ⟨(some 32), none, .q (.bin .add true (.t 26) (.t 31))⟩,
      ⟨(some 3), none, .q (.mv (.t 32))⟩]))))))))))
              (.reg /- 4 -/ [⟨(some 9), none, .q (.mv (.t 4))⟩,
      ⟨(some 10), none, .q (.bin .add true (.t 9) (.k (.int .i64 1)))⟩,
      ⟨(some 4), none, .q (.mv (.t 10))⟩]))))))
      (.seq (.reg /- 14 -/ [⟨(some 53), none, .q (.mv (.t 3))⟩,
      ⟨(some 2), none, .q (.mv (.t 53))⟩])
        (.ret))))
def rs25 : List RV := [.mv (.t 2)]
theorem ok25 : trFn Try.prog true ⟨fun r k => if r = 5 ∧ k = 4 then .q else if r = 11 ∧ k = 6 then .q else if r = 13 ∧ k = 6 then .q else .own [], fun _ => false⟩ Try.f25 = some (pc25, rs25) := by kernel_rfl
/-- robotics/roboticsref06.Valid -/
def pc26 : PC :=
  .seq (.reg /- 0 -/ [⟨(some 1), none, .e (.bx 30 (.t 0))⟩,
      ⟨(some 2), none, .q (.mv (.k (.bool false)))⟩])
  (.seq (.seq (.reg /- 1 -/ [⟨(some 4), none, .q (.fa 0 (.t 1))⟩,
      ⟨(some 5), none, .l (.ld1 (.t 4))⟩])
    (.block 0 (.seq (.reg /- 2 -/ [⟨(some 7), none, .q (.bin .eql true (.t 5) (.k (.int .i64 1)))⟩,
      ⟨(some 6), none, .q (.mv (.t 7))⟩])
        (.cond (.t 6)
          (.seq (.reg /- 3 -/ [⟨(some 8), none, .q (.fa 1 (.t 1))⟩,
      ⟨(some 9), none, .l (.ld1 (.t 8))⟩,
      ⟨(some 10), none, .cq 13 [(.t 9)]⟩,
      ⟨(some 11), none, .q (.mv (.t 10))⟩,
      ⟨(some 12), (some (11, true)), .q (.fa 2 (.t 1))⟩,
      ⟨(some 13), (some (11, true)), .l (.ld1 (.t 12))⟩,
      ⟨(some 14), (some (11, true)), .q (.bin .eql true (.t 13) (.k (.int .i64 0)))⟩,
      ⟨(some 15), none, .pick (.t 11) (.t 14) (.k (.bool false))⟩,
      ⟨(some 2), none, .q (.mv (.t 15))⟩])
            (.ret))
          (.seq (.reg /- 4 -/ [⟨(some 17), none, .q (.bin .eql true (.t 5) (.k (.int .i64 2)))⟩,
      ⟨(some 16), none, .q (.mv (.t 17))⟩])
            (.cond (.t 16)
              (.seq (.reg /- 5 -/ [⟨(some 18), none, .q (.fa 1 (.t 1))⟩,
      ⟨(some 19), none, .l (.ld1 (.t 18))⟩,
      ⟨(some 20), none, .q (.bin .eql true (.t 19) (.k (.string (mk []))))⟩,
      ⟨(some 2), none, .q (.mv (.t 20))⟩])
                (.ret))
              (.seq (.reg /- 6 -/ [⟨(some 22), none, .q (.bin .eql true (.t 5) (.k (.int .i64 3)))⟩,
      ⟨(some 21), none, .q (.mv (.t 22))⟩])
                (.cond (.t 21)
                  (.seq (.seq (.reg /- 7 -/ [⟨(some 3), none, .q (.mv (.k (.int .i64 0)))⟩])
                    (.block 1 (.loop (.seq (.seq (.reg /- 8 -/ [⟨(some 23), none, .q (.mv (.t 3))⟩,
      ⟨(some 24), none, .q (.fa 1 (.t 1))⟩,
      ⟨(some 25), none, .l (.ld1 (.t 24))⟩,
      ⟨(some 26), none, .q (.lnS (.t 25))⟩,
      ⟨(some 27), none, .q (.bin .lss true (.t 23) (.t 26))⟩])
                          (.cond (.t 27)
                            (.skip)
                            (.exit 1)))
                          (.seq (.block 2 (.seq (.reg /- 10 -/ [⟨(some 30), none, .q (.fa 1 (.t 1))⟩,
      ⟨(some 31), none, .l (.ld1 (.t 30))⟩,
      ⟨(some 32), none, .q (.mv (.t 3))⟩,
      ⟨(some 33), none, .ix (.t 31) (.t 32)⟩,
      ⟨(some 34), none, .q (.bin .lss true (.t 33) (.k (.int .u8 32)))⟩,
      ⟨(some 35), none, .q (.mv (.t 34))⟩,
      ⟨(some 36), (some (35, false)), .q (.fa 1 (.t 1))⟩,
      ⟨(some 37), (some (35, false)), .l (.ld1 (.t 36))⟩,
      ⟨(some 38), (some (35, false)), .q (.mv (.t 3))⟩,
      ⟨(some 39), (some (35, false)), .ix (.t 37) (.t 38)⟩,
      ⟨(some 40), (some (35, false)), .q (.bin .gtr true (.t 39) (.k (.int .u8 126)))⟩,
      ⟨(some 41), none, .pick (.t 35) (.k (.bool true)) (.t 40)⟩])
                              (.cond (.t 41)
                                (.seq (.reg /- 11 -/ [⟨(some 2), none, .q (.mv (.k (.bool false)))⟩])
                                  (.ret))
                                (.skip))))
                            (.reg /- 9 -/ [⟨(some 28), none, .q (.mv (.t 3))⟩,
      ⟨(some 29), none, .q (.bin .add true (.t 28) (.k (.int .i64 1)))⟩,
      ⟨(some 3), none, .q (.mv (.t 29))⟩]))))))
                    (.seq (.reg /- 12 -/ [⟨(some 42), none, .q (.fa 1 (.t 1))⟩,
      ⟨(some 43), none, .l (.ld1 (.t 42))⟩,
      ⟨(some 44), none, .q (.lnS (.t 43))⟩,
      ⟨(some 45), none, .q (.bin .leq true (.t 44) (.k (.int .i64 200)))⟩,
      ⟨(some 46), none, .q (.mv (.t 45))⟩,
      ⟨(some 47), (some (46, true)), .q (.fa 2 (.t 1))⟩,
      ⟨(some 48), (some (46, true)), .l (.ld1 (.t 47))⟩,
      ⟨(some 49), (some (46, true)), .q (.bin .eql true (.t 48) (.k (.int .i64 0)))⟩,
      ⟨(some 50), none, .pick (.t 46) (.t 49) (.k (.bool false))⟩,
      ⟨(some 2), none, .q (.mv (.t 50))⟩])
                      (.ret)))
                  (.seq (.reg /- 13 -/ [⟨(some 52), none, .q (.bin .eql true (.t 5) (.k (.int .i64 4)))⟩,
      ⟨(some 51), none, .q (.mv (.t 52))⟩])
                    (.cond (.t 51)
                      (.seq (.reg /- 14 -/ [⟨(some 53), none, .q (.fa 1 (.t 1))⟩,
      ⟨(some 54), none, .l (.ld1 (.t 53))⟩,
      ⟨(some 55), none, .q (.lnS (.t 54))⟩,
      ⟨(some 56), none, .q (.bin .eql true (.t 55) (.k (.int .i64 1)))⟩,
      ⟨(some 57), none, .q (.mv (.t 56))⟩,
      ⟨(some 58), (some (57, true)), .q (.fa 1 (.t 1))⟩,
      ⟨(some 59), (some (57, true)), .l (.ld1 (.t 58))⟩,
      ⟨(some 60), (some (57, true)), .ix (.t 59) (.k (.int .i64 0))⟩,
      ⟨(some 61), (some (57, true)), .cq 34 [(.t 60)]⟩,
      ⟨(some 62), none, .pick (.t 57) (.t 61) (.k (.bool false))⟩,
      ⟨(some 63), none, .q (.mv (.t 62))⟩,
      ⟨(some 64), (some (63, true)), .q (.fa 2 (.t 1))⟩,
      ⟨(some 65), (some (63, true)), .l (.ld1 (.t 64))⟩,
      ⟨(some 66), (some (63, true)), .q (.bin .eql true (.t 65) (.k (.int .i64 0)))⟩,
      ⟨(some 67), none, .pick (.t 63) (.t 66) (.k (.bool false))⟩,
      ⟨(some 2), none, .q (.mv (.t 67))⟩])
                        (.ret))
                      (.skip)))))))))))
    (.seq (.reg /- 15 -/ [⟨(some 2), none, .q (.mv (.k (.bool false)))⟩])
      (.ret)))
def rs26 : List RV := [.mv (.t 2)]
theorem ok26 : trFn Try.prog true ⟨fun r k => if r = 3 ∧ k = 2 then .q else if r = 14 ∧ k = 8 then .q else .own [], fun _ => false⟩ Try.f26 = some (pc26, rs26) := by kernel_rfl
/-- robotics/roboticsref06.Decimal -/
def pc43 : PC :=
  .seq (.reg /- 0 -/ [⟨(some 2), none, .q (.mv (.k (.string (mk []))))⟩])
  (.seq (.reg /- 1 -/ [⟨(some 3), none, .q (.mv (.k (.string (mk []))))⟩])
    (.seq (.reg /- 2 -/ [⟨(some 6), none, .q (.mv (.t 0))⟩,
      ⟨(some 7), none, .q (.bin .lss true (.t 6) (.k (.int .i64 0)))⟩,
      ⟨(some 4), none, .q (.mv (.t 7))⟩])
      (.seq (.block 0 (.loop (.block 1 (.seq (.reg /- 3 -/ [⟨(some 8), none, .q (.mv (.t 0))⟩,
      ⟨(some 9), none, .q (.bin .rem true (.t 8) (.k (.int .i64 10)))⟩,
      ⟨(some 5), none, .q (.mv (.t 9))⟩])
              (.seq (.seq (.reg /- 4 -/ [⟨(some 10), none, .q (.mv (.t 5))⟩,
      ⟨(some 11), none, .q (.bin .lss true (.t 10) (.k (.int .i64 0)))⟩])
                (.cond (.t 11)
                  (.reg /- 5 -/ [⟨(some 12), none, .q (.mv (.t 5))⟩,
      ⟨(some 13), none, .q (.bin .sub true (.k (.int .i64 0)) (.t 12))⟩,
      ⟨(some 5), none, .q (.mv (.t 13))⟩])
                  (.skip)))
                (.seq (.reg /- 6 -/ [⟨(some 14), none, .q (.mv (.t 5))⟩,
      ⟨(some 15), none, .q (.mv (.t 5))⟩,
      ⟨(some 16), none, .q (.bin .add true (.t 15) (.k (.int .i64 1)))⟩,
      ⟨(some 17), none, .q (.ss (.k (.string (mk [48, 49, 50, 51, 52, 53, 54, 55, 56, 57]))) (some (.t 14)) (some (.t 16)))⟩,
      ⟨(some 18), none, .q (.mv (.t 3))⟩,
      ⟨(some 19), none, .q (.bin .add true (.t 17) (.t 18))⟩,
      ⟨(some 3), none, .q (.mv (.t 19))⟩])
                  (.seq (.reg /- 7 -/ [⟨(some 20), none, .q (.mv (.t 0))⟩,
      ⟨(some 21), none, .q (.bin .quo true (.t 20) (.k (.int .i64 10)))⟩,
      ⟨(some 0), none, .q (.mv (.t 21))⟩])
                    (.seq (.reg /- 8 -/ [⟨(some 22), none, .q (.mv (.t 0))⟩,
      ⟨(some 23), none, .q (.bin .eql true (.t 22) (.k (.int .i64 0)))⟩])
                      (.cond (.t 23)
                        (.exit 0)
                        (.skip))))))))))
        (.seq (.seq (.reg /- 9 -/ [⟨(some 24), none, .q (.mv (.t 4))⟩])
          (.cond (.t 24)
            (.seq (.reg /- 10 -/ [⟨(some 25), none, .q (.mv (.t 3))⟩,
      ⟨(some 26), none, .q (.bin .add true (.k (.string (mk [45]))) (.t 25))⟩,
      ⟨(some 2), none, .q (.mv (.t 26))⟩])
              (.ret))
            (.skip)))
          (.seq (.reg /- 11 -/ [⟨(some 27), none, .q (.mv (.t 3))⟩,
      ⟨(some 2), none, .q (.mv (.t 27))⟩])
            (.ret))))))
def rs43 : List RV := [.mv (.t 2)]
theorem ok43 : trFn Try.prog true ⟨fun _ _ => .own [], fun _ => false⟩ Try.f43 = some (pc43, rs43) := by kernel_rfl
/-- robotics/roboticsref06.Quoted -/
def pc44 : PC :=
  .seq (.reg /- 0 -/ [⟨(some 2), none, .q (.mv (.k (.string (mk []))))⟩])
  (.seq (.reg /- 1 -/ [⟨(some 3), none, .q (.mv (.k (.string (mk [34]))))⟩])
    (.seq (.seq (.reg /- 2 -/ [⟨(some 4), none, .q (.mv (.k (.int .i64 0)))⟩])
      (.block 0 (.loop (.seq (.seq (.reg /- 3 -/ [⟨(some 5), none, .q (.mv (.t 4))⟩,
      ⟨(some 6), none, .q (.mv (.t 0))⟩,
      ⟨(some 7), none, .q (.lnS (.t 6))⟩,
      ⟨(some 8), none, .q (.bin .lss true (.t 5) (.t 7))⟩])
            (.cond (.t 8)
              (.skip)
              (.exit 0)))
            (.seq (.block 1 (.seq (.seq (.reg /- 5 -/ [⟨(some 11), none, .q (.mv (.t 0))⟩,
      ⟨(some 12), none, .q (.mv (.t 4))⟩,
      ⟨(some 13), none, .ix (.t 11) (.t 12)⟩,
      ⟨(some 14), none, .q (.bin .eql true (.t 13) (.k (.int .u8 34)))⟩,
      ⟨(some 15), none, .q (.mv (.t 14))⟩,
      ⟨(some 16), (some (15, false)), .q (.mv (.t 0))⟩,
      ⟨(some 17), (some (15, false)), .q (.mv (.t 4))⟩,
      ⟨(some 18), (some (15, false)), .ix (.t 16) (.t 17)⟩,
      ⟨(some 19), (some (15, false)), .q (.bin .eql true (.t 18) (.k (.int .u8 92)))⟩,
      ⟨(some 20), none, .pick (.t 15) (.k (.bool true)) (.t 19)⟩])
                (.cond (.t 20)
                  (.reg /- 6 -/ [⟨(some 21), none, .q (.mv (.t 3))⟩,
      ⟨(some 22), none, .q (.bin .add true (.t 21) (.k (.string (mk [92]))))⟩,
      ⟨(some 3), none, .q (.mv (.t 22))⟩])
                  (.skip)))
                (.reg /- 7 -/ [⟨(some 23), none, .q (.mv (.t 3))⟩,
      ⟨(some 24), none, .q (.mv (.t 0))⟩,
      ⟨(some 25), none, .q (.mv (.t 4))⟩,
      ⟨(some 26), none, .q (.mv (.t 4))⟩,
      ⟨(some 27), none, .q (.bin .add true (.t 26) (.k (.int .i64 1)))⟩,
      ⟨(some 28), none, .q (.ss (.t 24) (some (.t 25)) (some (.t 27)))⟩,
      ⟨(some 29), none, .q (.bin .add true (.t 23) (.t 28))⟩,
      ⟨(some 3), none, .q (.mv (.t 29))⟩])))
              (.reg /- 4 -/ [⟨(some 9), none, .q (.mv (.t 4))⟩,
      ⟨(some 10), none, .q (.bin .add true (.t 9) (.k (.int .i64 1)))⟩,
      ⟨(some 4), none, .q (.mv (.t 10))⟩]))))))
      (.seq (.reg /- 8 -/ [⟨(some 30), none, .q (.mv (.t 3))⟩,
      ⟨(some 31), none, .q (.bin .add true (.t 30) (.k (.string (mk [34]))))⟩,
      ⟨(some 2), none, .q (.mv (.t 31))⟩])
        (.ret))))
def rs44 : List RV := [.mv (.t 2)]
theorem ok44 : trFn Try.prog true ⟨fun _ _ => .own [], fun _ => false⟩ Try.f44 = some (pc44, rs44) := by kernel_rfl
end Go.Proofs.Ytgophdhegdcekaa
