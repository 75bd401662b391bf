import Derived.Test.YtngmjggconefcaaProg
import Derived.Test.YtngmjggconefcaaW15
namespace Go.Proofs.Ytngmjggconefcaa
open Go.W
/-- robotics/roboticsref22.Next -/
def pc18 : PC :=
  .seq (.reg /- 0 -/ [⟨(some 1), none, .e (.bx 48 (.t 0))⟩,
      ⟨(some 2), none, .q (.mv (.k (.int .i64 0)))⟩,
      ⟨(some 3), none, .q (.mv (.k (.bool false)))⟩])
  (.seq (.reg /- 1 -/ [⟨(some 5), none, .l (.ldn 3 (.t 1))⟩,
      ⟨(some 6), none, .cq 30 [(.t 5), (.k (.int .i64 4398046511104))]⟩,
      ⟨(some 4), none, .q (.mv (.t 6))⟩])
    (.seq (.seq (.reg /- 2 -/ [⟨(some 7), none, .q (.mv (.t 4))⟩,
      ⟨(some 8), none, .q (.bin .lss true (.t 7) (.k (.int .i64 0)))⟩])
      (.cond (.t 8)
        (.seq (.reg /- 3 -/ [⟨(some 2), none, .q (.mv (.k (.int .i64 0)))⟩,
      ⟨(some 3), none, .q (.mv (.k (.bool false)))⟩])
          (.ret))
        (.skip)))
      (.seq (.reg /- 4 -/ [⟨(some 9), none, .q (.fa 1 (.t 1))⟩,
      ⟨(some 10), none, .l (.ld1 (.t 9))⟩,
      ⟨(some 11), none, .q (.mv (.t 4))⟩,
      ⟨(some 12), none, .l (.ia 4 (.t 10) (.t 11))⟩,
      ⟨(some 13), none, .q (.fa 2 (.t 12))⟩,
      ⟨(some 14), none, .l (.ld1 (.t 13))⟩,
      ⟨(some 15), none, .q (.fa 1 (.t 1))⟩,
      ⟨(some 16), none, .l (.ld1 (.t 15))⟩,
      ⟨(some 17), none, .q (.mv (.t 4))⟩,
      ⟨(some 18), none, .l (.ia 4 (.t 16) (.t 17))⟩,
      ⟨(some 19), none, .q (.fa 1 (.t 18))⟩,
      ⟨(some 20), none, .l (.ld1 (.t 19))⟩,
      ⟨(some 21), none, .q (.bin .add true (.t 14) (.t 20))⟩,
      ⟨(some 2), none, .q (.mv (.t 21))⟩,
      ⟨(some 3), none, .q (.mv (.k (.bool true)))⟩])
        (.ret))))
def rs18 : List RV := [.mv (.t 2), .mv (.t 3)]
theorem ok18 : trFn Try.prog true ⟨fun r k => if r = 1 ∧ k = 1 then .q else .own [], fun _ => false⟩ Try.f18 = some (pc18, rs18) := by kernel_rfl
/-- robotics/roboticsref22.Alive -/
def pc19 : PC :=
  .seq (.reg /- 0 -/ [⟨(some 2), none, .e (.bx 48 (.t 0))⟩,
      ⟨(some 4), none, .q (.mv (.k (.bool false)))⟩])
  (.seq (.reg /- 1 -/ [⟨(some 6), none, .l (.ldn 3 (.t 2))⟩,
      ⟨(some 7), none, .q (.mv (.t 1))⟩,
      ⟨(some 8), none, .cq 31 [(.t 6), (.t 7)]⟩,
      ⟨(some 5), none, .q (.mv (.t 8))⟩])
    (.seq (.reg /- 2 -/ [⟨(some 9), none, .q (.mv (.t 5))⟩,
      ⟨(some 10), none, .q (.bin .geq true (.t 9) (.k (.int .i64 0)))⟩,
      ⟨(some 11), none, .q (.mv (.t 10))⟩,
      ⟨(some 12), (some (11, true)), .q (.fa 1 (.t 2))⟩,
      ⟨(some 13), (some (11, true)), .l (.ld1 (.t 12))⟩,
      ⟨(some 14), (some (11, true)), .q (.mv (.t 5))⟩,
      ⟨(some 15), (some (11, true)), .l (.ia 4 (.t 13) (.t 14))⟩,
      ⟨(some 16), (some (11, true)), .q (.fa 3 (.t 15))⟩,
      ⟨(some 17), (some (11, true)), .l (.ld1 (.t 16))⟩,
      ⟨(some 18), none, .pick (.t 11) (.t 17) (.k (.bool false))⟩,
      ⟨(some 4), none, .q (.mv (.t 18))⟩])
      (.ret)))
def rs19 : List RV := [.mv (.t 4)]
theorem ok19 : trFn Try.prog true ⟨fun r k => if r = 1 ∧ k = 2 then .q else .own [], fun _ => false⟩ Try.f19 = some (pc19, rs19) := by kernel_rfl
/-- robotics/roboticsref22.Add -/
def pc26 : PC :=
  .seq (.reg /- 0 -/ [⟨(some 4), none, .e (.bx 48 (.t 0))⟩,
      ⟨(some 8), none, .e (.al (.agg #[(.int .i64 0), (.slice none 0 0), (.slice none 0 0)]) 48)⟩,
      ⟨(some 9), none, .q (.mv (.k (.int .i64 0)))⟩])
  (.seq (.seq (.reg /- 1 -/ [⟨(some 11), none, .q (.mv (.t 1))⟩,
      ⟨(some 12), none, .q (.bin .lss true (.t 11) (.k (.int .i64 1)))⟩,
      ⟨(some 13), none, .q (.mv (.t 12))⟩,
      ⟨(some 14), (some (13, false)), .q (.mv (.t 2))⟩,
      ⟨(some 15), (some (13, false)), .cq 37 [(.t 14)]⟩,
      ⟨(some 16), (some (13, false)), .q (.not (.t 15))⟩,
      ⟨(some 17), none, .pick (.t 13) (.k (.bool true)) (.t 16)⟩,
      ⟨(some 18), none, .q (.mv (.t 17))⟩,
      ⟨(some 19), (some (18, false)), .q (.mv (.t 3))⟩,
      ⟨(some 20), (some (18, false)), .cq 37 [(.t 19)]⟩,
      ⟨(some 21), (some (18, false)), .q (.not (.t 20))⟩,
      ⟨(some 22), none, .pick (.t 18) (.k (.bool true)) (.t 21)⟩])
    (.cond (.t 22)
      (.seq (.reg /- 2 -/ [⟨(some 23), none, .l (.ldn 3 (.t 4))⟩,
      ⟨none, none, .e (.st 3 (.t 8) (.t 23))⟩,
      ⟨(some 9), none, .q (.mv (.k (.int .i64 4)))⟩])
        (.ret))
      (.skip)))
    (.seq (.seq (.reg /- 3 -/ [⟨(some 24), none, .q (.mv (.t 3))⟩,
      ⟨(some 25), none, .q (.fa 0 (.t 4))⟩,
      ⟨(some 26), none, .l (.ld1 (.t 25))⟩,
      ⟨(some 27), none, .q (.bin .lss true (.t 24) (.t 26))⟩])
      (.cond (.t 27)
        (.seq (.reg /- 4 -/ [⟨(some 28), none, .l (.ldn 3 (.t 4))⟩,
      ⟨none, none, .e (.st 3 (.t 8) (.t 28))⟩,
      ⟨(some 9), none, .q (.mv (.k (.int .i64 17)))⟩])
          (.ret))
        (.skip)))
      (.seq (.seq (.reg /- 5 -/ [⟨(some 29), none, .l (.ldn 3 (.t 4))⟩,
      ⟨(some 30), none, .q (.mv (.t 1))⟩,
      ⟨(some 31), none, .cq 31 [(.t 29), (.t 30)]⟩,
      ⟨(some 32), none, .q (.bin .geq true (.t 31) (.k (.int .i64 0)))⟩])
        (.cond (.t 32)
          (.seq (.reg /- 6 -/ [⟨(some 33), none, .l (.ldn 3 (.t 4))⟩,
      ⟨none, none, .e (.st 3 (.t 8) (.t 33))⟩,
      ⟨(some 9), none, .q (.mv (.k (.int .i64 7)))⟩])
            (.ret))
          (.skip)))
        (.seq (.reg /- 7 -/ [⟨(some 34), none, .l (.ldn 3 (.t 4))⟩,
      ⟨(some 35), none, .q (.mv (.t 3))⟩,
      ⟨(some 36), none, .q (.mv (.t 3))⟩,
      ⟨(some 37), none, .cl 38 [(.t 34), (.t 35), (.t 36)] []⟩,
      ⟨(some 10), none, .e (.al (.agg #[(.int .i64 0), (.slice none 0 0), (.slice none 0 0)]) 48)⟩,
      ⟨none, none, .e (.st 3 (.t 10) (.t 37))⟩])
          (.seq (.reg /- 8 -/ [⟨(some 38), none, .q (.fa 1 (.t 10))⟩,
      ⟨(some 39), none, .l (.ld1 (.t 38))⟩,
      ⟨(some 40), none, .q (.mv (.t 1))⟩,
      ⟨(some 41), none, .q (.mv (.t 2))⟩,
      ⟨(some 42), none, .q (.mv (.t 3))⟩,
      ⟨(some 43), none, .q (.bd [(.int .i64 0), (.int .i64 0), (.int .i64 0), (.bool false)] [(0, 1, (.t 40)), (1, 1, (.t 41)), (2, 1, (.t 42)), (3, 1, (.k (.bool true)))])⟩,
      ⟨(some 44), none, .e (.bsl 74 4 [(.t 43)])⟩,
      ⟨(some 45), none, .e (.ap 74 4 32 (.t 39) (.t 44))⟩,
      ⟨(some 46), none, .q (.fa 1 (.t 10))⟩,
      ⟨none, none, .e (.st 1 (.t 46) (.t 45))⟩])
            (.seq (.reg /- 9 -/ [⟨(some 47), none, .l (.ldn 3 (.t 10))⟩,
      ⟨none, none, .e (.st 3 (.t 8) (.t 47))⟩,
      ⟨(some 9), none, .q (.mv (.k (.int .i64 0)))⟩])
              (.ret)))))))
def rs26 : List RV := [.ld (.ldn 3 (.t 8)), .mv (.t 9)]
theorem ok26 : trFn Try.prog true ⟨fun r k => if r = 1 ∧ k = 4 then .q else if r = 1 ∧ k = 9 then .q else if r = 5 ∧ k = 2 then .q else if r = 7 ∧ k = 3 then .own [] else .own [], fun _ => false⟩ Try.f26 = some (pc26, rs26) := by kernel_rfl
/-- robotics/roboticsref22.Remove -/
def pc27 : PC :=
  .seq (.reg /- 0 -/ [⟨(some 2), none, .e (.bx 48 (.t 0))⟩,
      ⟨(some 4), none, .e (.al (.agg #[(.int .i64 0), (.slice none 0 0), (.slice none 0 0)]) 48)⟩,
      ⟨(some 5), none, .q (.mv (.k (.int .i64 0)))⟩])
  (.seq (.seq (.reg /- 1 -/ [⟨(some 8), none, .l (.ldn 3 (.t 2))⟩,
      ⟨(some 9), none, .q (.mv (.t 1))⟩,
      ⟨(some 10), none, .cq 31 [(.t 8), (.t 9)]⟩,
      ⟨(some 11), none, .q (.bin .lss true (.t 10) (.k (.int .i64 0)))⟩])
    (.cond (.t 11)
      (.seq (.reg /- 2 -/ [⟨(some 12), none, .l (.ldn 3 (.t 2))⟩,
      ⟨none, none, .e (.st 3 (.t 4) (.t 12))⟩,
      ⟨(some 5), none, .q (.mv (.k (.int .i64 6)))⟩])
        (.ret))
      (.skip)))
    (.seq (.reg /- 3 -/ [⟨(some 13), none, .q (.fa 0 (.t 2))⟩,
      ⟨(some 14), none, .l (.ld1 (.t 13))⟩,
      ⟨(some 15), none, .q (.fa 2 (.t 2))⟩,
      ⟨(some 16), none, .l (.ld1 (.t 15))⟩,
      ⟨(some 17), none, .q (.bd [(.int .i64 0), (.slice none 0 0), (.slice none 0 0)] [(0, 1, (.t 14)), (2, 1, (.t 16))])⟩,
      ⟨(some 6), none, .e (.al (.agg #[(.int .i64 0), (.slice none 0 0), (.slice none 0 0)]) 48)⟩,
      ⟨none, none, .e (.st 3 (.t 6) (.t 17))⟩])
      (.seq (.seq (.reg /- 4 -/ [⟨(some 7), none, .q (.mv (.k (.int .i64 0)))⟩])
        (.block 0 (.loop (.seq (.seq (.reg /- 5 -/ [⟨(some 18), none, .q (.mv (.t 7))⟩,
      ⟨(some 19), none, .q (.fa 1 (.t 2))⟩,
      ⟨(some 20), none, .l (.ld1 (.t 19))⟩,
      ⟨(some 21), none, .q (.lnL (.t 20))⟩,
      ⟨(some 22), none, .q (.bin .lss true (.t 18) (.t 21))⟩])
              (.cond (.t 22)
                (.skip)
                (.exit 0)))
              (.seq (.block 1 (.seq (.reg /- 7 -/ [⟨(some 25), none, .q (.fa 1 (.t 2))⟩,
      ⟨(some 26), none, .l (.ld1 (.t 25))⟩,
      ⟨(some 27), none, .q (.mv (.t 7))⟩,
      ⟨(some 28), none, .l (.ia 4 (.t 26) (.t 27))⟩,
      ⟨(some 29), none, .q (.fa 0 (.t 28))⟩,
      ⟨(some 30), none, .l (.ld1 (.t 29))⟩,
      ⟨(some 31), none, .q (.mv (.t 1))⟩,
      ⟨(some 32), none, .q (.bin .neq true (.t 30) (.t 31))⟩])
                  (.cond (.t 32)
                    (.reg /- 8 -/ [⟨(some 33), none, .q (.fa 1 (.t 6))⟩,
      ⟨(some 34), none, .l (.ld1 (.t 33))⟩,
      ⟨(some 35), none, .q (.fa 1 (.t 2))⟩,
      ⟨(some 36), none, .l (.ld1 (.t 35))⟩,
      ⟨(some 37), none, .q (.mv (.t 7))⟩,
      ⟨(some 38), none, .l (.ia 4 (.t 36) (.t 37))⟩,
      ⟨(some 39), none, .l (.ldn 4 (.t 38))⟩,
      ⟨(some 40), none, .e (.bsl 74 4 [(.t 39)])⟩,
      ⟨(some 41), none, .e (.ap 74 4 32 (.t 34) (.t 40))⟩,
      ⟨(some 42), none, .q (.fa 1 (.t 6))⟩,
      ⟨none, none, .e (.st 1 (.t 42) (.t 41))⟩])
                    (.skip))))
                (.reg /- 6 -/ [⟨(some 23), none, .q (.mv (.t 7))⟩,
      ⟨(some 24), none, .q (.bin .add true (.t 23) (.k (.int .i64 1)))⟩,
      ⟨(some 7), none, .q (.mv (.t 24))⟩]))))))
        (.seq (.reg /- 9 -/ [⟨(some 43), none, .l (.ldn 3 (.t 6))⟩,
      ⟨none, none, .e (.st 3 (.t 4) (.t 43))⟩,
      ⟨(some 5), none, .q (.mv (.k (.int .i64 0)))⟩])
          (.ret)))))
def rs27 : List RV := [.ld (.ldn 3 (.t 4)), .mv (.t 5)]
theorem ok27 : trFn Try.prog true ⟨fun r k => if r = 1 ∧ k = 2 then .q else .own [], fun _ => false⟩ Try.f27 = some (pc27, rs27) := by kernel_rfl
/-- robotics/roboticsref22.Assert -/
def pc28 : PC :=
  .seq (.reg /- 0 -/ [⟨(some 3), none, .e (.bx 48 (.t 0))⟩,
      ⟨(some 6), none, .e (.al (.agg #[(.int .i64 0), (.slice none 0 0), (.slice none 0 0)]) 48)⟩,
      ⟨(some 7), none, .q (.mv (.k (.int .i64 0)))⟩])
  (.seq (.reg /- 1 -/ [⟨(some 10), none, .l (.ldn 3 (.t 3))⟩,
      ⟨(some 11), none, .q (.mv (.t 1))⟩,
      ⟨(some 12), none, .cq 31 [(.t 10), (.t 11)]⟩,
      ⟨(some 8), none, .q (.mv (.t 12))⟩])
    (.seq (.seq (.reg /- 2 -/ [⟨(some 13), none, .q (.mv (.t 8))⟩,
      ⟨(some 14), none, .q (.bin .lss true (.t 13) (.k (.int .i64 0)))⟩])
      (.cond (.t 14)
        (.seq (.reg /- 3 -/ [⟨(some 15), none, .l (.ldn 3 (.t 3))⟩,
      ⟨none, none, .e (.st 3 (.t 6) (.t 15))⟩,
      ⟨(some 7), none, .q (.mv (.k (.int .i64 6)))⟩])
          (.ret))
        (.skip)))
      (.seq (.seq (.reg /- 4 -/ [⟨(some 16), none, .q (.mv (.t 2))⟩,
      ⟨(some 17), none, .cq 37 [(.t 16)]⟩,
      ⟨(some 18), none, .q (.not (.t 17))⟩])
        (.cond (.t 18)
          (.seq (.reg /- 5 -/ [⟨(some 19), none, .l (.ldn 3 (.t 3))⟩,
      ⟨none, none, .e (.st 3 (.t 6) (.t 19))⟩,
      ⟨(some 7), none, .q (.mv (.k (.int .i64 4)))⟩])
            (.ret))
          (.skip)))
        (.seq (.seq (.reg /- 6 -/ [⟨(some 20), none, .q (.mv (.t 2))⟩,
      ⟨(some 21), none, .q (.fa 0 (.t 3))⟩,
      ⟨(some 22), none, .l (.ld1 (.t 21))⟩,
      ⟨(some 23), none, .q (.bin .lss true (.t 20) (.t 22))⟩])
          (.cond (.t 23)
            (.seq (.reg /- 7 -/ [⟨(some 24), none, .l (.ldn 3 (.t 3))⟩,
      ⟨none, none, .e (.st 3 (.t 6) (.t 24))⟩,
      ⟨(some 7), none, .q (.mv (.k (.int .i64 17)))⟩])
              (.ret))
            (.skip)))
          (.seq (.reg /- 8 -/ [⟨(some 25), none, .l (.ldn 3 (.t 3))⟩,
      ⟨(some 26), none, .q (.mv (.t 2))⟩,
      ⟨(some 27), none, .q (.mv (.t 2))⟩,
      ⟨(some 28), none, .cl 38 [(.t 25), (.t 26), (.t 27)] []⟩,
      ⟨(some 9), none, .e (.al (.agg #[(.int .i64 0), (.slice none 0 0), (.slice none 0 0)]) 48)⟩,
      ⟨none, none, .e (.st 3 (.t 9) (.t 28))⟩])
            (.seq (.seq (.reg /- 9 -/ [⟨(some 29), none, .q (.fa 1 (.t 9))⟩,
      ⟨(some 30), none, .l (.ld1 (.t 29))⟩,
      ⟨(some 31), none, .q (.mv (.t 8))⟩,
      ⟨(some 32), none, .l (.ia 4 (.t 30) (.t 31))⟩,
      ⟨(some 33), none, .q (.fa 3 (.t 32))⟩,
      ⟨(some 34), none, .l (.ld1 (.t 33))⟩,
      ⟨(some 35), none, .q (.not (.t 34))⟩])
              (.cond (.t 35)
                (.reg /- 10 -/ [⟨(some 36), none, .q (.fa 2 (.t 9))⟩,
      ⟨(some 37), none, .l (.ld1 (.t 36))⟩,
      ⟨(some 38), none, .q (.mv (.t 1))⟩,
      ⟨(some 39), none, .q (.mv (.t 2))⟩,
      ⟨(some 40), none, .q (.bd [(.int .i64 0), (.int .i64 0), (.bool false)] [(0, 1, (.t 38)), (1, 1, (.t 39)), (2, 1, (.k (.bool true)))])⟩,
      ⟨(some 41), none, .e (.bsl 31 3 [(.t 40)])⟩,
      ⟨(some 42), none, .e (.ap 31 3 24 (.t 37) (.t 41))⟩,
      ⟨(some 43), none, .q (.fa 2 (.t 9))⟩,
      ⟨none, none, .e (.st 1 (.t 43) (.t 42))⟩])
                (.skip)))
              (.seq (.reg /- 11 -/ [⟨(some 44), none, .q (.fa 1 (.t 9))⟩,
      ⟨(some 45), none, .l (.ld1 (.t 44))⟩,
      ⟨(some 46), none, .q (.mv (.t 8))⟩,
      ⟨(some 47), none, .l (.ia 4 (.t 45) (.t 46))⟩,
      ⟨(some 48), none, .q (.fa 3 (.t 47))⟩,
      ⟨none, none, .e (.st 1 (.t 48) (.k (.bool true)))⟩])
                (.seq (.reg /- 12 -/ [⟨(some 49), none, .q (.fa 1 (.t 9))⟩,
      ⟨(some 50), none, .l (.ld1 (.t 49))⟩,
      ⟨(some 51), none, .q (.mv (.t 8))⟩,
      ⟨(some 52), none, .q (.mv (.t 2))⟩,
      ⟨(some 53), none, .l (.ia 4 (.t 50) (.t 51))⟩,
      ⟨(some 54), none, .q (.fa 2 (.t 53))⟩,
      ⟨none, none, .e (.st 1 (.t 54) (.t 52))⟩])
                  (.seq (.reg /- 13 -/ [⟨(some 55), none, .l (.ldn 3 (.t 9))⟩,
      ⟨none, none, .e (.st 3 (.t 6) (.t 55))⟩,
      ⟨(some 7), none, .q (.mv (.k (.int .i64 0)))⟩])
                    (.ret))))))))))
def rs28 : List RV := [.ld (.ldn 3 (.t 6)), .mv (.t 7)]
theorem ok28 : trFn Try.prog true ⟨fun r k => if r = 1 ∧ k = 2 then .q else if r = 4 ∧ k = 1 then .q else if r = 8 ∧ k = 3 then .own [] else .own [], fun _ => false⟩ Try.f28 = some (pc28, rs28) := by kernel_rfl
/-- robotics/roboticsref22.Check -/
def pc29 : PC :=
  .seq (.reg /- 0 -/ [⟨(some 2), none, .e (.bx 48 (.t 0))⟩,
      ⟨(some 4), none, .e (.al (.agg #[(.int .i64 0), (.slice none 0 0), (.slice none 0 0)]) 48)⟩,
      ⟨(some 5), none, .q (.mv (.k (.slice none 0 0)))⟩])
  (.seq (.seq (.reg /- 1 -/ [⟨(some 8), none, .q (.mv (.t 1))⟩,
      ⟨(some 9), none, .q (.fa 0 (.t 2))⟩,
      ⟨(some 10), none, .l (.ld1 (.t 9))⟩,
      ⟨(some 11), none, .q (.bin .lss true (.t 8) (.t 10))⟩,
      ⟨(some 12), none, .q (.mv (.t 11))⟩,
      ⟨(some 13), (some (12, false)), .q (.mv (.t 1))⟩,
      ⟨(some 14), (some (12, false)), .q (.bin .gtr true (.t 13) (.k (.int .i64 1099511627776)))⟩,
      ⟨(some 15), none, .pick (.t 12) (.k (.bool true)) (.t 14)⟩])
    (.cond (.t 15)
      (.seq (.reg /- 2 -/ [⟨(some 16), none, .l (.ldn 3 (.t 2))⟩,
      ⟨none, none, .e (.st 3 (.t 4) (.t 16))⟩,
      ⟨(some 5), none, .q (.mv (.k (.slice none 0 0)))⟩])
        (.ret))
      (.skip)))
    (.seq (.reg /- 3 -/ [⟨(some 17), none, .l (.ldn 3 (.t 2))⟩,
      ⟨(some 18), none, .q (.mv (.t 1))⟩,
      ⟨(some 19), none, .q (.mv (.t 1))⟩,
      ⟨(some 20), none, .q (.bin .add true (.t 19) (.k (.int .i64 1)))⟩,
      ⟨(some 21), none, .cl 38 [(.t 17), (.t 18), (.t 20)] []⟩,
      ⟨(some 6), none, .e (.al (.agg #[(.int .i64 0), (.slice none 0 0), (.slice none 0 0)]) 48)⟩,
      ⟨none, none, .e (.st 3 (.t 6) (.t 21))⟩])
      (.seq (.gh (.reg /- 4 -/ [⟨(some 22), none, .q (.fa 2 (.t 6))⟩,
      ⟨(some 23), none, .l (.ld1 (.t 22))⟩,
      ⟨(some 24), none, .cl 39 [(.t 23)] []⟩,
      ⟨(some 7), none, .q (.mv (.t 24))⟩]))
        (.seq (.reg /- 5 -/ [⟨(some 25), none, .q (.fa 2 (.t 6))⟩,
      ⟨none, none, .e (.st 1 (.t 25) (.k (.slice none 0 0)))⟩])
          (.seq (.reg /- 6 -/ [⟨(some 26), none, .l (.ldn 3 (.t 6))⟩,
      ⟨(some 27), none, .q (.mv (.t 7))⟩,
      ⟨none, none, .e (.st 3 (.t 4) (.t 26))⟩,
      ⟨(some 5), none, .q (.mv (.t 27))⟩])
            (.ret))))))
def rs29 : List RV := [.ld (.ldn 3 (.t 4)), .mv (.t 5)]
theorem ok29 : trFn Try.prog true ⟨fun r k => if r = 3 ∧ k = 4 then .own [] else if r = 4 ∧ k = 2 then .own [] else .own [], fun r => [4].contains r⟩ Try.f29 = some (pc29, rs29) := by kernel_rfl
/-- robotics/roboticsref22.next -/
def pc30 : PC :=
  .seq (.reg /- 0 -/ [⟨(some 2), none, .e (.bx 48 (.t 0))⟩,
      ⟨(some 4), none, .q (.mv (.k (.int .i64 0)))⟩])
  (.seq (.reg /- 1 -/ [⟨(some 5), none, .q (.mv (.k (.int .i64 (-1))))⟩])
    (.seq (.seq (.reg /- 2 -/ [⟨(some 6), none, .q (.mv (.k (.int .i64 0)))⟩])
      (.block 0 (.loop (.seq (.seq (.reg /- 3 -/ [⟨(some 8), none, .q (.mv (.t 6))⟩,
      ⟨(some 9), none, .q (.fa 1 (.t 2))⟩,
      ⟨(some 10), none, .l (.ld1 (.t 9))⟩,
      ⟨(some 11), none, .q (.lnL (.t 10))⟩,
      ⟨(some 12), none, .q (.bin .lss true (.t 8) (.t 11))⟩])
            (.cond (.t 12)
              (.skip)
              (.exit 0)))
            (.seq (.block 1 (.seq (.reg /- 5 -/ [⟨(some 15), none, .q (.fa 1 (.t 2))⟩,
      ⟨(some 16), none, .l (.ld1 (.t 15))⟩,
      ⟨(some 17), none, .q (.mv (.t 6))⟩,
      ⟨(some 18), none, .l (.ia 4 (.t 16) (.t 17))⟩,
      ⟨(some 19), none, .l (.ldn 4 (.t 18))⟩,
      ⟨(some 7), none, .e (.al (.agg #[(.int .i64 0), (.int .i64 0), (.int .i64 0), (.bool false)]) 74)⟩,
      ⟨none, none, .e (.st 4 (.t 7) (.t 19))⟩])
                (.seq (.seq (.reg /- 6 -/ [⟨(some 20), none, .q (.fa 3 (.t 7))⟩,
      ⟨(some 21), none, .l (.ld1 (.t 20))⟩,
      ⟨(some 22), none, .q (.not (.t 21))⟩,
      ⟨(some 23), none, .q (.mv (.t 22))⟩,
      ⟨(some 24), (some (23, false)), .q (.fa 1 (.t 7))⟩,
      ⟨(some 25), (some (23, false)), .l (.ld1 (.t 24))⟩,
      ⟨(some 26), (some (23, false)), .q (.bin .eql true (.t 25) (.k (.int .i64 0)))⟩,
      ⟨(some 27), none, .pick (.t 23) (.k (.bool true)) (.t 26)⟩,
      ⟨(some 28), none, .q (.mv (.t 27))⟩,
      ⟨(some 29), (some (28, false)), .q (.fa 2 (.t 7))⟩,
      ⟨(some 30), (some (28, false)), .l (.ld1 (.t 29))⟩,
      ⟨(some 31), (some (28, false)), .q (.fa 1 (.t 7))⟩,
      ⟨(some 32), (some (28, false)), .l (.ld1 (.t 31))⟩,
      ⟨(some 33), (some (28, false)), .q (.bin .add true (.t 30) (.t 32))⟩,
      ⟨(some 34), (some (28, false)), .q (.mv (.t 1))⟩,
      ⟨(some 35), (some (28, false)), .q (.bin .geq true (.t 33) (.t 34))⟩,
      ⟨(some 36), none, .pick (.t 28) (.k (.bool true)) (.t 35)⟩])
                  (.cond (.t 36)
                    (.exit 1)
                    (.skip)))
                  (.seq (.reg /- 7 -/ [⟨(some 37), none, .q (.mv (.t 5))⟩,
      ⟨(some 38), none, .q (.bin .lss true (.t 37) (.k (.int .i64 0)))⟩,
      ⟨(some 39), none, .q (.mv (.t 38))⟩,
      ⟨(some 40), (some (39, false)), .q (.fa 2 (.t 7))⟩,
      ⟨(some 41), (some (39, false)), .l (.ld1 (.t 40))⟩,
      ⟨(some 42), (some (39, false)), .q (.fa 1 (.t 7))⟩,
      ⟨(some 43), (some (39, false)), .l (.ld1 (.t 42))⟩,
      ⟨(some 44), (some (39, false)), .q (.bin .add true (.t 41) (.t 43))⟩,
      ⟨(some 45), (some (39, false)), .q (.fa 1 (.t 2))⟩,
      ⟨(some 46), (some (39, false)), .l (.ld1 (.t 45))⟩,
      ⟨(some 47), (some (39, false)), .q (.mv (.t 5))⟩,
      ⟨(some 48), (some (39, false)), .l (.ia 4 (.t 46) (.t 47))⟩,
      ⟨(some 49), (some (39, false)), .q (.fa 2 (.t 48))⟩,
      ⟨(some 50), (some (39, false)), .l (.ld1 (.t 49))⟩,
      ⟨(some 51), (some (39, false)), .q (.fa 1 (.t 2))⟩,
      ⟨(some 52), (some (39, false)), .l (.ld1 (.t 51))⟩,
      ⟨(some 53), (some (39, false)), .q (.mv (.t 5))⟩,
      ⟨(some 54), (some (39, false)), .l (.ia 4 (.t 52) (.t 53))⟩,
      ⟨(some 55), (some (39, false)), .q (.fa 1 (.t 54))⟩,
      ⟨(some 56), (some (39, false)), .l (.ld1 (.t 55))⟩,
      ⟨(some 57), (some (39, false)), .q (.bin .add true (.t 50) (.t 56))⟩,
      ⟨(some 58), (some (39, false)), .q (.bin .lss true (.t 44) (.t 57))⟩,
      ⟨(some 59), none, .pick (.t 39) (.k (.bool true)) (.t 58)⟩,
      ⟨(some 60), none, .q (.mv (.t 59))⟩,
      ⟨(some 61), (some (60, false)), .q (.fa 2 (.t 7))⟩,
      ⟨(some 62), (some (60, false)), .l (.ld1 (.t 61))⟩,
      ⟨(some 63), (some (60, false)), .q (.fa 1 (.t 7))⟩,
      ⟨(some 64), (some (60, false)), .l (.ld1 (.t 63))⟩,
      ⟨(some 65), (some (60, false)), .q (.bin .add true (.t 62) (.t 64))⟩,
      ⟨(some 66), (some (60, false)), .q (.fa 1 (.t 2))⟩,
      ⟨(some 67), (some (60, false)), .l (.ld1 (.t 66))⟩,
      ⟨(some 68), (some (60, false)), .q (.mv (.t 5))⟩,
      ⟨(some 69), (some (60, false)), .l (.ia 4 (.t 67) (.t 68))⟩,
      ⟨(some 70), (some (60, false)), .q (.fa 2 (.t 69))⟩,
      ⟨(some 71), (some (60, false)), .l (.ld1 (.t 70))⟩,
      ⟨(some 72), (some (60, false)), .q (.fa 1 (.t 2))⟩,
      ⟨(some 73), (some (60, false)), .l (.ld1 (.t 72))⟩,
      ⟨(some 74), (some (60, false)), .q (.mv (.t 5))⟩,
      ⟨(some 75), (some (60, false)), .l (.ia 4 (.t 73) (.t 74))⟩,
      ⟨(some 76), (some (60, false)), .q (.fa 1 (.t 75))⟩,
      ⟨(some 77), (some (60, false)), .l (.ld1 (.t 76))⟩,
      ⟨(some 78), (some (60, false)), .q (.bin .add true (.t 71) (.t 77))⟩,
      ⟨(some 79), (some (60, false)), .q (.bin .eql true (.t 65) (.t 78))⟩,
      ⟨(some 80), (some (60, false)), .q (.mv (.t 79))⟩,
      ⟨(some 81), (some (80, true)), .q (.fa 0 (.t 7))⟩,
      ⟨(some 82), (some (80, true)), .l (.ld1 (.t 81))⟩,
      ⟨(some 83), (some (80, true)), .q (.fa 1 (.t 2))⟩,
      ⟨(some 84), (some (80, true)), .l (.ld1 (.t 83))⟩,
      ⟨(some 85), (some (80, true)), .q (.mv (.t 5))⟩,
      ⟨(some 86), (some (80, true)), .l (.ia 4 (.t 84) (.t 85))⟩,
      ⟨(some 87), (some (80, true)), .q (.fa 0 (.t 86))⟩,
      ⟨(some 88), (some (80, true)), .l (.ld1 (.t 87))⟩,
      ⟨(some 89), (some (80, true)), .q (.bin .lss true (.t 82) (.t 88))⟩,
      ⟨(some 90), (some (60, false)), .pick (.t 80) (.t 89) (.k (.bool false))⟩,
      ⟨(some 91), none, .pick (.t 60) (.k (.bool true)) (.t 90)⟩])
                    (.cond (.t 91)
                      (.reg /- 8 -/ [⟨(some 92), none, .q (.mv (.t 6))⟩,
      ⟨(some 5), none, .q (.mv (.t 92))⟩])
                      (.skip))))))
              (.reg /- 4 -/ [⟨(some 13), none, .q (.mv (.t 6))⟩,
      ⟨(some 14), none, .q (.bin .add true (.t 13) (.k (.int .i64 1)))⟩,
      ⟨(some 6), none, .q (.mv (.t 14))⟩]))))))
      (.seq (.reg /- 9 -/ [⟨(some 93), none, .q (.mv (.t 5))⟩,
      ⟨(some 4), none, .q (.mv (.t 93))⟩])
        (.ret))))
def rs30 : List RV := [.mv (.t 4)]
theorem ok30 : trFn Try.prog true ⟨fun _ _ => .own [], fun _ => false⟩ Try.f30 = some (pc30, rs30) := by kernel_rfl
/-- robotics/roboticsref22.find -/
def pc31 : PC :=
  .seq (.reg /- 0 -/ [⟨(some 2), none, .e (.bx 48 (.t 0))⟩,
      ⟨(some 4), none, .q (.mv (.k (.int .i64 0)))⟩])
  (.seq (.seq (.reg /- 1 -/ [⟨(some 5), none, .q (.mv (.k (.int .i64 0)))⟩])
    (.block 0 (.loop (.seq (.seq (.reg /- 2 -/ [⟨(some 6), none, .q (.mv (.t 5))⟩,
      ⟨(some 7), none, .q (.fa 1 (.t 2))⟩,
      ⟨(some 8), none, .l (.ld1 (.t 7))⟩,
      ⟨(some 9), none, .q (.lnL (.t 8))⟩,
      ⟨(some 10), none, .q (.bin .lss true (.t 6) (.t 9))⟩])
          (.cond (.t 10)
            (.skip)
            (.exit 0)))
          (.seq (.block 1 (.seq (.reg /- 4 -/ [⟨(some 13), none, .q (.fa 1 (.t 2))⟩,
      ⟨(some 14), none, .l (.ld1 (.t 13))⟩,
      ⟨(some 15), none, .q (.mv (.t 5))⟩,
      ⟨(some 16), none, .l (.ia 4 (.t 14) (.t 15))⟩,
      ⟨(some 17), none, .q (.fa 0 (.t 16))⟩,
      ⟨(some 18), none, .l (.ld1 (.t 17))⟩,
      ⟨(some 19), none, .q (.mv (.t 1))⟩,
      ⟨(some 20), none, .q (.bin .eql true (.t 18) (.t 19))⟩])
              (.cond (.t 20)
                (.seq (.reg /- 5 -/ [⟨(some 21), none, .q (.mv (.t 5))⟩,
      ⟨(some 4), none, .q (.mv (.t 21))⟩])
                  (.ret))
                (.skip))))
            (.reg /- 3 -/ [⟨(some 11), none, .q (.mv (.t 5))⟩,
      ⟨(some 12), none, .q (.bin .add true (.t 11) (.k (.int .i64 1)))⟩,
      ⟨(some 5), none, .q (.mv (.t 12))⟩]))))))
    (.seq (.reg /- 6 -/ [⟨(some 4), none, .q (.mv (.k (.int .i64 (-1))))⟩])
      (.ret)))
def rs31 : List RV := [.mv (.t 4)]
theorem ok31 : trFn Try.prog true ⟨fun _ _ => .own [], fun _ => false⟩ Try.f31 = some (pc31, rs31) := by kernel_rfl
/-- robotics/roboticsref22.time -/
def pc37 : PC :=
  .seq (.reg /- 0 -/ [⟨(some 2), none, .q (.mv (.k (.bool false)))⟩])
  (.seq (.reg /- 1 -/ [⟨(some 3), none, .q (.mv (.t 0))⟩,
      ⟨(some 4), none, .q (.bin .geq true (.t 3) (.k (.int .i64 0)))⟩,
      ⟨(some 5), none, .q (.mv (.t 4))⟩,
      ⟨(some 6), (some (5, true)), .q (.mv (.t 0))⟩,
      ⟨(some 7), (some (5, true)), .q (.bin .leq true (.t 6) (.k (.int .i64 1099511627776)))⟩,
      ⟨(some 8), none, .pick (.t 5) (.t 7) (.k (.bool false))⟩,
      ⟨(some 2), none, .q (.mv (.t 8))⟩])
    (.ret))
def rs37 : List RV := [.mv (.t 2)]
theorem ok37 : trFn Try.prog true ⟨fun _ _ => .own [], fun _ => false⟩ Try.f37 = some (pc37, rs37) := by kernel_rfl
/-- robotics/roboticsref22.move -/
def pc38 : PC :=
  .seq (.reg /- 0 -/ [⟨(some 3), none, .e (.bx 48 (.t 0))⟩,
      ⟨(some 6), none, .e (.al (.agg #[(.int .i64 0), (.slice none 0 0), (.slice none 0 0)]) 48)⟩])
  (.seq (.reg /- 1 -/ [⟨(some 7), none, .q (.mv (.k (.slice none 0 0)))⟩])
    (.seq (.reg /- 2 -/ [⟨(some 11), none, .q (.mv (.t 7))⟩,
      ⟨(some 12), none, .q (.fa 1 (.t 3))⟩,
      ⟨(some 13), none, .l (.ld1 (.t 12))⟩,
      ⟨(some 14), none, .e (.ap 74 4 32 (.t 11) (.t 13))⟩,
      ⟨(some 7), none, .q (.mv (.t 14))⟩])
      (.seq (.reg /- 3 -/ [⟨(some 8), none, .q (.mv (.k (.slice none 0 0)))⟩])
        (.seq (.reg /- 4 -/ [⟨(some 15), none, .q (.mv (.t 8))⟩,
      ⟨(some 16), none, .q (.fa 2 (.t 3))⟩,
      ⟨(some 17), none, .l (.ld1 (.t 16))⟩,
      ⟨(some 18), none, .e (.ap 31 3 24 (.t 15) (.t 17))⟩,
      ⟨(some 8), none, .q (.mv (.t 18))⟩])
          (.seq (.reg /- 5 -/ [⟨(some 19), none, .q (.mv (.t 1))⟩,
      ⟨(some 20), none, .q (.mv (.t 7))⟩,
      ⟨(some 21), none, .q (.mv (.t 8))⟩,
      ⟨(some 22), none, .q (.bd [(.int .i64 0), (.slice none 0 0), (.slice none 0 0)] [(0, 1, (.t 19)), (1, 1, (.t 20)), (2, 1, (.t 21))])⟩,
      ⟨(some 9), none, .e (.al (.agg #[(.int .i64 0), (.slice none 0 0), (.slice none 0 0)]) 48)⟩,
      ⟨none, none, .e (.st 3 (.t 9) (.t 22))⟩])
            (.seq (.seq (.reg /- 6 -/ [⟨(some 23), none, .l (.ldn 3 (.t 9))⟩,
      ⟨(some 24), none, .q (.mv (.t 2))⟩,
      ⟨(some 25), none, .cq 30 [(.t 23), (.t 24)]⟩,
      ⟨(some 10), none, .q (.mv (.t 25))⟩])
              (.block 0 (.loop (.seq (.seq (.reg /- 7 -/ [⟨(some 26), none, .q (.mv (.t 10))⟩,
      ⟨(some 27), none, .q (.bin .geq true (.t 26) (.k (.int .i64 0)))⟩])
                    (.cond (.t 27)
                      (.skip)
                      (.exit 0)))
                    (.seq (.block 1 (.seq (.reg /- 9 -/ [⟨(some 31), none, .q (.fa 1 (.t 9))⟩,
      ⟨(some 32), none, .l (.ld1 (.t 31))⟩,
      ⟨(some 33), none, .q (.mv (.t 10))⟩,
      ⟨(some 34), none, .l (.ia 4 (.t 32) (.t 33))⟩,
      ⟨(some 35), none, .q (.fa 3 (.t 34))⟩,
      ⟨none, none, .e (.st 1 (.t 35) (.k (.bool false)))⟩])
                        (.reg /- 10 -/ [⟨(some 36), none, .q (.fa 2 (.t 9))⟩,
      ⟨(some 37), none, .l (.ld1 (.t 36))⟩,
      ⟨(some 38), none, .q (.fa 1 (.t 9))⟩,
      ⟨(some 39), none, .l (.ld1 (.t 38))⟩,
      ⟨(some 40), none, .q (.mv (.t 10))⟩,
      ⟨(some 41), none, .l (.ia 4 (.t 39) (.t 40))⟩,
      ⟨(some 42), none, .q (.fa 0 (.t 41))⟩,
      ⟨(some 43), none, .l (.ld1 (.t 42))⟩,
      ⟨(some 44), none, .q (.fa 1 (.t 9))⟩,
      ⟨(some 45), none, .l (.ld1 (.t 44))⟩,
      ⟨(some 46), none, .q (.mv (.t 10))⟩,
      ⟨(some 47), none, .l (.ia 4 (.t 45) (.t 46))⟩,
      ⟨(some 48), none, .q (.fa 2 (.t 47))⟩,
      ⟨(some 49), none, .l (.ld1 (.t 48))⟩,
      ⟨(some 50), none, .q (.fa 1 (.t 9))⟩,
      ⟨(some 51), none, .l (.ld1 (.t 50))⟩,
      ⟨(some 52), none, .q (.mv (.t 10))⟩,
      ⟨(some 53), none, .l (.ia 4 (.t 51) (.t 52))⟩,
      ⟨(some 54), none, .q (.fa 1 (.t 53))⟩,
      ⟨(some 55), none, .l (.ld1 (.t 54))⟩,
      ⟨(some 56), none, .q (.bin .add true (.t 49) (.t 55))⟩,
      ⟨(some 57), none, .q (.bd [(.int .i64 0), (.int .i64 0), (.bool false)] [(0, 1, (.t 43)), (1, 1, (.t 56))])⟩,
      ⟨(some 58), none, .e (.bsl 31 3 [(.t 57)])⟩,
      ⟨(some 59), none, .e (.ap 31 3 24 (.t 37) (.t 58))⟩,
      ⟨(some 60), none, .q (.fa 2 (.t 9))⟩,
      ⟨none, none, .e (.st 1 (.t 60) (.t 59))⟩])))
                      (.reg /- 8 -/ [⟨(some 28), none, .l (.ldn 3 (.t 9))⟩,
      ⟨(some 29), none, .q (.mv (.t 2))⟩,
      ⟨(some 30), none, .cq 30 [(.t 28), (.t 29)]⟩,
      ⟨(some 10), none, .q (.mv (.t 30))⟩]))))))
              (.seq (.reg /- 11 -/ [⟨(some 61), none, .l (.ldn 3 (.t 9))⟩,
      ⟨none, none, .e (.st 3 (.t 6) (.t 61))⟩])
                (.ret))))))))
def rs38 : List RV := [.ld (.ldn 3 (.t 6))]
theorem ok38 : trFn Try.prog true ⟨fun r k => if r = 6 ∧ k = 2 then .q else if r = 8 ∧ k = 2 then .q else .own [], fun _ => false⟩ Try.f38 = some (pc38, rs38) := by kernel_rfl
/-- robotics/roboticsref22.sorted -/
def pc39 : PC :=
  .seq (.reg /- 0 -/ [⟨(some 2), none, .q (.mv (.k (.slice none 0 0)))⟩])
  (.seq (.reg /- 1 -/ [⟨(some 3), none, .q (.mv (.k (.slice none 0 0)))⟩])
    (.seq (.seq (.reg /- 2 -/ [⟨(some 4), none, .q (.mv (.k (.int .i64 0)))⟩])
      (.block 0 (.loop (.seq (.seq (.reg /- 3 -/ [⟨(some 7), none, .q (.mv (.t 4))⟩,
      ⟨(some 8), none, .q (.mv (.t 0))⟩,
      ⟨(some 9), none, .q (.lnL (.t 8))⟩,
      ⟨(some 10), none, .q (.bin .lss true (.t 7) (.t 9))⟩])
            (.cond (.t 10)
              (.skip)
              (.exit 0)))
            (.seq (.block 1 (.seq (.reg /- 5 -/ [⟨(some 13), none, .q (.mv (.t 3))⟩,
      ⟨(some 14), none, .q (.mv (.t 0))⟩,
      ⟨(some 15), none, .q (.mv (.t 4))⟩,
      ⟨(some 16), none, .l (.ia 3 (.t 14) (.t 15))⟩,
      ⟨(some 17), none, .l (.ldn 3 (.t 16))⟩,
      ⟨(some 18), none, .e (.bsl 31 3 [(.t 17)])⟩,
      ⟨(some 19), none, .e (.ap 31 3 24 (.t 13) (.t 18))⟩,
      ⟨(some 3), none, .q (.mv (.t 19))⟩])
                (.seq (.reg /- 6 -/ [⟨(some 20), none, .q (.mv (.t 3))⟩,
      ⟨(some 21), none, .q (.lnL (.t 20))⟩,
      ⟨(some 22), none, .q (.bin .sub true (.t 21) (.k (.int .i64 1)))⟩,
      ⟨(some 5), none, .q (.mv (.t 22))⟩])
                  (.block 2 (.loop (.seq (.seq (.reg /- 7 -/ [⟨(some 23), none, .q (.mv (.t 5))⟩,
      ⟨(some 24), none, .q (.bin .gtr true (.t 23) (.k (.int .i64 0)))⟩,
      ⟨(some 25), none, .q (.mv (.t 24))⟩,
      ⟨(some 26), (some (25, true)), .q (.mv (.t 3))⟩,
      ⟨(some 27), (some (25, true)), .q (.mv (.t 5))⟩,
      ⟨(some 28), (some (25, true)), .l (.ia 3 (.t 26) (.t 27))⟩,
      ⟨(some 29), (some (25, true)), .q (.fa 1 (.t 28))⟩,
      ⟨(some 30), (some (25, true)), .l (.ld1 (.t 29))⟩,
      ⟨(some 31), (some (25, true)), .q (.mv (.t 3))⟩,
      ⟨(some 32), (some (25, true)), .q (.mv (.t 5))⟩,
      ⟨(some 33), (some (25, true)), .q (.bin .sub true (.t 32) (.k (.int .i64 1)))⟩,
      ⟨(some 34), (some (25, true)), .l (.ia 3 (.t 31) (.t 33))⟩,
      ⟨(some 35), (some (25, true)), .q (.fa 1 (.t 34))⟩,
      ⟨(some 36), (some (25, true)), .l (.ld1 (.t 35))⟩,
      ⟨(some 37), (some (25, true)), .q (.bin .lss true (.t 30) (.t 36))⟩,
      ⟨(some 38), (some (25, true)), .q (.mv (.t 37))⟩,
      ⟨(some 39), (some (38, false)), .q (.mv (.t 3))⟩,
      ⟨(some 40), (some (38, false)), .q (.mv (.t 5))⟩,
      ⟨(some 41), (some (38, false)), .l (.ia 3 (.t 39) (.t 40))⟩,
      ⟨(some 42), (some (38, false)), .q (.fa 1 (.t 41))⟩,
      ⟨(some 43), (some (38, false)), .l (.ld1 (.t 42))⟩,
      ⟨(some 44), (some (38, false)), .q (.mv (.t 3))⟩,
      ⟨(some 45), (some (38, false)), .q (.mv (.t 5))⟩,
      ⟨(some 46), (some (38, false)), .q (.bin .sub true (.t 45) (.k (.int .i64 1)))⟩,
      ⟨(some 47), (some (38, false)), .l (.ia 3 (.t 44) (.t 46))⟩,
      ⟨(some 48), (some (38, false)), .q (.fa 1 (.t 47))⟩,
      ⟨(some 49), (some (38, false)), .l (.ld1 (.t 48))⟩,
      ⟨(some 50), (some (38, false)), .q (.bin .eql true (.t 43) (.t 49))⟩,
      ⟨(some 51), (some (38, false)), .q (.mv (.t 50))⟩,
      ⟨(some 52), (some (51, true)), .q (.mv (.t 3))⟩,
      ⟨(some 53), (some (51, true)), .q (.mv (.t 5))⟩,
      ⟨(some 54), (some (51, true)), .l (.ia 3 (.t 52) (.t 53))⟩,
      ⟨(some 55), (some (51, true)), .q (.fa 0 (.t 54))⟩,
      ⟨(some 56), (some (51, true)), .l (.ld1 (.t 55))⟩,
      ⟨(some 57), (some (51, true)), .q (.mv (.t 3))⟩,
      ⟨(some 58), (some (51, true)), .q (.mv (.t 5))⟩,
      ⟨(some 59), (some (51, true)), .q (.bin .sub true (.t 58) (.k (.int .i64 1)))⟩,
      ⟨(some 60), (some (51, true)), .l (.ia 3 (.t 57) (.t 59))⟩,
      ⟨(some 61), (some (51, true)), .q (.fa 0 (.t 60))⟩,
      ⟨(some 62), (some (51, true)), .l (.ld1 (.t 61))⟩,
      ⟨(some 63), (some (51, true)), .q (.bin .lss true (.t 56) (.t 62))⟩,
      ⟨(some 64), (some (38, false)), .pick (.t 51) (.t 63) (.k (.bool false))⟩,
      ⟨(some 65), (some (25, true)), .pick (.t 38) (.k (.bool true)) (.t 64)⟩,
      ⟨(some 66), none, .pick (.t 25) (.t 65) (.k (.bool false))⟩])
                        (.cond (.t 66)
                          (.skip)
                          (.exit 2)))
                        (.seq (.block 3 (.seq (.reg /- 9 -/ [⟨(some 69), none, .q (.mv (.t 3))⟩,
      ⟨(some 70), none, .q (.mv (.t 5))⟩,
      ⟨(some 71), none, .l (.ia 3 (.t 69) (.t 70))⟩,
      ⟨(some 72), none, .l (.ldn 3 (.t 71))⟩,
      ⟨(some 6), none, .e (.al (.agg #[(.int .i64 0), (.int .i64 0), (.bool false)]) 31)⟩,
      ⟨none, none, .e (.st 3 (.t 6) (.t 72))⟩])
                            (.seq (.reg /- 10 -/ [⟨(some 73), none, .q (.mv (.t 3))⟩,
      ⟨(some 74), none, .q (.mv (.t 5))⟩,
      ⟨(some 75), none, .q (.mv (.t 3))⟩,
      ⟨(some 76), none, .q (.mv (.t 5))⟩,
      ⟨(some 77), none, .q (.bin .sub true (.t 76) (.k (.int .i64 1)))⟩,
      ⟨(some 78), none, .l (.ia 3 (.t 75) (.t 77))⟩,
      ⟨(some 79), none, .l (.ldn 3 (.t 78))⟩,
      ⟨(some 80), none, .l (.ia 3 (.t 73) (.t 74))⟩,
      ⟨none, none, .e (.st 3 (.t 80) (.t 79))⟩])
                              (.reg /- 11 -/ [⟨(some 81), none, .q (.mv (.t 3))⟩,
      ⟨(some 82), none, .q (.mv (.t 5))⟩,
      ⟨(some 83), none, .q (.bin .sub true (.t 82) (.k (.int .i64 1)))⟩,
      ⟨(some 84), none, .l (.ldn 3 (.t 6))⟩,
      ⟨(some 85), none, .l (.ia 3 (.t 81) (.t 83))⟩,
      ⟨none, none, .e (.st 3 (.t 85) (.t 84))⟩]))))
                          (.reg /- 8 -/ [⟨(some 67), none, .q (.mv (.t 5))⟩,
      ⟨(some 68), none, .q (.bin .sub true (.t 67) (.k (.int .i64 1)))⟩,
      ⟨(some 5), none, .q (.mv (.t 68))⟩]))))))))
              (.reg /- 4 -/ [⟨(some 11), none, .q (.mv (.t 4))⟩,
      ⟨(some 12), none, .q (.bin .add true (.t 11) (.k (.int .i64 1)))⟩,
      ⟨(some 4), none, .q (.mv (.t 12))⟩]))))))
      (.seq (.reg /- 12 -/ [⟨(some 86), none, .q (.mv (.t 3))⟩,
      ⟨(some 2), none, .q (.mv (.t 86))⟩])
        (.ret))))
def rs39 : List RV := [.mv (.t 2)]
theorem ok39 : trFn Try.prog true ⟨fun _ _ => .own [], fun _ => false⟩ Try.f39 = some (pc39, rs39) := by kernel_rfl
end Go.Proofs.Ytngmjggconefcaa
