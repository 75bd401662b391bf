import Derived.Test.YtngmjggconefcaaProg
import Derived.Test.YtngmjggconefcaaW15
namespace Go.Proofs.Ytngmjggconefcaa
open Go.W
/-- robotics/liveliness.New -/
def pc9 : PC :=
  .seq (.reg /- 0 -/ [⟨(some 0), none, .q (.mv (.k (.pointer none)))⟩])
  (.seq (.reg /- 1 -/ [⟨(some 1), none, .q (.bd [(.int .i64 0), (.slice none 0 0), (.slice none 0 0)] [])⟩,
      ⟨(some 2), none, .e (.bx 59 (.t 1))⟩,
      ⟨(some 0), none, .q (.mv (.t 2))⟩])
    (.ret))
def rs9 : List RV := [.mv (.t 0)]
theorem ok9 : trFn Try.prog true ⟨fun _ _ => .own [], fun _ => false⟩ Try.f9 = some (pc9, rs9) := by kernel_rfl
/-- (*robotics/liveliness.Leases).Add -/
def pc10 : PC :=
  .seq (.reg /- 0 -/ [⟨(some 8), none, .q (.mv (.k (.int .i64 0)))⟩])
  (.seq (.block 0 (.seq (.reg /- 1 -/ [⟨(some 10), none, .q (.mv (.t 0))⟩,
      ⟨(some 11), none, .q (.eqP false (.t 10) (.k (.pointer none)))⟩,
      ⟨(some 9), none, .q (.mv (.t 11))⟩])
      (.cond (.t 9)
        (.seq (.reg /- 2 -/ [⟨(some 8), none, .q (.mv (.k (.int .i64 6)))⟩])
          (.ret))
        (.seq (.reg /- 3 -/ [⟨(some 13), none, .q (.mv (.t 1))⟩,
      ⟨(some 14), none, .q (.bin .lss true (.t 13) (.k (.int .i64 1)))⟩,
      ⟨(some 15), none, .q (.mv (.t 14))⟩,
      ⟨(some 16), (some (15, false)), .q (.mv (.t 2))⟩,
      ⟨(some 17), (some (15, false)), .cq 21 [(.t 16)]⟩,
      ⟨(some 18), (some (15, false)), .q (.not (.t 17))⟩,
      ⟨(some 19), none, .pick (.t 15) (.k (.bool true)) (.t 18)⟩,
      ⟨(some 20), none, .q (.mv (.t 19))⟩,
      ⟨(some 21), (some (20, false)), .q (.mv (.t 3))⟩,
      ⟨(some 22), (some (20, false)), .cq 21 [(.t 21)]⟩,
      ⟨(some 23), (some (20, false)), .q (.not (.t 22))⟩,
      ⟨(some 24), none, .pick (.t 20) (.k (.bool true)) (.t 23)⟩,
      ⟨(some 12), none, .q (.mv (.t 24))⟩])
          (.cond (.t 12)
            (.seq (.reg /- 4 -/ [⟨(some 8), none, .q (.mv (.k (.int .i64 4)))⟩])
              (.ret))
            (.seq (.reg /- 5 -/ [⟨(some 26), none, .q (.mv (.t 3))⟩,
      ⟨(some 27), none, .q (.mv (.t 0))⟩,
      ⟨(some 28), none, .q (.nc (.t 27))⟩,
      ⟨(some 29), none, .q (.fa 0 (.t 28))⟩,
      ⟨(some 30), none, .l (.ld1 (.t 29))⟩,
      ⟨(some 31), none, .q (.bin .lss true (.t 26) (.t 30))⟩,
      ⟨(some 25), none, .q (.mv (.t 31))⟩])
              (.cond (.t 25)
                (.seq (.reg /- 6 -/ [⟨(some 8), none, .q (.mv (.k (.int .i64 17)))⟩])
                  (.ret))
                (.seq (.reg /- 7 -/ [⟨(some 33), none, .q (.mv (.t 0))⟩,
      ⟨(some 34), none, .q (.mv (.t 1))⟩,
      ⟨(some 35), none, .cl 22 [(.t 33), (.t 34)] [0, 1, 2]⟩,
      ⟨(some 36), none, .q (.bin .geq true (.t 35) (.k (.int .i64 0)))⟩,
      ⟨(some 32), none, .q (.mv (.t 36))⟩])
                  (.cond (.t 32)
                    (.seq (.reg /- 8 -/ [⟨(some 8), none, .q (.mv (.k (.int .i64 7)))⟩])
                      (.ret))
                    (.skip))))))))))
    (.seq (.reg /- 9 -/ [⟨(some 37), none, .q (.mv (.t 0))⟩,
      ⟨(some 38), none, .q (.mv (.t 3))⟩,
      ⟨(some 39), none, .q (.mv (.t 3))⟩,
      ⟨(some 40), none, .cl 23 [(.t 37), (.t 38), (.t 39)] [0, 1, 2]⟩])
      (.seq (.reg /- 10 -/ [⟨(some 41), none, .q (.mv (.t 0))⟩,
      ⟨(some 42), none, .q (.mv (.t 0))⟩,
      ⟨(some 43), none, .q (.nc (.t 42))⟩,
      ⟨(some 44), none, .q (.fa 1 (.t 43))⟩,
      ⟨(some 45), none, .l (.ld1 (.t 44))⟩,
      ⟨(some 46), none, .q (.mv (.t 1))⟩,
      ⟨(some 47), none, .q (.mv (.t 2))⟩,
      ⟨(some 48), none, .q (.mv (.t 3))⟩,
      ⟨(some 49), none, .q (.bd [(.int .i64 0), (.int .i64 0), (.int .i64 0), (.bool false)] [(0, 1, (.t 46)), (1, 1, (.t 47)), (2, 1, (.t 48)), (3, 1, (.k (.bool true)))])⟩,
      ⟨(some 50), none, .e (.bsl 63 4 [(.t 49)])⟩,
      ⟨(some 51), none, .e (.ap 63 4 32 (.t 45) (.t 50))⟩,
      ⟨(some 52), none, .q (.nc (.t 41))⟩,
      ⟨(some 53), none, .q (.fa 1 (.t 52))⟩,
      ⟨none, none, .e (.st 1 (.t 53) (.t 51))⟩])
        (.seq (.reg /- 11 -/ [⟨(some 8), none, .q (.mv (.k (.int .i64 0)))⟩])
          (.ret)))))
def rs10 : List RV := [.mv (.t 8)]
theorem ok10 : trFn Try.prog true ⟨fun r k => if r = 3 ∧ k = 4 then .q else if r = 3 ∧ k = 9 then .q else if r = 7 ∧ k = 2 then .own [0, 1, 2] else if r = 9 ∧ k = 3 then .own [0, 1, 2] else .own [], fun _ => false⟩ Try.f10 = some (pc10, rs10) := by kernel_rfl
/-- (*robotics/liveliness.Leases).Assert -/
def pc11 : PC :=
  .seq (.reg /- 0 -/ [⟨(some 6), none, .q (.mv (.k (.int .i64 0)))⟩])
  (.seq (.seq (.reg /- 1 -/ [⟨(some 9), none, .q (.mv (.t 0))⟩,
      ⟨(some 10), none, .q (.eqP false (.t 9) (.k (.pointer none)))⟩])
    (.cond (.t 10)
      (.seq (.reg /- 2 -/ [⟨(some 6), none, .q (.mv (.k (.int .i64 6)))⟩])
        (.ret))
      (.skip)))
    (.seq (.reg /- 3 -/ [⟨(some 11), none, .q (.mv (.t 0))⟩,
      ⟨(some 12), none, .q (.mv (.t 1))⟩,
      ⟨(some 13), none, .cl 22 [(.t 11), (.t 12)] [0, 1, 2]⟩,
      ⟨(some 7), none, .q (.mv (.t 13))⟩])
      (.seq (.block 0 (.seq (.reg /- 4 -/ [⟨(some 15), none, .q (.mv (.t 7))⟩,
      ⟨(some 16), none, .q (.bin .lss true (.t 15) (.k (.int .i64 0)))⟩,
      ⟨(some 14), none, .q (.mv (.t 16))⟩])
          (.cond (.t 14)
            (.seq (.reg /- 5 -/ [⟨(some 6), none, .q (.mv (.k (.int .i64 6)))⟩])
              (.ret))
            (.seq (.reg /- 6 -/ [⟨(some 18), none, .q (.mv (.t 2))⟩,
      ⟨(some 19), none, .cq 21 [(.t 18)]⟩,
      ⟨(some 20), none, .q (.not (.t 19))⟩,
      ⟨(some 17), none, .q (.mv (.t 20))⟩])
              (.cond (.t 17)
                (.seq (.reg /- 7 -/ [⟨(some 6), none, .q (.mv (.k (.int .i64 4)))⟩])
                  (.ret))
                (.seq (.reg /- 8 -/ [⟨(some 22), none, .q (.mv (.t 2))⟩,
      ⟨(some 23), none, .q (.mv (.t 0))⟩,
      ⟨(some 24), none, .q (.nc (.t 23))⟩,
      ⟨(some 25), none, .q (.fa 0 (.t 24))⟩,
      ⟨(some 26), none, .l (.ld1 (.t 25))⟩,
      ⟨(some 27), none, .q (.bin .lss true (.t 22) (.t 26))⟩,
      ⟨(some 21), none, .q (.mv (.t 27))⟩])
                  (.cond (.t 21)
                    (.seq (.reg /- 9 -/ [⟨(some 6), none, .q (.mv (.k (.int .i64 17)))⟩])
                      (.ret))
                    (.skip))))))))
        (.seq (.reg /- 10 -/ [⟨(some 28), none, .q (.mv (.t 0))⟩,
      ⟨(some 29), none, .q (.mv (.t 2))⟩,
      ⟨(some 30), none, .q (.mv (.t 2))⟩,
      ⟨(some 31), none, .cl 23 [(.t 28), (.t 29), (.t 30)] [0, 1, 2]⟩])
          (.seq (.reg /- 11 -/ [⟨(some 32), none, .q (.mv (.t 0))⟩,
      ⟨(some 33), none, .q (.nc (.t 32))⟩,
      ⟨(some 34), none, .q (.fa 1 (.t 33))⟩,
      ⟨(some 35), none, .l (.ld1 (.t 34))⟩,
      ⟨(some 36), none, .q (.mv (.t 7))⟩,
      ⟨(some 37), none, .l (.ia 4 (.t 35) (.t 36))⟩,
      ⟨(some 8), none, .q (.mv (.t 37))⟩])
            (.seq (.seq (.reg /- 12 -/ [⟨(some 38), none, .q (.mv (.t 8))⟩,
      ⟨(some 39), none, .q (.nc (.t 38))⟩,
      ⟨(some 40), none, .q (.fa 3 (.t 39))⟩,
      ⟨(some 41), none, .l (.ld1 (.t 40))⟩,
      ⟨(some 42), none, .q (.not (.t 41))⟩])
              (.cond (.t 42)
                (.reg /- 13 -/ [⟨(some 43), none, .q (.mv (.t 0))⟩,
      ⟨(some 44), none, .q (.mv (.t 0))⟩,
      ⟨(some 45), none, .q (.nc (.t 44))⟩,
      ⟨(some 46), none, .q (.fa 2 (.t 45))⟩,
      ⟨(some 47), none, .l (.ld1 (.t 46))⟩,
      ⟨(some 48), none, .q (.mv (.t 1))⟩,
      ⟨(some 49), none, .q (.mv (.t 2))⟩,
      ⟨(some 50), none, .q (.bd [(.int .i64 0), (.int .i64 0), (.bool false)] [(0, 1, (.t 48)), (1, 1, (.t 49)), (2, 1, (.k (.bool true)))])⟩,
      ⟨(some 51), none, .e (.bsl 44 3 [(.t 50)])⟩,
      ⟨(some 52), none, .e (.ap 44 3 24 (.t 47) (.t 51))⟩,
      ⟨(some 53), none, .q (.nc (.t 43))⟩,
      ⟨(some 54), none, .q (.fa 2 (.t 53))⟩,
      ⟨none, none, .e (.st 1 (.t 54) (.t 52))⟩])
                (.skip)))
              (.seq (.reg /- 14 -/ [⟨(some 55), none, .q (.mv (.t 8))⟩,
      ⟨(some 56), none, .q (.mv (.t 8))⟩,
      ⟨(some 57), none, .q (.mv (.t 2))⟩,
      ⟨(some 58), none, .q (.nc (.t 55))⟩,
      ⟨(some 59), none, .q (.fa 2 (.t 58))⟩,
      ⟨none, none, .e (.st 1 (.t 59) (.t 57))⟩,
      ⟨(some 60), none, .q (.nc (.t 56))⟩,
      ⟨(some 61), none, .q (.fa 3 (.t 60))⟩,
      ⟨none, none, .e (.st 1 (.t 61) (.k (.bool true)))⟩])
                (.seq (.reg /- 15 -/ [⟨(some 6), none, .q (.mv (.k (.int .i64 0)))⟩])
                  (.ret)))))))))
def rs11 : List RV := [.mv (.t 6)]
theorem ok11 : trFn Try.prog true ⟨fun r k => if r = 3 ∧ k = 2 then .own [0, 1, 2] else if r = 6 ∧ k = 1 then .q else if r = 10 ∧ k = 3 then .own [0, 1, 2] else .own [], fun _ => false⟩ Try.f11 = some (pc11, rs11) := by kernel_rfl
/-- (*robotics/liveliness.Leases).Alive -/
def pc12 : PC :=
  .seq (.reg /- 0 -/ [⟨(some 4), none, .q (.mv (.k (.bool false)))⟩])
  (.seq (.seq (.reg /- 1 -/ [⟨(some 6), none, .q (.mv (.t 0))⟩,
      ⟨(some 7), none, .q (.eqP false (.t 6) (.k (.pointer none)))⟩])
    (.cond (.t 7)
      (.seq (.reg /- 2 -/ [⟨(some 4), none, .q (.mv (.k (.bool false)))⟩])
        (.ret))
      (.skip)))
    (.seq (.reg /- 3 -/ [⟨(some 8), none, .q (.mv (.t 0))⟩,
      ⟨(some 9), none, .q (.mv (.t 1))⟩,
      ⟨(some 10), none, .cl 22 [(.t 8), (.t 9)] [0, 1, 2]⟩,
      ⟨(some 5), none, .q (.mv (.t 10))⟩])
      (.seq (.reg /- 4 -/ [⟨(some 11), none, .q (.mv (.t 5))⟩,
      ⟨(some 12), none, .q (.bin .geq true (.t 11) (.k (.int .i64 0)))⟩,
      ⟨(some 13), none, .q (.mv (.t 12))⟩,
      ⟨(some 14), (some (13, true)), .q (.mv (.t 0))⟩,
      ⟨(some 15), (some (13, true)), .q (.nc (.t 14))⟩,
      ⟨(some 16), (some (13, true)), .q (.fa 1 (.t 15))⟩,
      ⟨(some 17), (some (13, true)), .l (.ld1 (.t 16))⟩,
      ⟨(some 18), (some (13, true)), .q (.mv (.t 5))⟩,
      ⟨(some 19), (some (13, true)), .l (.ia 4 (.t 17) (.t 18))⟩,
      ⟨(some 20), (some (13, true)), .q (.fa 3 (.t 19))⟩,
      ⟨(some 21), (some (13, true)), .l (.ld1 (.t 20))⟩,
      ⟨(some 22), none, .pick (.t 13) (.t 21) (.k (.bool false))⟩,
      ⟨(some 4), none, .q (.mv (.t 22))⟩])
        (.ret))))
def rs12 : List RV := [.mv (.t 4)]
theorem ok12 : trFn Try.prog true ⟨fun r k => if r = 3 ∧ k = 2 then .own [0, 1, 2] else .own [], fun _ => false⟩ Try.f12 = some (pc12, rs12) := by kernel_rfl
/-- (*robotics/liveliness.Leases).Check -/
def pc15 : PC :=
  .seq (.reg /- 0 -/ [⟨(some 4), none, .q (.mv (.k (.slice none 0 0)))⟩])
  (.seq (.seq (.reg /- 1 -/ [⟨(some 6), none, .q (.mv (.t 0))⟩,
      ⟨(some 7), none, .q (.eqP false (.t 6) (.k (.pointer none)))⟩,
      ⟨(some 8), none, .q (.mv (.t 7))⟩,
      ⟨(some 9), (some (8, false)), .q (.mv (.t 1))⟩,
      ⟨(some 10), (some (8, false)), .q (.mv (.t 0))⟩,
      ⟨(some 11), (some (8, false)), .q (.nc (.t 10))⟩,
      ⟨(some 12), (some (8, false)), .q (.fa 0 (.t 11))⟩,
      ⟨(some 13), (some (8, false)), .l (.ld1 (.t 12))⟩,
      ⟨(some 14), (some (8, false)), .q (.bin .lss true (.t 9) (.t 13))⟩,
      ⟨(some 15), none, .pick (.t 8) (.k (.bool true)) (.t 14)⟩,
      ⟨(some 16), none, .q (.mv (.t 15))⟩,
      ⟨(some 17), (some (16, false)), .q (.mv (.t 1))⟩,
      ⟨(some 18), (some (16, false)), .q (.bin .gtr true (.t 17) (.k (.int .i64 1099511627776)))⟩,
      ⟨(some 19), none, .pick (.t 16) (.k (.bool true)) (.t 18)⟩])
    (.cond (.t 19)
      (.seq (.reg /- 2 -/ [⟨(some 4), none, .q (.mv (.k (.slice none 0 0)))⟩])
        (.ret))
      (.skip)))
    (.seq (.reg /- 3 -/ [⟨(some 20), none, .q (.mv (.t 0))⟩,
      ⟨(some 21), none, .q (.mv (.t 1))⟩,
      ⟨(some 22), none, .q (.mv (.t 1))⟩,
      ⟨(some 23), none, .q (.bin .add true (.t 22) (.k (.int .i64 1)))⟩,
      ⟨(some 24), none, .cl 23 [(.t 20), (.t 21), (.t 23)] [0, 1, 2]⟩])
      (.seq (.reg /- 4 -/ [⟨(some 25), none, .q (.mv (.t 0))⟩,
      ⟨(some 26), none, .q (.nc (.t 25))⟩,
      ⟨(some 27), none, .q (.fa 2 (.t 26))⟩,
      ⟨(some 28), none, .l (.ld1 (.t 27))⟩,
      ⟨(some 5), none, .q (.mv (.t 28))⟩])
        (.seq (.reg /- 5 -/ [⟨(some 29), none, .q (.mv (.t 0))⟩,
      ⟨(some 30), none, .q (.nc (.t 29))⟩,
      ⟨(some 31), none, .q (.fa 2 (.t 30))⟩,
      ⟨none, none, .e (.st 1 (.t 31) (.k (.slice none 0 0)))⟩])
          (.seq (.reg /- 6 -/ [⟨(some 32), none, .q (.mv (.t 5))⟩,
      ⟨(some 33), none, .cl 24 [(.t 32)] [2]⟩])
            (.seq (.reg /- 7 -/ [⟨(some 34), none, .q (.mv (.t 5))⟩,
      ⟨(some 4), none, .q (.mv (.t 34))⟩])
              (.ret)))))))
def rs15 : List RV := [.mv (.t 4)]
theorem ok15 : trFn Try.prog true ⟨fun r k => if r = 3 ∧ k = 4 then .own [0, 1, 2] else if r = 6 ∧ k = 1 then .own [2] else .own [], fun _ => false⟩ Try.f15 = some (pc15, rs15) := by kernel_rfl
/-- (*robotics/liveliness.Leases).Next -/
def pc16 : PC :=
  .seq (.reg /- 0 -/ [⟨(some 2), none, .q (.mv (.k (.int .i64 0)))⟩,
      ⟨(some 3), none, .q (.mv (.k (.bool false)))⟩])
  (.seq (.seq (.reg /- 1 -/ [⟨(some 9), none, .q (.mv (.t 0))⟩,
      ⟨(some 10), none, .q (.eqP false (.t 9) (.k (.pointer none)))⟩])
    (.cond (.t 10)
      (.seq (.reg /- 2 -/ [⟨(some 2), none, .q (.mv (.k (.int .i64 0)))⟩,
      ⟨(some 3), none, .q (.mv (.k (.bool false)))⟩])
        (.ret))
      (.skip)))
    (.seq (.reg /- 3 -/ [⟨(some 4), none, .q (.mv (.k (.int .i64 0)))⟩,
      ⟨(some 5), none, .q (.mv (.k (.bool false)))⟩])
      (.seq (.seq (.reg /- 4 -/ [⟨(some 11), none, .q (.mv (.t 0))⟩,
      ⟨(some 12), none, .q (.nc (.t 11))⟩,
      ⟨(some 13), none, .q (.fa 1 (.t 12))⟩,
      ⟨(some 14), none, .l (.ld1 (.t 13))⟩,
      ⟨(some 15), none, .q (.lnL (.t 14))⟩,
      ⟨(some 16), none, .q (.mv (.k (.int .i64 0)))⟩])
        (.block 0 (.loop (.seq (.reg /- 5 -/ [⟨(some 17), none, .q (.bin .lss true (.t 16) (.t 15))⟩])
              (.seq (.cond (.t 17)
                (.skip)
                (.exit 0))
                (.seq (.block 1 (.seq (.reg /- 6 -/ [⟨(some 18), none, .q (.mv (.t 16))⟩,
      ⟨(some 6), none, .q (.mv (.t 18))⟩])
                    (.seq (.reg /- 7 -/ [⟨(some 20), none, .q (.mv (.t 0))⟩,
      ⟨(some 21), none, .q (.nc (.t 20))⟩,
      ⟨(some 22), none, .q (.fa 1 (.t 21))⟩,
      ⟨(some 23), none, .l (.ld1 (.t 22))⟩,
      ⟨(some 24), none, .q (.mv (.t 6))⟩,
      ⟨(some 25), none, .l (.ia 4 (.t 23) (.t 24))⟩,
      ⟨(some 26), none, .l (.ldn 4 (.t 25))⟩,
      ⟨(some 27), none, .cl 25 [(.t 26)] []⟩,
      ⟨(some 19), none, .q (.mv (.t 27))⟩,
      ⟨(some 28), none, .q (.ex (.t 19) 0)⟩,
      ⟨(some 29), none, .q (.ex (.t 19) 1)⟩,
      ⟨(some 7), none, .q (.mv (.t 28))⟩,
      ⟨(some 8), none, .q (.mv (.t 29))⟩])
                      (.seq (.reg /- 8 -/ [⟨(some 30), none, .q (.mv (.t 8))⟩,
      ⟨(some 31), none, .q (.mv (.t 30))⟩,
      ⟨(some 32), (some (31, true)), .q (.mv (.t 5))⟩,
      ⟨(some 33), (some (31, true)), .q (.not (.t 32))⟩,
      ⟨(some 34), (some (31, true)), .q (.mv (.t 33))⟩,
      ⟨(some 35), (some (34, false)), .q (.mv (.t 7))⟩,
      ⟨(some 36), (some (34, false)), .q (.mv (.t 4))⟩,
      ⟨(some 37), (some (34, false)), .q (.bin .lss true (.t 35) (.t 36))⟩,
      ⟨(some 38), (some (31, true)), .pick (.t 34) (.k (.bool true)) (.t 37)⟩,
      ⟨(some 39), none, .pick (.t 31) (.t 38) (.k (.bool false))⟩])
                        (.cond (.t 39)
                          (.reg /- 9 -/ [⟨(some 40), none, .q (.mv (.t 7))⟩,
      ⟨(some 4), none, .q (.mv (.t 40))⟩,
      ⟨(some 5), none, .q (.mv (.k (.bool true)))⟩])
                          (.skip))))))
                  (.reg /- 10 -/ [⟨(some 41), none, .q (.bin .add true (.t 16) (.k (.int .i64 1)))⟩,
      ⟨(some 16), none, .q (.mv (.t 41))⟩])))))))
        (.seq (.reg /- 11 -/ [⟨(some 42), none, .q (.mv (.t 4))⟩,
      ⟨(some 43), none, .q (.mv (.t 5))⟩,
      ⟨(some 2), none, .q (.mv (.t 42))⟩,
      ⟨(some 3), none, .q (.mv (.t 43))⟩])
          (.ret)))))
def rs16 : List RV := [.mv (.t 2), .mv (.t 3)]
theorem ok16 : trFn Try.prog true ⟨fun r k => if r = 7 ∧ k = 7 then .own [] else .own [], fun _ => false⟩ Try.f16 = some (pc16, rs16) := by kernel_rfl
/-- (*robotics/liveliness.Leases).Remove -/
def pc20 : PC :=
  .seq (.reg /- 0 -/ [⟨(some 4), none, .q (.mv (.k (.int .i64 0)))⟩])
  (.seq (.seq (.reg /- 1 -/ [⟨(some 6), none, .q (.mv (.t 0))⟩,
      ⟨(some 7), none, .q (.eqP false (.t 6) (.k (.pointer none)))⟩])
    (.cond (.t 7)
      (.seq (.reg /- 2 -/ [⟨(some 4), none, .q (.mv (.k (.int .i64 6)))⟩])
        (.ret))
      (.skip)))
    (.seq (.reg /- 3 -/ [⟨(some 8), none, .q (.mv (.t 0))⟩,
      ⟨(some 9), none, .q (.mv (.t 1))⟩,
      ⟨(some 10), none, .cl 22 [(.t 8), (.t 9)] [0, 1, 2]⟩,
      ⟨(some 5), none, .q (.mv (.t 10))⟩])
      (.seq (.seq (.reg /- 4 -/ [⟨(some 11), none, .q (.mv (.t 5))⟩,
      ⟨(some 12), none, .q (.bin .lss true (.t 11) (.k (.int .i64 0)))⟩])
        (.cond (.t 12)
          (.seq (.reg /- 5 -/ [⟨(some 4), none, .q (.mv (.k (.int .i64 6)))⟩])
            (.ret))
          (.skip)))
        (.seq (.reg /- 6 -/ [⟨(some 13), none, .q (.mv (.t 0))⟩,
      ⟨(some 14), none, .q (.mv (.t 0))⟩,
      ⟨(some 15), none, .q (.nc (.t 14))⟩,
      ⟨(some 16), none, .q (.fa 1 (.t 15))⟩,
      ⟨(some 17), none, .l (.ld1 (.t 16))⟩,
      ⟨(some 18), none, .q (.mv (.t 5))⟩,
      ⟨(some 19), none, .q (.mv (.t 5))⟩,
      ⟨(some 20), none, .q (.bin .add true (.t 19) (.k (.int .i64 1)))⟩,
      ⟨(some 21), none, .cl 32 [(.t 17), (.t 18), (.t 20)] [1]⟩,
      ⟨(some 22), none, .q (.nc (.t 13))⟩,
      ⟨(some 23), none, .q (.fa 1 (.t 22))⟩,
      ⟨none, none, .e (.st 1 (.t 23) (.t 21))⟩])
          (.seq (.reg /- 7 -/ [⟨(some 4), none, .q (.mv (.k (.int .i64 0)))⟩])
            (.ret))))))
def rs20 : List RV := [.mv (.t 4)]
theorem ok20 : trFn Try.prog true ⟨fun r k => if r = 3 ∧ k = 2 then .own [0, 1, 2] else if r = 6 ∧ k = 8 then .own [1] else .own [], fun _ => false⟩ Try.f20 = some (pc20, rs20) := by kernel_rfl
/-- robotics/liveliness.timely -/
def pc21 : PC :=
  .seq (.reg /- 0 -/ [⟨(some 2), none, .q (.mv (.k (.bool false)))⟩])
  (.seq (.reg /- 1 -/ [⟨(some 3), none, .q (.mv (.t 0))⟩,
      ⟨(some 4), none, .q (.bin .geq true (.t 3) (.k (.int .i64 0)))⟩,
      ⟨(some 5), none, .q (.mv (.t 4))⟩,
      ⟨(some 6), (some (5, true)), .q (.mv (.t 0))⟩,
      ⟨(some 7), (some (5, true)), .q (.bin .leq true (.t 6) (.k (.int .i64 1099511627776)))⟩,
      ⟨(some 8), none, .pick (.t 5) (.t 7) (.k (.bool false))⟩,
      ⟨(some 2), none, .q (.mv (.t 8))⟩])
    (.ret))
def rs21 : List RV := [.mv (.t 2)]
theorem ok21 : trFn Try.prog true ⟨fun _ _ => .own [], fun _ => false⟩ Try.f21 = some (pc21, rs21) := by kernel_rfl
/-- (*robotics/liveliness.Leases).find -/
def pc22 : PC :=
  .seq (.reg /- 0 -/ [⟨(some 4), none, .q (.mv (.k (.int .i64 0)))⟩])
  (.seq (.seq (.reg /- 1 -/ [⟨(some 6), none, .q (.mv (.t 0))⟩,
      ⟨(some 7), none, .q (.nc (.t 6))⟩,
      ⟨(some 8), none, .q (.fa 1 (.t 7))⟩,
      ⟨(some 9), none, .l (.ld1 (.t 8))⟩,
      ⟨(some 10), none, .q (.lnL (.t 9))⟩,
      ⟨(some 11), none, .q (.mv (.k (.int .i64 0)))⟩])
    (.block 0 (.loop (.seq (.reg /- 2 -/ [⟨(some 12), none, .q (.bin .lss true (.t 11) (.t 10))⟩])
          (.seq (.cond (.t 12)
            (.skip)
            (.exit 0))
            (.seq (.block 1 (.seq (.reg /- 3 -/ [⟨(some 13), none, .q (.mv (.t 11))⟩,
      ⟨(some 5), none, .q (.mv (.t 13))⟩])
                (.seq (.reg /- 4 -/ [⟨(some 14), none, .q (.mv (.t 0))⟩,
      ⟨(some 15), none, .q (.nc (.t 14))⟩,
      ⟨(some 16), none, .q (.fa 1 (.t 15))⟩,
      ⟨(some 17), none, .l (.ld1 (.t 16))⟩,
      ⟨(some 18), none, .q (.mv (.t 5))⟩,
      ⟨(some 19), none, .l (.ia 4 (.t 17) (.t 18))⟩,
      ⟨(some 20), none, .q (.fa 0 (.t 19))⟩,
      ⟨(some 21), none, .l (.ld1 (.t 20))⟩,
      ⟨(some 22), none, .q (.mv (.t 1))⟩,
      ⟨(some 23), none, .q (.bin .eql true (.t 21) (.t 22))⟩])
                  (.cond (.t 23)
                    (.seq (.reg /- 5 -/ [⟨(some 24), none, .q (.mv (.t 5))⟩,
      ⟨(some 4), none, .q (.mv (.t 24))⟩])
                      (.ret))
                    (.skip)))))
              (.reg /- 6 -/ [⟨(some 25), none, .q (.bin .add true (.t 11) (.k (.int .i64 1)))⟩,
      ⟨(some 11), none, .q (.mv (.t 25))⟩])))))))
    (.seq (.reg /- 7 -/ [⟨(some 4), none, .q (.mv (.k (.int .i64 (-1))))⟩])
      (.ret)))
def rs22 : List RV := [.mv (.t 4)]
theorem ok22 : trFn Try.prog true ⟨fun _ _ => .own [], fun _ => false⟩ Try.f22 = some (pc22, rs22) := by kernel_rfl
/-- (*robotics/liveliness.Leases).move -/
def pc23 : PC :=
  .seq (.reg /- 0 -/ [⟨(some 6), none, .q (.mv (.k (.slice none 0 0)))⟩])
  (.seq (.seq (.reg /- 1 -/ [⟨(some 10), none, .q (.mv (.t 0))⟩,
      ⟨(some 11), none, .q (.nc (.t 10))⟩,
      ⟨(some 12), none, .q (.fa 1 (.t 11))⟩,
      ⟨(some 13), none, .l (.ld1 (.t 12))⟩,
      ⟨(some 14), none, .q (.lnL (.t 13))⟩,
      ⟨(some 15), none, .q (.mv (.k (.int .i64 0)))⟩])
    (.block 0 (.loop (.seq (.reg /- 2 -/ [⟨(some 16), none, .q (.bin .lss true (.t 15) (.t 14))⟩])
          (.seq (.cond (.t 16)
            (.skip)
            (.exit 0))
            (.seq (.block 1 (.seq (.reg /- 3 -/ [⟨(some 17), none, .q (.mv (.t 15))⟩,
      ⟨(some 7), none, .q (.mv (.t 17))⟩])
                (.seq (.reg /- 4 -/ [⟨(some 19), none, .q (.mv (.t 0))⟩,
      ⟨(some 20), none, .q (.nc (.t 19))⟩,
      ⟨(some 21), none, .q (.fa 1 (.t 20))⟩,
      ⟨(some 22), none, .l (.ld1 (.t 21))⟩,
      ⟨(some 23), none, .q (.mv (.t 7))⟩,
      ⟨(some 24), none, .l (.ia 4 (.t 22) (.t 23))⟩,
      ⟨(some 25), none, .l (.ldn 4 (.t 24))⟩,
      ⟨(some 26), none, .cl 25 [(.t 25)] []⟩,
      ⟨(some 18), none, .q (.mv (.t 26))⟩,
      ⟨(some 27), none, .q (.ex (.t 18) 0)⟩,
      ⟨(some 28), none, .q (.ex (.t 18) 1)⟩,
      ⟨(some 8), none, .q (.mv (.t 27))⟩,
      ⟨(some 9), none, .q (.mv (.t 28))⟩])
                  (.seq (.reg /- 5 -/ [⟨(some 29), none, .q (.mv (.t 9))⟩,
      ⟨(some 30), none, .q (.mv (.t 29))⟩,
      ⟨(some 31), (some (30, true)), .q (.mv (.t 8))⟩,
      ⟨(some 32), (some (30, true)), .q (.mv (.t 2))⟩,
      ⟨(some 33), (some (30, true)), .q (.bin .lss true (.t 31) (.t 32))⟩,
      ⟨(some 34), none, .pick (.t 30) (.t 33) (.k (.bool false))⟩])
                    (.cond (.t 34)
                      (.seq (.reg /- 6 -/ [⟨(some 35), none, .q (.mv (.t 0))⟩,
      ⟨(some 36), none, .q (.nc (.t 35))⟩,
      ⟨(some 37), none, .q (.fa 1 (.t 36))⟩,
      ⟨(some 38), none, .l (.ld1 (.t 37))⟩,
      ⟨(some 39), none, .q (.mv (.t 7))⟩,
      ⟨(some 40), none, .l (.ia 4 (.t 38) (.t 39))⟩,
      ⟨(some 41), none, .q (.fa 3 (.t 40))⟩,
      ⟨none, none, .e (.st 1 (.t 41) (.k (.bool false)))⟩])
                        (.reg /- 7 -/ [⟨(some 42), none, .q (.mv (.t 6))⟩,
      ⟨(some 43), none, .q (.mv (.t 0))⟩,
      ⟨(some 44), none, .q (.nc (.t 43))⟩,
      ⟨(some 45), none, .q (.fa 1 (.t 44))⟩,
      ⟨(some 46), none, .l (.ld1 (.t 45))⟩,
      ⟨(some 47), none, .q (.mv (.t 7))⟩,
      ⟨(some 48), none, .l (.ia 4 (.t 46) (.t 47))⟩,
      ⟨(some 49), none, .q (.fa 0 (.t 48))⟩,
      ⟨(some 50), none, .l (.ld1 (.t 49))⟩,
      ⟨(some 51), none, .q (.mv (.t 8))⟩,
      ⟨(some 52), none, .q (.bd [(.int .i64 0), (.int .i64 0), (.bool false)] [(0, 1, (.t 50)), (1, 1, (.t 51))])⟩,
      ⟨(some 53), none, .e (.bsl 44 3 [(.t 52)])⟩,
      ⟨(some 54), none, .e (.ap 44 3 24 (.t 42) (.t 53))⟩,
      ⟨(some 6), none, .q (.mv (.t 54))⟩]))
                      (.skip))))))
              (.reg /- 8 -/ [⟨(some 55), none, .q (.bin .add true (.t 15) (.k (.int .i64 1)))⟩,
      ⟨(some 15), none, .q (.mv (.t 55))⟩])))))))
    (.seq (.reg /- 9 -/ [⟨(some 56), none, .q (.mv (.t 6))⟩,
      ⟨(some 57), none, .cl 24 [(.t 56)] [3]⟩])
      (.seq (.reg /- 10 -/ [⟨(some 58), none, .q (.mv (.t 0))⟩,
      ⟨(some 59), none, .q (.mv (.t 0))⟩,
      ⟨(some 60), none, .q (.nc (.t 59))⟩,
      ⟨(some 61), none, .q (.fa 2 (.t 60))⟩,
      ⟨(some 62), none, .l (.ld1 (.t 61))⟩,
      ⟨(some 63), none, .q (.mv (.t 6))⟩,
      ⟨(some 64), none, .e (.ap 44 3 24 (.t 62) (.t 63))⟩,
      ⟨(some 65), none, .q (.nc (.t 58))⟩,
      ⟨(some 66), none, .q (.fa 2 (.t 65))⟩,
      ⟨none, none, .e (.st 1 (.t 66) (.t 64))⟩])
        (.reg /- 11 -/ [⟨(some 67), none, .q (.mv (.t 0))⟩,
      ⟨(some 68), none, .q (.mv (.t 1))⟩,
      ⟨(some 69), none, .q (.nc (.t 67))⟩,
      ⟨(some 70), none, .q (.fa 0 (.t 69))⟩,
      ⟨none, none, .e (.st 1 (.t 70) (.t 68))⟩]))))
def rs23 : List RV := []
theorem ok23 : trFn Try.prog true ⟨fun r k => if r = 4 ∧ k = 7 then .own [] else if r = 9 ∧ k = 1 then .own [3] else .own [], fun _ => false⟩ Try.f23 = some (pc23, rs23) := by kernel_rfl
/-- (robotics/liveliness.lease).until -/
def pc25 : PC :=
  .seq (.reg /- 0 -/ [⟨(some 1), none, .e (.bx 63 (.t 0))⟩,
      ⟨(some 2), none, .q (.mv (.k (.int .i64 0)))⟩,
      ⟨(some 3), none, .q (.mv (.k (.bool false)))⟩])
  (.seq (.reg /- 1 -/ [⟨(some 4), none, .q (.fa 2 (.t 1))⟩,
      ⟨(some 5), none, .l (.ld1 (.t 4))⟩,
      ⟨(some 6), none, .q (.fa 1 (.t 1))⟩,
      ⟨(some 7), none, .l (.ld1 (.t 6))⟩,
      ⟨(some 8), none, .q (.bin .add true (.t 5) (.t 7))⟩,
      ⟨(some 9), none, .q (.fa 3 (.t 1))⟩,
      ⟨(some 10), none, .l (.ld1 (.t 9))⟩,
      ⟨(some 11), none, .q (.mv (.t 10))⟩,
      ⟨(some 12), (some (11, true)), .q (.fa 1 (.t 1))⟩,
      ⟨(some 13), (some (11, true)), .l (.ld1 (.t 12))⟩,
      ⟨(some 14), (some (11, true)), .q (.bin .gtr true (.t 13) (.k (.int .i64 0)))⟩,
      ⟨(some 15), none, .pick (.t 11) (.t 14) (.k (.bool false))⟩,
      ⟨(some 2), none, .q (.mv (.t 8))⟩,
      ⟨(some 3), none, .q (.mv (.t 15))⟩])
    (.ret))
def rs25 : List RV := [.mv (.t 2), .mv (.t 3)]
theorem ok25 : trFn Try.prog true ⟨fun _ _ => .own [], fun _ => false⟩ Try.f25 = some (pc25, rs25) := by kernel_rfl
end Go.Proofs.Ytngmjggconefcaa
