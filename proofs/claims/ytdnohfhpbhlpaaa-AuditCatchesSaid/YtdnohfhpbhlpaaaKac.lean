/- Lemmas and walks for the proof. -/
import Derived.Test.YtdnohfhpbhlpaaaKab
import Derived.Test.YtdnohfhpbhlpaaaProg
namespace Go.Proofs.Ytdnohfhpbhlpaaa
open Go.W
/-- slices.SortStableFunc[[]robotics/audit.found,robotics/audit.found] -/
def pc24 : PC :=
  .reg /- 0 -/ [⟨(some 4), none, .q (.mv (.t 0))⟩,
      ⟨(some 5), none, .q (.mv (.t 0))⟩,
      ⟨(some 6), none, .q (.lnL (.t 5))⟩,
      ⟨(some 7), none, .q (.mv (.t 1))⟩,
      ⟨(some 8), none, .cl 47 [(.t 4), (.t 6), (.t 7)] [0]⟩]
def rs24 : List RV := []
theorem ok24 : trFn Try.prog true ⟨fun r k => if r = 0 ∧ k = 4 then .own [0] else .own [], fun _ => false⟩ Try.f24 = some (pc24, rs24) := by kernel_rfl
/-- robotics/audit.Contracts$1 -/
def pc25 : PC :=
  .seq (.reg /- 0 -/ [⟨(some 2), none, .e (.bx 68 (.t 0))⟩,
      ⟨(some 3), none, .e (.bx 68 (.t 1))⟩,
      ⟨(some 4), none, .q (.mv (.k (.int .i64 0)))⟩])
  (.seq (.reg /- 1 -/ [⟨(some 5), none, .q (.fa 0 (.t 2))⟩,
      ⟨(some 6), none, .l (.ld1 (.t 5))⟩,
      ⟨(some 7), none, .q (.fa 0 (.t 3))⟩,
      ⟨(some 8), none, .l (.ld1 (.t 7))⟩,
      ⟨(some 9), none, .cq 27 [(.t 6), (.t 8)]⟩,
      ⟨(some 10), none, .q (.fa 1 (.t 2))⟩,
      ⟨(some 11), none, .q (.fa 2 (.t 10))⟩,
      ⟨(some 12), none, .l (.ld1 (.t 11))⟩,
      ⟨(some 13), none, .q (.fa 1 (.t 3))⟩,
      ⟨(some 14), none, .q (.fa 2 (.t 13))⟩,
      ⟨(some 15), none, .l (.ld1 (.t 14))⟩,
      ⟨(some 16), none, .cq 27 [(.t 12), (.t 15)]⟩,
      ⟨(some 17), none, .q (.fa 1 (.t 2))⟩,
      ⟨(some 18), none, .q (.fa 3 (.t 17))⟩,
      ⟨(some 19), none, .l (.ld1 (.t 18))⟩,
      ⟨(some 20), none, .q (.fa 1 (.t 3))⟩,
      ⟨(some 21), none, .q (.fa 3 (.t 20))⟩,
      ⟨(some 22), none, .l (.ld1 (.t 21))⟩,
      ⟨(some 23), none, .cq 27 [(.t 19), (.t 22)]⟩,
      ⟨(some 24), none, .q (.fa 1 (.t 2))⟩,
      ⟨(some 25), none, .q (.fa 0 (.t 24))⟩,
      ⟨(some 26), none, .l (.ld1 (.t 25))⟩,
      ⟨(some 27), none, .q (.fa 1 (.t 3))⟩,
      ⟨(some 28), none, .q (.fa 0 (.t 27))⟩,
      ⟨(some 29), none, .l (.ld1 (.t 28))⟩,
      ⟨(some 30), none, .cq 27 [(.t 26), (.t 29)]⟩,
      ⟨(some 31), none, .q (.fa 1 (.t 2))⟩,
      ⟨(some 32), none, .q (.fa 1 (.t 31))⟩,
      ⟨(some 33), none, .l (.ld1 (.t 32))⟩,
      ⟨(some 34), none, .q (.fa 1 (.t 3))⟩,
      ⟨(some 35), none, .q (.fa 1 (.t 34))⟩,
      ⟨(some 36), none, .l (.ld1 (.t 35))⟩,
      ⟨(some 37), none, .cq 27 [(.t 33), (.t 36)]⟩,
      ⟨(some 38), none, .e (.bsl 3 1 [(.t 9), (.t 16), (.t 23), (.t 30), (.t 37)])⟩,
      ⟨(some 39), none, .cq 26 [(.t 38)]⟩,
      ⟨(some 4), none, .q (.mv (.t 39))⟩])
    (.ret))
def rs25 : List RV := [.mv (.t 4)]
theorem ok25 : trFn Try.prog true ⟨fun r k => if r = 1 ∧ k = 4 then .q else if r = 1 ∧ k = 11 then .q else if r = 1 ∧ k = 18 then .q else if r = 1 ∧ k = 25 then .q else if r = 1 ∧ k = 32 then .q else if r = 1 ∧ k = 34 then .q else .own [], fun _ => false⟩ Try.f25 = some (pc25, rs25) := by kernel_rfl
/-- cmp.Or[int] -/
def pc26 : PC :=
  .seq (.reg /- 0 -/ [⟨(some 2), none, .q (.mv (.k (.int .i64 0)))⟩])
  (.seq (.reg /- 1 -/ [⟨(some 3), none, .q (.mv (.k (.int .i64 0)))⟩])
    (.seq (.seq (.reg /- 2 -/ [⟨(some 6), none, .q (.mv (.t 0))⟩,
      ⟨(some 7), none, .q (.lnL (.t 6))⟩,
      ⟨(some 8), none, .q (.mv (.k (.int .i64 0)))⟩])
      (.block 0 (.loop (.seq (.reg /- 3 -/ [⟨(some 9), none, .q (.bin .lss true (.t 8) (.t 7))⟩])
            (.seq (.cond (.t 9)
              (.skip)
              (.exit 0))
              (.seq (.block 1 (.seq (.reg /- 4 -/ [⟨(some 10), none, .l (.ia 1 (.t 6) (.t 8))⟩,
      ⟨(some 11), none, .l (.ld1 (.t 10))⟩,
      ⟨(some 5), none, .q (.mv (.t 11))⟩])
                  (.seq (.reg /- 5 -/ [⟨(some 12), none, .q (.mv (.t 5))⟩,
      ⟨(some 13), none, .q (.mv (.t 3))⟩,
      ⟨(some 14), none, .q (.bin .neq true (.t 12) (.t 13))⟩])
                    (.cond (.t 14)
                      (.seq (.reg /- 6 -/ [⟨(some 15), none, .q (.mv (.t 5))⟩,
      ⟨(some 2), none, .q (.mv (.t 15))⟩])
                        (.ret))
                      (.skip)))))
                (.reg /- 7 -/ [⟨(some 16), none, .q (.bin .add true (.t 8) (.k (.int .i64 1)))⟩,
      ⟨(some 8), none, .q (.mv (.t 16))⟩])))))))
      (.seq (.reg /- 8 -/ [⟨(some 17), none, .q (.mv (.t 3))⟩,
      ⟨(some 2), none, .q (.mv (.t 17))⟩])
        (.ret))))
def rs26 : List RV := [.mv (.t 2)]
theorem ok26 : trFn Try.prog true ⟨fun _ _ => .own [], fun _ => false⟩ Try.f26 = some (pc26, rs26) := by kernel_rfl
/-- cmp.Compare[int] -/
def pc27 : PC :=
  .seq (.reg /- 0 -/ [⟨(some 4), none, .q (.mv (.k (.int .i64 0)))⟩])
  (.seq (.reg /- 1 -/ [⟨(some 7), none, .q (.mv (.t 0))⟩,
      ⟨(some 8), none, .cq 48 [(.t 7)]⟩,
      ⟨(some 5), none, .q (.mv (.t 8))⟩])
    (.seq (.reg /- 2 -/ [⟨(some 9), none, .q (.mv (.t 1))⟩,
      ⟨(some 10), none, .cq 48 [(.t 9)]⟩,
      ⟨(some 6), none, .q (.mv (.t 10))⟩])
      (.seq (.seq (.reg /- 3 -/ [⟨(some 11), none, .q (.mv (.t 5))⟩])
        (.cond (.t 11)
          (.seq (.seq (.reg /- 4 -/ [⟨(some 12), none, .q (.mv (.t 6))⟩])
            (.cond (.t 12)
              (.seq (.reg /- 5 -/ [⟨(some 4), none, .q (.mv (.k (.int .i64 0)))⟩])
                (.ret))
              (.skip)))
            (.seq (.reg /- 6 -/ [⟨(some 4), none, .q (.mv (.k (.int .i64 (-1))))⟩])
              (.ret)))
          (.skip)))
        (.seq (.seq (.reg /- 7 -/ [⟨(some 13), none, .q (.mv (.t 6))⟩])
          (.cond (.t 13)
            (.seq (.reg /- 8 -/ [⟨(some 4), none, .q (.mv (.k (.int .i64 1)))⟩])
              (.ret))
            (.skip)))
          (.seq (.seq (.reg /- 9 -/ [⟨(some 14), none, .q (.mv (.t 0))⟩,
      ⟨(some 15), none, .q (.mv (.t 1))⟩,
      ⟨(some 16), none, .q (.bin .lss true (.t 14) (.t 15))⟩])
            (.cond (.t 16)
              (.seq (.reg /- 10 -/ [⟨(some 4), none, .q (.mv (.k (.int .i64 (-1))))⟩])
                (.ret))
              (.skip)))
            (.seq (.seq (.reg /- 11 -/ [⟨(some 17), none, .q (.mv (.t 0))⟩,
      ⟨(some 18), none, .q (.mv (.t 1))⟩,
      ⟨(some 19), none, .q (.bin .gtr true (.t 17) (.t 18))⟩])
              (.cond (.t 19)
                (.seq (.reg /- 12 -/ [⟨(some 4), none, .q (.mv (.k (.int .i64 1)))⟩])
                  (.ret))
                (.skip)))
              (.seq (.reg /- 13 -/ [⟨(some 4), none, .q (.mv (.k (.int .i64 0)))⟩])
                (.ret))))))))
def rs27 : List RV := [.mv (.t 4)]
theorem ok27 : trFn Try.prog true ⟨fun r k => if r = 1 ∧ k = 1 then .q else if r = 2 ∧ k = 1 then .q else .own [], fun _ => false⟩ Try.f27 = some (pc27, rs27) := by kernel_rfl
/-- slices.stableCmpFunc[robotics/audit.found] -/
def pc47 : PC :=
  .seq (.reg /- 0 -/ [⟨(some 6), none, .q (.mv (.k (.int .i64 20)))⟩])
  (.seq (.reg /- 1 -/ [⟨(some 10), none, .q (.mv (.t 6))⟩,
      ⟨(some 7), none, .q (.mv (.k (.int .i64 0)))⟩,
      ⟨(some 8), none, .q (.mv (.t 10))⟩])
    (.seq (.block 0 (.loop (.seq (.seq (.reg /- 2 -/ [⟨(some 11), none, .q (.mv (.t 8))⟩,
      ⟨(some 12), none, .q (.mv (.t 1))⟩,
      ⟨(some 13), none, .q (.bin .leq true (.t 11) (.t 12))⟩])
          (.cond (.t 13)
            (.skip)
            (.exit 0)))
          (.block 1 (.seq (.reg /- 3 -/ [⟨(some 14), none, .q (.mv (.t 0))⟩,
      ⟨(some 15), none, .q (.mv (.t 7))⟩,
      ⟨(some 16), none, .q (.mv (.t 8))⟩,
      ⟨(some 17), none, .q (.mv (.t 2))⟩,
      ⟨(some 18), none, .cl 60 [(.t 14), (.t 15), (.t 16), (.t 17)] [0]⟩])
              (.seq (.reg /- 4 -/ [⟨(some 19), none, .q (.mv (.t 8))⟩,
      ⟨(some 7), none, .q (.mv (.t 19))⟩])
                (.reg /- 5 -/ [⟨(some 20), none, .q (.mv (.t 8))⟩,
      ⟨(some 21), none, .q (.mv (.t 6))⟩,
      ⟨(some 22), none, .q (.bin .add true (.t 20) (.t 21))⟩,
      ⟨(some 8), none, .q (.mv (.t 22))⟩])))))))
      (.seq (.reg /- 6 -/ [⟨(some 23), none, .q (.mv (.t 0))⟩,
      ⟨(some 24), none, .q (.mv (.t 7))⟩,
      ⟨(some 25), none, .q (.mv (.t 1))⟩,
      ⟨(some 26), none, .q (.mv (.t 2))⟩,
      ⟨(some 27), none, .cl 60 [(.t 23), (.t 24), (.t 25), (.t 26)] [0]⟩])
        (.block 2 (.loop (.seq (.seq (.reg /- 7 -/ [⟨(some 28), none, .q (.mv (.t 6))⟩,
      ⟨(some 29), none, .q (.mv (.t 1))⟩,
      ⟨(some 30), none, .q (.bin .lss true (.t 28) (.t 29))⟩])
              (.cond (.t 30)
                (.skip)
                (.exit 2)))
              (.block 3 (.seq (.reg /- 8 -/ [⟨(some 31), none, .q (.mv (.t 6))⟩,
      ⟨(some 32), none, .q (.bin .mul true (.k (.int .i64 2)) (.t 31))⟩,
      ⟨(some 7), none, .q (.mv (.k (.int .i64 0)))⟩,
      ⟨(some 8), none, .q (.mv (.t 32))⟩])
                  (.seq (.block 4 (.loop (.seq (.seq (.reg /- 9 -/ [⟨(some 33), none, .q (.mv (.t 8))⟩,
      ⟨(some 34), none, .q (.mv (.t 1))⟩,
      ⟨(some 35), none, .q (.bin .leq true (.t 33) (.t 34))⟩])
                        (.cond (.t 35)
                          (.skip)
                          (.exit 4)))
                        (.block 5 (.seq (.reg /- 10 -/ [⟨(some 36), none, .q (.mv (.t 0))⟩,
      ⟨(some 37), none, .q (.mv (.t 7))⟩,
      ⟨(some 38), none, .q (.mv (.t 7))⟩,
      ⟨(some 39), none, .q (.mv (.t 6))⟩,
      ⟨(some 40), none, .q (.bin .add true (.t 38) (.t 39))⟩,
      ⟨(some 41), none, .q (.mv (.t 8))⟩,
      ⟨(some 42), none, .q (.mv (.t 2))⟩,
      ⟨(some 43), none, .cl 61 [(.t 36), (.t 37), (.t 40), (.t 41), (.t 42)] [0]⟩])
                            (.seq (.reg /- 11 -/ [⟨(some 44), none, .q (.mv (.t 8))⟩,
      ⟨(some 7), none, .q (.mv (.t 44))⟩])
                              (.reg /- 12 -/ [⟨(some 45), none, .q (.mv (.t 8))⟩,
      ⟨(some 46), none, .q (.mv (.t 6))⟩,
      ⟨(some 47), none, .q (.bin .mul true (.k (.int .i64 2)) (.t 46))⟩,
      ⟨(some 48), none, .q (.bin .add true (.t 45) (.t 47))⟩,
      ⟨(some 8), none, .q (.mv (.t 48))⟩])))))))
                    (.seq (.seq (.reg /- 13 -/ [⟨(some 49), none, .q (.mv (.t 7))⟩,
      ⟨(some 50), none, .q (.mv (.t 6))⟩,
      ⟨(some 51), none, .q (.bin .add true (.t 49) (.t 50))⟩,
      ⟨(some 9), none, .q (.mv (.t 51))⟩])
                      (.seq (.reg /- 14 -/ [⟨(some 52), none, .q (.mv (.t 9))⟩,
      ⟨(some 53), none, .q (.mv (.t 1))⟩,
      ⟨(some 54), none, .q (.bin .lss true (.t 52) (.t 53))⟩])
                        (.cond (.t 54)
                          (.reg /- 15 -/ [⟨(some 55), none, .q (.mv (.t 0))⟩,
      ⟨(some 56), none, .q (.mv (.t 7))⟩,
      ⟨(some 57), none, .q (.mv (.t 9))⟩,
      ⟨(some 58), none, .q (.mv (.t 1))⟩,
      ⟨(some 59), none, .q (.mv (.t 2))⟩,
      ⟨(some 60), none, .cl 61 [(.t 55), (.t 56), (.t 57), (.t 58), (.t 59)] [0]⟩])
                          (.skip))))
                      (.reg /- 16 -/ [⟨(some 61), none, .q (.mv (.t 6))⟩,
      ⟨(some 62), none, .q (.bin .mul true (.t 61) (.k (.int .i64 2)))⟩,
      ⟨(some 6), none, .q (.mv (.t 62))⟩])))))))))))
def rs47 : List RV := []
theorem ok47 : trFn Try.prog true ⟨fun r k => if r = 3 ∧ k = 4 then .own [0] else if r = 6 ∧ k = 4 then .own [0] else if r = 10 ∧ k = 7 then .own [0] else if r = 15 ∧ k = 5 then .own [0] else .own [], fun _ => false⟩ Try.f47 = some (pc47, rs47) := by kernel_rfl
/-- cmp.isNaN[int] -/
def pc48 : PC :=
  .seq (.reg /- 0 -/ [⟨(some 2), none, .q (.mv (.k (.bool false)))⟩])
  (.seq (.reg /- 1 -/ [⟨(some 3), none, .q (.mv (.t 0))⟩,
      ⟨(some 4), none, .q (.mv (.t 0))⟩,
      ⟨(some 5), none, .q (.bin .neq true (.t 3) (.t 4))⟩,
      ⟨(some 2), none, .q (.mv (.t 5))⟩])
    (.ret))
def rs48 : List RV := [.mv (.t 2)]
theorem ok48 : trFn Try.prog true ⟨fun _ _ => .own [], fun _ => false⟩ Try.f48 = some (pc48, rs48) := by kernel_rfl
/-- slices.insertionSortCmpFunc[robotics/audit.found] -/
def pc60 : PC :=
  .seq (.reg /- 0 -/ [⟨(some 10), none, .q (.mv (.t 1))⟩,
      ⟨(some 11), none, .q (.bin .add true (.t 10) (.k (.int .i64 1)))⟩,
      ⟨(some 8), none, .q (.mv (.t 11))⟩])
  (.block 0 (.loop (.seq (.seq (.reg /- 1 -/ [⟨(some 12), none, .q (.mv (.t 8))⟩,
      ⟨(some 13), none, .q (.mv (.t 2))⟩,
      ⟨(some 14), none, .q (.bin .lss true (.t 12) (.t 13))⟩])
        (.cond (.t 14)
          (.skip)
          (.exit 0)))
        (.seq (.block 1 (.seq (.reg /- 3 -/ [⟨(some 17), none, .q (.mv (.t 8))⟩,
      ⟨(some 9), none, .q (.mv (.t 17))⟩])
            (.block 2 (.loop (.seq (.seq (.reg /- 4 -/ [⟨(some 18), none, .q (.mv (.t 9))⟩,
      ⟨(some 19), none, .q (.mv (.t 1))⟩,
      ⟨(some 20), none, .q (.bin .gtr true (.t 18) (.t 19))⟩,
      ⟨(some 21), none, .q (.mv (.t 20))⟩,
      ⟨(some 22), (some (21, true)), .q (.mv (.t 3))⟩,
      ⟨(some 23), (some (21, true)), .q (.mv (.t 0))⟩,
      ⟨(some 24), (some (21, true)), .q (.mv (.t 9))⟩,
      ⟨(some 25), (some (21, true)), .l (.ia 5 (.t 23) (.t 24))⟩,
      ⟨(some 26), (some (21, true)), .l (.ldn 5 (.t 25))⟩,
      ⟨(some 27), (some (21, true)), .q (.mv (.t 0))⟩,
      ⟨(some 28), (some (21, true)), .q (.mv (.t 9))⟩,
      ⟨(some 29), (some (21, true)), .q (.bin .sub true (.t 28) (.k (.int .i64 1)))⟩,
      ⟨(some 30), (some (21, true)), .l (.ia 5 (.t 27) (.t 29))⟩,
      ⟨(some 31), (some (21, true)), .l (.ldn 5 (.t 30))⟩,
      ⟨(some 32), (some (21, true)), .ca (.t 22) [(.t 26), (.t 31)] []⟩,
      ⟨(some 33), (some (21, true)), .q (.bin .lss true (.t 32) (.k (.int .i64 0)))⟩,
      ⟨(some 34), none, .pick (.t 21) (.t 33) (.k (.bool false))⟩])
                  (.cond (.t 34)
                    (.skip)
                    (.exit 2)))
                  (.seq (.block 3 (.reg /- 6 -/ [⟨(some 39), none, .q (.mv (.t 0))⟩,
      ⟨(some 40), none, .q (.mv (.t 9))⟩,
      ⟨(some 41), none, .q (.bin .sub true (.t 40) (.k (.int .i64 1)))⟩,
      ⟨(some 37), none, .q (.mv (.t 0))⟩,
      ⟨(some 38), none, .q (.mv (.t 9))⟩,
      ⟨(some 42), none, .q (.mv (.t 0))⟩,
      ⟨(some 43), none, .q (.mv (.t 9))⟩,
      ⟨(some 44), none, .q (.bin .sub true (.t 43) (.k (.int .i64 1)))⟩,
      ⟨(some 45), none, .l (.ia 5 (.t 42) (.t 44))⟩,
      ⟨(some 46), none, .l (.ldn 5 (.t 45))⟩,
      ⟨(some 47), none, .q (.mv (.t 0))⟩,
      ⟨(some 48), none, .q (.mv (.t 9))⟩,
      ⟨(some 49), none, .l (.ia 5 (.t 47) (.t 48))⟩,
      ⟨(some 50), none, .l (.ldn 5 (.t 49))⟩,
      ⟨(some 51), none, .l (.ia 5 (.t 37) (.t 38))⟩,
      ⟨none, none, .e (.st 5 (.t 51) (.t 46))⟩,
      ⟨(some 52), none, .l (.ia 5 (.t 39) (.t 41))⟩,
      ⟨none, none, .e (.st 5 (.t 52) (.t 50))⟩]))
                    (.reg /- 5 -/ [⟨(some 35), none, .q (.mv (.t 9))⟩,
      ⟨(some 36), none, .q (.bin .sub true (.t 35) (.k (.int .i64 1)))⟩,
      ⟨(some 9), none, .q (.mv (.t 36))⟩])))))))
          (.reg /- 2 -/ [⟨(some 15), none, .q (.mv (.t 8))⟩,
      ⟨(some 16), none, .q (.bin .add true (.t 15) (.k (.int .i64 1)))⟩,
      ⟨(some 8), none, .q (.mv (.t 16))⟩])))))
def rs60 : List RV := []
theorem ok60 : trFn Try.prog true ⟨fun _ _ => .own [], fun _ => false⟩ Try.f60 = some (pc60, rs60) := by kernel_rfl
/- slices.symMergeCmpFunc[robotics/audit.found] -/
def pc61_43 : PC :=
  .seq (.gh (.reg /- 43 -/ [⟨(some 206), none, .q (.mv (.t 18))⟩,
      ⟨(some 207), none, .q (.mv (.t 24))⟩,
      ⟨(some 208), none, .q (.bin .lss true (.t 206) (.t 207))⟩,
      ⟨(some 209), none, .q (.mv (.t 208))⟩,
      ⟨(some 210), (some (209, true)), .q (.mv (.t 24))⟩,
      ⟨(some 211), (some (209, true)), .q (.mv (.t 3))⟩,
      ⟨(some 212), (some (209, true)), .q (.bin .lss true (.t 210) (.t 211))⟩,
      ⟨(some 213), none, .pick (.t 209) (.t 212) (.k (.bool false))⟩]))
  (.cond (.t 213)
    (.reg /- 44 -/ [⟨(some 214), none, .q (.mv (.t 0))⟩,
      ⟨(some 215), none, .q (.mv (.t 18))⟩,
      ⟨(some 216), none, .q (.mv (.t 24))⟩,
      ⟨(some 217), none, .q (.mv (.t 3))⟩,
      ⟨(some 218), none, .q (.mv (.t 4))⟩,
      ⟨(some 219), none, .cl 61 [(.t 214), (.t 215), (.t 216), (.t 217), (.t 218)] [0]⟩])
    (.skip))
@[go_sem ↓] theorem fold61_43 (Γ : Env) (k0 : Nat) (fr : Fr) (H : Hp) (K : Ex → Fr → Hp → Prop) : vc Γ k0 pc61_43 fr H K = vcn Γ k0 pc61_43 fr H K ⟨⟩ := rfl
def pc61_41 : PC :=
  .seq (.seq (.gh (.reg /- 41 -/ [⟨(some 192), none, .q (.mv (.t 1))⟩,
      ⟨(some 193), none, .q (.mv (.t 20))⟩,
      ⟨(some 194), none, .q (.bin .lss true (.t 192) (.t 193))⟩,
      ⟨(some 195), none, .q (.mv (.t 194))⟩,
      ⟨(some 196), (some (195, true)), .q (.mv (.t 20))⟩,
      ⟨(some 197), (some (195, true)), .q (.mv (.t 18))⟩,
      ⟨(some 198), (some (195, true)), .q (.bin .lss true (.t 196) (.t 197))⟩,
      ⟨(some 199), none, .pick (.t 195) (.t 198) (.k (.bool false))⟩]))
  (.cond (.t 199)
    (.reg /- 42 -/ [⟨(some 200), none, .q (.mv (.t 0))⟩,
      ⟨(some 201), none, .q (.mv (.t 1))⟩,
      ⟨(some 202), none, .q (.mv (.t 20))⟩,
      ⟨(some 203), none, .q (.mv (.t 18))⟩,
      ⟨(some 204), none, .q (.mv (.t 4))⟩,
      ⟨(some 205), none, .cl 61 [(.t 200), (.t 201), (.t 202), (.t 203), (.t 204)] [0]⟩])
    (.skip)))
  (pc61_43)
@[go_sem ↓] theorem fold61_41 (Γ : Env) (k0 : Nat) (fr : Fr) (H : Hp) (K : Ex → Fr → Hp → Prop) : vc Γ k0 pc61_41 fr H K = vcn Γ k0 pc61_41 fr H K ⟨⟩ := rfl
def pc61_38 : PC :=
  .seq (.gh (.reg /- 38 -/ [⟨(some 175), none, .q (.mv (.t 19))⟩,
      ⟨(some 176), none, .q (.mv (.t 20))⟩,
      ⟨(some 177), none, .q (.bin .sub true (.t 175) (.t 176))⟩,
      ⟨(some 24), none, .q (.mv (.t 177))⟩]))
  (.seq (.seq (.reg /- 39 -/ [⟨(some 178), none, .q (.mv (.t 20))⟩,
      ⟨(some 179), none, .q (.mv (.t 2))⟩,
      ⟨(some 180), none, .q (.bin .lss true (.t 178) (.t 179))⟩,
      ⟨(some 181), none, .q (.mv (.t 180))⟩,
      ⟨(some 182), (some (181, true)), .q (.mv (.t 2))⟩,
      ⟨(some 183), (some (181, true)), .q (.mv (.t 24))⟩,
      ⟨(some 184), (some (181, true)), .q (.bin .lss true (.t 182) (.t 183))⟩,
      ⟨(some 185), none, .pick (.t 181) (.t 184) (.k (.bool false))⟩])
    (.cond (.t 185)
      (.reg /- 40 -/ [⟨(some 186), none, .q (.mv (.t 0))⟩,
      ⟨(some 187), none, .q (.mv (.t 20))⟩,
      ⟨(some 188), none, .q (.mv (.t 2))⟩,
      ⟨(some 189), none, .q (.mv (.t 24))⟩,
      ⟨(some 190), none, .q (.mv (.t 4))⟩,
      ⟨(some 191), none, .cl 63 [(.t 186), (.t 187), (.t 188), (.t 189), (.t 190)] [0]⟩])
      (.skip)))
    (pc61_41))
@[go_sem ↓] theorem fold61_38 (Γ : Env) (k0 : Nat) (fr : Fr) (H : Hp) (K : Ex → Fr → Hp → Prop) : vc Γ k0 pc61_38 fr H K = vcn Γ k0 pc61_38 fr H K ⟨⟩ := rfl
def pc61_32 : PC :=
  .seq (.gh (.reg /- 32 -/ [⟨(some 147), none, .q (.mv (.t 19))⟩,
      ⟨(some 148), none, .q (.bin .sub true (.t 147) (.k (.int .i64 1)))⟩,
      ⟨(some 22), none, .q (.mv (.t 148))⟩]))
  (.seq (.block 8 (.loop (.seq (.seq (.reg /- 33 -/ [⟨(some 149), none, .q (.mv (.t 20))⟩,
      ⟨(some 150), none, .q (.mv (.t 21))⟩,
      ⟨(some 151), none, .q (.bin .lss true (.t 149) (.t 150))⟩])
        (.cond (.t 151)
          (.skip)
          (.exit 8)))
        (.block 9 (.seq (.reg /- 34 -/ [⟨(some 152), none, .q (.mv (.t 20))⟩,
      ⟨(some 153), none, .q (.mv (.t 21))⟩,
      ⟨(some 154), none, .q (.bin .add true (.t 152) (.t 153))⟩,
      ⟨(some 155), none, .q (.cvt .u64 (.t 154))⟩,
      ⟨(some 156), none, .q (.bin .shr true (.t 155) (.k (.int .u64 1)))⟩,
      ⟨(some 157), none, .q (.cvt .i64 (.t 156))⟩,
      ⟨(some 23), none, .q (.mv (.t 157))⟩])
            (.seq (.reg /- 35 -/ [⟨(some 158), none, .q (.mv (.t 4))⟩,
      ⟨(some 159), none, .q (.mv (.t 0))⟩,
      ⟨(some 160), none, .q (.mv (.t 22))⟩,
      ⟨(some 161), none, .q (.mv (.t 23))⟩,
      ⟨(some 162), none, .q (.bin .sub true (.t 160) (.t 161))⟩,
      ⟨(some 163), none, .l (.ia 5 (.t 159) (.t 162))⟩,
      ⟨(some 164), none, .l (.ldn 5 (.t 163))⟩,
      ⟨(some 165), none, .q (.mv (.t 0))⟩,
      ⟨(some 166), none, .q (.mv (.t 23))⟩,
      ⟨(some 167), none, .l (.ia 5 (.t 165) (.t 166))⟩,
      ⟨(some 168), none, .l (.ldn 5 (.t 167))⟩,
      ⟨(some 169), none, .ca (.t 158) [(.t 164), (.t 168)] []⟩,
      ⟨(some 170), none, .q (.bin .lss true (.t 169) (.k (.int .i64 0)))⟩,
      ⟨(some 171), none, .q (.not (.t 170))⟩])
              (.cond (.t 171)
                (.reg /- 36 -/ [⟨(some 172), none, .q (.mv (.t 23))⟩,
      ⟨(some 173), none, .q (.bin .add true (.t 172) (.k (.int .i64 1)))⟩,
      ⟨(some 20), none, .q (.mv (.t 173))⟩])
                (.reg /- 37 -/ [⟨(some 174), none, .q (.mv (.t 23))⟩,
      ⟨(some 21), none, .q (.mv (.t 174))⟩]))))))))
    (pc61_38))
@[go_sem ↓] theorem fold61_32 (Γ : Env) (k0 : Nat) (fr : Fr) (H : Hp) (K : Ex → Fr → Hp → Prop) : vc Γ k0 pc61_32 fr H K = vcn Γ k0 pc61_32 fr H K ⟨⟩ := rfl
def pc61_24 : PC :=
  .seq (.gh (.reg /- 24 -/ [⟨(some 129), none, .q (.mv (.t 1))⟩,
      ⟨(some 130), none, .q (.mv (.t 3))⟩,
      ⟨(some 131), none, .q (.bin .add true (.t 129) (.t 130))⟩,
      ⟨(some 132), none, .q (.cvt .u64 (.t 131))⟩,
      ⟨(some 133), none, .q (.bin .shr true (.t 132) (.k (.int .u64 1)))⟩,
      ⟨(some 134), none, .q (.cvt .i64 (.t 133))⟩,
      ⟨(some 18), none, .q (.mv (.t 134))⟩]))
  (.seq (.reg /- 25 -/ [⟨(some 135), none, .q (.mv (.t 18))⟩,
      ⟨(some 136), none, .q (.mv (.t 2))⟩,
      ⟨(some 137), none, .q (.bin .add true (.t 135) (.t 136))⟩,
      ⟨(some 19), none, .q (.mv (.t 137))⟩])
    (.seq (.reg /- 26 -/ [⟨(some 20), none, .q (.mv (.k (.int .i64 0)))⟩,
      ⟨(some 21), none, .q (.mv (.k (.int .i64 0)))⟩])
      (.seq (.seq (.reg /- 27 -/ [⟨(some 138), none, .q (.mv (.t 2))⟩,
      ⟨(some 139), none, .q (.mv (.t 18))⟩,
      ⟨(some 140), none, .q (.bin .gtr true (.t 138) (.t 139))⟩])
        (.cond (.t 140)
          (.seq (.reg /- 28 -/ [⟨(some 141), none, .q (.mv (.t 19))⟩,
      ⟨(some 142), none, .q (.mv (.t 3))⟩,
      ⟨(some 143), none, .q (.bin .sub true (.t 141) (.t 142))⟩,
      ⟨(some 20), none, .q (.mv (.t 143))⟩])
            (.reg /- 29 -/ [⟨(some 144), none, .q (.mv (.t 18))⟩,
      ⟨(some 21), none, .q (.mv (.t 144))⟩]))
          (.seq (.reg /- 30 -/ [⟨(some 145), none, .q (.mv (.t 1))⟩,
      ⟨(some 20), none, .q (.mv (.t 145))⟩])
            (.reg /- 31 -/ [⟨(some 146), none, .q (.mv (.t 2))⟩,
      ⟨(some 21), none, .q (.mv (.t 146))⟩]))))
        (pc61_32))))
@[go_sem ↓] theorem fold61_24 (Γ : Env) (k0 : Nat) (fr : Fr) (H : Hp) (K : Ex → Fr → Hp → Prop) : vc Γ k0 pc61_24 fr H K = vcn Γ k0 pc61_24 fr H K ⟨⟩ := rfl
def pc61_12 : PC :=
  .seq (.seq (.gh (.reg /- 12 -/ [⟨(some 77), none, .q (.mv (.t 3))⟩,
      ⟨(some 78), none, .q (.mv (.t 2))⟩,
      ⟨(some 79), none, .q (.bin .sub true (.t 77) (.t 78))⟩,
      ⟨(some 80), none, .q (.bin .eql true (.t 79) (.k (.int .i64 1)))⟩]))
  (.cond (.t 80)
    (.seq (.reg /- 13 -/ [⟨(some 81), none, .q (.mv (.t 1))⟩,
      ⟨(some 14), none, .q (.mv (.t 81))⟩])
      (.seq (.reg /- 14 -/ [⟨(some 82), none, .q (.mv (.t 2))⟩,
      ⟨(some 15), none, .q (.mv (.t 82))⟩])
        (.seq (.block 4 (.loop (.seq (.seq (.reg /- 15 -/ [⟨(some 83), none, .q (.mv (.t 14))⟩,
      ⟨(some 84), none, .q (.mv (.t 15))⟩,
      ⟨(some 85), none, .q (.bin .lss true (.t 83) (.t 84))⟩])
              (.cond (.t 85)
                (.skip)
                (.exit 4)))
              (.block 5 (.seq (.reg /- 16 -/ [⟨(some 86), none, .q (.mv (.t 14))⟩,
      ⟨(some 87), none, .q (.mv (.t 15))⟩,
      ⟨(some 88), none, .q (.bin .add true (.t 86) (.t 87))⟩,
      ⟨(some 89), none, .q (.cvt .u64 (.t 88))⟩,
      ⟨(some 90), none, .q (.bin .shr true (.t 89) (.k (.int .u64 1)))⟩,
      ⟨(some 91), none, .q (.cvt .i64 (.t 90))⟩,
      ⟨(some 16), none, .q (.mv (.t 91))⟩])
                  (.seq (.reg /- 17 -/ [⟨(some 92), none, .q (.mv (.t 4))⟩,
      ⟨(some 93), none, .q (.mv (.t 0))⟩,
      ⟨(some 94), none, .q (.mv (.t 2))⟩,
      ⟨(some 95), none, .l (.ia 5 (.t 93) (.t 94))⟩,
      ⟨(some 96), none, .l (.ldn 5 (.t 95))⟩,
      ⟨(some 97), none, .q (.mv (.t 0))⟩,
      ⟨(some 98), none, .q (.mv (.t 16))⟩,
      ⟨(some 99), none, .l (.ia 5 (.t 97) (.t 98))⟩,
      ⟨(some 100), none, .l (.ldn 5 (.t 99))⟩,
      ⟨(some 101), none, .ca (.t 92) [(.t 96), (.t 100)] []⟩,
      ⟨(some 102), none, .q (.bin .lss true (.t 101) (.k (.int .i64 0)))⟩,
      ⟨(some 103), none, .q (.not (.t 102))⟩])
                    (.cond (.t 103)
                      (.reg /- 18 -/ [⟨(some 104), none, .q (.mv (.t 16))⟩,
      ⟨(some 105), none, .q (.bin .add true (.t 104) (.k (.int .i64 1)))⟩,
      ⟨(some 14), none, .q (.mv (.t 105))⟩])
                      (.reg /- 19 -/ [⟨(some 106), none, .q (.mv (.t 16))⟩,
      ⟨(some 15), none, .q (.mv (.t 106))⟩]))))))))
          (.seq (.seq (.reg /- 20 -/ [⟨(some 107), none, .q (.mv (.t 2))⟩,
      ⟨(some 17), none, .q (.mv (.t 107))⟩])
            (.block 6 (.loop (.seq (.seq (.reg /- 21 -/ [⟨(some 108), none, .q (.mv (.t 17))⟩,
      ⟨(some 109), none, .q (.mv (.t 14))⟩,
      ⟨(some 110), none, .q (.bin .gtr true (.t 108) (.t 109))⟩])
                  (.cond (.t 110)
                    (.skip)
                    (.exit 6)))
                  (.seq (.block 7 (.reg /- 23 -/ [⟨(some 115), none, .q (.mv (.t 0))⟩,
      ⟨(some 116), none, .q (.mv (.t 17))⟩,
      ⟨(some 117), none, .q (.bin .sub true (.t 116) (.k (.int .i64 1)))⟩,
      ⟨(some 113), none, .q (.mv (.t 0))⟩,
      ⟨(some 114), none, .q (.mv (.t 17))⟩,
      ⟨(some 118), none, .q (.mv (.t 0))⟩,
      ⟨(some 119), none, .q (.mv (.t 17))⟩,
      ⟨(some 120), none, .q (.bin .sub true (.t 119) (.k (.int .i64 1)))⟩,
      ⟨(some 121), none, .l (.ia 5 (.t 118) (.t 120))⟩,
      ⟨(some 122), none, .l (.ldn 5 (.t 121))⟩,
      ⟨(some 123), none, .q (.mv (.t 0))⟩,
      ⟨(some 124), none, .q (.mv (.t 17))⟩,
      ⟨(some 125), none, .l (.ia 5 (.t 123) (.t 124))⟩,
      ⟨(some 126), none, .l (.ldn 5 (.t 125))⟩,
      ⟨(some 127), none, .l (.ia 5 (.t 113) (.t 114))⟩,
      ⟨none, none, .e (.st 5 (.t 127) (.t 122))⟩,
      ⟨(some 128), none, .l (.ia 5 (.t 115) (.t 117))⟩,
      ⟨none, none, .e (.st 5 (.t 128) (.t 126))⟩]))
                    (.reg /- 22 -/ [⟨(some 111), none, .q (.mv (.t 17))⟩,
      ⟨(some 112), none, .q (.bin .sub true (.t 111) (.k (.int .i64 1)))⟩,
      ⟨(some 17), none, .q (.mv (.t 112))⟩]))))))
            (.ret)))))
    (.skip)))
  (pc61_24)
@[go_sem ↓] theorem fold61_12 (Γ : Env) (k0 : Nat) (fr : Fr) (H : Hp) (K : Ex → Fr → Hp → Prop) : vc Γ k0 pc61_12 fr H K = vcn Γ k0 pc61_12 fr H K ⟨⟩ := rfl
def pc61 : PC :=
  .seq (.seq (.reg /- 0 -/ [⟨(some 25), none, .q (.mv (.t 2))⟩,
      ⟨(some 26), none, .q (.mv (.t 1))⟩,
      ⟨(some 27), none, .q (.bin .sub true (.t 25) (.t 26))⟩,
      ⟨(some 28), none, .q (.bin .eql true (.t 27) (.k (.int .i64 1)))⟩])
  (.cond (.t 28)
    (.seq (.reg /- 1 -/ [⟨(some 29), none, .q (.mv (.t 2))⟩,
      ⟨(some 10), none, .q (.mv (.t 29))⟩])
      (.seq (.reg /- 2 -/ [⟨(some 30), none, .q (.mv (.t 3))⟩,
      ⟨(some 11), none, .q (.mv (.t 30))⟩])
        (.seq (.block 0 (.loop (.seq (.seq (.reg /- 3 -/ [⟨(some 31), none, .q (.mv (.t 10))⟩,
      ⟨(some 32), none, .q (.mv (.t 11))⟩,
      ⟨(some 33), none, .q (.bin .lss true (.t 31) (.t 32))⟩])
              (.cond (.t 33)
                (.skip)
                (.exit 0)))
              (.block 1 (.seq (.reg /- 4 -/ [⟨(some 34), none, .q (.mv (.t 10))⟩,
      ⟨(some 35), none, .q (.mv (.t 11))⟩,
      ⟨(some 36), none, .q (.bin .add true (.t 34) (.t 35))⟩,
      ⟨(some 37), none, .q (.cvt .u64 (.t 36))⟩,
      ⟨(some 38), none, .q (.bin .shr true (.t 37) (.k (.int .u64 1)))⟩,
      ⟨(some 39), none, .q (.cvt .i64 (.t 38))⟩,
      ⟨(some 12), none, .q (.mv (.t 39))⟩])
                  (.seq (.reg /- 5 -/ [⟨(some 40), none, .q (.mv (.t 4))⟩,
      ⟨(some 41), none, .q (.mv (.t 0))⟩,
      ⟨(some 42), none, .q (.mv (.t 12))⟩,
      ⟨(some 43), none, .l (.ia 5 (.t 41) (.t 42))⟩,
      ⟨(some 44), none, .l (.ldn 5 (.t 43))⟩,
      ⟨(some 45), none, .q (.mv (.t 0))⟩,
      ⟨(some 46), none, .q (.mv (.t 1))⟩,
      ⟨(some 47), none, .l (.ia 5 (.t 45) (.t 46))⟩,
      ⟨(some 48), none, .l (.ldn 5 (.t 47))⟩,
      ⟨(some 49), none, .ca (.t 40) [(.t 44), (.t 48)] []⟩,
      ⟨(some 50), none, .q (.bin .lss true (.t 49) (.k (.int .i64 0)))⟩])
                    (.cond (.t 50)
                      (.reg /- 6 -/ [⟨(some 51), none, .q (.mv (.t 12))⟩,
      ⟨(some 52), none, .q (.bin .add true (.t 51) (.k (.int .i64 1)))⟩,
      ⟨(some 10), none, .q (.mv (.t 52))⟩])
                      (.reg /- 7 -/ [⟨(some 53), none, .q (.mv (.t 12))⟩,
      ⟨(some 11), none, .q (.mv (.t 53))⟩]))))))))
          (.seq (.seq (.reg /- 8 -/ [⟨(some 54), none, .q (.mv (.t 1))⟩,
      ⟨(some 13), none, .q (.mv (.t 54))⟩])
            (.block 2 (.loop (.seq (.seq (.reg /- 9 -/ [⟨(some 55), none, .q (.mv (.t 13))⟩,
      ⟨(some 56), none, .q (.mv (.t 10))⟩,
      ⟨(some 57), none, .q (.bin .sub true (.t 56) (.k (.int .i64 1)))⟩,
      ⟨(some 58), none, .q (.bin .lss true (.t 55) (.t 57))⟩])
                  (.cond (.t 58)
                    (.skip)
                    (.exit 2)))
                  (.seq (.block 3 (.reg /- 11 -/ [⟨(some 63), none, .q (.mv (.t 0))⟩,
      ⟨(some 64), none, .q (.mv (.t 13))⟩,
      ⟨(some 65), none, .q (.bin .add true (.t 64) (.k (.int .i64 1)))⟩,
      ⟨(some 61), none, .q (.mv (.t 0))⟩,
      ⟨(some 62), none, .q (.mv (.t 13))⟩,
      ⟨(some 66), none, .q (.mv (.t 0))⟩,
      ⟨(some 67), none, .q (.mv (.t 13))⟩,
      ⟨(some 68), none, .q (.bin .add true (.t 67) (.k (.int .i64 1)))⟩,
      ⟨(some 69), none, .l (.ia 5 (.t 66) (.t 68))⟩,
      ⟨(some 70), none, .l (.ldn 5 (.t 69))⟩,
      ⟨(some 71), none, .q (.mv (.t 0))⟩,
      ⟨(some 72), none, .q (.mv (.t 13))⟩,
      ⟨(some 73), none, .l (.ia 5 (.t 71) (.t 72))⟩,
      ⟨(some 74), none, .l (.ldn 5 (.t 73))⟩,
      ⟨(some 75), none, .l (.ia 5 (.t 61) (.t 62))⟩,
      ⟨none, none, .e (.st 5 (.t 75) (.t 70))⟩,
      ⟨(some 76), none, .l (.ia 5 (.t 63) (.t 65))⟩,
      ⟨none, none, .e (.st 5 (.t 76) (.t 74))⟩]))
                    (.reg /- 10 -/ [⟨(some 59), none, .q (.mv (.t 13))⟩,
      ⟨(some 60), none, .q (.bin .add true (.t 59) (.k (.int .i64 1)))⟩,
      ⟨(some 13), none, .q (.mv (.t 60))⟩]))))))
            (.ret)))))
    (.skip)))
  (pc61_12)
def rs61 : List RV := []
theorem ok61 : trFn Try.prog true ⟨fun r k => if r = 40 ∧ k = 5 then .own [0] else if r = 42 ∧ k = 5 then .own [0] else if r = 44 ∧ k = 5 then .own [0] else .own [], fun r => [12, 24, 32, 38, 41, 43].contains r⟩ Try.f61 = some (pc61, rs61) := by kernel_rfl
/-- slices.rotateCmpFunc[robotics/audit.found] -/
def pc63 : PC :=
  .seq (.reg /- 0 -/ [⟨(some 12), none, .q (.mv (.t 2))⟩,
      ⟨(some 13), none, .q (.mv (.t 1))⟩,
      ⟨(some 14), none, .q (.bin .sub true (.t 12) (.t 13))⟩,
      ⟨(some 10), none, .q (.mv (.t 14))⟩])
  (.seq (.reg /- 1 -/ [⟨(some 15), none, .q (.mv (.t 3))⟩,
      ⟨(some 16), none, .q (.mv (.t 2))⟩,
      ⟨(some 17), none, .q (.bin .sub true (.t 15) (.t 16))⟩,
      ⟨(some 11), none, .q (.mv (.t 17))⟩])
    (.seq (.block 0 (.loop (.seq (.seq (.reg /- 2 -/ [⟨(some 18), none, .q (.mv (.t 10))⟩,
      ⟨(some 19), none, .q (.mv (.t 11))⟩,
      ⟨(some 20), none, .q (.bin .neq true (.t 18) (.t 19))⟩])
          (.cond (.t 20)
            (.skip)
            (.exit 0)))
          (.block 1 (.seq (.reg /- 3 -/ [⟨(some 21), none, .q (.mv (.t 10))⟩,
      ⟨(some 22), none, .q (.mv (.t 11))⟩,
      ⟨(some 23), none, .q (.bin .gtr true (.t 21) (.t 22))⟩])
              (.cond (.t 23)
                (.seq (.reg /- 4 -/ [⟨(some 24), none, .q (.mv (.t 0))⟩,
      ⟨(some 25), none, .q (.mv (.t 2))⟩,
      ⟨(some 26), none, .q (.mv (.t 10))⟩,
      ⟨(some 27), none, .q (.bin .sub true (.t 25) (.t 26))⟩,
      ⟨(some 28), none, .q (.mv (.t 2))⟩,
      ⟨(some 29), none, .q (.mv (.t 11))⟩,
      ⟨(some 30), none, .q (.mv (.t 4))⟩,
      ⟨(some 31), none, .cl 64 [(.t 24), (.t 27), (.t 28), (.t 29), (.t 30)] [0]⟩])
                  (.reg /- 5 -/ [⟨(some 32), none, .q (.mv (.t 10))⟩,
      ⟨(some 33), none, .q (.mv (.t 11))⟩,
      ⟨(some 34), none, .q (.bin .sub true (.t 32) (.t 33))⟩,
      ⟨(some 10), none, .q (.mv (.t 34))⟩]))
                (.seq (.reg /- 6 -/ [⟨(some 35), none, .q (.mv (.t 0))⟩,
      ⟨(some 36), none, .q (.mv (.t 2))⟩,
      ⟨(some 37), none, .q (.mv (.t 10))⟩,
      ⟨(some 38), none, .q (.bin .sub true (.t 36) (.t 37))⟩,
      ⟨(some 39), none, .q (.mv (.t 2))⟩,
      ⟨(some 40), none, .q (.mv (.t 11))⟩,
      ⟨(some 41), none, .q (.bin .add true (.t 39) (.t 40))⟩,
      ⟨(some 42), none, .q (.mv (.t 10))⟩,
      ⟨(some 43), none, .q (.bin .sub true (.t 41) (.t 42))⟩,
      ⟨(some 44), none, .q (.mv (.t 10))⟩,
      ⟨(some 45), none, .q (.mv (.t 4))⟩,
      ⟨(some 46), none, .cl 64 [(.t 35), (.t 38), (.t 43), (.t 44), (.t 45)] [0]⟩])
                  (.reg /- 7 -/ [⟨(some 47), none, .q (.mv (.t 11))⟩,
      ⟨(some 48), none, .q (.mv (.t 10))⟩,
      ⟨(some 49), none, .q (.bin .sub true (.t 47) (.t 48))⟩,
      ⟨(some 11), none, .q (.mv (.t 49))⟩]))))))))
      (.reg /- 8 -/ [⟨(some 50), none, .q (.mv (.t 0))⟩,
      ⟨(some 51), none, .q (.mv (.t 2))⟩,
      ⟨(some 52), none, .q (.mv (.t 10))⟩,
      ⟨(some 53), none, .q (.bin .sub true (.t 51) (.t 52))⟩,
      ⟨(some 54), none, .q (.mv (.t 2))⟩,
      ⟨(some 55), none, .q (.mv (.t 10))⟩,
      ⟨(some 56), none, .q (.mv (.t 4))⟩,
      ⟨(some 57), none, .cl 64 [(.t 50), (.t 53), (.t 54), (.t 55), (.t 56)] [0]⟩])))
def rs63 : List RV := []
theorem ok63 : trFn Try.prog true ⟨fun r k => if r = 4 ∧ k = 7 then .own [0] else if r = 6 ∧ k = 11 then .own [0] else if r = 8 ∧ k = 7 then .own [0] else .own [], fun _ => false⟩ Try.f63 = some (pc63, rs63) := by kernel_rfl
/-- slices.swapRangeCmpFunc[robotics/audit.found] -/
def pc64 : PC :=
  .seq (.reg /- 0 -/ [⟨(some 10), none, .q (.mv (.k (.int .i64 0)))⟩])
  (.block 0 (.loop (.seq (.seq (.reg /- 1 -/ [⟨(some 11), none, .q (.mv (.t 10))⟩,
      ⟨(some 12), none, .q (.mv (.t 3))⟩,
      ⟨(some 13), none, .q (.bin .lss true (.t 11) (.t 12))⟩])
        (.cond (.t 13)
          (.skip)
          (.exit 0)))
        (.seq (.block 1 (.reg /- 3 -/ [⟨(some 20), none, .q (.mv (.t 0))⟩,
      ⟨(some 21), none, .q (.mv (.t 2))⟩,
      ⟨(some 22), none, .q (.mv (.t 10))⟩,
      ⟨(some 23), none, .q (.bin .add true (.t 21) (.t 22))⟩,
      ⟨(some 16), none, .q (.mv (.t 0))⟩,
      ⟨(some 17), none, .q (.mv (.t 1))⟩,
      ⟨(some 18), none, .q (.mv (.t 10))⟩,
      ⟨(some 19), none, .q (.bin .add true (.t 17) (.t 18))⟩,
      ⟨(some 24), none, .q (.mv (.t 0))⟩,
      ⟨(some 25), none, .q (.mv (.t 2))⟩,
      ⟨(some 26), none, .q (.mv (.t 10))⟩,
      ⟨(some 27), none, .q (.bin .add true (.t 25) (.t 26))⟩,
      ⟨(some 28), none, .l (.ia 5 (.t 24) (.t 27))⟩,
      ⟨(some 29), none, .l (.ldn 5 (.t 28))⟩,
      ⟨(some 30), none, .q (.mv (.t 0))⟩,
      ⟨(some 31), none, .q (.mv (.t 1))⟩,
      ⟨(some 32), none, .q (.mv (.t 10))⟩,
      ⟨(some 33), none, .q (.bin .add true (.t 31) (.t 32))⟩,
      ⟨(some 34), none, .l (.ia 5 (.t 30) (.t 33))⟩,
      ⟨(some 35), none, .l (.ldn 5 (.t 34))⟩,
      ⟨(some 36), none, .l (.ia 5 (.t 16) (.t 19))⟩,
      ⟨none, none, .e (.st 5 (.t 36) (.t 29))⟩,
      ⟨(some 37), none, .l (.ia 5 (.t 20) (.t 23))⟩,
      ⟨none, none, .e (.st 5 (.t 37) (.t 35))⟩]))
          (.reg /- 2 -/ [⟨(some 14), none, .q (.mv (.t 10))⟩,
      ⟨(some 15), none, .q (.bin .add true (.t 14) (.k (.int .i64 1)))⟩,
      ⟨(some 10), none, .q (.mv (.t 15))⟩])))))
def rs64 : List RV := []
theorem ok64 : trFn Try.prog true ⟨fun _ _ => .own [], fun _ => false⟩ Try.f64 = some (pc64, rs64) := by kernel_rfl
end Go.Proofs.Ytdnohfhpbhlpaaa
/- Findings, how they are compared. -/
namespace Go.Proofs.Ytdnohfhpbhlpaaa
open Go.W
abbrev iA (k : IntKind) (n : Int) : A := .c1 (.vl (.int k n))
abbrev bA (b : Bool) : A := .c1 (.vl (.bool b))
/-- A finding: the event's index, its kind, its time, whose. -/
structure Fnd where
  ix : Int
  k : Int
  at' : Int
  a : Int
  b : Int
abbrev fnC (c : Fnd) : List C := [.vl (.int .i64 c.ix), .vl (.int .i64 c.k), .vl (.int .i64 c.at'), .vl (.int .i64 c.a), .vl (.int .i64 c.b)]
def C.fnd (r : List C) : Fnd := match r with
  | [.vl (.int .i64 i), .vl (.int .i64 k), .vl (.int .i64 t), .vl (.int .i64 a), .vl (.int .i64 b)] => ⟨i, k, t, a, b⟩
  | _ => ⟨0, 0, 0, 0, 0⟩
def cmpI (a b : Int) : Int := bif decide (a < b) then -1 else bif decide (b < a) then 1 else 0
def orL : List Int → Int
  | [] => 0
  | n :: l => bif n == 0 then orL l else n
def cmpC (x y : Fnd) : Int := orL [cmpI x.ix y.ix, cmpI x.a y.a, cmpI x.b y.b, cmpI x.k y.k, cmpI x.at' y.at']
def ltC (a b : Fnd) : Bool := decide (cmpC a b < 0)
theorem or_lt (x y : Int) (l : List Int) : orL (cmpI x y :: l) < 0 ↔ x < y ∨ (x = y ∧ orL l < 0) := by
  simp only [orL, cmpI]
  rcases Int.lt_trichotomy x y with h | h | h
  · simp [h]
  · subst h; simp
  · simp [h, show ¬ x < y by omega, show x ≠ y by omega]
/-- The order of findings. -/
def lexP (x y : Fnd) : Prop := x.ix < y.ix ∨ (x.ix = y.ix ∧ (x.a < y.a ∨ (x.a = y.a ∧ (x.b < y.b ∨ (x.b = y.b ∧ (x.k < y.k ∨ (x.k = y.k ∧ x.at' < y.at')))))))
theorem ltC_iff (x y : Fnd) : ltC x y = true ↔ lexP x y := by
  unfold ltC cmpC lexP
  rw [decide_eq_true_eq, or_lt, or_lt, or_lt, or_lt, or_lt]
  have : ¬ orL [] < 0 := by simp [orL]
  simp [this]
theorem ltC_no (x y : Fnd) : ltC x y = false ↔ ¬ lexP x y := by rw [← ltC_iff]; simp
theorem swo : Swo ltC where
  asym a b h := by
    rw [ltC_iff] at h
    rw [ltC_no]
    unfold lexP at h ⊢
    omega
  ntr a b c h k := by
    rw [ltC_no] at h k ⊢
    unfold lexP at h k ⊢
    omega
def i2Pre : List S → Prop := fun xs => match xs with
  | [.va (.c1 (.vl (.int .i64 _))), .va (.c1 (.vl (.int .i64 _)))] => True
  | _ => False
theorem i2Pre_open {xs : List S} (h : i2Pre xs) : ∃ a b, xs = [iS .i64 a, iS .i64 b] := by
  unfold i2Pre at h
  split at h
  · exact ⟨_, _, rfl⟩
  · exact h.elim
def i2Val (f : Int → Int → Value) : List S → A := fun xs => match xs with
  | [.va (.c1 (.vl (.int .i64 a))), .va (.c1 (.vl (.int .i64 b)))] => .c1 (.vl (f a b))
  | _ => .gs []
def i2Fn (f : Int → Int → Value) : Fun := ⟨i2Pre, i2Val f, fun xs h => by obtain ⟨a, b, rfl⟩ := i2Pre_open h; trivial⟩
theorem i2Fn_len {f : Int → Int → Value} : ∀ xs H K, (i2Fn f).sp xs H K → xs.length = 2 := fun xs H K h => by obtain ⟨a, b, rfl⟩ := i2Pre_open h.1.1; rfl
def i1Pre : List S → Prop := fun xs => match xs with
  | [.va (.c1 (.vl (.int .i64 _)))] => True
  | _ => False
theorem i1Pre_open {xs : List S} (h : i1Pre xs) : ∃ a, xs = [iS .i64 a] := by
  unfold i1Pre at h
  split at h
  · exact ⟨_, rfl⟩
  · exact h.elim
def i1Val (f : Int → Value) : List S → A := fun xs => match xs with
  | [.va (.c1 (.vl (.int .i64 a)))] => .c1 (.vl (f a))
  | _ => .gs []
def i1Fn (f : Int → Value) : Fun := ⟨i1Pre, i1Val f, fun xs h => by obtain ⟨a, rfl⟩ := i1Pre_open h; trivial⟩
theorem i1Fn_len {f : Int → Value} : ∀ xs H K, (i1Fn f).sp xs H K → xs.length = 1 := fun xs H K h => by obtain ⟨a, rfl⟩ := i1Pre_open h.1.1; rfl
attribute [go_sem ↓] i2Pre i2Val i2Fn i1Pre i1Val i1Fn
theorem mNaN : Meets Try.prog 48 (i1Fn fun _ => .bool false).sp := by
  refine meets_fn Try.func48 ok48 1 (by rw [Try.ntmps48]; decide) (meetsAll_nil _) i1Fn_len ?_
  rintro xs H K ⟨⟨h, rfl⟩, hK⟩
  obtain ⟨a, rfl⟩ := i1Pre_open h
  simp -dsimp only [go_sem, pc48, rs48, bne] at hK ⊢
  exact .done hK
theorem mCompare : Meets Try.prog 27 (i2Fn fun a b => .int .i64 (cmpI a b)).sp := by
  refine meets_fn Try.func27 ok27 2 (by rw [Try.ntmps27]; decide) (meetsAll_f mNaN (meetsAll_nil _)) i2Fn_len ?_
  rintro xs H K ⟨⟨h, rfl⟩, hK⟩
  obtain ⟨a, b, rfl⟩ := i2Pre_open h
  simp -dsimp only [go_sem, pc27, rs27] at hK ⊢
  refine ⟨fun h1 => .done ?_, fun h1 => ⟨fun h2 => .done ?_, fun h2 => .done ?_⟩⟩
  · simpa [cmpI, h1] using hK
  · simpa [cmpI, h1, h2] using hK
  · simpa [cmpI, h1, h2] using hK
abbrev inC (n : Int) : List C := [.vl (.int .i64 n)]
def orPre : List S → Prop := fun xs => match xs with
  | [.va (.c1 (.fz rs))] => ∃ l : List Int, rs = l.map inC ∧ l.length ≤ 1000000000
  | _ => False
theorem orPre_open {xs : List S} (h : orPre xs) : ∃ l : List Int, xs = [.va (.c1 (.fz (l.map inC)))] ∧ l.length ≤ 1000000000 := by
  unfold orPre at h
  split at h
  · obtain ⟨l, rfl, h1⟩ := h; exact ⟨l, rfl, h1⟩
  · exact h.elim
def orVal : List S → A := fun xs => match xs with
  | [.va (.c1 (.fz rs))] => iA .i64 (orL (rs.map fun r => C.gi r[0]?))
  | _ => .gs []
theorem orVal_eq (l : List Int) : orVal [.va (.c1 (.fz (l.map inC)))] = iA .i64 (orL l) := by
  show iA .i64 (orL ((l.map inC).map fun r => C.gi r[0]?)) = _
  rw [List.map_map, show ((fun r => C.gi r[0]?) ∘ inC) = id from funext fun n => rfl, List.map_id]
def orFn : Fun := ⟨orPre, orVal, fun xs h => by obtain ⟨l, rfl, _⟩ := orPre_open h; rw [orVal_eq]; trivial⟩
theorem orFn_len : ∀ xs H K, orFn.sp xs H K → xs.length = 1 := fun xs H K h => by obtain ⟨l, rfl, _⟩ := orPre_open h.1.1; rfl
theorem mOr : Meets Try.prog 26 orFn.sp := by
  refine meets_fn Try.func26 ok26 1 (by rw [Try.ntmps26]; decide) (meetsAll_nil _) orFn_len ?_
  rintro xs H K ⟨⟨h, rfl⟩, hK⟩
  obtain ⟨l, rfl, hl⟩ := orPre_open h
  have hK' : K (iS .i64 (orL l)) [] := by have := hK; rw [show orFn.val = orVal from rfl, orVal_eq] at this; exact this
  simp -dsimp only [go_sem, pc26, rs26]
  refine vc_loop (α := Nat) (fun i => [(3, iS .i64 0), (6, .va (.c1 (.fz (l.map inC)))), (7, iS .i64 l.length), (8, iS .i64 i)]) (fun _ => []) (fun i => i ≤ l.length ∧ orL (l.drop i) = orL l) (fun i => l.length - i) 0 0 ⟨by omega, rfl⟩ ?_ rfl ?_
  · simp [go_sem]
  rintro i ⟨hi, ho⟩
  simp -dsimp only [go_sem, all_map, bne]
  refine ⟨fun h1 => ⟨by simp at h1; omega, fun n hn => ?_⟩, fun h1 => ?_⟩
  · have hd : l.drop i = n :: l.drop (i + 1) := by
      have hi := (List.getElem?_eq_some_iff.1 hn).1
      rw [List.drop_eq_getElem_cons hi]
      rw [List.getElem?_eq_getElem hi] at hn
      rw [Option.some.inj hn]
    rw [hd] at ho
    simp only [orL] at ho
    refine ⟨fun h2 => ?_, fun h2 => ⟨by omega, loop_next (i + 1) 0 ⟨by simp at h1; omega, ?_⟩ (by simp at h1; omega) ?_ rfl⟩⟩
    · rw [h2] at ho
      exact .done (by rw [show n = orL l from ho]; exact hK')
    · have h2' : (n == 0) = true := by simpa using h2
      rw [h2'] at ho; exact ho
    · simp [go_sem]
  · have : l.drop i = [] := List.drop_eq_nil_iff.2 (by simp at h1; omega)
    rw [this] at ho
    exact .done (by rw [show (0 : Int) = orL l from ho]; exact hK')
/-! ### The comparison of two changes -/
def ccPre : List S → Prop := fun xs => match xs with
  | [.va (.gs r), .va (.gs q)] => ∃ a b : Fnd, r = fnC a ∧ q = fnC b
  | _ => False
theorem ccPre_open {xs : List S} (h : ccPre xs) : ∃ a b : Fnd, xs = [.va (.gs (fnC a)), .va (.gs (fnC b))] := by
  unfold ccPre at h
  split at h
  · obtain ⟨a, b, rfl, rfl⟩ := h; exact ⟨a, b, rfl⟩
  · exact h.elim
theorem ccPre_mk (a b : Fnd) : ccPre [.va (.gs (fnC a)), .va (.gs (fnC b))] := ⟨a, b, rfl, rfl⟩
def ccVal : List S → A := fun xs => match xs with
  | [.va (.gs r), .va (.gs q)] => iA .i64 (cmpC (C.fnd r) (C.fnd q))
  | _ => .gs []
theorem ccVal_eq (a b : Fnd) : ccVal [.va (.gs (fnC a)), .va (.gs (fnC b))] = iA .i64 (cmpC a b) := rfl
def ccFn : Fun := ⟨ccPre, ccVal, fun xs h => by obtain ⟨a, b, rfl⟩ := ccPre_open h; trivial⟩
theorem ccFn_len : ∀ xs H K, ccFn.sp xs H K → xs.length = 2 := fun xs H K h => by obtain ⟨a, b, rfl⟩ := ccPre_open h.1.1; rfl
theorem mCmp : Meets Try.prog 25 ccFn.sp := by
  refine meets_fn Try.func25 ok25 2 (by rw [Try.ntmps25]; decide) (meetsAll_f mCompare (meetsAll_f mOr (meetsAll_nil _))) ccFn_len ?_
  rintro xs H K ⟨⟨h, rfl⟩, hK⟩
  obtain ⟨a, b, rfl⟩ := ccPre_open h
  have hK' : K (iS .i64 (cmpC a b)) [] := hK
  have hO : ∀ x y z u v : Int, orVal [.va (.c1 (.fz [inC x, inC y, inC z, inC u, inC v]))] = iA .i64 (orL [x, y, z, u, v]) := fun x y z u v => orVal_eq [x, y, z, u, v]
  simp -dsimp only [go_sem, pc25, rs25, orFn, hO]
  exact ⟨⟨[_, _, _, _, _], rfl, by simp⟩, .sel [] (by simp) (by simp) rfl (.done hK')⟩
end Go.Proofs.Ytdnohfhpbhlpaaa
/- Insertion sort. -/
namespace Go.Proofs.Ytdnohfhpbhlpaaa
open Go.W
abbrev cmpV : S := .va (.c1 (.fn 25 []))
abbrev fnH (l : List Fnd) : Hp := [.row (l.map fnC) 68 5]
/-- Between two places of a row. -/
def insSp : W.Spec := fun av H K => ∃ P Q R : List Fnd, av = [.va (.c1 (.sl 0 (P ++ Q ++ R).length)), iS .i64 P.length, iS .i64 (P.length + Q.length : Nat), cmpV] ∧ H = fnH (P ++ Q ++ R) ∧ (P ++ Q ++ R).length ≤ 1000000000 ∧
  K (.tu []) (fnH (P ++ srt ltC Q ++ R))
/-- What is read at a known place of a row. -/
theorem row_at' {l : List Fnd} {n : Nat} {c : Fnd} (h : l[n]? = some c) (p : List C → Prop) : (∀ r, (l.map fnC)[n]? = some r → p r) = p (fnC c) := by
  rw [List.getElem?_map, h]; simp
theorem row_set (l : List Fnd) (n : Nat) (c : Fnd) : (l.map fnC).set n (fnC c) = (l.set n c).map fnC := by rw [List.map_set]
theorem row_at {l : List Fnd} {i : Int} {n : Nat} {c : Fnd} (hi : i.toNat = n) (h : l[n]? = some c) (p : List C → Prop) : (∀ r, (l.map fnC)[i.toNat]? = some r → p r) = p (fnC c) := by
  rw [hi, List.getElem?_map, h]; simp
def outI (P Q R : List Fnd) (k : Nat) : List Fnd := P ++ (srt ltC (Q.take k) ++ Q.drop k) ++ R
def inI (P A : List Fnd) (x : Fnd) (B : List Fnd) (d : Nat) : List Fnd := P ++ (A.take d ++ x :: (A.drop d ++ B))
theorem outI_len (P Q R : List Fnd) (k : Nat) : (outI P Q R k).length = P.length + Q.length + R.length := by
  unfold outI
  simp only [List.length_append, srt_len, List.length_take, List.length_drop]; omega
theorem inI_len {P A : List Fnd} {x : Fnd} {B : List Fnd} {d : Nat} : (inI P A x B d).length = P.length + A.length + 1 + B.length := by
  unfold inI
  simp only [List.length_append, List.length_cons, List.length_take, List.length_drop]; omega
theorem out_in {P Q R : List Fnd} {k : Nat} {x : Fnd} (h : Q[k]? = some x) : outI P Q R k = inI P (srt ltC (Q.take k)) x (Q.drop (k + 1) ++ R) k := by
  have hk := (List.getElem?_eq_some_iff.1 h).1
  have hl : (srt ltC (Q.take k)).length = k := by rw [srt_len, List.length_take]; omega
  have hd : Q.drop k = x :: Q.drop (k + 1) := by
    rw [List.drop_eq_getElem_cons hk]
    rw [List.getElem?_eq_getElem hk] at h
    rw [Option.some.inj h]
  unfold outI inI
  rw [hd, List.take_of_length_le (l := srt ltC (Q.take k)) (by omega), List.drop_of_length_le (l := srt ltC (Q.take k)) (by omega)]
  simp
theorem in_out {P Q R : List Fnd} {k d : Nat} {x : Fnd} (h : Q[k]? = some x) (hd : d ≤ k) (h2 : ∀ y ∈ (srt ltC (Q.take k)).drop d, ltC x y = true) (h1 : ∀ y, d ≠ 0 → (srt ltC (Q.take k))[d - 1]? = some y → ltC x y = false) :
    inI P (srt ltC (Q.take k)) x (Q.drop (k + 1) ++ R) d = outI P Q R (k + 1) := by
  have hk := (List.getElem?_eq_some_iff.1 h).1
  have hl : (srt ltC (Q.take k)).length = k := by rw [srt_len, List.length_take]; omega
  have ht : Q.take (k + 1) = Q.take k ++ [x] := by rw [List.take_add_one, h]; rfl
  have hi := insR_split (lt := ltC) ((srt ltC (Q.take k)).take d) ((srt ltC (Q.take k)).drop d) x h2 (fun y hy => by
    rw [List.getLast?_eq_getElem?, List.length_take, hl, Nat.min_eq_left hd] at hy
    by_cases h0 : d = 0
    · subst h0; simp at hy
    · rw [List.getElem?_take, if_pos (by omega)] at hy
      exact h1 y h0 hy)
  rw [List.take_append_drop] at hi
  unfold outI inI
  rw [ht, srt_snoc, hi]
  simp
theorem in_get (P A : List Fnd) (x : Fnd) (B : List Fnd) {d : Nat} (h : d ≤ A.length) : (inI P A x B d)[P.length + d]? = some x := by
  unfold inI
  rw [← List.append_assoc]
  exact get_mid _ _ _ (by rw [List.length_append, List.length_take]; omega)
theorem in_get1 (P A : List Fnd) (x : Fnd) (B : List Fnd) {d : Nat} {y : Fnd} (hd : d + 1 ≤ A.length) (h : A[d]? = some y) : (inI P A x B (d + 1))[P.length + d]? = some y := by
  unfold inI
  rw [List.getElem?_append_right (by omega), Nat.add_sub_cancel_left, List.getElem?_append_left (by rw [List.length_take]; omega), List.getElem?_take, if_pos (by omega)]
  exact h
theorem in_swap (P A : List Fnd) (x : Fnd) (B : List Fnd) {d : Nat} {y : Fnd} (hd : d + 1 ≤ A.length) (h : A[d]? = some y) : ((inI P A x B (d + 1)).set (P.length + (d + 1)) y).set (P.length + d) x = inI P A x B d := by
  have hy := (List.getElem?_eq_some_iff.1 h).1
  have ht : A.take (d + 1) = A.take d ++ [y] := by rw [List.take_add_one, h]; rfl
  have hdr : A.drop d = y :: A.drop (d + 1) := by
    rw [List.drop_eq_getElem_cons hy]
    rw [List.getElem?_eq_getElem hy] at h
    rw [Option.some.inj h]
  unfold inI
  rw [ht, hdr, ← List.append_assoc, set_mid _ _ _ _ (by simp only [List.length_append, List.length_take, List.length_cons, List.length_nil]; omega)]
  have : P ++ (A.take d ++ [y]) ++ y :: (A.drop (d + 1) ++ B) = (P ++ A.take d) ++ y :: (y :: (A.drop (d + 1) ++ B)) := by simp
  rw [this, set_mid _ _ _ _ (by simp only [List.length_append, List.length_take]; omega)]
  simp
set_option maxRecDepth 100000 in
theorem mIns : Meets Try.prog 60 insSp := by
  refine meets_fn Try.func60 ok60 4 (by rw [Try.ntmps60]; decide) (meetsAll_f mCmp (meetsAll_nil _)) (fun av H K h => by obtain ⟨_, _, _, rfl, _⟩ := h; rfl) ?_
  intro av H K h
  obtain ⟨P, Q, R, rfl, rfl, hn, hK⟩ := h
  have hlen : (P ++ Q ++ R).length = P.length + Q.length + R.length := by rw [List.length_append, List.length_append]
  rw [hlen] at hn ⊢
  obtain ⟨n, hN⟩ : ∃ n, n = P.length + Q.length + R.length := ⟨_, rfl⟩
  rw [← hN] at hn ⊢
  have h1 : outI P Q R 1 = P ++ Q ++ R := by
    unfold outI
    cases Q with
    | nil => rfl
    | cons x Q => simp [srt, insR, insK]
  simp -dsimp only [go_sem, pc60, rs60]
  refine ⟨by omega, vc_loop (α := Nat) (fun k => [(0, .va (.c1 (.sl 0 n))), (1, iS .i64 P.length), (2, iS .i64 (P.length + Q.length : Nat)), (3, cmpV), (8, iS .i64 (P.length + k : Nat))]) (fun k => fnH (outI P Q R k)) (fun k => 1 ≤ k ∧ (k ≤ Q.length ∨ k = 1)) (fun k => Q.length + 1 - k) 1 1 ⟨by omega, .inr rfl⟩ ?_ ?_ ?_⟩
  · simp [go_sem]
  · rw [h1]; rfl
  rintro k ⟨hk1, hk2⟩
  simp -dsimp only [go_sem]
  refine ⟨fun h2 => ?_, fun h2 => ?_⟩
  · have hkQ : k < Q.length := by simp at h2; omega
    obtain ⟨x, hx⟩ : ∃ x, Q[k]? = some x := ⟨_, List.getElem?_eq_getElem hkQ⟩
    have hAl : (srt ltC (Q.take k)).length = k := by rw [srt_len, List.length_take]; omega
    refine vc_loop (α := Nat) (fun d => [(0, .va (.c1 (.sl 0 n))), (1, iS .i64 P.length), (2, iS .i64 (P.length + Q.length : Nat)), (3, cmpV), (8, iS .i64 (P.length + k : Nat)), (9, iS .i64 (P.length + d : Nat))])
      (fun d => fnH (inI P (srt ltC (Q.take k)) x (Q.drop (k + 1) ++ R) d)) (fun d => d ≤ k ∧ ∀ y ∈ (srt ltC (Q.take k)).drop d, ltC x y = true) (fun d => d) k 1 ⟨Nat.le_refl _, by rw [List.drop_of_length_le (by omega)]; intro y hy; cases hy⟩ ?_ ?_ ?_
    · simp [go_sem]
    · rw [out_in hx]; rfl
    rintro d ⟨hd, hgt⟩
    obtain ⟨L, hL⟩ : ∃ L, L = inI P (srt ltC (Q.take k)) x (Q.drop (k + 1) ++ R) d := ⟨_, rfl⟩
    have hLl : L.length = n := by rw [hL, inI_len, hAl, List.length_append, List.length_drop]; omega
    have hgx : L[P.length + d]? = some x := by rw [hL]; exact in_get _ _ _ _ (by omega)
    rw [← hL]
    cases d with
    | zero =>
      have hg : decide ((P.length : Int) < (P.length : Int)) = false := by simp
      simp -dsimp only [go_sem, hg]
      refine ⟨by omega, loop_next (k + 1) 1 ⟨by omega, .inl (by omega)⟩ (by omega) ?_ ?_⟩
      · simp [go_sem]; omega
      · rw [hL, in_out hx hd hgt (fun y h0 => absurd rfl h0)]; rfl
    | succ d =>
      have hdk : d < (srt ltC (Q.take k)).length := by omega
      obtain ⟨y, hy⟩ : ∃ y, (srt ltC (Q.take k))[d]? = some y := ⟨_, List.getElem?_eq_getElem hdk⟩
      have hgy : L[P.length + d]? = some y := by rw [hL]; exact in_get1 _ _ _ _ (by omega) hy
      have hg : decide ((P.length : Int) < ((P.length + (d + 1) : Nat) : Int)) = true := by simp; omega
      have hi1 : (((P.length + (d + 1) : Nat) : Int) - 1).toNat = P.length + d := by omega
      have hq1 := row_at (i := ((P.length + (d + 1) : Nat) : Int)) (by omega) hgx
      have hq2 := row_at (i := ((P.length + (d + 1) : Nat) : Int) - 1) hi1 hgy
      have hq3 := row_at' hgx
      have hgy2 : (L.set (P.length + (d + 1)) y)[P.length + d]? = some y := by rw [List.getElem?_set, if_neg (by omega)]; exact hgy
      have hq4 := row_at' hgy2
      have hq6 := row_at' hgy
      have hcv : ∀ a b : Fnd, ccFn.val [.va (.gs (fnC a)), .va (.gs (fnC b))] = iA .i64 (cmpC a b) := fun _ _ => rfl
      have hq5 := row_at (i := ((P.length + (d + 1) : Nat) : Int) - 1) hi1 hgy2
      have hlt : decide (cmpC x y < 0) = ltC x y := rfl
      simp -dsimp only [go_sem, hg, ↓hq3, ↓hq4, ↓hq6, row_set, hcv, hlt, hi1]
      refine ⟨⟨⟨by omega, by omega⟩, hLl⟩, ⟨hLl, by omega⟩, by omega, ⟨⟨by omega, by omega⟩, hLl⟩, ⟨hLl, by omega⟩, ccPre_mk x y, fun h3 => ?_, fun h3 => ?_⟩
      · and_intros
        all_goals first
          | omega
          | (simp; omega)
          | skip
        refine loop_next d 1 ⟨by omega, fun z hz => ?_⟩ (by omega) ?_ ?_
        · have hdr : (srt ltC (Q.take k)).drop d = y :: (srt ltC (Q.take k)).drop (d + 1) := by
            rw [List.drop_eq_getElem_cons hdk]
            rw [List.getElem?_eq_getElem hdk] at hy
            rw [Option.some.inj hy]
          rw [hdr] at hz
          rcases List.mem_cons.1 hz with rfl | hz
          · exact h3
          · exact hgt z hz
        · simp [go_sem]; omega
        · have hsw := in_swap P _ x (Q.drop (k + 1) ++ R) (by omega) hy
          rw [← hL] at hsw
          rw [← hsw]
          rfl
      · refine ⟨by omega, loop_next (k + 1) 1 ⟨by omega, .inl (by omega)⟩ (by omega) ?_ ?_⟩
        · simp [go_sem]; omega
        · rw [hL, in_out hx hd hgt (fun z _ hz => by
            rw [Nat.add_sub_cancel, hy] at hz
            rw [← Option.some.inj hz]; exact h3)]
          rfl
  · have hk : Q.length ≤ k := by simp at h2; omega
    have : outI P Q R k = P ++ srt ltC Q ++ R := by
      unfold outI
      rw [List.take_of_length_le hk, List.drop_of_length_le hk, List.append_nil]
    rw [this]
    exact .done hK
end Go.Proofs.Ytdnohfhpbhlpaaa
/- Ranges swapped, rotated. -/
namespace Go.Proofs.Ytdnohfhpbhlpaaa
open Go.W
theorem Meets.imp {P : Program} {f : FuncId} {s s' : W.Spec} (h : Meets P f s) (hs : ∀ av H K, s' av H K → s av H K) : Meets P f s' := by
  refine ⟨h.1, fun av vs E ro w K h1 h2 h3 h4 => h.2 av vs E ro w K h1 h2 h3 (hs _ _ _ h4)⟩
@[go_sem] theorem fnd_map (l : List Fnd) : (l.map fnC).map C.fnd = l := by
  rw [List.map_map, show (C.fnd ∘ fnC) = id from funext fun c => rfl, List.map_id]
def insL (L : List Fnd) (a b : Nat) : List Fnd := L.take a ++ srt ltC ((L.take b).drop a) ++ L.drop b
def insSp2 : W.Spec := fun av H K =>
  match av, H with
  | [.va (.c1 (.sl 0 n)), .va (.c1 (.vl (.int .i64 a))), .va (.c1 (.vl (.int .i64 b))), .va (.c1 (.fn f []))], [.row rs 68 5] =>
    ((∃ L : List Fnd, rs = L.map fnC ∧ L.length = n) ∧ n ≤ 1000000000 ∧ f = 25 ∧ 0 ≤ a ∧ a ≤ b ∧ b ≤ n) ∧ K (.tu []) [.row ((insL (rs.map C.fnd) a.toNat b.toNat).map fnC) 68 5]
  | _, _ => False
theorem mIns2 : Meets Try.prog 60 insSp2 := Meets.imp mIns fun av H K h => by
  unfold insSp2 at h
  split at h
  · rename_i n a b f rs
    obtain ⟨⟨⟨L, rfl, rfl⟩, h1, rfl, h2, h3, h4⟩, hK⟩ := h
    rw [fnd_map] at hK
    have e : L.take a.toNat ++ (L.take b.toNat).drop a.toNat ++ L.drop b.toNat = L := by
      have : L.take a.toNat = (L.take b.toNat).take a.toNat := by rw [List.take_take, Nat.min_eq_left (by omega)]
      rw [this, List.take_append_drop, List.take_append_drop]
    have la : (L.take a.toNat).length = a.toNat := by rw [List.length_take]; omega
    have lq : ((L.take b.toNat).drop a.toNat).length = b.toNat - a.toNat := by rw [List.length_drop, List.length_take]; omega
    refine ⟨L.take a.toNat, (L.take b.toNat).drop a.toNat, L.drop b.toNat, ?_, ?_, ?_, hK⟩
    · rw [e, la, lq, show ((a.toNat : Nat) : Int) = a by omega, show ((a.toNat + (b.toNat - a.toNat) : Nat) : Int) = b by omega]
    · rw [e]
    · rw [e]; exact h1
  · exact h.elim
attribute [go_sem ↓] insSp2
/-! ### Two ranges, swapped -/
def swI (A U M V C : List Fnd) (i : Nat) : List Fnd := A ++ (V.take i ++ U.drop i) ++ M ++ (U.take i ++ V.drop i) ++ C
def swpSp : W.Spec := fun av H K => ∃ A U M V D : List Fnd, U.length = V.length ∧ av = [.va (.c1 (.sl 0 (A ++ U ++ M ++ V ++ D).length)), iS .i64 A.length, iS .i64 (A.length + U.length + M.length : Nat), iS .i64 U.length, cmpV] ∧ H = fnH (A ++ U ++ M ++ V ++ D) ∧ (A ++ U ++ M ++ V ++ D).length ≤ 1000000000 ∧
  K (.tu []) (fnH (A ++ V ++ M ++ U ++ D))
section
variable {A U M V D : List Fnd} {i : Nat} {u v : Fnd}
theorem sw_split1 (hu : U[i]? = some u) : swI A U M V D i = (A ++ V.take i) ++ u :: (U.drop (i + 1) ++ M ++ (U.take i ++ V.drop i) ++ D) := by
  have h := (List.getElem?_eq_some_iff.1 hu).1
  have : U.drop i = u :: U.drop (i + 1) := by
    rw [List.drop_eq_getElem_cons h]
    rw [List.getElem?_eq_getElem h] at hu
    rw [Option.some.inj hu]
  unfold swI
  rw [this]; simp
theorem sw_split2 (hv : V[i]? = some v) : swI A U M V D i = (A ++ (V.take i ++ U.drop i) ++ M ++ U.take i) ++ v :: (V.drop (i + 1) ++ D) := by
  have h := (List.getElem?_eq_some_iff.1 hv).1
  have : V.drop i = v :: V.drop (i + 1) := by
    rw [List.drop_eq_getElem_cons h]
    rw [List.getElem?_eq_getElem h] at hv
    rw [Option.some.inj hv]
  unfold swI
  rw [this]; simp
theorem sw_get1 (hl : U.length = V.length) (hu : U[i]? = some u) : (swI A U M V D i)[A.length + i]? = some u := by
  have h := (List.getElem?_eq_some_iff.1 hu).1
  rw [sw_split1 hu]
  exact get_mid _ _ _ (by rw [List.length_append, List.length_take]; omega)
theorem sw_get2 (hl : U.length = V.length) (hv : V[i]? = some v) : (swI A U M V D i)[A.length + U.length + M.length + i]? = some v := by
  have h := (List.getElem?_eq_some_iff.1 hv).1
  rw [sw_split2 hv]
  exact get_mid _ _ _ (by simp only [List.length_append, List.length_take, List.length_drop]; omega)
theorem sw_set (hl : U.length = V.length) (hu : U[i]? = some u) (hv : V[i]? = some v) : ((swI A U M V D i).set (A.length + i) v).set (A.length + U.length + M.length + i) u = swI A U M V D (i + 1) := by
  have h := (List.getElem?_eq_some_iff.1 hu).1
  have h' := (List.getElem?_eq_some_iff.1 hv).1
  rw [sw_split1 hu, set_mid _ _ _ _ (by rw [List.length_append, List.length_take]; omega)]
  have hd : V.drop i = v :: V.drop (i + 1) := by
    rw [List.drop_eq_getElem_cons h']
    rw [List.getElem?_eq_getElem h'] at hv
    rw [Option.some.inj hv]
  have : (A ++ V.take i) ++ v :: (U.drop (i + 1) ++ M ++ (U.take i ++ V.drop i) ++ D) = (A ++ V.take i ++ v :: (U.drop (i + 1) ++ M ++ U.take i)) ++ v :: (V.drop (i + 1) ++ D) := by rw [hd]; simp
  rw [this, set_mid _ _ _ _ (by simp only [List.length_append, List.length_cons, List.length_take, List.length_drop]; omega)]
  have tu : U.take (i + 1) = U.take i ++ [u] := by rw [List.take_add_one, hu]; rfl
  have tv : V.take (i + 1) = V.take i ++ [v] := by rw [List.take_add_one, hv]; rfl
  unfold swI
  rw [tu, tv]; simp
end
set_option maxRecDepth 100000 in
theorem mSwap : Meets Try.prog 64 swpSp := by
  refine meets_fn Try.func64 ok64 5 (by rw [Try.ntmps64]; decide) (meetsAll_nil _) (fun av H K h => by obtain ⟨_, _, _, _, _, _, rfl, _⟩ := h; rfl) ?_
  intro av H K h
  obtain ⟨A, U, M, V, D, hl, rfl, rfl, hn, hK⟩ := h
  have hlen : (A ++ U ++ M ++ V ++ D).length = A.length + U.length + M.length + V.length + D.length := by simp only [List.length_append]
  rw [hlen] at hn ⊢
  obtain ⟨n, hN⟩ : ∃ n, n = A.length + U.length + M.length + V.length + D.length := ⟨_, rfl⟩
  rw [← hN] at hn ⊢
  have h0 : swI A U M V D 0 = A ++ U ++ M ++ V ++ D := by unfold swI; simp
  have hS : ∀ i, (swI A U M V D i).length = n := fun i => by unfold swI; simp only [List.length_append, List.length_take, List.length_drop]; omega
  rw [← h0]
  simp -dsimp only [go_sem, pc64, rs64]
  refine vc_loop (α := Nat) (fun i => [(0, .va (.c1 (.sl 0 n))), (1, iS .i64 A.length), (2, iS .i64 (A.length + U.length + M.length : Nat)), (3, iS .i64 U.length), (10, iS .i64 i)]) (fun i => fnH (swI A U M V D i)) (fun i => i ≤ U.length) (fun i => U.length - i) 0 1 (by omega) ?_ rfl ?_
  · simp [go_sem]
  intro i hi
  obtain ⟨L, hL⟩ : ∃ L, L = swI A U M V D i := ⟨_, rfl⟩
  have hLl : L.length = n := by rw [hL, hS]
  rcases Nat.lt_or_ge i U.length with hlt | hge
  · obtain ⟨u, hu⟩ : ∃ u, U[i]? = some u := ⟨_, List.getElem?_eq_getElem hlt⟩
    obtain ⟨v, hv⟩ : ∃ v, V[i]? = some v := ⟨_, List.getElem?_eq_getElem (by omega)⟩
    have g1 : L[A.length + i]? = some u := by rw [hL]; exact sw_get1 hl hu
    have g2 : L[A.length + U.length + M.length + i]? = some v := by rw [hL]; exact sw_get2 hl hv
    have i1 : ((A.length : Int) + (i : Int)).toNat = A.length + i := by omega
    have i2 : (((A.length + U.length + M.length : Nat) : Int) + (i : Int)).toNat = A.length + U.length + M.length + i := by omega
    have g3 : (L.set (A.length + i) v)[A.length + U.length + M.length + i]? = some v := by rw [List.getElem?_set, if_neg (by omega)]; exact g2
    have q1 := row_at i1 g1
    have q2 := row_at i2 g2
    have q3 := row_at' g1
    have q4 := row_at' g2
    have q5 := row_at i2 g3
    have q6 := row_at' g3
    have hg : decide ((i : Int) < (U.length : Int)) = true := by simp; omega
    have hs := sw_set (A := A) (M := M) (D := D) hl hu hv
    rw [← hL] at hs ⊢
    simp -dsimp only [go_sem, hg, ↓q3, ↓q4, ↓q6, row_set, i1, i2]
    and_intros
    all_goals first
      | omega
      | (simp; omega)
      | skip
    refine loop_next (i + 1) 1 hlt (by omega) ?_ ?_
    · simp [go_sem]
    · rw [← hs]; rfl
  · have hg : decide ((i : Int) < (U.length : Int)) = false := by simp; omega
    simp -dsimp only [go_sem, hg]
    obtain rfl : i = U.length := by omega
    have : swI A U M V D U.length = A ++ V ++ M ++ U ++ D := by
      unfold swI
      rw [List.take_length, List.drop_length, List.take_of_length_le (by omega), List.drop_of_length_le (by omega)]; simp
    rw [this]
    exact .done hK
/-- The row with two ranges swapped. -/
def swpL (L : List Fnd) (a b k : Nat) : List Fnd := L.take a ++ (L.drop b).take k ++ (L.take b).drop (a + k) ++ (L.drop a).take k ++ L.drop (b + k)
def swpSp2 : W.Spec := fun av H K =>
  match av, H with
  | [.va (.c1 (.sl 0 n)), .va (.c1 (.vl (.int .i64 a))), .va (.c1 (.vl (.int .i64 b))), .va (.c1 (.vl (.int .i64 k))), .va (.c1 (.fn f []))], [.row rs 68 5] =>
    ((∃ L : List Fnd, rs = L.map fnC ∧ L.length = n) ∧ n ≤ 1000000000 ∧ f = 25 ∧ 0 ≤ a ∧ 0 ≤ k ∧ a + k ≤ b ∧ b + k ≤ n) ∧ K (.tu []) [.row ((swpL (rs.map C.fnd) a.toNat b.toNat k.toNat).map fnC) 68 5]
  | _, _ => False
theorem cut5 (L : List Fnd) {a b k : Nat} (h1 : a + k ≤ b) : L.take a ++ (L.drop a).take k ++ (L.take b).drop (a + k) ++ (L.drop b).take k ++ L.drop (b + k) = L := by
  have e1 : L.take a ++ (L.drop a).take k = L.take (a + k) := by rw [List.take_add]
  have e2 : L.take (a + k) ++ (L.take b).drop (a + k) = L.take b := by
    have : L.take (a + k) = (L.take b).take (a + k) := by rw [List.take_take, Nat.min_eq_left (by omega)]
    rw [this, List.take_append_drop]
  have e3 : L.take b ++ (L.drop b).take k = L.take (b + k) := by rw [List.take_add]
  rw [e1, e2, e3, List.take_append_drop]
theorem mSwap2 : Meets Try.prog 64 swpSp2 := Meets.imp mSwap fun av H K h => by
  unfold swpSp2 at h
  split at h
  · rename_i n a b k f rs
    obtain ⟨⟨⟨L, rfl, rfl⟩, h1, rfl, h2, h3, h4, h5⟩, hK⟩ := h
    rw [fnd_map] at hK
    have e := cut5 L (a := a.toNat) (b := b.toNat) (k := k.toNat) (by omega)
    have la : (L.take a.toNat).length = a.toNat := by rw [List.length_take]; omega
    have lu : ((L.drop a.toNat).take k.toNat).length = k.toNat := by rw [List.length_take, List.length_drop]; omega
    have lv : ((L.drop b.toNat).take k.toNat).length = k.toNat := by rw [List.length_take, List.length_drop]; omega
    have lm : ((L.take b.toNat).drop (a.toNat + k.toNat)).length = b.toNat - (a.toNat + k.toNat) := by rw [List.length_drop, List.length_take]; omega
    refine ⟨L.take a.toNat, (L.drop a.toNat).take k.toNat, (L.take b.toNat).drop (a.toNat + k.toNat), (L.drop b.toNat).take k.toNat, L.drop (b.toNat + k.toNat), by rw [lu, lv], ?_, ?_, ?_, hK⟩
    · rw [e, la, lu, lm, show ((a.toNat : Nat) : Int) = a by omega, show ((k.toNat : Nat) : Int) = k by omega, show ((a.toNat + k.toNat + (b.toNat - (a.toNat + k.toNat)) : Nat) : Int) = b by omega]
    · rw [e]
    · rw [e]; exact h1
  · exact h.elim
attribute [go_sem ↓] swpSp2
theorem swpL_at (A U M V D : List Fnd) (hl : U.length = V.length) {a b k : Nat} (ha : a = A.length) (hb : b = A.length + U.length + M.length) (hk : k = U.length) : swpL (A ++ U ++ M ++ V ++ D) a b k = A ++ V ++ M ++ U ++ D := by
  subst ha hb hk
  unfold swpL
  have e1 : (A ++ U ++ M ++ V ++ D).take A.length = A := by simp
  have e2 : (A ++ U ++ M ++ V ++ D).drop (A.length + U.length + M.length) = V ++ D := by
    have : A ++ U ++ M ++ V ++ D = (A ++ U ++ M) ++ (V ++ D) := by simp
    rw [this]; exact List.drop_left' (by simp; omega)
  have e3 : (A ++ U ++ M ++ V ++ D).take (A.length + U.length + M.length) = A ++ U ++ M := by
    have : A ++ U ++ M ++ V ++ D = (A ++ U ++ M) ++ (V ++ D) := by simp
    rw [this]; exact List.take_left' (by simp; omega)
  have e4 : (A ++ U ++ M ++ V ++ D).drop A.length = U ++ (M ++ V ++ D) := by
    have : A ++ U ++ M ++ V ++ D = A ++ (U ++ (M ++ V ++ D)) := by simp
    rw [this]; exact List.drop_left' rfl
  have e5 : (A ++ U ++ M ++ V ++ D).drop (A.length + U.length + M.length + U.length) = D := by
    have : A ++ U ++ M ++ V ++ D = (A ++ U ++ M ++ V) ++ D := by simp
    rw [this]; exact List.drop_left' (by simp; omega)
  have e6 : (A ++ U ++ M).drop (A.length + U.length) = M := by exact List.drop_left' (by simp)
  have e7 : (V ++ D).take U.length = V := List.take_left' (by omega)
  rw [e1, e2, e3, e4, e5, e6, e7, List.take_left' rfl]
end Go.Proofs.Ytdnohfhpbhlpaaa
/- Rotation. -/
namespace Go.Proofs.Ytdnohfhpbhlpaaa
open Go.W
structure Rz where
  p : List Fnd
  u : List Fnd
  v : List Fnd
  q : List Fnd
def Rz.all (z : Rz) : List Fnd := z.p ++ z.u ++ z.v ++ z.q
def rotSp : W.Spec := fun av H K => ∃ A U V D : List Fnd, 0 < U.length ∧ 0 < V.length ∧ av = [.va (.c1 (.sl 0 (A ++ U ++ V ++ D).length)), iS .i64 A.length, iS .i64 (A.length + U.length : Nat), iS .i64 (A.length + U.length + V.length : Nat), cmpV] ∧ H = fnH (A ++ U ++ V ++ D) ∧ (A ++ U ++ V ++ D).length ≤ 1000000000 ∧
  K (.tu []) (fnH (A ++ V ++ U ++ D))
set_option maxRecDepth 100000 in
theorem mRot : Meets Try.prog 63 rotSp := by
  refine meets_fn Try.func63 ok63 5 (by rw [Try.ntmps63]; decide) (meetsAll_s mSwap2 (meetsAll_nil _)) (fun av H K h => by obtain ⟨_, _, _, _, _, _, rfl, _⟩ := h; rfl) ?_
  intro av H K h
  obtain ⟨A, U, V, D, hU, hV, rfl, rfl, hn, hK⟩ := h
  have hlen : (A ++ U ++ V ++ D).length = A.length + U.length + V.length + D.length := by simp only [List.length_append]
  rw [hlen] at hn ⊢
  obtain ⟨n, hN⟩ : ∃ n, n = A.length + U.length + V.length + D.length := ⟨_, rfl⟩
  obtain ⟨m, hm⟩ : ∃ m, m = A.length + U.length := ⟨_, rfl⟩
  rw [← hN] at hn ⊢
  rw [← hm]
  have h0 : (Rz.mk A U V D).all = A ++ U ++ V ++ D := rfl
  rw [← h0]
  simp -dsimp only [go_sem, pc63, rs63]
  refine ⟨by omega, by omega, vc_loop (α := Rz) (fun z => [(0, .va (.c1 (.sl 0 n))), (2, iS .i64 m), (4, cmpV), (10, iS .i64 z.u.length), (11, iS .i64 z.v.length)]) (fun z => fnH z.all)
    (fun z => z.p ++ z.v ++ z.u ++ z.q = A ++ V ++ U ++ D ∧ z.p.length + z.u.length = m ∧ 0 < z.u.length ∧ 0 < z.v.length) (fun z => z.u.length + z.v.length) ⟨A, U, V, D⟩ 1 ⟨rfl, hm.symm, hU, hV⟩ ?_ rfl ?_⟩
  · simp [go_sem]; omega
  rintro ⟨p, u, v, q⟩ ⟨hF, hpm, hu, hv⟩
  simp only at hF hpm hu hv
  have hln : p.length + v.length + u.length + q.length = n := by
    have := congrArg List.length hF
    simp only [List.length_append] at this
    omega
  have hln' : (Rz.mk p u v q).all.length = n := by unfold Rz.all; simp only [List.length_append]; omega
  simp -dsimp only [go_sem, bne]
  have hme : ((m : Int) - (u.length : Int)).toNat = p.length := by omega
  rw [hme]
  refine ⟨fun h1 => ⟨fun h2 => ?_, fun h2 => ?_⟩, fun h1 => ?_⟩
  · have hlt : v.length < u.length := by simp at h2; omega
    refine ⟨by omega, ⟨⟨_, rfl, hln'⟩, hn, by omega, by omega, by omega, by omega⟩, by omega, ?_⟩
    have hsw : swpL (Rz.mk p u v q).all p.length m v.length = (Rz.mk (p ++ v) (u.drop v.length) (u.take v.length) q).all := by
      have e : (Rz.mk p u v q).all = p ++ u.take v.length ++ u.drop v.length ++ v ++ q := by
        unfold Rz.all
        conv => lhs; rw [← List.take_append_drop v.length u]
        simp
      have l1 : (u.take v.length).length = v.length := by rw [List.length_take]; omega
      rw [e, swpL_at p (u.take v.length) (u.drop v.length) v q l1 rfl (by rw [l1, List.length_drop]; omega) l1.symm]
      rfl
    refine loop_next (Rz.mk (p ++ v) (u.drop v.length) (u.take v.length) q) 1 ⟨?_, ?_, ?_, ?_⟩ ?_ ?_ ?_
    · rw [← hF]
      conv => rhs; rw [← List.take_append_drop v.length u]
      simp
    · simp only [List.length_append, List.length_drop]; omega
    · simp only [List.length_drop]; omega
    · simp only [List.length_take]; omega
    · simp only [List.length_drop, List.length_take]; omega
    · simp [go_sem]; omega
    · rw [hsw]; rfl
  · have hlt : u.length < v.length := by simp at h1 h2; omega
    have hmf : ((m : Int) + (v.length : Int) - (u.length : Int)).toNat = p.length + u.length + (v.length - u.length) := by omega
    refine ⟨by omega, by omega, by omega, ⟨⟨_, rfl, hln'⟩, hn, by omega, by omega, by omega, by omega⟩, by omega, ?_⟩
    rw [hmf]
    have hsw : swpL (Rz.mk p u v q).all p.length (p.length + u.length + (v.length - u.length)) u.length = (Rz.mk p (v.drop (v.length - u.length)) (v.take (v.length - u.length)) (u ++ q)).all := by
      have e : (Rz.mk p u v q).all = p ++ u ++ v.take (v.length - u.length) ++ v.drop (v.length - u.length) ++ q := by
        unfold Rz.all
        conv => lhs; rw [← List.take_append_drop (v.length - u.length) v]
        simp
      have l1 : (v.drop (v.length - u.length)).length = u.length := by rw [List.length_drop]; omega
      have l2 : (v.take (v.length - u.length)).length = v.length - u.length := by rw [List.length_take]; omega
      rw [e, swpL_at p u (v.take (v.length - u.length)) (v.drop (v.length - u.length)) q l1.symm rfl (by rw [l2]) rfl]
      unfold Rz.all; simp
    refine loop_next (Rz.mk p (v.drop (v.length - u.length)) (v.take (v.length - u.length)) (u ++ q)) 1 ⟨?_, ?_, ?_, ?_⟩ ?_ ?_ ?_
    · rw [← hF]
      conv => rhs; rw [← List.take_append_drop (v.length - u.length) v]
      simp
    · simp only [List.length_drop]; omega
    · simp only [List.length_drop]; omega
    · simp only [List.length_take]; omega
    · simp only [List.length_drop, List.length_take]; omega
    · simp [go_sem]; omega
    · rw [hsw]; rfl
  · have he : u.length = v.length := by simp at h1; omega
    have hsw : swpL (Rz.mk p u v q).all p.length m u.length = A ++ V ++ U ++ D := by
      have e : (Rz.mk p u v q).all = p ++ u ++ [] ++ v ++ q := by unfold Rz.all; simp
      rw [e, swpL_at p u [] v q he rfl (by simp; omega) rfl, ← hF]; simp
    rw [hsw]
    exact ⟨by omega, ⟨⟨_, rfl, hln'⟩, hn, by omega, by omega, by omega, by omega⟩, .done hK⟩
/-- The row with two neighbouring ranges exchanged. -/
def rotL (L : List Fnd) (a m b : Nat) : List Fnd := L.take a ++ (L.take b).drop m ++ (L.take m).drop a ++ L.drop b
def rotSp2 : W.Spec := fun av H K =>
  match av, H with
  | [.va (.c1 (.sl 0 n)), .va (.c1 (.vl (.int .i64 a))), .va (.c1 (.vl (.int .i64 m))), .va (.c1 (.vl (.int .i64 b))), .va (.c1 (.fn f []))], [.row rs 68 5] =>
    ((∃ L : List Fnd, rs = L.map fnC ∧ L.length = n) ∧ n ≤ 1000000000 ∧ f = 25 ∧ 0 ≤ a ∧ a < m ∧ m < b ∧ b ≤ n) ∧ K (.tu []) [.row ((rotL (rs.map C.fnd) a.toNat m.toNat b.toNat).map fnC) 68 5]
  | _, _ => False
theorem cut4 (L : List Fnd) {a m b : Nat} (h1 : a ≤ m) (h2 : m ≤ b) : L.take a ++ (L.take m).drop a ++ (L.take b).drop m ++ L.drop b = L := by
  have e1 : L.take a ++ (L.take m).drop a = L.take m := by
    have : L.take a = (L.take m).take a := by rw [List.take_take, Nat.min_eq_left h1]
    rw [this, List.take_append_drop]
  have e2 : L.take m ++ (L.take b).drop m = L.take b := by
    have : L.take m = (L.take b).take m := by rw [List.take_take, Nat.min_eq_left h2]
    rw [this, List.take_append_drop]
  rw [e1, e2, List.take_append_drop]
theorem mRot2 : Meets Try.prog 63 rotSp2 := Meets.imp mRot fun av H K h => by
  unfold rotSp2 at h
  split at h
  · rename_i n a m b f rs
    obtain ⟨⟨⟨L, rfl, rfl⟩, h1, rfl, h2, h3, h4, h5⟩, hK⟩ := h
    rw [fnd_map] at hK
    have e := cut4 L (a := a.toNat) (m := m.toNat) (b := b.toNat) (by omega) (by omega)
    have la : (L.take a.toNat).length = a.toNat := by rw [List.length_take]; omega
    have lu : ((L.take m.toNat).drop a.toNat).length = m.toNat - a.toNat := by rw [List.length_drop, List.length_take]; omega
    have lv : ((L.take b.toNat).drop m.toNat).length = b.toNat - m.toNat := by rw [List.length_drop, List.length_take]; omega
    refine ⟨L.take a.toNat, (L.take m.toNat).drop a.toNat, (L.take b.toNat).drop m.toNat, L.drop b.toNat, by omega, by omega, ?_, ?_, ?_, hK⟩
    · rw [e, la, lu, lv, show ((a.toNat : Nat) : Int) = a by omega, show ((a.toNat + (m.toNat - a.toNat) : Nat) : Int) = m by omega, show ((a.toNat + (m.toNat - a.toNat) + (b.toNat - m.toNat) : Nat) : Int) = b by omega]
    · rw [e]
    · rw [e]; exact h1
  · exact h.elim
attribute [go_sem ↓] rotSp2
end Go.Proofs.Ytdnohfhpbhlpaaa
/- Merging in place. -/
namespace Go.Proofs.Ytdnohfhpbhlpaaa
open Go.W
def mrgR (L : List Fnd) (a m b : Nat) : List Fnd := L.take a ++ mrgL ltC ((L.take m).drop a) ((L.take b).drop m) ++ L.drop b
def mrgSp (N : Nat) : W.Spec := fun av H K =>
  match av, H with
  | [.va (.c1 (.sl 0 n)), .va (.c1 (.vl (.int .i64 a))), .va (.c1 (.vl (.int .i64 m))), .va (.c1 (.vl (.int .i64 b))), .va (.c1 (.fn f []))], [.row rs 68 5] =>
    ((∃ L : List Fnd, rs = L.map fnC ∧ L.length = n ∧ Srt ltC ((L.take m.toNat).drop a.toNat) ∧ Srt ltC ((L.take b.toNat).drop m.toNat)) ∧ n ≤ 1000000000 ∧ f = 25 ∧ 0 ≤ a ∧ a < m ∧ m < b ∧ b ≤ n ∧ b - a ≤ N) ∧
      K (.tu []) [.row ((mrgR (rs.map C.fnd) a.toNat m.toNat b.toNat).map fnC) 68 5]
  | _, _ => False
attribute [go_sem ↓] mrgSp
theorem parts4 (A U V D : List Fnd) : (A ++ U ++ V ++ D).take A.length = A ∧ (A ++ U ++ V ++ D).drop (A.length + U.length + V.length) = D ∧ ((A ++ U ++ V ++ D).take (A.length + U.length)).drop A.length = U ∧ ((A ++ U ++ V ++ D).take (A.length + U.length + V.length)).drop (A.length + U.length) = V := by
  have e1 : A ++ U ++ V ++ D = A ++ (U ++ (V ++ D)) := by simp
  have e2 : A ++ U ++ V ++ D = (A ++ U) ++ (V ++ D) := by simp
  have t2 : (A ++ U ++ V ++ D).take (A.length + U.length) = A ++ U := by rw [e2]; exact List.take_left' (by simp)
  have t3 : (A ++ U ++ V ++ D).take (A.length + U.length + V.length) = A ++ U ++ V := List.take_left' (by simp; omega)
  refine ⟨by rw [e1]; exact List.take_left' rfl, List.drop_left' (by simp; omega), ?_, ?_⟩
  · rw [t2]; exact List.drop_left' rfl
  · rw [t3]; exact List.drop_left' (by simp)
theorem mrgR_at (A U V D : List Fnd) {a m b : Nat} (ha : a = A.length) (hm : m = A.length + U.length) (hb : b = A.length + U.length + V.length) : mrgR (A ++ U ++ V ++ D) a m b = A ++ mrgL ltC U V ++ D := by
  subst ha hm hb
  obtain ⟨h1, h2, h3, h4⟩ := parts4 A U V D
  unfold mrgR
  rw [h1, h2, h3, h4]
theorem mrgSp_open {N : Nat} {av : List S} {H : Hp} {K : S → Hp → Prop} (h : mrgSp N av H K) : ∃ A U V D : List Fnd, av = [.va (.c1 (.sl 0 (A.length + U.length + V.length + D.length))), iS .i64 A.length, iS .i64 (A.length + U.length : Nat), iS .i64 (A.length + U.length + V.length : Nat), cmpV] ∧ H = fnH (A ++ U ++ V ++ D) ∧
    A.length + U.length + V.length + D.length ≤ 1000000000 ∧ Srt ltC U ∧ Srt ltC V ∧ 0 < U.length ∧ 0 < V.length ∧ U.length + V.length ≤ N ∧ K (.tu []) (fnH (A ++ mrgL ltC U V ++ D)) := by
  unfold mrgSp at h
  split at h
  · rename_i n a m b f rs
    obtain ⟨⟨⟨L, rfl, rfl, s1, s2⟩, h1, rfl, h2, h3, h4, h5, h6⟩, hK⟩ := h
    rw [fnd_map] at hK
    have e := cut4 L (a := a.toNat) (m := m.toNat) (b := b.toNat) (by omega) (by omega)
    have la : (L.take a.toNat).length = a.toNat := by rw [List.length_take]; omega
    have lu : ((L.take m.toNat).drop a.toNat).length = m.toNat - a.toNat := by rw [List.length_drop, List.length_take]; omega
    have lv : ((L.take b.toNat).drop m.toNat).length = b.toNat - m.toNat := by rw [List.length_drop, List.length_take]; omega
    have ld : (L.drop b.toNat).length = L.length - b.toNat := by rw [List.length_drop]
    refine ⟨L.take a.toNat, (L.take m.toNat).drop a.toNat, (L.take b.toNat).drop m.toNat, L.drop b.toNat, ?_, ?_, by omega, s1, s2, by omega, by omega, by omega, hK⟩
    · rw [la, lu, lv, ld, show ((a.toNat : Nat) : Int) = a by omega, show ((a.toNat + (m.toNat - a.toNat) : Nat) : Int) = m by omega, show ((a.toNat + (m.toNat - a.toNat) + (b.toNat - m.toNat) : Nat) : Int) = b by omega,
        show a.toNat + (m.toNat - a.toNat) + (b.toNat - m.toNat) + (L.length - b.toNat) = L.length by omega]
    · rw [e]
  · exact h.elim
abbrev gMrg (N : Nat) : W.Env := [(25, Entry.f ccFn), (63, Entry.s rotSp2), (61, Entry.s (mrgSp N))]
/-- The upper half. -/
theorem tail43 {N : Nat} {K : S → Hp → Prop} (A U V D : List Fnd) {n b mid e : Nat} (hn : n = A.length + U.length + V.length + D.length) (hn1 : n ≤ 1000000000) (hmid : mid = A.length) (he : e = A.length + U.length) (hb : b = A.length + U.length + V.length) (hU : Srt ltC U) (hV : Srt ltC V)
    (hN : U.length + V.length ≤ N) (hK : K (.tu []) (fnH (A ++ mrgL ltC U V ++ D))) :
    vc (gMrg N) 1 pc61_43.ungh (puts [(0, .va (.c1 (.sl 0 n))), (3, iS .i64 b), (4, cmpV), (18, iS .i64 mid), (24, iS .i64 e)]) (fnH (A ++ U ++ V ++ D)) (retK 1 rs61 K) := by
  obtain ⟨L, hL⟩ : ∃ L, L = A ++ U ++ V ++ D := ⟨_, rfl⟩
  have hLl : L.length = n := by rw [hL]; simp only [List.length_append]; omega
  have hm := mrgR_at A U V D hmid he hb
  obtain ⟨_, _, p3, p4⟩ := parts4 A U V D
  rw [← hL] at hm p3 p4 ⊢
  rw [← hb] at p4
  rw [← he] at p3 p4
  rw [← hmid] at p3
  simp -dsimp only [go_sem, pc61_43, rs61]
  refine ⟨fun h => ⟨⟨⟨L, rfl, hLl, by rw [p3]; exact hU, by rw [p4]; exact hV⟩, hn1, by omega, by simp at h; omega, by simp at h; omega, by omega, by omega⟩, .done (by rw [hm]; exact hK)⟩, fun h => .done ?_⟩
  have : mrgL ltC U V = U ++ V := by
    rcases Nat.eq_zero_or_pos U.length with h0 | h0
    · rw [List.eq_nil_of_length_eq_zero h0, mrg_nil]; rfl
    · rcases Nat.eq_zero_or_pos V.length with h1 | h1
      · rw [List.eq_nil_of_length_eq_zero h1, mrg_nil', List.append_nil]
      · simp at h; omega
  rw [this] at hK
  rw [hL]
  simpa using hK
theorem rotL_at (A U V D : List Fnd) {a m b : Nat} (ha : a = A.length) (hm : m = A.length + U.length) (hb : b = A.length + U.length + V.length) : rotL (A ++ U ++ V ++ D) a m b = A ++ V ++ U ++ D := by
  subst ha hm hb
  obtain ⟨h1, h2, h3, h4⟩ := parts4 A U V D
  unfold rotL
  rw [h1, h2, h3, h4]
/-- The lower half. -/
theorem tail41 {N : Nat} {K : S → Hp → Prop} (A U1 V1 U2 V2 D : List Fnd) {n a s mid e b : Nat} (hn : n = A.length + U1.length + V1.length + U2.length + V2.length + D.length) (hn1 : n ≤ 1000000000) (ha : a = A.length) (hs : s = A.length + U1.length) (hmid : mid = A.length + U1.length + V1.length)
    (he : e = mid + U2.length) (hb : b = e + V2.length) (hU1 : Srt ltC U1) (hV1 : Srt ltC V1) (hU2 : Srt ltC U2) (hV2 : Srt ltC V2)
    (hN1 : U1.length + V1.length ≤ N) (hN2 : U2.length + V2.length ≤ N) (hK : K (.tu []) (fnH (A ++ (mrgL ltC U1 V1 ++ mrgL ltC U2 V2) ++ D))) :
    vc (gMrg N) 1 pc61_41.ungh (puts [(0, .va (.c1 (.sl 0 n))), (1, iS .i64 a), (3, iS .i64 b), (4, cmpV), (18, iS .i64 mid), (20, iS .i64 s), (24, iS .i64 e)]) (fnH (A ++ U1 ++ V1 ++ (U2 ++ V2 ++ D))) (retK 1 rs61 K) := by
  obtain ⟨L, hL⟩ : ∃ L, L = A ++ U1 ++ V1 ++ (U2 ++ V2 ++ D) := ⟨_, rfl⟩
  have hLl : L.length = n := by rw [hL]; simp only [List.length_append]; omega
  have hm := mrgR_at A U1 V1 (U2 ++ V2 ++ D) ha hs hmid
  obtain ⟨_, _, p3, p4⟩ := parts4 A U1 V1 (U2 ++ V2 ++ D)
  rw [← hL] at hm p3 p4 ⊢
  rw [← hmid] at p4
  rw [← hs] at p3 p4
  rw [← ha] at p3
  have rest := tail43 (N := N) (K := K) (A ++ mrgL ltC U1 V1) U2 V2 D (n := n) (b := b) (mid := mid) (e := e) (by rw [List.length_append, mrg_len]; omega) hn1 (by rw [List.length_append, mrg_len]; omega) (by rw [List.length_append, mrg_len]; omega) (by rw [List.length_append, mrg_len]; omega) hU2 hV2 hN2 (by simpa using hK)
  simp -dsimp only [go_sem, pc61_41]
  refine ⟨fun h => ⟨⟨⟨L, rfl, hLl, by rw [p3]; exact hU1, by rw [p4]; exact hV1⟩, hn1, by omega, by simp at h; omega, by simp at h; omega, by omega, by omega⟩, vc_tail 1 rest ?_ ?_⟩, fun h => vc_tail 1 rest ?_ ?_⟩
  · simp [go_sem]
  · rw [hm]; simp [go_sem]
  · simp [go_sem]
  · have : mrgL ltC U1 V1 = U1 ++ V1 := by
      rcases Nat.eq_zero_or_pos U1.length with h0 | h0
      · rw [List.eq_nil_of_length_eq_zero h0, mrg_nil]; rfl
      · rcases Nat.eq_zero_or_pos V1.length with h1 | h1
        · rw [List.eq_nil_of_length_eq_zero h1, mrg_nil', List.append_nil]
        · simp at h; omega
    rw [hL, this]; simp [go_sem]
/-- Where the search has ended. -/
theorem tail38 {N : Nat} {K : S → Hp → Prop} (A U V D : List Fnd) {n a m b mid nn s : Nat} (hn : n = A.length + U.length + V.length + D.length) (hn1 : n ≤ 1000000000) (ha : a = A.length) (hm : m = a + U.length) (hb : b = m + V.length) (hU : Srt ltC U) (hV : Srt ltC V)
    (hmid : mid = (a + b) / 2) (hnn : nn = mid + m) (h2 : 2 ≤ U.length) (h3 : 2 ≤ V.length) (hs1 : a ≤ s) (hs2 : s ≤ m) (hs3 : s ≤ mid) (hs4 : nn - s ≤ b) (hN : U.length + V.length ≤ N + 1)
    (c1 : s = a ∨ nn - s = b ∨ ∃ u v, U[s - a - 1]? = some u ∧ V[nn - s - m]? = some v ∧ ltC v u = false) (c2 : s = m ∨ s = mid ∨ ∃ u v, U[s - a]? = some u ∧ V[nn - s - m - 1]? = some v ∧ ltC v u = true)
    (hK : K (.tu []) (fnH (A ++ mrgL ltC U V ++ D))) :
    vc (gMrg N) 1 pc61_38.ungh (puts [(0, .va (.c1 (.sl 0 n))), (1, iS .i64 a), (2, iS .i64 m), (3, iS .i64 b), (4, cmpV), (18, iS .i64 mid), (19, iS .i64 nn), (20, iS .i64 s)]) (fnH (A ++ U ++ V ++ D)) (retK 1 rs61 K) := by
  obtain ⟨e, he⟩ : ∃ e, e = nn - s := ⟨_, rfl⟩
  rw [← he] at hs4 c1 c2
  have hcut := mrg_cut swo hU hV (s := s - a) (e := e - m) (by
    rcases c1 with h | h | ⟨u, v, hu, hv, huv⟩
    · exact .inl (by omega)
    · exact .inr (.inl (by omega))
    · exact .inr (.inr ⟨u, v, hu, hv, huv⟩)) (by
    rcases c2 with h | h | ⟨u, v, hu, hv, huv⟩
    · exact .inl (by omega)
    · exact .inr (.inl (by omega))
    · exact .inr (.inr ⟨u, v, hu, hv, huv⟩))
  obtain ⟨U1, hU1⟩ : ∃ l, l = U.take (s - a) := ⟨_, rfl⟩
  obtain ⟨U2, hU2⟩ : ∃ l, l = U.drop (s - a) := ⟨_, rfl⟩
  obtain ⟨V1, hV1⟩ : ∃ l, l = V.take (e - m) := ⟨_, rfl⟩
  obtain ⟨V2, hV2⟩ : ∃ l, l = V.drop (e - m) := ⟨_, rfl⟩
  have eU : U = U1 ++ U2 := by rw [hU1, hU2, List.take_append_drop]
  have eV : V = V1 ++ V2 := by rw [hV1, hV2, List.take_append_drop]
  have lU1 : U1.length = s - a := by rw [hU1, List.length_take]; omega
  have lU2 : U2.length = m - s := by rw [hU2, List.length_drop]; omega
  have lV1 : V1.length = e - m := by rw [hV1, List.length_take]; omega
  have lV2 : V2.length = b - e := by rw [hV2, List.length_drop]; omega
  have sU1 : Srt ltC U1 := by rw [hU1]; exact List.Pairwise.sublist (List.take_sublist _ _) hU
  have sU2 : Srt ltC U2 := by rw [hU2]; exact List.Pairwise.sublist (List.drop_sublist _ _) hU
  have sV1 : Srt ltC V1 := by rw [hV1]; exact List.Pairwise.sublist (List.take_sublist _ _) hV
  have sV2 : Srt ltC V2 := by rw [hV2]; exact List.Pairwise.sublist (List.drop_sublist _ _) hV
  rw [← hU1, ← hU2, ← hV1, ← hV2] at hcut
  rw [hcut] at hK
  have rest := tail41 (N := N) (K := K) A U1 V1 U2 V2 D (n := n) (a := a) (s := s) (mid := mid) (e := e) (b := b) (by omega) hn1 ha (by omega) (by omega) (by omega) (by omega) sU1 sV1 sU2 sV2 (by omega) (by omega) hK
  obtain ⟨L, hL⟩ : ∃ L, L = A ++ U ++ V ++ D := ⟨_, rfl⟩
  have hLl : L.length = n := by rw [hL]; simp only [List.length_append]; omega
  have hr : rotL L s m e = A ++ U1 ++ V1 ++ (U2 ++ V2 ++ D) := by
    have := rotL_at (A ++ U1) U2 V1 (V2 ++ D) (a := s) (m := m) (b := e) (by simp only [List.length_append]; omega) (by simp only [List.length_append]; omega) (by simp only [List.length_append]; omega)
    have e2 : L = A ++ U1 ++ U2 ++ V1 ++ (V2 ++ D) := by rw [hL, eU, eV]; simp
    rw [e2, this]; simp
  have hne : (nn : Int) - (s : Int) = (e : Int) := by omega
  rw [← hL]
  simp -dsimp only [go_sem, pc61_38, hne]
  refine ⟨by omega, fun h => ⟨⟨⟨L, rfl, hLl⟩, hn1, by omega, by simp at h; omega, by simp at h; omega, by omega⟩, vc_tail 1 rest ?_ ?_⟩, fun h => vc_tail 1 rest ?_ ?_⟩
  · simp [go_sem]
  · rw [hr]; simp [go_sem]
  · simp [go_sem]
  · have : L = A ++ U1 ++ V1 ++ (U2 ++ V2 ++ D) := by
      rw [hL, eU, eV]
      rcases Nat.eq_zero_or_pos U2.length with h0 | h0
      · rw [List.eq_nil_of_length_eq_zero h0]; simp
      · rcases Nat.eq_zero_or_pos V1.length with h1 | h1
        · rw [List.eq_nil_of_length_eq_zero h1]; simp
        · simp at h; omega
    rw [this]; simp [go_sem]
theorem at_u {A U V D : List Fnd} {i k : Nat} {u : Fnd} (h : U[i]? = some u) (hk : k = A.length + i) : (A ++ U ++ V ++ D)[k]? = some u := by
  subst hk
  have hi := (List.getElem?_eq_some_iff.1 h).1
  have e : A ++ U ++ V ++ D = A ++ (U ++ (V ++ D)) := by simp
  rw [e, List.getElem?_append_right (by omega), Nat.add_sub_cancel_left, List.getElem?_append_left hi, h]
theorem at_v {A U V D : List Fnd} {i k : Nat} {v : Fnd} (h : V[i]? = some v) (hk : k = A.length + U.length + i) : (A ++ U ++ V ++ D)[k]? = some v := by
  subst hk
  have hi := (List.getElem?_eq_some_iff.1 h).1
  have e : A ++ U ++ V ++ D = (A ++ U) ++ (V ++ D) := by simp
  rw [e, List.getElem?_append_right (by rw [List.length_append]; omega), List.length_append, Nat.add_sub_cancel_left, List.getElem?_append_left hi, h]
theorem half {x y : Nat} (h : x + y ≤ 2000000000) : IntKind.i64.wrap ((IntKind.u64.wrap ((x : Int) + (y : Int))).fdiv (2 ^ (min 1 64 : Nat))) = ((x + y) / 2 : Nat) := by
  rw [show (min 1 64 : Nat) = 1 from rfl]
  have e1 : IntKind.u64.wrap ((x : Int) + (y : Int)) = ((x + y : Nat) : Int) := by rw [wrap_inr (by simp [inr, IntKind.min, IntKind.max, IntKind.signed, IntKind.bits]; omega)]; omega
  have e2 : ((x + y : Nat) : Int).fdiv (2 ^ 1) = ((x + y) / 2 : Nat) := by rw [Int.fdiv_eq_ediv_of_nonneg _ (by omega)]; omega
  rw [e1, e2, wrap_inr (by simp [inr, IntKind.min, IntKind.max, IntKind.signed, IntKind.bits]; omega)]
/-- The search. -/
theorem tail32 {N : Nat} {K : S → Hp → Prop} (A U V D : List Fnd) {n a m b mid nn s0 r0 : Nat} (hn : n = A.length + U.length + V.length + D.length) (hn1 : n ≤ 1000000000) (ha : a = A.length) (hm : m = a + U.length) (hb : b = m + V.length) (hU : Srt ltC U) (hV : Srt ltC V)
    (hmid : mid = (a + b) / 2) (hnn : nn = mid + m) (h2 : 2 ≤ U.length) (h3 : 2 ≤ V.length) (hs1 : a ≤ s0) (hs2 : r0 ≤ m) (hs3 : r0 ≤ mid) (hs4 : nn - s0 ≤ b) (hsr : s0 ≤ r0) (hN : U.length + V.length ≤ N + 1)
    (c1 : s0 = a ∨ nn - s0 = b) (c2 : r0 = m ∨ r0 = mid) (hK : K (.tu []) (fnH (A ++ mrgL ltC U V ++ D))) :
    vc (gMrg N) 1 pc61_32.ungh (puts [(0, .va (.c1 (.sl 0 n))), (1, iS .i64 a), (2, iS .i64 m), (3, iS .i64 b), (4, cmpV), (18, iS .i64 mid), (19, iS .i64 nn), (20, iS .i64 s0), (21, iS .i64 r0)]) (fnH (A ++ U ++ V ++ D)) (retK 1 rs61 K) := by
  obtain ⟨L, hL⟩ : ∃ L, L = A ++ U ++ V ++ D := ⟨_, rfl⟩
  have hLl : L.length = n := by rw [hL]; simp only [List.length_append]; omega
  rw [← hL]
  simp -dsimp only [go_sem, pc61_32]
  have hnn1 : (nn : Int) - 1 = ((nn - 1 : Nat) : Int) := by omega
  refine ⟨by omega, vc_loop (α := Nat × Nat) (fun z => [(0, .va (.c1 (.sl 0 n))), (1, iS .i64 a), (2, iS .i64 m), (3, iS .i64 b), (4, cmpV), (18, iS .i64 mid), (19, iS .i64 nn), (20, iS .i64 z.1), (21, iS .i64 z.2), (22, iS .i64 (nn - 1 : Nat))]) (fun _ => fnH L)
    (fun z => s0 ≤ z.1 ∧ z.1 ≤ z.2 ∧ z.2 ≤ r0 ∧ (z.1 = s0 ∨ ∃ u v, U[z.1 - a - 1]? = some u ∧ V[nn - z.1 - m]? = some v ∧ ltC v u = false) ∧ (z.2 = r0 ∨ ∃ u v, U[z.2 - a]? = some u ∧ V[nn - z.2 - m - 1]? = some v ∧ ltC v u = true)) (fun z => z.2 - z.1) (s0, r0) 1 ⟨by simp, hsr, by simp, .inl rfl, .inl rfl⟩ ?_ rfl ?_⟩
  · simp [go_sem, hnn1]
  rintro ⟨st, r⟩ ⟨w1, w2, w3, w4, w5⟩
  simp only at w1 w2 w3 w4 w5
  rcases Nat.lt_or_ge st r with hlt | hge
  · have hg : decide ((st : Int) < (r : Int)) = true := by simp; omega
    obtain ⟨c, hc⟩ : ∃ c, c = (st + r) / 2 := ⟨_, rfl⟩
    have hh := half (x := st) (y := r) (by omega)
    rw [← hc] at hh
    obtain ⟨u, hu⟩ : ∃ u, U[c - a]? = some u := ⟨_, List.getElem?_eq_getElem (by omega)⟩
    obtain ⟨v, hv⟩ : ∃ v, V[nn - c - m - 1]? = some v := ⟨_, List.getElem?_eq_getElem (by omega)⟩
    have gu : L[c]? = some u := by rw [hL]; exact at_u hu (by omega)
    have gv : L[nn - 1 - c]? = some v := by rw [hL]; exact at_v hv (by omega)
    have i1 : (((nn - 1 : Nat) : Int) - (c : Int)).toNat = nn - 1 - c := by omega
    have i2 : ((c : Nat) : Int).toNat = c := by omega
    have q1 := row_at i2 gu
    have q2 := row_at i1 gv
    have q3 := row_at' gu
    have q4 := row_at' gv
    have hcv : ∀ a b : Fnd, ccFn.val [.va (.gs (fnC a)), .va (.gs (fnC b))] = iA .i64 (cmpC a b) := fun _ _ => rfl
    have hlt' : decide (cmpC v u < 0) = ltC v u := rfl
    simp -dsimp only [go_sem, hg, hh, ↓q3, ↓q4, hcv, hlt', i1]
    refine ⟨by omega, by decide, by omega, ⟨⟨by omega, by omega⟩, hLl⟩, ⟨hLl, by omega⟩, ⟨⟨by omega, by omega⟩, hLl⟩, ⟨hLl, by omega⟩, ccPre_mk v u, fun h => ?_, fun h => ?_⟩
    · refine ⟨by omega, loop_next (c + 1, r) 1 ⟨by simp only; omega, by simp only; omega, w3, .inr ⟨u, v, ?_, ?_, h⟩, w5⟩ (by simp only; omega) ?_ ?_⟩
      · rw [show c + 1 - a - 1 = c - a by omega]; exact hu
      · rw [show nn - (c + 1) - m = nn - c - m - 1 by omega]; exact hv
      · simp [go_sem]
      · simp [go_sem]
    · have h' : ltC v u = true := by simpa using h
      refine loop_next (st, c) 1 ⟨w1, by simp only; omega, by simp only; omega, w4, .inr ⟨u, v, hu, hv, h'⟩⟩ (by simp only; omega) ?_ ?_
      · simp [go_sem]
      · simp [go_sem]
  · have hg : decide ((st : Int) < (r : Int)) = false := by simp; omega
    obtain rfl : st = r := by omega
    simp -dsimp only [go_sem, hg]
    have rest := tail38 (N := N) (K := K) A U V D (n := n) (a := a) (m := m) (b := b) (mid := mid) (nn := nn) (s := st) hn hn1 ha hm hb hU hV hmid hnn h2 h3 (by omega) (by omega) (by omega) (by omega) hN (by
      rcases w4 with h | h
      · rcases c1 with h' | h'
        · exact .inl (by omega)
        · exact .inr (.inl (by omega))
      · exact .inr (.inr h)) (by
      rcases w5 with h | h
      · rcases c2 with h' | h'
        · exact .inl (by omega)
        · exact .inr (.inl (by omega))
      · exact .inr (.inr h)) hK
    rw [← hL] at rest
    refine vc_tail 1 rest ?_ ?_
    · simp [go_sem]
    · simp [go_sem]
end Go.Proofs.Ytdnohfhpbhlpaaa
/- Merging in place, whole. -/
namespace Go.Proofs.Ytdnohfhpbhlpaaa
open Go.W
theorem one_right {U : List Fnd} {y : Fnd} (hU : Srt ltC U) {s : Nat} (_hs : s ≤ U.length) (h1 : s = 0 ∨ ∃ u, U[s - 1]? = some u ∧ ltC y u = false) (h2 : s = U.length ∨ ∃ u, U[s]? = some u ∧ ltC y u = true) : mrgL ltC U [y] = U.take s ++ y :: U.drop s := by
  have hy : Srt ltC [y] := List.pairwise_singleton _ _
  rw [mrg_cut swo hU hy (s := s) (e := 0) (by
    rcases h1 with h | ⟨u, hu, h⟩
    · exact .inl h
    · exact .inr (.inr ⟨u, y, hu, rfl, h⟩)) (.inr (.inl rfl))]
  have hd : Srt ltC (U.drop s) := List.Pairwise.sublist (List.drop_sublist _ _) hU
  have e2 := mrg_cut swo hd hy (s := 0) (e := 1) (.inl rfl) (by
    rcases h2 with h | ⟨u, hu, h⟩
    · exact .inl (by rw [List.length_drop]; omega)
    · exact .inr (.inr ⟨u, y, by rw [List.getElem?_drop]; exact hu, rfl, h⟩))
  simp only [List.drop_zero] at e2 ⊢
  rw [e2]
  simp [mrg_nil, mrg_nil']
theorem one_left {V : List Fnd} {x : Fnd} (hV : Srt ltC V) {e : Nat} (_he : e ≤ V.length) (h1 : e = 0 ∨ ∃ v, V[e - 1]? = some v ∧ ltC v x = true) (h2 : e = V.length ∨ ∃ v, V[e]? = some v ∧ ltC v x = false) : mrgL ltC [x] V = V.take e ++ x :: V.drop e := by
  have hx : Srt ltC [x] := List.pairwise_singleton _ _
  rw [mrg_cut swo hx hV (s := 0) (e := e) (.inl rfl) (by
    rcases h1 with h | ⟨v, hv, h⟩
    · exact .inr (.inl h)
    · exact .inr (.inr ⟨x, v, rfl, hv, h⟩))]
  have hd : Srt ltC (V.drop e) := List.Pairwise.sublist (List.drop_sublist _ _) hV
  have e2 := mrg_cut swo hx hd (s := 1) (e := 0) (by
    rcases h2 with h | ⟨v, hv, h⟩
    · exact .inr (.inl (by rw [List.length_drop]; omega))
    · exact .inr (.inr ⟨x, v, rfl, by rw [List.getElem?_drop]; exact hv, h⟩)) (.inr (.inl rfl))
  simp only [List.drop_zero] at e2 ⊢
  rw [e2]
  simp [mrg_nil, mrg_nil']
theorem in_swap2 (P A : List Fnd) (x : Fnd) (B : List Fnd) {d : Nat} {y : Fnd} (h : A[d]? = some y) : ((inI P A x B d).set (P.length + d) y).set (P.length + (d + 1)) x = inI P A x B (d + 1) := by
  have hd := (List.getElem?_eq_some_iff.1 h).1
  have hdr : A.drop d = y :: A.drop (d + 1) := by
    rw [List.drop_eq_getElem_cons hd]
    rw [List.getElem?_eq_getElem hd] at h
    rw [Option.some.inj h]
  have ht : A.take (d + 1) = A.take d ++ [y] := by rw [List.take_add_one, h]; rfl
  unfold inI
  rw [hdr, ← List.append_assoc, set_mid _ _ _ _ (by simp only [List.length_append, List.length_take]; omega)]
  have e : P ++ A.take d ++ y :: (y :: A.drop (d + 1) ++ B) = (P ++ A.take d ++ [y]) ++ y :: (A.drop (d + 1) ++ B) := by simp
  rw [e, set_mid _ _ _ _ (by simp only [List.length_append, List.length_take, List.length_cons, List.length_nil]; omega), ht]
  simp
theorem in_get2 (P A : List Fnd) (x : Fnd) (B : List Fnd) {d : Nat} {y : Fnd} (h : A[d]? = some y) : (inI P A x B d)[P.length + (d + 1)]? = some y := by
  have hd := (List.getElem?_eq_some_iff.1 h).1
  have hdr : A.drop d = y :: A.drop (d + 1) := by
    rw [List.drop_eq_getElem_cons hd]
    rw [List.getElem?_eq_getElem hd] at h
    rw [Option.some.inj h]
  unfold inI
  rw [hdr]
  have e : P ++ (A.take d ++ x :: (y :: A.drop (d + 1) ++ B)) = (P ++ A.take d ++ [x]) ++ y :: (A.drop (d + 1) ++ B) := by simp
  rw [e]
  exact get_mid _ _ _ (by simp only [List.length_append, List.length_take, List.length_cons, List.length_nil]; omega)
/-- Both lists have two elements or more. -/
theorem tail24 {N : Nat} {K : S → Hp → Prop} (A U V D : List Fnd) {n a m b : Nat} (hn : n = A.length + U.length + V.length + D.length) (hn1 : n ≤ 1000000000) (ha : a = A.length) (hm : m = a + U.length) (hb : b = m + V.length) (hU : Srt ltC U) (hV : Srt ltC V)
    (h2 : 2 ≤ U.length) (h3 : 2 ≤ V.length) (hN : U.length + V.length ≤ N + 1) (hK : K (.tu []) (fnH (A ++ mrgL ltC U V ++ D))) :
    vc (gMrg N) 1 pc61_24.ungh (puts [(0, .va (.c1 (.sl 0 n))), (1, iS .i64 a), (2, iS .i64 m), (3, iS .i64 b), (4, cmpV)]) (fnH (A ++ U ++ V ++ D)) (retK 1 rs61 K) := by
  obtain ⟨L, hL⟩ : ∃ L, L = A ++ U ++ V ++ D := ⟨_, rfl⟩
  have hh := half (x := a) (y := b) (by omega)
  obtain ⟨mid, hmid⟩ : ∃ mid, mid = (a + b) / 2 := ⟨_, rfl⟩
  rw [← hmid] at hh
  have r1 := tail32 (N := N) (K := K) A U V D (n := n) (a := a) (m := m) (b := b) (mid := mid) (nn := mid + m) (s0 := mid + m - b) (r0 := mid) hn hn1 ha hm hb hU hV hmid rfl h2 h3
  have r2 := tail32 (N := N) (K := K) A U V D (n := n) (a := a) (m := m) (b := b) (mid := mid) (nn := mid + m) (s0 := a) (r0 := m) hn hn1 ha hm hb hU hV hmid rfl h2 h3
  rw [← hL] at r1 r2 ⊢
  simp -dsimp only [go_sem, pc61_24, hh]
  refine ⟨by omega, by decide, by omega, fun h => ⟨by omega, vc_tail 1 (r1 ?_ ?_ ?_ ?_ ?_ hN ?_ ?_ hK) ?_ ?_⟩, fun h => vc_tail 1 (r2 ?_ ?_ ?_ ?_ ?_ hN ?_ ?_ hK) ?_ ?_⟩
  all_goals simp at h
  all_goals first
    | omega
    | (simp [go_sem]; done)
    | (simp [go_sem]; omega)
/-- The first list has two elements or more. -/
theorem tail12 {N : Nat} {K : S → Hp → Prop} (A U V D : List Fnd) {n a m b : Nat} (hn : n = A.length + U.length + V.length + D.length) (hn1 : n ≤ 1000000000) (ha : a = A.length) (hm : m = a + U.length) (hb : b = m + V.length) (hU : Srt ltC U) (hV : Srt ltC V)
    (h2 : 2 ≤ U.length) (h3 : 1 ≤ V.length) (hN : U.length + V.length ≤ N + 1) (hK : K (.tu []) (fnH (A ++ mrgL ltC U V ++ D))) :
    vc (gMrg N) 1 pc61_12.ungh (puts [(0, .va (.c1 (.sl 0 n))), (1, iS .i64 a), (2, iS .i64 m), (3, iS .i64 b), (4, cmpV)]) (fnH (A ++ U ++ V ++ D)) (retK 1 rs61 K) := by
  obtain ⟨L, hL⟩ : ∃ L, L = A ++ U ++ V ++ D := ⟨_, rfl⟩
  have hLl : L.length = n := by rw [hL]; simp only [List.length_append]; omega
  rcases Nat.lt_or_ge 1 V.length with hv1 | hv1
  · have hg : (((b : Int) - (m : Int)) == 1) = false := by simp; omega
    have rest := tail24 (N := N) (K := K) A U V D hn hn1 ha hm hb hU hV h2 hv1 hN hK
    rw [← hL] at rest ⊢
    simp -dsimp only [go_sem, pc61_12, hg]
    refine ⟨by omega, vc_tail 1 rest ?_ ?_⟩
    · simp [go_sem]
    · simp [go_sem]
  · have hg : (((b : Int) - (m : Int)) == 1) = true := by simp; omega
    obtain ⟨y, rfl⟩ : ∃ y, V = [y] := by
      match V, h3, hv1 with
      | [y], _, _ => exact ⟨y, rfl⟩
      | _ :: _ :: _, _, h => simp at h
    have hbm : b = m + 1 := by simpa using hb
    have hin : L = inI A U y D U.length := by rw [hL]; unfold inI; simp
    rw [← hL]
    simp -dsimp only [go_sem, pc61_12, hg]
    refine ⟨by omega, vc_loop (α := Nat × Nat) (fun z => [(0, .va (.c1 (.sl 0 n))), (1, iS .i64 a), (2, iS .i64 m), (3, iS .i64 b), (4, cmpV), (14, iS .i64 z.1), (15, iS .i64 z.2)]) (fun _ => fnH L)
      (fun z => a ≤ z.1 ∧ z.1 ≤ z.2 ∧ z.2 ≤ m ∧ (z.1 = a ∨ ∃ u, U[z.1 - a - 1]? = some u ∧ ltC y u = false) ∧ (z.2 = m ∨ ∃ u, U[z.2 - a]? = some u ∧ ltC y u = true)) (fun z => z.2 - z.1) (a, m) 1 ⟨by simp, by simp only; omega, by simp, .inl rfl, .inl rfl⟩ ?_ rfl ?_⟩
    · simp [go_sem]
    rintro ⟨i, j⟩ ⟨w1, w2, w3, w4, w5⟩
    simp only at w1 w2 w3 w4 w5
    rcases Nat.lt_or_ge i j with hlt | hge
    · have hg : decide ((i : Int) < (j : Int)) = true := by simp; omega
      obtain ⟨c, hc⟩ : ∃ c, c = (i + j) / 2 := ⟨_, rfl⟩
      have hh := half (x := i) (y := j) (by omega)
      rw [← hc] at hh
      obtain ⟨u, hu⟩ : ∃ u, U[c - a]? = some u := ⟨_, List.getElem?_eq_getElem (by omega)⟩
      have gu : L[c]? = some u := by rw [hL]; exact at_u hu (by omega)
      have gy : L[m]? = some y := by rw [hL]; exact at_v (i := 0) rfl (by omega)
      have q1 := row_at (i := ((c : Nat) : Int)) (by omega) gu
      have q2 := row_at (i := ((m : Nat) : Int)) (by omega) gy
      have q3 := row_at' gu
      have q4 := row_at' gy
      have hcv : ∀ a b : Fnd, ccFn.val [.va (.gs (fnC a)), .va (.gs (fnC b))] = iA .i64 (cmpC a b) := fun _ _ => rfl
      have hlt' : decide (cmpC y u < 0) = ltC y u := rfl
      simp -dsimp only [go_sem, hg, hh, ↓q3, ↓q4, hcv, hlt']
      refine ⟨by omega, by decide, ⟨⟨by omega, by omega⟩, hLl⟩, ⟨hLl, by omega⟩, ⟨⟨by omega, by omega⟩, hLl⟩, ⟨hLl, by omega⟩, ccPre_mk y u, fun h => ?_, fun h => ?_⟩
      · refine ⟨by omega, loop_next (c + 1, j) 1 ⟨by simp only; omega, by simp only; omega, w3, .inr ⟨u, ?_, h⟩, w5⟩ (by simp only; omega) ?_ ?_⟩
        · rw [show c + 1 - a - 1 = c - a by omega]; exact hu
        · simp [go_sem]
        · simp [go_sem]
      · have h' : ltC y u = true := by simpa using h
        refine loop_next (i, c) 1 ⟨w1, by simp only; omega, by simp only; omega, w4, .inr ⟨u, hu, h'⟩⟩ (by simp only; omega) ?_ ?_
        · simp [go_sem]
        · simp [go_sem]
    · have hg : decide ((i : Int) < (j : Int)) = false := by simp; omega
      obtain rfl : i = j := by omega
      simp -dsimp only [go_sem, hg]
      have hfin : A ++ mrgL ltC U [y] ++ D = inI A U y D (i - a) := by
        rw [one_right hU (s := i - a) (by omega) (by
          rcases w4 with h | h
          · exact .inl (by omega)
          · exact .inr h) (by
          rcases w5 with h | h
          · exact .inl (by omega)
          · exact .inr h)]
        unfold inI; simp
      refine vc_loop (α := Nat) (fun d => [(0, .va (.c1 (.sl 0 n))), (14, iS .i64 i), (17, iS .i64 (a + d : Nat))]) (fun d => fnH (inI A U y D d)) (fun d => i - a ≤ d ∧ d ≤ U.length) (fun d => d) U.length 1 ⟨by omega, Nat.le_refl _⟩ ?_ ?_ ?_
      · simp [go_sem]; omega
      · rw [hin]; rfl
      rintro d ⟨hd1, hd2⟩
      rcases Nat.lt_or_ge (i - a) d with hlt2 | hge2
      · obtain ⟨d, rfl⟩ : ∃ d', d = d' + 1 := ⟨d - 1, by omega⟩
        obtain ⟨u, hu⟩ : ∃ u, U[d]? = some u := ⟨_, List.getElem?_eq_getElem (by omega)⟩
        obtain ⟨M, hM⟩ : ∃ M, M = inI A U y D (d + 1) := ⟨_, rfl⟩
        have hMl : M.length = n := by rw [hM, inI_len]; simp at hn; omega
        have gy : M[a + (d + 1)]? = some y := by rw [hM, ha]; exact in_get _ _ _ _ hd2
        have gu : M[a + d]? = some u := by rw [hM, ha]; exact in_get1 _ _ _ _ hd2 hu
        have g3 : (M.set (a + (d + 1)) u)[a + d]? = some u := by rw [List.getElem?_set, if_neg (by omega)]; exact gu
        have i1 : (((a + (d + 1) : Nat) : Int) - 1).toNat = a + d := by omega
        have q1 := row_at (i := ((a + (d + 1) : Nat) : Int)) (by omega) gy
        have q2 := row_at i1 gu
        have q3 := row_at' gy
        have q4 := row_at' gu
        have q5 := row_at i1 g3
        have q6 := row_at' g3
        have hg2 : decide ((i : Int) < ((a + (d + 1) : Nat) : Int)) = true := by simp; omega
        have hs := in_swap A U y D hd2 hu
        rw [← ha, ← hM] at hs
        rw [← hM]
        simp -dsimp only [go_sem, hg2, ↓q3, ↓q4, ↓q6, row_set, i1]
        and_intros
        all_goals first
          | omega
          | (simp; omega)
          | skip
        refine loop_next d 1 ⟨by omega, by omega⟩ (by omega) ?_ ?_
        · simp [go_sem]; omega
        · rw [← hs]; rfl
      · obtain rfl : d = i - a := by omega
        have hg2 : decide ((i : Int) < ((a + (i - a) : Nat) : Int)) = false := by simp; omega
        simp -dsimp only [go_sem, hg2]
        rw [← hfin]
        exact .done hK
theorem enMrg : enters Try.prog 61 = true := by kernel_rfl
theorem mMrgN : ∀ N, Meets Try.prog 61 (mrgSp N)
  | 0 => ⟨enMrg, fun av vs E ro w K _ _ _ h => by obtain ⟨A, U, V, D, _, _, _, _, _, h0, _, hN, _⟩ := mrgSp_open h; omega⟩
  | N + 1 => by
    refine meets_fn Try.func61 ok61 5 (by rw [Try.ntmps61]; decide) (meetsAll_f mCmp (meetsAll_s mRot2 (meetsAll_s (mMrgN N) (meetsAll_nil _)))) (fun av H K h => by obtain ⟨_, _, _, _, rfl, _⟩ := mrgSp_open h; rfl) ?_
    intro av H K h
    obtain ⟨A, U, V, D, rfl, rfl, hn1, hU, hV, hu, hv, hN, hK⟩ := mrgSp_open h
    obtain ⟨n, hn⟩ : ∃ n, n = A.length + U.length + V.length + D.length := ⟨_, rfl⟩
    obtain ⟨a, ha⟩ : ∃ a, a = A.length := ⟨_, rfl⟩
    obtain ⟨m, hm⟩ : ∃ m, m = A.length + U.length := ⟨_, rfl⟩
    obtain ⟨b, hb⟩ : ∃ b, b = A.length + U.length + V.length := ⟨_, rfl⟩
    obtain ⟨L, hL⟩ : ∃ L, L = A ++ U ++ V ++ D := ⟨_, rfl⟩
    have hLl : L.length = n := by rw [hL]; simp only [List.length_append]; omega
    rw [← hn] at hn1
    rcases Nat.lt_or_ge 1 U.length with hu1 | hu1
    · have hg : (((m : Int) - (a : Int)) == 1) = false := by simp; omega
      have rest := tail12 (N := N) (K := K) A U V D (n := n) (a := a) (m := m) (b := b) hn hn1 ha (by omega) (by omega) hU hV hu1 hv hN hK
      rw [← hL] at rest
      rw [← hn, ← hb, ← hm, ← ha, ← hL]
      simp -dsimp only [go_sem, pc61, rs61, hg]
      refine ⟨by omega, vc_tail 1 rest ?_ ?_⟩
      · simp [go_sem]
      · simp [go_sem]
    · have hg : (((m : Int) - (a : Int)) == 1) = true := by simp; omega
      obtain ⟨x, rfl⟩ : ∃ x, U = [x] := by
        match U, hu, hu1 with
        | [x], _, _ => exact ⟨x, rfl⟩
        | _ :: _ :: _, _, h => simp at h
      have hma : m = a + 1 := by simp at hm; omega
      have hin : L = inI A V x D 0 := by rw [hL]; unfold inI; simp
      rw [← hn, ← hb, ← hm, ← ha, ← hL]
      simp -dsimp only [go_sem, pc61, rs61, hg]
      refine ⟨by omega, vc_loop (α := Nat × Nat) (fun z => [(0, .va (.c1 (.sl 0 n))), (1, iS .i64 a), (2, iS .i64 m), (3, iS .i64 b), (4, cmpV), (10, iS .i64 z.1), (11, iS .i64 z.2)]) (fun _ => fnH L)
        (fun z => m ≤ z.1 ∧ z.1 ≤ z.2 ∧ z.2 ≤ b ∧ (z.1 = m ∨ ∃ v, V[z.1 - m - 1]? = some v ∧ ltC v x = true) ∧ (z.2 = b ∨ ∃ v, V[z.2 - m]? = some v ∧ ltC v x = false)) (fun z => z.2 - z.1) (m, b) 1 ⟨by simp, by simp only; omega, by simp, .inl rfl, .inl rfl⟩ ?_ rfl ?_⟩
      · simp [go_sem]
      rintro ⟨i, j⟩ ⟨w1, w2, w3, w4, w5⟩
      simp only at w1 w2 w3 w4 w5
      rcases Nat.lt_or_ge i j with hlt | hge
      · have hg : decide ((i : Int) < (j : Int)) = true := by simp; omega
        obtain ⟨c, hc⟩ : ∃ c, c = (i + j) / 2 := ⟨_, rfl⟩
        have hh := half (x := i) (y := j) (by omega)
        rw [← hc] at hh
        obtain ⟨v, hv⟩ : ∃ v, V[c - m]? = some v := ⟨_, List.getElem?_eq_getElem (by omega)⟩
        have gv : L[c]? = some v := by rw [hL]; exact at_v hv (by simp; omega)
        have gx : L[a]? = some x := by rw [hL]; exact at_u (i := 0) rfl (by omega)
        have q1 := row_at (i := ((c : Nat) : Int)) (by omega) gv
        have q2 := row_at (i := ((a : Nat) : Int)) (by omega) gx
        have q3 := row_at' gv
        have q4 := row_at' gx
        have hcv : ∀ a b : Fnd, ccFn.val [.va (.gs (fnC a)), .va (.gs (fnC b))] = iA .i64 (cmpC a b) := fun _ _ => rfl
        have hlt' : decide (cmpC v x < 0) = ltC v x := rfl
        simp -dsimp only [go_sem, hg, hh, ↓q3, ↓q4, hcv, hlt']
        refine ⟨by omega, by decide, ⟨⟨by omega, by omega⟩, hLl⟩, ⟨hLl, by omega⟩, ⟨⟨by omega, by omega⟩, hLl⟩, ⟨hLl, by omega⟩, ccPre_mk v x, fun h => ?_, fun h => ?_⟩
        · refine ⟨by omega, loop_next (c + 1, j) 1 ⟨by simp only; omega, by simp only; omega, w3, .inr ⟨v, ?_, h⟩, w5⟩ (by simp only; omega) ?_ ?_⟩
          · rw [show c + 1 - m - 1 = c - m by omega]; exact hv
          · simp [go_sem]
          · simp [go_sem]
        · refine loop_next (i, c) 1 ⟨w1, by simp only; omega, by simp only; omega, w4, .inr ⟨v, hv, h⟩⟩ (by simp only; omega) ?_ ?_
          · simp [go_sem]
          · simp [go_sem]
      · have hg : decide ((i : Int) < (j : Int)) = false := by simp; omega
        obtain rfl : i = j := by omega
        simp -dsimp only [go_sem, hg]
        have hfin : A ++ mrgL ltC [x] V ++ D = inI A V x D (i - m) := by
          rw [one_left hV (e := i - m) (by omega) (by
            rcases w4 with h | h
            · exact .inl (by omega)
            · exact .inr h) (by
            rcases w5 with h | h
            · exact .inl (by omega)
            · exact .inr h)]
          unfold inI; simp
        refine vc_loop (α := Nat) (fun d => [(0, .va (.c1 (.sl 0 n))), (10, iS .i64 i), (13, iS .i64 (a + d : Nat))]) (fun d => fnH (inI A V x D d)) (fun d => d ≤ i - m) (fun d => i - m - d) 0 1 (by omega) ?_ ?_ ?_
        · simp [go_sem]
        · rw [hin]; rfl
        intro d hd
        rcases Nat.lt_or_ge d (i - m) with hlt2 | hge2
        · obtain ⟨v, hv⟩ : ∃ v, V[d]? = some v := ⟨_, List.getElem?_eq_getElem (by omega)⟩
          obtain ⟨M, hM⟩ : ∃ M, M = inI A V x D d := ⟨_, rfl⟩
          have hMl : M.length = n := by rw [hM, inI_len]; simp at hn; omega
          have gx : M[a + d]? = some x := by rw [hM, ha]; exact in_get _ _ _ _ (by omega)
          have gv : M[a + (d + 1)]? = some v := by rw [hM, ha]; exact in_get2 _ _ _ _ hv
          have g3 : (M.set (a + d) v)[a + (d + 1)]? = some v := by rw [List.getElem?_set, if_neg (by omega)]; exact gv
          have i1 : (((a + d : Nat) : Int) + 1).toNat = a + (d + 1) := by omega
          have q1 := row_at (i := ((a + d : Nat) : Int)) (by omega) gx
          have q2 := row_at i1 gv
          have q3 := row_at' gx
          have q4 := row_at' gv
          have q5 := row_at i1 g3
          have q6 := row_at' g3
          have hg2 : decide (((a + d : Nat) : Int) < (i : Int) - 1) = true := by simp; omega
          have hs := in_swap2 A V x D hv
          rw [← ha, ← hM] at hs
          rw [← hM]
          simp -dsimp only [go_sem, hg2, ↓q3, ↓q4, ↓q6, row_set, i1]
          and_intros
          all_goals first
            | omega
            | (simp; omega)
            | skip
          refine loop_next (d + 1) 1 (by omega) (by omega) ?_ ?_
          · simp [go_sem]; omega
          · rw [← hs]; rfl
        · obtain rfl : d = i - m := by omega
          have hg2 : decide (((a + (i - m) : Nat) : Int) < (i : Int) - 1) = false := by simp; omega
          simp -dsimp only [go_sem, hg2]
          rw [← hfin]
          exact ⟨by omega, .done hK⟩
def mrgSp2 : W.Spec := fun av H K =>
  match av, H with
  | [.va (.c1 (.sl 0 n)), .va (.c1 (.vl (.int .i64 a))), .va (.c1 (.vl (.int .i64 m))), .va (.c1 (.vl (.int .i64 b))), .va (.c1 (.fn f []))], [.row rs 68 5] =>
    ((∃ L : List Fnd, rs = L.map fnC ∧ L.length = n ∧ Srt ltC ((L.take m.toNat).drop a.toNat) ∧ Srt ltC ((L.take b.toNat).drop m.toNat)) ∧ n ≤ 1000000000 ∧ f = 25 ∧ 0 ≤ a ∧ a < m ∧ m < b ∧ b ≤ n) ∧
      K (.tu []) [.row ((mrgR (rs.map C.fnd) a.toNat m.toNat b.toNat).map fnC) 68 5]
  | _, _ => False
theorem mMrg : Meets Try.prog 61 mrgSp2 := by
  refine Meets.imp (mMrgN 1000000000) fun av H K h => ?_
  unfold mrgSp2 at h
  split at h
  · obtain ⟨⟨h0, h1, h2, h3, h4, h5, h6⟩, hK⟩ := h
    exact ⟨⟨h0, h1, h2, h3, h4, h5, h6, by omega⟩, hK⟩
  · exact h.elim
attribute [go_sem ↓] mrgSp2
end Go.Proofs.Ytdnohfhpbhlpaaa
/- The stable sort. -/
namespace Go.Proofs.Ytdnohfhpbhlpaaa
open Go.W
def stbSp : W.Spec := fun av H K =>
  match av, H with
  | [.va (.c1 (.sl 0 n)), .va (.c1 (.vl (.int .i64 m))), .va (.c1 (.fn f []))], [.row rs 68 5] =>
    ((∃ L : List Fnd, rs = L.map fnC ∧ L.length = n) ∧ n ≤ 1000000000 ∧ f = 25 ∧ m = n) ∧ K (.tu []) [.row ((srt ltC (rs.map C.fnd)).map fnC) 68 5]
  | _, _ => False
theorem stbSp_open {av : List S} {H : Hp} {K : S → Hp → Prop} (h : stbSp av H K) : ∃ L : List Fnd, av = [.va (.c1 (.sl 0 L.length)), iS .i64 L.length, cmpV] ∧ H = fnH L ∧ L.length ≤ 1000000000 ∧ K (.tu []) (fnH (srt ltC L)) := by
  unfold stbSp at h
  split at h
  · obtain ⟨⟨⟨L, rfl, rfl⟩, h1, rfl, rfl⟩, hK⟩ := h
    rw [fnd_map] at hK
    exact ⟨L, rfl, rfl, h1, hK⟩
  · exact h.elim
attribute [go_sem ↓] stbSp
theorem insL_rep (M : List Fnd) (a b : Nat) : insL M a b = rep M a (srt ltC (seg M a b)) b := rfl
theorem mrgR_rep (M : List Fnd) (a m b : Nat) : mrgR M a m b = rep M a (mrgL ltC (seg M a m) (seg M m b)) b := rfl
set_option maxRecDepth 100000 in
theorem mStable : Meets Try.prog 47 stbSp := by
  refine meets_fn Try.func47 ok47 3 (by rw [Try.ntmps47]; decide) (meetsAll_s mIns2 (meetsAll_s mMrg (meetsAll_nil _))) (fun av H K h => by obtain ⟨_, rfl, _⟩ := stbSp_open h; rfl) ?_
  intro av H K h
  obtain ⟨L, rfl, rfl, hn, hK⟩ := stbSp_open h
  obtain ⟨n, hN⟩ : ∃ n, n = L.length := ⟨_, rfl⟩
  rw [← hN] at hn ⊢
  simp -dsimp only [go_sem, pc47, rs47]
  refine vc_loop (α := Nat × List Fnd) (fun z => [(0, .va (.c1 (.sl 0 n))), (1, iS .i64 n), (2, cmpV), (6, iS .i64 20), (7, iS .i64 (z.1 * 20 : Nat)), (8, iS .i64 (z.1 * 20 + 20 : Nat))]) (fun z => fnH z.2) (fun z => Ins ltC 20 L z.2 z.1 ∧ z.1 * 20 ≤ n) (fun z => n + 20 - z.1 * 20) (0, L) 1 ⟨ins_zero _ _, by simp⟩ ?_ rfl ?_
  · simp [go_sem]
  rintro ⟨k, M⟩ ⟨hI, hk⟩
  simp only at hI hk
  have hMl : M.length = n := by rw [hI.len]; exact hN.symm
  simp -dsimp only [go_sem]
  refine ⟨fun h1 => ?_, fun h1 => ?_⟩
  · simp at h1
    refine ⟨⟨⟨M, rfl, hMl⟩, hn, by omega, by omega, by omega⟩, by omega, ?_⟩
    refine loop_next (k + 1, rep M (k * 20) (srt ltC (seg M (k * 20) (k * 20 + 20))) (k * 20 + 20)) 1 ⟨ins_next hI (by omega), by simp only; omega⟩ (by simp only; omega) ?_ ?_
    · simp [go_sem]; omega
    · rw [← insL_rep]; rfl
  · simp at h1
    have hB := ins_last hI (by omega) (by omega)
    rw [← hN, ← insL_rep] at hB
    refine ⟨⟨⟨M, rfl, hMl⟩, hn, by omega, by omega⟩, ?_⟩
    refine vc_loop (α := Nat × List Fnd) (fun z => [(0, .va (.c1 (.sl 0 n))), (1, iS .i64 n), (2, cmpV), (6, iS .i64 z.1)]) (fun z => fnH z.2) (fun z => Blk ltC z.1 L z.2 ∧ 20 ≤ z.1 ∧ z.1 ≤ 2000000020) (fun z => n - z.1) (20, insL M (k * 20) n) 1 ⟨hB, by simp, by simp⟩ ?_ rfl ?_
    · simp [go_sem]
    rintro ⟨c, M2⟩ ⟨hB2, hc, hc2⟩
    simp only at hB2 hc hc2
    simp -dsimp only [go_sem]
    refine ⟨fun h2 => ?_, fun h2 => ?_⟩
    · simp at h2
      refine ⟨by omega, vc_loop (α := Nat × List Fnd) (fun z => [(0, .va (.c1 (.sl 0 n))), (1, iS .i64 n), (2, cmpV), (6, iS .i64 c), (7, iS .i64 (z.1 * (2 * c) : Nat)), (8, iS .i64 (z.1 * (2 * c) + 2 * c : Nat))]) (fun z => fnH z.2) (fun z => Two ltC c L z.2 z.1 ∧ z.1 * (2 * c) ≤ n) (fun z => n + 2 * c - z.1 * (2 * c)) (0, M2) 1 ⟨two_zero hB2, by simp⟩ ?_ rfl ?_⟩
      · simp [go_sem]
      rintro ⟨k2, M3⟩ ⟨hT, hk2⟩
      simp only at hT hk2
      have hMl3 : M3.length = n := by rw [hT.len]; exact hN.symm
      obtain ⟨hh1, hh2⟩ := two_half hT
      obtain ⟨a, ha⟩ : ∃ a, a = k2 * (2 * c) := ⟨_, rfl⟩
      have s1 : Srt ltC (seg M3 a (a + c)) := by rw [ha, hh1]; exact srt_srt swo _
      have s2 : Srt ltC (seg M3 (a + c) (a + 2 * c)) := by rw [ha, hh2]; exact srt_srt swo _
      have hx1 : ((a : Nat) : Int).toNat = a := by omega
      have hx2 : ((a : Int) + (c : Int)).toNat = a + c := by omega
      have hx3 : ((a + 2 * c : Nat) : Int).toNat = a + 2 * c := by omega
      rw [← ha] at hk2 ⊢
      simp -dsimp only [go_sem, hx1, hx2, hx3]
      refine ⟨fun h3 => ?_, fun h3 => ?_⟩
      · simp at h3
        have hnx := two_next swo hT (by omega)
        rw [← ha, ← mrgR_rep] at hnx
        refine ⟨by omega, ⟨⟨M3, rfl, hMl3, s1, s2⟩, hn, by omega, by omega, by omega, by omega⟩, by omega, by omega, ?_⟩
        have hsm : (k2 + 1) * (2 * c) = a + 2 * c := by rw [ha]; exact Nat.succ_mul _ _
        refine loop_next (k2 + 1, mrgR M3 a (a + c) (a + 2 * c)) 1 ⟨hnx, by simp only [hsm]; omega⟩ (by simp only [hsm, ← ha]; omega) ?_ rfl
        simp [go_sem, hsm]
      · simp at h3
        refine ⟨by omega, fun h4 => ?_, fun h4 => ?_⟩
        · simp at h4
          have hl := two_last swo hT (by omega) (by omega)
          rw [← ha, ← hN, ← mrgR_rep] at hl
          refine ⟨⟨⟨M3, rfl, hMl3, s1, ?_⟩, hn, by omega, by omega, by omega, by omega⟩, by omega, ?_⟩
          · have := s2
            rw [seg_end (r := n) (by omega) (by omega)] at this
            exact this
          · refine loop_next (2 * c, mrgR M3 a (a + c) n) 1 ⟨hl, by simp only; omega, by simp only; omega⟩ (by simp only; omega) ?_ rfl
            simp [go_sem]; omega
        · simp at h4
          have hl := two_over hT (by omega)
          refine ⟨by omega, loop_next (2 * c, M3) 1 ⟨hl, by simp only; omega, by simp only; omega⟩ (by simp only; omega) ?_ rfl⟩
          simp [go_sem]; omega
    · simp at h2
      rw [blk_all hB2 (by omega)]
      exact .done hK
def ssfSp : W.Spec := fun av H K =>
  match av, H with
  | [.va (.c1 (.sl 0 n)), .va (.c1 (.fn f []))], [.row rs 68 5] =>
    ((∃ L : List Fnd, rs = L.map fnC ∧ L.length = n) ∧ n ≤ 1000000000 ∧ f = 25) ∧ K (.tu []) [.row ((srt ltC (rs.map C.fnd)).map fnC) 68 5]
  | _, _ => False
theorem ssfSp_open {av : List S} {H : Hp} {K : S → Hp → Prop} (h : ssfSp av H K) : ∃ L : List Fnd, av = [.va (.c1 (.sl 0 L.length)), cmpV] ∧ H = fnH L ∧ L.length ≤ 1000000000 ∧ K (.tu []) (fnH (srt ltC L)) := by
  unfold ssfSp at h
  split at h
  · obtain ⟨⟨⟨L, rfl, rfl⟩, h1, rfl⟩, hK⟩ := h
    rw [fnd_map] at hK
    exact ⟨L, rfl, rfl, h1, hK⟩
  · exact h.elim
attribute [go_sem ↓] ssfSp
theorem mSortStable : Meets Try.prog 24 ssfSp := by
  refine meets_fn Try.func24 ok24 2 (by rw [Try.ntmps24]; decide) (meetsAll_s mStable (meetsAll_nil _)) (fun av H K h => by obtain ⟨_, rfl, _⟩ := ssfSp_open h; rfl) ?_
  intro av H K h
  obtain ⟨L, rfl, rfl, hn, hK⟩ := ssfSp_open h
  simp -dsimp only [go_sem, pc24, rs24]
  exact ⟨⟨⟨L, rfl, rfl⟩, hn⟩, .done hK⟩
end Go.Proofs.Ytdnohfhpbhlpaaa
namespace Go.Proofs.Ytdnohfhpbhlpaaa
open Go.W
/-- robotics/audit.Contracts -/
def pc12 : PC :=
  .seq (.reg /- 0 -/ [⟨(some 4), none, .q (.mv (.k (.slice none 0 0)))⟩])
  (.seq (.reg /- 1 -/ [⟨(some 5), none, .q (.mv (.k (.slice none 0 0)))⟩])
    (.seq (.seq (.reg /- 2 -/ [⟨(some 11), none, .q (.mv (.t 1))⟩,
      ⟨(some 12), none, .cl 22 [(.t 11)] []⟩,
      ⟨(some 13), none, .q (.lnL (.t 12))⟩,
      ⟨(some 14), none, .q (.mv (.k (.int .i64 0)))⟩])
      (.block 0 (.loop (.seq (.reg /- 3 -/ [⟨(some 15), none, .q (.bin .lss true (.t 14) (.t 13))⟩])
            (.seq (.cond (.t 15)
              (.skip)
              (.exit 0))
              (.seq (.block 1 (.seq (.reg /- 4 -/ [⟨(some 16), none, .l (.ia 24 (.t 12) (.t 14))⟩,
      ⟨(some 17), none, .l (.ldn 24 (.t 16))⟩,
      ⟨(some 7), none, .e (.al (.agg #[(.int .i64 0), (.int .i64 0), (.string (mk [])), (.string (mk [])), (.bool false), (.bool false), (.bool false), (.bool false), (.int .i64 0), (.int .i64 0), (.int .i64 0), (.int .i64 0), (.int .i64 0), (.int .i64 0), (.string (mk [])), (.string (mk [])), (.bool false), (.bool false), (.bool false), (.bool false), (.int .i64 0), (.int .i64 0), (.int .i64 0), (.int .i64 0)]) 64)⟩,
      ⟨none, none, .e (.st 24 (.t 7) (.t 17))⟩])
                  (.reg /- 5 -/ [⟨(some 18), none, .q (.mv (.t 5))⟩,
      ⟨(some 19), none, .l (.ldn 24 (.t 7))⟩,
      ⟨(some 20), none, .q (.mv (.t 0))⟩,
      ⟨(some 21), none, .cl 23 [(.t 19), (.t 20)] []⟩,
      ⟨(some 22), none, .e (.ap 68 5 40 (.t 18) (.t 21))⟩,
      ⟨(some 5), none, .q (.mv (.t 22))⟩])))
                (.reg /- 6 -/ [⟨(some 23), none, .q (.bin .add true (.t 14) (.k (.int .i64 1)))⟩,
      ⟨(some 14), none, .q (.mv (.t 23))⟩])))))))
      (.seq (.reg /- 7 -/ [⟨(some 24), none, .q (.mv (.t 5))⟩,
      ⟨(some 25), none, .cl 24 [(.t 24), (.f 25)] [0]⟩])
        (.seq (.reg /- 8 -/ [⟨(some 8), none, .q (.mv (.k (.slice none 0 0)))⟩])
          (.seq (.seq (.reg /- 9 -/ [⟨(some 26), none, .q (.mv (.t 5))⟩,
      ⟨(some 27), none, .q (.lnL (.t 26))⟩,
      ⟨(some 28), none, .q (.mv (.k (.int .i64 0)))⟩])
            (.block 2 (.loop (.seq (.reg /- 10 -/ [⟨(some 29), none, .q (.bin .lss true (.t 28) (.t 27))⟩])
                  (.seq (.cond (.t 29)
                    (.skip)
                    (.exit 2))
                    (.seq (.block 3 (.seq (.reg /- 11 -/ [⟨(some 30), none, .l (.ia 5 (.t 26) (.t 28))⟩,
      ⟨(some 31), none, .l (.ldn 5 (.t 30))⟩,
      ⟨(some 10), none, .e (.al (.agg #[(.int .i64 0), (.int .i64 0), (.int .i64 0), (.int .i64 0), (.int .i64 0)]) 68)⟩,
      ⟨none, none, .e (.st 5 (.t 10) (.t 31))⟩])
                        (.reg /- 12 -/ [⟨(some 32), none, .q (.mv (.t 8))⟩,
      ⟨(some 33), none, .q (.fa 1 (.t 10))⟩,
      ⟨(some 34), none, .l (.ldn 4 (.t 33))⟩,
      ⟨(some 35), none, .e (.bsl 41 4 [(.t 34)])⟩,
      ⟨(some 36), none, .e (.ap 41 4 32 (.t 32) (.t 35))⟩,
      ⟨(some 8), none, .q (.mv (.t 36))⟩])))
                      (.reg /- 13 -/ [⟨(some 37), none, .q (.bin .add true (.t 28) (.k (.int .i64 1)))⟩,
      ⟨(some 28), none, .q (.mv (.t 37))⟩])))))))
            (.seq (.reg /- 14 -/ [⟨(some 38), none, .q (.mv (.t 8))⟩,
      ⟨(some 4), none, .q (.mv (.t 38))⟩])
              (.ret)))))))
def rs12 : List RV := [.mv (.t 4)]
theorem ok12 : trFn Try.prog true ⟨fun r k => if r = 7 ∧ k = 1 then .own [0] else .own [], fun _ => false⟩ Try.f12 = some (pc12, rs12) := by kernel_rfl
/-- robotics/audit.Speeds -/
def pc16 : PC :=
  .seq (.reg /- 0 -/ [⟨(some 3), none, .e (.bx 45 (.t 1))⟩,
      ⟨(some 4), none, .q (.mv (.k (.slice none 0 0)))⟩])
  (.seq (.reg /- 1 -/ [⟨(some 5), none, .q (.mv (.k (.slice none 0 0)))⟩])
    (.seq (.seq (.reg /- 2 -/ [⟨(some 9), none, .q (.mv (.t 0))⟩,
      ⟨(some 10), none, .q (.lnL (.t 9))⟩,
      ⟨(some 11), none, .q (.mv (.k (.int .i64 0)))⟩])
      (.block 0 (.loop (.seq (.reg /- 3 -/ [⟨(some 12), none, .q (.bin .lss true (.t 11) (.t 10))⟩])
            (.seq (.cond (.t 12)
              (.skip)
              (.exit 0))
              (.seq (.block 1 (.seq (.reg /- 4 -/ [⟨(some 13), none, .q (.mv (.t 11))⟩,
      ⟨(some 14), none, .l (.ia 4 (.t 9) (.t 11))⟩,
      ⟨(some 15), none, .l (.ldn 4 (.t 14))⟩,
      ⟨(some 7), none, .e (.al (.agg #[(.int .i64 0), (.int .i64 0), (.int .i64 0), (.int .i64 0)]) 50)⟩,
      ⟨(some 6), none, .q (.mv (.t 13))⟩,
      ⟨none, none, .e (.st 4 (.t 7) (.t 15))⟩])
                  (.seq (.seq (.reg /- 5 -/ [⟨(some 16), none, .q (.fa 2 (.t 7))⟩,
      ⟨(some 17), none, .l (.ldn 2 (.t 16))⟩,
      ⟨(some 18), none, .cq 32 [(.t 17)]⟩,
      ⟨(some 19), none, .q (.fa 0 (.t 3))⟩,
      ⟨(some 20), none, .l (.ld1 (.t 19))⟩,
      ⟨(some 21), none, .q (.fa 0 (.t 3))⟩,
      ⟨(some 22), none, .l (.ld1 (.t 21))⟩,
      ⟨(some 23), none, .q (.bin .mul true (.t 20) (.t 22))⟩,
      ⟨(some 24), none, .q (.bin .gtr true (.t 18) (.t 23))⟩])
                    (.cond (.t 24)
                      (.reg /- 6 -/ [⟨(some 25), none, .q (.mv (.t 5))⟩,
      ⟨(some 26), none, .q (.mv (.t 6))⟩,
      ⟨(some 27), none, .q (.mv (.t 6))⟩,
      ⟨(some 28), none, .q (.bd [(.int .i64 0), (.int .i64 0), (.int .i64 0), (.int .i64 0)] [(0, 1, (.k (.int .i64 7))), (1, 1, (.t 26)), (2, 1, (.t 27))])⟩,
      ⟨(some 29), none, .e (.bsl 41 4 [(.t 28)])⟩,
      ⟨(some 30), none, .e (.ap 41 4 32 (.t 25) (.t 29))⟩,
      ⟨(some 5), none, .q (.mv (.t 30))⟩])
                      (.skip)))
                    (.seq (.seq (.reg /- 7 -/ [⟨(some 31), none, .q (.mv (.t 6))⟩,
      ⟨(some 32), none, .q (.bin .eql true (.t 31) (.k (.int .i64 0)))⟩])
                      (.cond (.t 32)
                        (.exit 1)
                        (.skip)))
                      (.seq (.reg /- 8 -/ [⟨(some 33), none, .q (.mv (.t 0))⟩,
      ⟨(some 34), none, .q (.mv (.t 6))⟩,
      ⟨(some 35), none, .q (.bin .sub true (.t 34) (.k (.int .i64 1)))⟩,
      ⟨(some 36), none, .l (.ia 4 (.t 33) (.t 35))⟩,
      ⟨(some 37), none, .q (.fa 2 (.t 36))⟩,
      ⟨(some 38), none, .l (.ldn 2 (.t 37))⟩,
      ⟨(some 39), none, .cq 33 [(.t 38)]⟩,
      ⟨(some 40), none, .q (.fa 2 (.t 3))⟩,
      ⟨(some 41), none, .l (.ld1 (.t 40))⟩,
      ⟨(some 42), none, .q (.bin .sub true (.t 39) (.t 41))⟩,
      ⟨(some 43), none, .q (.mx true (.k (.int .i64 0)) (.t 42))⟩,
      ⟨(some 8), none, .q (.mv (.t 43))⟩])
                        (.seq (.ord /- 9 -/ [.q ⟨(some 44), none, .q (.fa 2 (.t 7))⟩,
      .q ⟨(some 45), none, .l (.ldn 2 (.t 44))⟩,
      .q ⟨(some 46), none, .q (.mv (.t 0))⟩,
      .q ⟨(some 47), none, .q (.mv (.t 6))⟩,
      .q ⟨(some 48), none, .q (.bin .sub true (.t 47) (.k (.int .i64 1)))⟩,
      .q ⟨(some 49), none, .l (.ia 4 (.t 46) (.t 48))⟩,
      .q ⟨(some 50), none, .q (.fa 2 (.t 49))⟩,
      .q ⟨(some 51), none, .l (.ldn 2 (.t 50))⟩,
      .q ⟨(some 54), none, .q (.fa 1 (.t 3))⟩,
      .q ⟨(some 55), none, .l (.ld1 (.t 54))⟩,
      .q ⟨(some 56), none, .q (.fa 1 (.t 3))⟩,
      .q ⟨(some 57), none, .l (.ld1 (.t 56))⟩,
      .q ⟨(some 58), none, .q (.bin .mul true (.t 55) (.t 57))⟩,
      .m ⟨(some 52), none, .cl 34 [(.t 45), (.t 51)] []⟩,
      .rc ⟨(some 54), none, .q (.fa 1 (.t 3))⟩,
      .rc ⟨(some 55), none, .l (.ld1 (.t 54))⟩,
      .rc ⟨(some 56), none, .q (.fa 1 (.t 3))⟩,
      .rc ⟨(some 57), none, .l (.ld1 (.t 56))⟩,
      .rc ⟨(some 58), none, .q (.bin .mul true (.t 55) (.t 57))⟩,
      .m ⟨(some 53), none, .cq 32 [(.t 52)]⟩,
      .rc ⟨(some 54), none, .q (.fa 1 (.t 3))⟩,
      .rc ⟨(some 55), none, .l (.ld1 (.t 54))⟩,
      .rc ⟨(some 56), none, .q (.fa 1 (.t 3))⟩,
      .rc ⟨(some 57), none, .l (.ld1 (.t 56))⟩,
      .rc ⟨(some 58), none, .q (.bin .mul true (.t 55) (.t 57))⟩,
      .q ⟨(some 59), none, .q (.bin .gtr true (.t 53) (.t 58))⟩,
      .q ⟨(some 60), none, .q (.mv (.t 59))⟩,
      .q ⟨(some 61), (some (60, true)), .q (.fa 2 (.t 7))⟩,
      .q ⟨(some 62), (some (60, true)), .l (.ldn 2 (.t 61))⟩,
      .q ⟨(some 64), (some (60, true)), .q (.mv (.t 8))⟩,
      .q ⟨(some 65), (some (60, true)), .q (.mv (.t 8))⟩,
      .q ⟨(some 66), (some (60, true)), .q (.bin .mul true (.t 64) (.t 65))⟩,
      .m ⟨(some 63), (some (60, true)), .cq 32 [(.t 62)]⟩,
      .rc ⟨(some 64), (some (60, true)), .q (.mv (.t 8))⟩,
      .rc ⟨(some 65), (some (60, true)), .q (.mv (.t 8))⟩,
      .rc ⟨(some 66), (some (60, true)), .q (.bin .mul true (.t 64) (.t 65))⟩,
      .q ⟨(some 67), (some (60, true)), .q (.bin .gtr true (.t 63) (.t 66))⟩,
      .q ⟨(some 68), none, .pick (.t 60) (.t 67) (.k (.bool false))⟩])
                          (.cond (.t 68)
                            (.reg /- 10 -/ [⟨(some 69), none, .q (.mv (.t 5))⟩,
      ⟨(some 70), none, .q (.mv (.t 6))⟩,
      ⟨(some 71), none, .q (.mv (.t 6))⟩,
      ⟨(some 72), none, .q (.bd [(.int .i64 0), (.int .i64 0), (.int .i64 0), (.int .i64 0)] [(0, 1, (.k (.int .i64 8))), (1, 1, (.t 70)), (2, 1, (.t 71))])⟩,
      ⟨(some 73), none, .e (.bsl 41 4 [(.t 72)])⟩,
      ⟨(some 74), none, .e (.ap 41 4 32 (.t 69) (.t 73))⟩,
      ⟨(some 5), none, .q (.mv (.t 74))⟩])
                            (.skip))))))))
                (.reg /- 11 -/ [⟨(some 75), none, .q (.bin .add true (.t 11) (.k (.int .i64 1)))⟩,
      ⟨(some 11), none, .q (.mv (.t 75))⟩])))))))
      (.seq (.reg /- 12 -/ [⟨(some 76), none, .q (.mv (.t 5))⟩,
      ⟨(some 4), none, .q (.mv (.t 76))⟩])
        (.ret))))
def rs16 : List RV := [.mv (.t 4)]
theorem ok16 : trFn Try.prog true ⟨fun r k => if r = 5 ∧ k = 2 then .q else if r = 8 ∧ k = 6 then .q else if r = 9 ∧ k = 9 then .q else if r = 9 ∧ k = 19 then .q else .own [], fun _ => false⟩ Try.f16 = some (pc16, rs16) := by kernel_rfl
/-- robotics/audit.Name -/
def pc18 : PC :=
  .seq (.reg /- 0 -/ [⟨(some 2), none, .q (.mv (.k (.string (mk []))))⟩])
  (.seq (.seq (.reg /- 1 -/ [⟨(some 3), none, .q (.mv (.t 0))⟩,
      ⟨(some 4), none, .q (.bin .lss true (.t 3) (.k (.int .i64 1)))⟩,
      ⟨(some 5), none, .q (.mv (.t 4))⟩,
      ⟨(some 6), (some (5, false)), .q (.mv (.t 0))⟩,
      ⟨(some 7), (some (5, false)), .q (.bin .gtr true (.t 6) (.k (.int .i64 10)))⟩,
      ⟨(some 8), none, .pick (.t 5) (.k (.bool true)) (.t 7)⟩])
    (.cond (.t 8)
      (.seq (.reg /- 2 -/ [⟨(some 2), none, .q (.mv (.k (.string (mk []))))⟩])
        (.ret))
      (.skip)))
    (.seq (.reg /- 3 -/ [⟨(some 9), none, .q (.bd [(.string (mk [])), (.string (mk [])), (.string (mk [])), (.string (mk [])), (.string (mk [])), (.string (mk [])), (.string (mk [])), (.string (mk [])), (.string (mk [])), (.string (mk []))] [(0, 1, (.k (.string (mk [108, 111, 115, 116])))), (1, 1, (.k (.string (mk [100, 117, 112, 108, 105, 99, 97, 116, 101])))), (2, 1, (.k (.string (mk [111, 114, 100, 101, 114])))), (3, 1, (.k (.string (mk [100, 101, 97, 100, 108, 105, 110, 101])))), (4, 1, (.k (.string (mk [111, 112, 101, 110])))), (5, 1, (.k (.string (mk [116, 119, 105, 99, 101])))), (6, 1, (.k (.string (mk [115, 112, 101, 101, 100])))), (7, 1, (.k (.string (mk [97, 99, 99, 101, 108, 101, 114, 97, 116, 105, 111, 110])))), (8, 1, (.k (.string (mk [])))), (9, 1, (.k (.string (mk [114, 101, 112, 108, 97, 121]))))])⟩,
      ⟨(some 10), none, .q (.mv (.t 0))⟩,
      ⟨(some 11), none, .q (.bin .sub true (.t 10) (.k (.int .i64 1)))⟩,
      ⟨(some 12), none, .q (.ixa 10 (.t 9) (.t 11))⟩,
      ⟨(some 2), none, .q (.mv (.t 12))⟩])
      (.ret)))
def rs18 : List RV := [.mv (.t 2)]
theorem ok18 : trFn Try.prog true ⟨fun _ _ => .own [], fun _ => false⟩ Try.f18 = some (pc18, rs18) := by kernel_rfl
/-- robotics/audit.Goals -/
def pc20 : PC :=
  .seq (.reg /- 0 -/ [⟨(some 2), none, .q (.mv (.k (.slice none 0 0)))⟩])
  (.seq (.reg /- 1 -/ [⟨(some 3), none, .q (.mv (.k (.slice none 0 0)))⟩])
    (.seq (.seq (.reg /- 2 -/ [⟨(some 6), none, .q (.mv (.t 0))⟩,
      ⟨(some 7), none, .q (.lnL (.t 6))⟩,
      ⟨(some 8), none, .q (.mv (.k (.int .i64 0)))⟩])
      (.block 0 (.loop (.seq (.reg /- 3 -/ [⟨(some 9), none, .q (.bin .lss true (.t 8) (.t 7))⟩])
            (.seq (.cond (.t 9)
              (.skip)
              (.exit 0))
              (.seq (.block 1 (.seq (.reg /- 4 -/ [⟨(some 10), none, .q (.mv (.t 8))⟩,
      ⟨(some 11), none, .l (.ia 7 (.t 6) (.t 8))⟩,
      ⟨(some 12), none, .l (.ldn 7 (.t 11))⟩,
      ⟨(some 5), none, .e (.al (.agg #[(.int .i64 0), (.int .i64 0), (.int .i64 0), (.int .i64 0), (.int .i64 0), (.string (mk [])), (.string (mk []))]) 90)⟩,
      ⟨(some 4), none, .q (.mv (.t 10))⟩,
      ⟨none, none, .e (.st 7 (.t 5) (.t 12))⟩])
                  (.seq (.seq (.reg /- 5 -/ [⟨(some 13), none, .q (.fa 2 (.t 5))⟩,
      ⟨(some 14), none, .l (.ld1 (.t 13))⟩,
      ⟨(some 15), none, .cq 37 [(.t 14)]⟩,
      ⟨(some 16), none, .q (.not (.t 15))⟩])
                    (.cond (.t 16)
                      (.reg /- 6 -/ [⟨(some 17), none, .q (.mv (.t 3))⟩,
      ⟨(some 18), none, .q (.fa 3 (.t 5))⟩,
      ⟨(some 19), none, .l (.ld1 (.t 18))⟩,
      ⟨(some 20), none, .q (.fa 0 (.t 5))⟩,
      ⟨(some 21), none, .q (.fa 0 (.t 20))⟩,
      ⟨(some 22), none, .l (.ld1 (.t 21))⟩,
      ⟨(some 23), none, .q (.fa 0 (.t 5))⟩,
      ⟨(some 24), none, .q (.fa 1 (.t 23))⟩,
      ⟨(some 25), none, .l (.ld1 (.t 24))⟩,
      ⟨(some 26), none, .q (.bd [(.int .i64 0), (.int .i64 0), (.int .i64 0), (.int .i64 0)] [(0, 1, (.k (.int .i64 5))), (1, 1, (.t 19)), (2, 1, (.t 22)), (3, 1, (.t 25))])⟩,
      ⟨(some 27), none, .e (.bsl 41 4 [(.t 26)])⟩,
      ⟨(some 28), none, .e (.ap 41 4 32 (.t 17) (.t 27))⟩,
      ⟨(some 3), none, .q (.mv (.t 28))⟩])
                      (.skip)))
                    (.seq (.reg /- 7 -/ [⟨(some 29), none, .q (.mv (.t 0))⟩,
      ⟨(some 30), none, .q (.mv (.t 4))⟩,
      ⟨(some 31), none, .q (.sf 7 (.t 29) none (some (.t 30)))⟩,
      ⟨(some 32), none, .q (.mf 39 [(.t 5)])⟩,
      ⟨(some 33), none, .cl 38 [(.t 31), (.t 32)] [1]⟩])
                      (.cond (.t 33)
                        (.reg /- 8 -/ [⟨(some 34), none, .q (.mv (.t 3))⟩,
      ⟨(some 35), none, .q (.fa 3 (.t 5))⟩,
      ⟨(some 36), none, .l (.ld1 (.t 35))⟩,
      ⟨(some 37), none, .q (.fa 0 (.t 5))⟩,
      ⟨(some 38), none, .q (.fa 0 (.t 37))⟩,
      ⟨(some 39), none, .l (.ld1 (.t 38))⟩,
      ⟨(some 40), none, .q (.fa 0 (.t 5))⟩,
      ⟨(some 41), none, .q (.fa 1 (.t 40))⟩,
      ⟨(some 42), none, .l (.ld1 (.t 41))⟩,
      ⟨(some 43), none, .q (.bd [(.int .i64 0), (.int .i64 0), (.int .i64 0), (.int .i64 0)] [(0, 1, (.k (.int .i64 6))), (1, 1, (.t 36)), (2, 1, (.t 39)), (3, 1, (.t 42))])⟩,
      ⟨(some 44), none, .e (.bsl 41 4 [(.t 43)])⟩,
      ⟨(some 45), none, .e (.ap 41 4 32 (.t 34) (.t 44))⟩,
      ⟨(some 3), none, .q (.mv (.t 45))⟩])
                        (.skip))))))
                (.reg /- 9 -/ [⟨(some 46), none, .q (.bin .add true (.t 8) (.k (.int .i64 1)))⟩,
      ⟨(some 8), none, .q (.mv (.t 46))⟩])))))))
      (.seq (.reg /- 10 -/ [⟨(some 47), none, .q (.mv (.t 3))⟩,
      ⟨(some 2), none, .q (.mv (.t 47))⟩])
        (.ret))))
def rs20 : List RV := [.mv (.t 2)]
theorem ok20 : trFn Try.prog true ⟨fun r k => if r = 5 ∧ k = 2 then .q else if r = 7 ∧ k = 4 then .own [1] else .own [], fun _ => false⟩ Try.f20 = some (pc20, rs20) := by kernel_rfl
/-- robotics/audit.pairs -/
def pc22 : PC :=
  .seq (.reg /- 0 -/ [⟨(some 2), none, .q (.mv (.k (.slice none 0 0)))⟩])
  (.seq (.reg /- 1 -/ [⟨(some 3), none, .q (.mv (.k (.slice none 0 0)))⟩])
    (.seq (.seq (.reg /- 2 -/ [⟨(some 11), none, .q (.mv (.t 0))⟩,
      ⟨(some 12), none, .q (.lnL (.t 11))⟩,
      ⟨(some 13), none, .q (.mv (.k (.int .i64 0)))⟩])
      (.block 0 (.loop (.seq (.reg /- 3 -/ [⟨(some 14), none, .q (.bin .lss true (.t 13) (.t 12))⟩])
            (.seq (.cond (.t 14)
              (.skip)
              (.exit 0))
              (.seq (.block 1 (.seq (.reg /- 4 -/ [⟨(some 15), none, .l (.ia 12 (.t 11) (.t 13))⟩,
      ⟨(some 16), none, .l (.ldn 12 (.t 15))⟩,
      ⟨(some 5), none, .e (.al (.agg #[(.int .i64 0), (.int .i64 0), (.string (mk [])), (.string (mk [])), (.bool false), (.bool false), (.bool false), (.bool false), (.int .i64 0), (.int .i64 0), (.int .i64 0), (.int .i64 0)]) 31)⟩,
      ⟨none, none, .e (.st 12 (.t 5) (.t 16))⟩])
                  (.seq (.reg /- 5 -/ [⟨(some 17), none, .q (.mv (.t 3))⟩,
      ⟨(some 18), none, .q (.mf 42 [(.t 5)])⟩,
      ⟨(some 19), none, .cl 41 [(.t 17), (.t 18)] [0, 1]⟩,
      ⟨(some 20), none, .q (.not (.t 19))⟩])
                    (.cond (.t 20)
                      (.reg /- 6 -/ [⟨(some 21), none, .q (.mv (.t 3))⟩,
      ⟨(some 22), none, .l (.ldn 12 (.t 5))⟩,
      ⟨(some 23), none, .e (.bsl 31 12 [(.t 22)])⟩,
      ⟨(some 24), none, .e (.ap 31 12 96 (.t 21) (.t 23))⟩,
      ⟨(some 3), none, .q (.mv (.t 24))⟩])
                      (.skip)))))
                (.reg /- 7 -/ [⟨(some 25), none, .q (.bin .add true (.t 13) (.k (.int .i64 1)))⟩,
      ⟨(some 13), none, .q (.mv (.t 25))⟩])))))))
      (.seq (.reg /- 8 -/ [⟨(some 6), none, .q (.mv (.k (.slice none 0 0)))⟩])
        (.seq (.seq (.reg /- 9 -/ [⟨(some 26), none, .q (.mv (.t 3))⟩,
      ⟨(some 27), none, .q (.lnL (.t 26))⟩,
      ⟨(some 28), none, .q (.mv (.k (.int .i64 0)))⟩])
          (.block 2 (.loop (.seq (.reg /- 10 -/ [⟨(some 29), none, .q (.bin .lss true (.t 28) (.t 27))⟩])
                (.seq (.cond (.t 29)
                  (.skip)
                  (.exit 2))
                  (.seq (.block 3 (.seq (.reg /- 11 -/ [⟨(some 30), none, .l (.ia 12 (.t 26) (.t 28))⟩,
      ⟨(some 31), none, .l (.ldn 12 (.t 30))⟩,
      ⟨(some 8), none, .e (.al (.agg #[(.int .i64 0), (.int .i64 0), (.string (mk [])), (.string (mk [])), (.bool false), (.bool false), (.bool false), (.bool false), (.int .i64 0), (.int .i64 0), (.int .i64 0), (.int .i64 0)]) 31)⟩,
      ⟨none, none, .e (.st 12 (.t 8) (.t 31))⟩])
                      (.seq (.reg /- 12 -/ [⟨(some 32), none, .q (.mv (.t 3))⟩,
      ⟨(some 33), none, .q (.lnL (.t 32))⟩,
      ⟨(some 34), none, .q (.mv (.k (.int .i64 0)))⟩])
                        (.block 4 (.loop (.seq (.reg /- 13 -/ [⟨(some 35), none, .q (.bin .lss true (.t 34) (.t 33))⟩])
                              (.seq (.cond (.t 35)
                                (.skip)
                                (.exit 4))
                                (.seq (.block 5 (.seq (.reg /- 14 -/ [⟨(some 36), none, .l (.ia 12 (.t 32) (.t 34))⟩,
      ⟨(some 37), none, .l (.ldn 12 (.t 36))⟩,
      ⟨(some 10), none, .e (.al (.agg #[(.int .i64 0), (.int .i64 0), (.string (mk [])), (.string (mk [])), (.bool false), (.bool false), (.bool false), (.bool false), (.int .i64 0), (.int .i64 0), (.int .i64 0), (.int .i64 0)]) 31)⟩,
      ⟨none, none, .e (.st 12 (.t 10) (.t 37))⟩])
                                    (.seq (.reg /- 15 -/ [⟨(some 38), none, .q (.fa 4 (.t 8))⟩,
      ⟨(some 39), none, .l (.ld1 (.t 38))⟩,
      ⟨(some 40), none, .q (.not (.t 39))⟩,
      ⟨(some 41), none, .q (.mv (.t 40))⟩,
      ⟨(some 42), (some (41, true)), .q (.fa 4 (.t 10))⟩,
      ⟨(some 43), (some (41, true)), .l (.ld1 (.t 42))⟩,
      ⟨(some 44), none, .pick (.t 41) (.t 43) (.k (.bool false))⟩])
                                      (.cond (.t 44)
                                        (.reg /- 16 -/ [⟨(some 45), none, .q (.mv (.t 6))⟩,
      ⟨(some 46), none, .l (.ldn 12 (.t 8))⟩,
      ⟨(some 47), none, .l (.ldn 12 (.t 10))⟩,
      ⟨(some 48), none, .q (.bd [(.int .i64 0), (.int .i64 0), (.string (mk [])), (.string (mk [])), (.bool false), (.bool false), (.bool false), (.bool false), (.int .i64 0), (.int .i64 0), (.int .i64 0), (.int .i64 0), (.int .i64 0), (.int .i64 0), (.string (mk [])), (.string (mk [])), (.bool false), (.bool false), (.bool false), (.bool false), (.int .i64 0), (.int .i64 0), (.int .i64 0), (.int .i64 0)] [(0, 12, (.t 46)), (12, 12, (.t 47))])⟩,
      ⟨(some 49), none, .e (.bsl 64 24 [(.t 48)])⟩,
      ⟨(some 50), none, .e (.ap 64 24 192 (.t 45) (.t 49))⟩,
      ⟨(some 6), none, .q (.mv (.t 50))⟩])
                                        (.skip)))))
                                  (.reg /- 17 -/ [⟨(some 51), none, .q (.bin .add true (.t 34) (.k (.int .i64 1)))⟩,
      ⟨(some 34), none, .q (.mv (.t 51))⟩])))))))))
                    (.reg /- 18 -/ [⟨(some 52), none, .q (.bin .add true (.t 28) (.k (.int .i64 1)))⟩,
      ⟨(some 28), none, .q (.mv (.t 52))⟩])))))))
          (.seq (.reg /- 19 -/ [⟨(some 53), none, .q (.mv (.t 6))⟩,
      ⟨(some 2), none, .q (.mv (.t 53))⟩])
            (.ret))))))
def rs22 : List RV := [.mv (.t 2)]
theorem ok22 : trFn Try.prog true ⟨fun r k => if r = 5 ∧ k = 2 then .own [0, 1] else .own [], fun _ => false⟩ Try.f22 = some (pc22, rs22) := by kernel_rfl
/-- (robotics/audit.pair).sessions -/
def pc23 : PC :=
  .seq (.reg /- 0 -/ [⟨(some 2), none, .e (.bx 64 (.t 0))⟩,
      ⟨(some 4), none, .q (.mv (.k (.slice none 0 0)))⟩])
  (.seq (.reg /- 1 -/ [⟨(some 5), none, .q (.mv (.k (.slice none 0 0)))⟩])
    (.seq (.seq (.reg /- 2 -/ [⟨(some 8), none, .q (.mv (.t 1))⟩,
      ⟨(some 9), none, .q (.lnL (.t 8))⟩,
      ⟨(some 10), none, .q (.mv (.k (.int .i64 0)))⟩])
      (.block 0 (.loop (.seq (.reg /- 3 -/ [⟨(some 11), none, .q (.bin .lss true (.t 10) (.t 9))⟩])
            (.seq (.cond (.t 11)
              (.skip)
              (.exit 0))
              (.seq (.block 1 (.seq (.reg /- 4 -/ [⟨(some 12), none, .q (.mv (.t 10))⟩,
      ⟨(some 6), none, .q (.mv (.t 12))⟩])
                  (.seq (.seq (.reg /- 5 -/ [⟨(some 13), none, .l (.ldn 24 (.t 2))⟩,
      ⟨(some 14), none, .q (.mv (.t 1))⟩,
      ⟨(some 15), none, .q (.mv (.t 6))⟩,
      ⟨(some 16), none, .l (.ia 6 (.t 14) (.t 15))⟩,
      ⟨(some 17), none, .l (.ldn 6 (.t 16))⟩,
      ⟨(some 18), none, .e (.bsl 3 1 [(.k (.int .i64 1))])⟩,
      ⟨(some 19), none, .cq 43 [(.t 13), (.t 17), (.t 18)]⟩,
      ⟨(some 20), none, .q (.not (.t 19))⟩])
                    (.cond (.t 20)
                      (.exit 1)
                      (.skip)))
                    (.seq (.reg /- 6 -/ [⟨(some 21), none, .q (.mv (.t 6))⟩,
      ⟨(some 22), none, .q (.bin .add true (.t 21) (.k (.int .i64 1)))⟩,
      ⟨(some 7), none, .q (.mv (.t 22))⟩])
                      (.seq (.block 2 (.loop (.seq (.seq (.reg /- 7 -/ [⟨(some 23), none, .q (.mv (.t 7))⟩,
      ⟨(some 24), none, .q (.mv (.t 1))⟩,
      ⟨(some 25), none, .q (.lnL (.t 24))⟩,
      ⟨(some 26), none, .q (.bin .lss true (.t 23) (.t 25))⟩,
      ⟨(some 27), none, .q (.mv (.t 26))⟩,
      ⟨(some 28), (some (27, true)), .l (.ldn 24 (.t 2))⟩,
      ⟨(some 29), (some (27, true)), .q (.mv (.t 1))⟩,
      ⟨(some 30), (some (27, true)), .q (.mv (.t 7))⟩,
      ⟨(some 31), (some (27, true)), .l (.ia 6 (.t 29) (.t 30))⟩,
      ⟨(some 32), (some (27, true)), .l (.ldn 6 (.t 31))⟩,
      ⟨(some 33), (some (27, true)), .cq 44 [(.t 28), (.t 32)]⟩,
      ⟨(some 34), (some (27, true)), .q (.not (.t 33))⟩,
      ⟨(some 35), none, .pick (.t 27) (.t 34) (.k (.bool false))⟩])
                            (.cond (.t 35)
                              (.skip)
                              (.exit 2)))
                            (.block 3 (.reg /- 8 -/ [⟨(some 36), none, .q (.mv (.t 7))⟩,
      ⟨(some 37), none, .q (.bin .add true (.t 36) (.k (.int .i64 1)))⟩,
      ⟨(some 7), none, .q (.mv (.t 37))⟩])))))
                        (.seq (.seq (.reg /- 9 -/ [⟨(some 38), none, .q (.fa 0 (.t 2))⟩,
      ⟨(some 39), none, .q (.fa 5 (.t 38))⟩,
      ⟨(some 40), none, .q (.fa 0 (.t 39))⟩,
      ⟨(some 41), none, .l (.ld1 (.t 40))⟩,
      ⟨(some 42), none, .q (.mv (.t 41))⟩,
      ⟨(some 43), (some (42, true)), .q (.fa 12 (.t 2))⟩,
      ⟨(some 44), (some (42, true)), .q (.fa 5 (.t 43))⟩,
      ⟨(some 45), (some (42, true)), .q (.fa 0 (.t 44))⟩,
      ⟨(some 46), (some (42, true)), .l (.ld1 (.t 45))⟩,
      ⟨(some 47), none, .pick (.t 42) (.t 46) (.k (.bool false))⟩])
                          (.cond (.t 47)
                            (.reg /- 10 -/ [⟨(some 48), none, .q (.mv (.t 5))⟩,
      ⟨(some 49), none, .l (.ldn 24 (.t 2))⟩,
      ⟨(some 50), none, .q (.mv (.t 1))⟩,
      ⟨(some 51), none, .q (.mv (.t 6))⟩,
      ⟨(some 52), none, .q (.mv (.t 7))⟩,
      ⟨(some 53), none, .cl 45 [(.t 49), (.t 50), (.t 51), (.t 52)] []⟩,
      ⟨(some 54), none, .e (.ap 68 5 40 (.t 48) (.t 53))⟩,
      ⟨(some 5), none, .q (.mv (.t 54))⟩])
                            (.skip)))
                          (.seq (.reg /- 11 -/ [⟨(some 55), none, .q (.fa 0 (.t 2))⟩,
      ⟨(some 56), none, .q (.fa 5 (.t 55))⟩,
      ⟨(some 57), none, .q (.fa 4 (.t 56))⟩,
      ⟨(some 58), none, .l (.ld1 (.t 57))⟩,
      ⟨(some 59), none, .q (.bin .gtr true (.t 58) (.k (.int .i64 0)))⟩])
                            (.cond (.t 59)
                              (.reg /- 12 -/ [⟨(some 60), none, .q (.mv (.t 5))⟩,
      ⟨(some 61), none, .l (.ldn 24 (.t 2))⟩,
      ⟨(some 62), none, .q (.mv (.t 1))⟩,
      ⟨(some 63), none, .q (.mv (.t 6))⟩,
      ⟨(some 64), none, .q (.mv (.t 7))⟩,
      ⟨(some 65), none, .cl 46 [(.t 61), (.t 62), (.t 63), (.t 64)] []⟩,
      ⟨(some 66), none, .e (.ap 68 5 40 (.t 60) (.t 65))⟩,
      ⟨(some 5), none, .q (.mv (.t 66))⟩])
                              (.skip)))))))))
                (.reg /- 13 -/ [⟨(some 67), none, .q (.bin .add true (.t 10) (.k (.int .i64 1)))⟩,
      ⟨(some 10), none, .q (.mv (.t 67))⟩])))))))
      (.seq (.reg /- 14 -/ [⟨(some 68), none, .q (.mv (.t 5))⟩,
      ⟨(some 4), none, .q (.mv (.t 68))⟩])
        (.ret))))
def rs23 : List RV := [.mv (.t 4)]
theorem ok23 : trFn Try.prog true ⟨fun r k => if r = 5 ∧ k = 6 then .q else if r = 7 ∧ k = 10 then .q else .own [], fun _ => false⟩ Try.f23 = some (pc23, rs23) := by kernel_rfl
/-- robotics/audit.square -/
def pc32 : PC :=
  .seq (.reg /- 0 -/ [⟨(some 1), none, .e (.bx 48 (.t 0))⟩,
      ⟨(some 2), none, .q (.mv (.k (.int .i64 0)))⟩])
  (.seq (.reg /- 1 -/ [⟨(some 3), none, .l (.ldn 2 (.t 1))⟩,
      ⟨(some 4), none, .l (.ldn 2 (.t 1))⟩,
      ⟨(some 5), none, .cq 52 [(.t 3), (.t 4)]⟩,
      ⟨(some 2), none, .q (.mv (.t 5))⟩])
    (.ret))
def rs32 : List RV := [.mv (.t 2)]
theorem ok32 : trFn Try.prog true ⟨fun r k => if r = 1 ∧ k = 2 then .q else .own [], fun _ => false⟩ Try.f32 = some (pc32, rs32) := by kernel_rfl
/-- robotics/fixed.Length -/
def pc33 : PC :=
  .seq (.reg /- 0 -/ [⟨(some 1), none, .e (.bx 48 (.t 0))⟩,
      ⟨(some 2), none, .q (.mv (.k (.int .i64 0)))⟩])
  (.seq (.reg /- 1 -/ [⟨(some 3), none, .l (.ldn 2 (.t 1))⟩,
      ⟨(some 4), none, .cq 54 [(.t 3)]⟩,
      ⟨(some 5), none, .cq 53 [(.t 4)]⟩,
      ⟨(some 2), none, .q (.mv (.t 5))⟩])
    (.ret))
def rs33 : List RV := [.mv (.t 2)]
theorem ok33 : trFn Try.prog true ⟨fun r k => if r = 1 ∧ k = 1 then .q else if r = 1 ∧ k = 2 then .q else .own [], fun _ => false⟩ Try.f33 = some (pc33, rs33) := by kernel_rfl
/-- robotics/fixed.Sub -/
def pc34 : PC :=
  .seq (.reg /- 0 -/ [⟨(some 2), none, .e (.bx 48 (.t 0))⟩,
      ⟨(some 3), none, .e (.bx 48 (.t 1))⟩,
      ⟨(some 4), none, .e (.al (.agg #[(.int .i64 0), (.int .i64 0)]) 48)⟩])
  (.seq (.reg /- 1 -/ [⟨(some 5), none, .q (.fa 0 (.t 2))⟩,
      ⟨(some 6), none, .l (.ld1 (.t 5))⟩,
      ⟨(some 7), none, .q (.fa 0 (.t 3))⟩,
      ⟨(some 8), none, .l (.ld1 (.t 7))⟩,
      ⟨(some 9), none, .q (.bin .sub true (.t 6) (.t 8))⟩,
      ⟨(some 10), none, .q (.fa 1 (.t 2))⟩,
      ⟨(some 11), none, .l (.ld1 (.t 10))⟩,
      ⟨(some 12), none, .q (.fa 1 (.t 3))⟩,
      ⟨(some 13), none, .l (.ld1 (.t 12))⟩,
      ⟨(some 14), none, .q (.bin .sub true (.t 11) (.t 13))⟩,
      ⟨(some 15), none, .q (.bd [(.int .i64 0), (.int .i64 0)] [(0, 1, (.t 9)), (1, 1, (.t 14))])⟩,
      ⟨none, none, .e (.st 2 (.t 4) (.t 15))⟩])
    (.ret))
def rs34 : List RV := [.ld (.ldn 2 (.t 4))]
theorem ok34 : trFn Try.prog true ⟨fun _ _ => .own [], fun _ => false⟩ Try.f34 = some (pc34, rs34) := by kernel_rfl
/-- robotics/goal.Terminal -/
def pc37 : PC :=
  .seq (.reg /- 0 -/ [⟨(some 2), none, .q (.mv (.k (.bool false)))⟩])
  (.seq (.reg /- 1 -/ [⟨(some 3), none, .q (.mv (.t 0))⟩,
      ⟨(some 4), none, .q (.bin .geq true (.t 3) (.k (.int .i64 4)))⟩,
      ⟨(some 5), none, .q (.mv (.t 4))⟩,
      ⟨(some 6), (some (5, true)), .q (.mv (.t 0))⟩,
      ⟨(some 7), (some (5, true)), .q (.bin .leq true (.t 6) (.k (.int .i64 7)))⟩,
      ⟨(some 8), none, .pick (.t 5) (.t 7) (.k (.bool false))⟩,
      ⟨(some 2), none, .q (.mv (.t 8))⟩])
    (.ret))
def rs37 : List RV := [.mv (.t 2)]
theorem ok37 : trFn Try.prog true ⟨fun _ _ => .own [], fun _ => false⟩ Try.f37 = some (pc37, rs37) := by kernel_rfl
/-- slices.ContainsFunc[[]robotics/api.Goal,robotics/api.Goal] -/
def pc38 : PC :=
  .seq (.reg /- 0 -/ [⟨(some 4), none, .q (.mv (.k (.bool false)))⟩])
  (.seq (.reg /- 1 -/ [⟨(some 5), none, .q (.mv (.t 0))⟩,
      ⟨(some 6), none, .q (.mv (.t 1))⟩,
      ⟨(some 7), none, .cl 55 [(.t 5), (.t 6)] [0]⟩,
      ⟨(some 8), none, .q (.bin .geq true (.t 7) (.k (.int .i64 0)))⟩,
      ⟨(some 4), none, .q (.mv (.t 8))⟩])
    (.ret))
def rs38 : List RV := [.mv (.t 4)]
theorem ok38 : trFn Try.prog true ⟨fun r k => if r = 1 ∧ k = 2 then .own [0] else .own [], fun _ => false⟩ Try.f38 = some (pc38, rs38) := by kernel_rfl
/-- robotics/audit.Goals$1 -/
def pc39 : PC :=
  .seq (.reg /- 0 -/ [⟨(some 2), none, .e (.bx 90 (.t 0))⟩,
      ⟨(some 3), none, .q (.mv (.k (.bool false)))⟩])
  (.seq (.reg /- 1 -/ [⟨(some 4), none, .q (.fa 0 (.t 2))⟩,
      ⟨(some 5), none, .l (.ldn 2 (.t 4))⟩,
      ⟨(some 6), none, .q (.fa 0 (.t 1))⟩,
      ⟨(some 7), none, .l (.ldn 2 (.t 6))⟩,
      ⟨(some 8), none, .q (.eqT false [(0, .int .i64), (1, .int .i64)] (.t 5) (.t 7))⟩,
      ⟨(some 3), none, .q (.mv (.t 8))⟩])
    (.ret))
def rs39 : List RV := [.mv (.t 3)]
theorem ok39 : trFn Try.prog true ⟨fun _ _ => .own [], fun _ => false⟩ Try.f39 = some (pc39, rs39) := by kernel_rfl
/-- slices.ContainsFunc[[]robotics/api.Endpoint,robotics/api.Endpoint] -/
def pc41 : PC :=
  .seq (.reg /- 0 -/ [⟨(some 4), none, .q (.mv (.k (.bool false)))⟩])
  (.seq (.reg /- 1 -/ [⟨(some 5), none, .q (.mv (.t 0))⟩,
      ⟨(some 6), none, .q (.mv (.t 1))⟩,
      ⟨(some 7), none, .cl 56 [(.t 5), (.t 6)] [0, 1]⟩,
      ⟨(some 8), none, .q (.bin .geq true (.t 7) (.k (.int .i64 0)))⟩,
      ⟨(some 4), none, .q (.mv (.t 8))⟩])
    (.ret))
def rs41 : List RV := [.mv (.t 4)]
theorem ok41 : trFn Try.prog true ⟨fun r k => if r = 1 ∧ k = 2 then .own [0, 1] else .own [], fun _ => false⟩ Try.f41 = some (pc41, rs41) := by kernel_rfl
/-- robotics/audit.pairs$1 -/
def pc42 : PC :=
  .seq (.reg /- 0 -/ [⟨(some 2), none, .e (.bx 31 (.t 0))⟩,
      ⟨(some 3), none, .q (.mv (.k (.bool false)))⟩])
  (.seq (.reg /- 1 -/ [⟨(some 4), none, .q (.fa 0 (.t 2))⟩,
      ⟨(some 5), none, .l (.ld1 (.t 4))⟩,
      ⟨(some 6), none, .q (.fa 0 (.t 1))⟩,
      ⟨(some 7), none, .l (.ld1 (.t 6))⟩,
      ⟨(some 8), none, .q (.bin .eql true (.t 5) (.t 7))⟩,
      ⟨(some 3), none, .q (.mv (.t 8))⟩])
    (.ret))
def rs42 : List RV := [.mv (.t 3)]
theorem ok42 : trFn Try.prog true ⟨fun _ _ => .own [], fun _ => false⟩ Try.f42 = some (pc42, rs42) := by kernel_rfl
/-- (robotics/audit.pair).of -/
def pc43 : PC :=
  .seq (.reg /- 0 -/ [⟨(some 3), none, .e (.bx 64 (.t 0))⟩,
      ⟨(some 4), none, .e (.bx 27 (.t 1))⟩,
      ⟨(some 6), none, .q (.mv (.k (.bool false)))⟩])
  (.seq (.reg /- 1 -/ [⟨(some 7), none, .q (.fa 3 (.t 4))⟩,
      ⟨(some 8), none, .l (.ld1 (.t 7))⟩,
      ⟨(some 9), none, .q (.fa 0 (.t 3))⟩,
      ⟨(some 10), none, .q (.fa 0 (.t 9))⟩,
      ⟨(some 11), none, .l (.ld1 (.t 10))⟩,
      ⟨(some 12), none, .q (.bin .eql true (.t 8) (.t 11))⟩,
      ⟨(some 13), none, .q (.mv (.t 12))⟩,
      ⟨(some 14), (some (13, true)), .q (.fa 4 (.t 4))⟩,
      ⟨(some 15), (some (13, true)), .l (.ld1 (.t 14))⟩,
      ⟨(some 16), (some (13, true)), .q (.fa 12 (.t 3))⟩,
      ⟨(some 17), (some (13, true)), .q (.fa 0 (.t 16))⟩,
      ⟨(some 18), (some (13, true)), .l (.ld1 (.t 17))⟩,
      ⟨(some 19), (some (13, true)), .q (.bin .eql true (.t 15) (.t 18))⟩,
      ⟨(some 20), none, .pick (.t 13) (.t 19) (.k (.bool false))⟩,
      ⟨(some 21), none, .q (.mv (.t 20))⟩,
      ⟨(some 22), (some (21, true)), .q (.mv (.t 2))⟩,
      ⟨(some 23), (some (21, true)), .q (.fa 0 (.t 4))⟩,
      ⟨(some 24), (some (21, true)), .l (.ld1 (.t 23))⟩,
      ⟨(some 25), (some (21, true)), .cq 57 [(.t 22), (.t 24)]⟩,
      ⟨(some 26), none, .pick (.t 21) (.t 25) (.k (.bool false))⟩,
      ⟨(some 6), none, .q (.mv (.t 26))⟩])
    (.ret))
def rs43 : List RV := [.mv (.t 6)]
theorem ok43 : trFn Try.prog true ⟨fun r k => if r = 1 ∧ k = 18 then .q else .own [], fun _ => false⟩ Try.f43 = some (pc43, rs43) := by kernel_rfl
/-- (robotics/audit.pair).ends -/
def pc44 : PC :=
  .seq (.reg /- 0 -/ [⟨(some 2), none, .e (.bx 64 (.t 0))⟩,
      ⟨(some 3), none, .e (.bx 27 (.t 1))⟩,
      ⟨(some 4), none, .q (.mv (.k (.bool false)))⟩])
  (.seq (.reg /- 1 -/ [⟨(some 5), none, .l (.ldn 24 (.t 2))⟩,
      ⟨(some 6), none, .l (.ldn 6 (.t 3))⟩,
      ⟨(some 7), none, .e (.bsl 3 1 [(.k (.int .i64 1)), (.k (.int .i64 3))])⟩,
      ⟨(some 8), none, .cq 43 [(.t 5), (.t 6), (.t 7)]⟩,
      ⟨(some 9), none, .q (.mv (.t 8))⟩,
      ⟨(some 10), (some (9, false)), .q (.fa 0 (.t 3))⟩,
      ⟨(some 11), (some (9, false)), .l (.ld1 (.t 10))⟩,
      ⟨(some 12), (some (9, false)), .q (.bin .eql true (.t 11) (.k (.int .i64 10)))⟩,
      ⟨(some 13), (some (9, false)), .q (.mv (.t 12))⟩,
      ⟨(some 14), (some (13, true)), .q (.fa 2 (.t 3))⟩,
      ⟨(some 15), (some (13, true)), .l (.ld1 (.t 14))⟩,
      ⟨(some 16), (some (13, true)), .q (.fa 0 (.t 2))⟩,
      ⟨(some 17), (some (13, true)), .q (.fa 1 (.t 16))⟩,
      ⟨(some 18), (some (13, true)), .l (.ld1 (.t 17))⟩,
      ⟨(some 19), (some (13, true)), .q (.bin .eql true (.t 15) (.t 18))⟩,
      ⟨(some 20), (some (9, false)), .pick (.t 13) (.t 19) (.k (.bool false))⟩,
      ⟨(some 21), none, .pick (.t 9) (.k (.bool true)) (.t 20)⟩,
      ⟨(some 4), none, .q (.mv (.t 21))⟩])
    (.ret))
def rs44 : List RV := [.mv (.t 4)]
theorem ok44 : trFn Try.prog true ⟨fun r k => if r = 1 ∧ k = 3 then .q else .own [], fun _ => false⟩ Try.f44 = some (pc44, rs44) := by kernel_rfl
/-- (robotics/audit.pair).order -/
def pc45 : PC :=
  .seq (.reg /- 0 -/ [⟨(some 4), none, .e (.bx 64 (.t 0))⟩,
      ⟨(some 8), none, .q (.mv (.k (.slice none 0 0)))⟩])
  (.seq (.reg /- 1 -/ [⟨(some 9), none, .q (.mv (.k (.slice none 0 0)))⟩])
    (.seq (.reg /- 2 -/ [⟨(some 14), none, .e (.mm (.int .i64))⟩,
      ⟨(some 10), none, .q (.mv (.t 14))⟩])
      (.seq (.reg /- 3 -/ [⟨(some 11), none, .q (.mv (.k (.int .i64 0)))⟩])
        (.seq (.seq (.reg /- 4 -/ [⟨(some 15), none, .q (.mv (.t 2))⟩,
      ⟨(some 16), none, .q (.bin .add true (.t 15) (.k (.int .i64 1)))⟩,
      ⟨(some 12), none, .q (.mv (.t 16))⟩])
          (.block 0 (.loop (.seq (.seq (.reg /- 5 -/ [⟨(some 17), none, .q (.mv (.t 12))⟩,
      ⟨(some 18), none, .q (.mv (.t 3))⟩,
      ⟨(some 19), none, .q (.bin .lss true (.t 17) (.t 18))⟩])
                (.cond (.t 19)
                  (.skip)
                  (.exit 0)))
                (.seq (.block 1 (.seq (.seq (.reg /- 7 -/ [⟨(some 22), none, .l (.ldn 24 (.t 4))⟩,
      ⟨(some 23), none, .q (.mv (.t 1))⟩,
      ⟨(some 24), none, .q (.mv (.t 12))⟩,
      ⟨(some 25), none, .l (.ia 6 (.t 23) (.t 24))⟩,
      ⟨(some 26), none, .l (.ldn 6 (.t 25))⟩,
      ⟨(some 27), none, .e (.bsl 3 1 [(.k (.int .i64 4)), (.k (.int .i64 5))])⟩,
      ⟨(some 28), none, .cq 43 [(.t 22), (.t 26), (.t 27)]⟩,
      ⟨(some 29), none, .q (.not (.t 28))⟩])
                    (.cond (.t 29)
                      (.exit 1)
                      (.skip)))
                    (.seq (.reg /- 8 -/ [⟨(some 30), none, .q (.mv (.t 1))⟩,
      ⟨(some 31), none, .q (.mv (.t 12))⟩,
      ⟨(some 32), none, .l (.ia 6 (.t 30) (.t 31))⟩,
      ⟨(some 33), none, .q (.fa 5 (.t 32))⟩,
      ⟨(some 34), none, .l (.ld1 (.t 33))⟩,
      ⟨(some 13), none, .q (.mv (.t 34))⟩])
                      (.seq (.block 2 (.seq (.reg /- 9 -/ [⟨(some 36), none, .q (.mv (.t 10))⟩,
      ⟨(some 37), none, .l (.lm (.t 36))⟩,
      ⟨(some 38), none, .q (.bin .eql true (.t 37) (.k (.int .i64 0)))⟩,
      ⟨(some 35), none, .q (.mv (.t 38))⟩])
                          (.cond (.t 35)
                            (.reg /- 10 -/ [⟨(some 39), none, .q (.mv (.t 13))⟩,
      ⟨(some 11), none, .q (.mv (.t 39))⟩])
                            (.seq (.reg /- 11 -/ [⟨(some 41), none, .q (.mv (.t 13))⟩,
      ⟨(some 42), none, .q (.mv (.t 11))⟩,
      ⟨(some 43), none, .q (.bin .add true (.t 42) (.k (.int .i64 1)))⟩,
      ⟨(some 44), none, .q (.bin .gtr true (.t 41) (.t 43))⟩,
      ⟨(some 40), none, .q (.mv (.t 44))⟩])
                              (.cond (.t 40)
                                (.reg /- 12 -/ [⟨(some 45), none, .q (.mv (.t 9))⟩,
      ⟨(some 46), none, .l (.ldn 24 (.t 4))⟩,
      ⟨(some 47), none, .q (.mv (.t 12))⟩,
      ⟨(some 48), none, .q (.mv (.t 1))⟩,
      ⟨(some 49), none, .q (.mv (.t 12))⟩,
      ⟨(some 50), none, .l (.ia 6 (.t 48) (.t 49))⟩,
      ⟨(some 51), none, .q (.fa 1 (.t 50))⟩,
      ⟨(some 52), none, .l (.ld1 (.t 51))⟩,
      ⟨(some 53), none, .cl 58 [(.t 46), (.t 47), (.k (.int .i64 1)), (.t 52)] []⟩,
      ⟨(some 54), none, .e (.bsl 68 5 [(.t 53)])⟩,
      ⟨(some 55), none, .e (.ap 68 5 40 (.t 45) (.t 54))⟩,
      ⟨(some 9), none, .q (.mv (.t 55))⟩])
                                (.seq (.reg /- 13 -/ [⟨(some 57), none, .q (.mv (.t 13))⟩,
      ⟨(some 58), none, .q (.mv (.t 11))⟩,
      ⟨(some 59), none, .q (.bin .leq true (.t 57) (.t 58))⟩,
      ⟨(some 60), none, .q (.mv (.t 59))⟩,
      ⟨(some 61), (some (60, true)), .q (.mv (.t 10))⟩,
      ⟨(some 62), (some (60, true)), .q (.mv (.t 13))⟩,
      ⟨(some 63), (some (60, true)), .l (.lk (.int .i64) (.bool false) false (.t 61) (.t 62))⟩,
      ⟨(some 64), none, .pick (.t 60) (.t 63) (.k (.bool false))⟩,
      ⟨(some 56), none, .q (.mv (.t 64))⟩])
                                  (.cond (.t 56)
                                    (.reg /- 14 -/ [⟨(some 65), none, .q (.mv (.t 9))⟩,
      ⟨(some 66), none, .l (.ldn 24 (.t 4))⟩,
      ⟨(some 67), none, .q (.mv (.t 12))⟩,
      ⟨(some 68), none, .q (.mv (.t 1))⟩,
      ⟨(some 69), none, .q (.mv (.t 12))⟩,
      ⟨(some 70), none, .l (.ia 6 (.t 68) (.t 69))⟩,
      ⟨(some 71), none, .q (.fa 1 (.t 70))⟩,
      ⟨(some 72), none, .l (.ld1 (.t 71))⟩,
      ⟨(some 73), none, .cl 58 [(.t 66), (.t 67), (.k (.int .i64 2)), (.t 72)] []⟩,
      ⟨(some 74), none, .e (.bsl 68 5 [(.t 73)])⟩,
      ⟨(some 75), none, .e (.ap 68 5 40 (.t 65) (.t 74))⟩,
      ⟨(some 9), none, .q (.mv (.t 75))⟩])
                                    (.seq (.reg /- 15 -/ [⟨(some 77), none, .q (.mv (.t 13))⟩,
      ⟨(some 78), none, .q (.mv (.t 11))⟩,
      ⟨(some 79), none, .q (.bin .leq true (.t 77) (.t 78))⟩,
      ⟨(some 76), none, .q (.mv (.t 79))⟩])
                                      (.cond (.t 76)
                                        (.reg /- 16 -/ [⟨(some 80), none, .q (.mv (.t 9))⟩,
      ⟨(some 81), none, .l (.ldn 24 (.t 4))⟩,
      ⟨(some 82), none, .q (.mv (.t 12))⟩,
      ⟨(some 83), none, .q (.mv (.t 1))⟩,
      ⟨(some 84), none, .q (.mv (.t 12))⟩,
      ⟨(some 85), none, .l (.ia 6 (.t 83) (.t 84))⟩,
      ⟨(some 86), none, .q (.fa 1 (.t 85))⟩,
      ⟨(some 87), none, .l (.ld1 (.t 86))⟩,
      ⟨(some 88), none, .cl 58 [(.t 81), (.t 82), (.k (.int .i64 3)), (.t 87)] []⟩,
      ⟨(some 89), none, .e (.bsl 68 5 [(.t 88)])⟩,
      ⟨(some 90), none, .e (.ap 68 5 40 (.t 80) (.t 89))⟩,
      ⟨(some 9), none, .q (.mv (.t 90))⟩])
                                        (.skip))))))))))
                        (.seq (.reg /- 17 -/ [⟨(some 91), none, .q (.mv (.t 10))⟩,
      ⟨(some 92), none, .q (.mv (.t 13))⟩,
      ⟨none, none, .e (.mu (.int .i64) (.t 91) (.t 92) (.k (.bool true)))⟩])
                          (.reg /- 18 -/ [⟨(some 93), none, .q (.mv (.t 11))⟩,
      ⟨(some 94), none, .q (.mv (.t 13))⟩,
      ⟨(some 95), none, .q (.mx true (.t 93) (.t 94))⟩,
      ⟨(some 11), none, .q (.mv (.t 95))⟩]))))))
                  (.reg /- 6 -/ [⟨(some 20), none, .q (.mv (.t 12))⟩,
      ⟨(some 21), none, .q (.bin .add true (.t 20) (.k (.int .i64 1)))⟩,
      ⟨(some 12), none, .q (.mv (.t 21))⟩]))))))
          (.seq (.reg /- 19 -/ [⟨(some 96), none, .q (.mv (.t 9))⟩,
      ⟨(some 8), none, .q (.mv (.t 96))⟩])
            (.ret))))))
def rs45 : List RV := [.mv (.t 8)]
theorem ok45 : trFn Try.prog true ⟨fun r k => if r = 7 ∧ k = 6 then .q else .own [], fun _ => false⟩ Try.f45 = some (pc45, rs45) := by kernel_rfl
/-- (robotics/audit.pair).deadlines -/
def pc46 : PC :=
  .seq (.reg /- 0 -/ [⟨(some 4), none, .e (.bx 64 (.t 0))⟩,
      ⟨(some 5), none, .e (.bx 22 (.t 1))⟩,
      ⟨(some 8), none, .q (.mv (.k (.slice none 0 0)))⟩])
  (.seq (.reg /- 1 -/ [⟨(some 16), none, .q (.fa 0 (.t 4))⟩,
      ⟨(some 17), none, .q (.fa 5 (.t 16))⟩,
      ⟨(some 18), none, .q (.fa 4 (.t 17))⟩,
      ⟨(some 19), none, .l (.ld1 (.t 18))⟩,
      ⟨(some 9), none, .e (.al (.int .i64 0) 3)⟩,
      ⟨none, none, .e (.st 1 (.t 9) (.t 19))⟩])
    (.seq (.reg /- 2 -/ [⟨(some 20), none, .e (.mm (.int .i64))⟩,
      ⟨(some 10), none, .e (.al (.map none) 109)⟩,
      ⟨none, none, .e (.st 1 (.t 10) (.t 20))⟩])
      (.seq (.seq (.reg /- 3 -/ [⟨(some 21), none, .q (.mv (.t 2))⟩,
      ⟨(some 22), none, .q (.bin .add true (.t 21) (.k (.int .i64 1)))⟩,
      ⟨(some 11), none, .q (.mv (.t 22))⟩])
        (.block 0 (.loop (.seq (.seq (.reg /- 4 -/ [⟨(some 23), none, .q (.mv (.t 11))⟩,
      ⟨(some 24), none, .q (.mv (.t 3))⟩,
      ⟨(some 25), none, .q (.bin .lss true (.t 23) (.t 24))⟩])
              (.cond (.t 25)
                (.skip)
                (.exit 0)))
              (.seq (.block 1 (.seq (.reg /- 6 -/ [⟨(some 28), none, .l (.ldn 24 (.t 4))⟩,
      ⟨(some 29), none, .l (.ld1 (.t 5))⟩,
      ⟨(some 30), none, .q (.mv (.t 11))⟩,
      ⟨(some 31), none, .l (.ia 6 (.t 29) (.t 30))⟩,
      ⟨(some 32), none, .l (.ldn 6 (.t 31))⟩,
      ⟨(some 33), none, .e (.bsl 3 1 [(.k (.int .i64 7))])⟩,
      ⟨(some 34), none, .cq 43 [(.t 28), (.t 32), (.t 33)]⟩])
                  (.cond (.t 34)
                    (.reg /- 7 -/ [⟨(some 35), none, .l (.ld1 (.t 10))⟩,
      ⟨(some 36), none, .l (.ld1 (.t 5))⟩,
      ⟨(some 37), none, .q (.mv (.t 11))⟩,
      ⟨(some 38), none, .l (.ia 6 (.t 36) (.t 37))⟩,
      ⟨(some 39), none, .q (.fa 1 (.t 38))⟩,
      ⟨(some 40), none, .l (.ld1 (.t 39))⟩,
      ⟨none, none, .e (.mu (.int .i64) (.t 35) (.t 40) (.k (.bool true)))⟩])
                    (.skip))))
                (.reg /- 5 -/ [⟨(some 26), none, .q (.mv (.t 11))⟩,
      ⟨(some 27), none, .q (.bin .add true (.t 26) (.k (.int .i64 1)))⟩,
      ⟨(some 11), none, .q (.mv (.t 27))⟩]))))))
        (.seq (.reg /- 8 -/ [⟨(some 12), none, .e (.al (.slice none 0 0) 60)⟩])
          (.seq (.reg /- 9 -/ [⟨(some 41), none, .q (.mf 59 [(.t 9), (.t 5), (.t 10), (.t 12), (.t 4)])⟩,
      ⟨(some 13), none, .q (.mv (.t 41))⟩])
            (.seq (.reg /- 10 -/ [⟨(some 42), none, .l (.ld1 (.t 5))⟩,
      ⟨(some 43), none, .q (.mv (.t 2))⟩,
      ⟨(some 44), none, .l (.ia 6 (.t 42) (.t 43))⟩,
      ⟨(some 45), none, .q (.fa 1 (.t 44))⟩,
      ⟨(some 46), none, .l (.ld1 (.t 45))⟩,
      ⟨(some 14), none, .q (.mv (.t 46))⟩])
              (.seq (.seq (.reg /- 11 -/ [⟨(some 47), none, .q (.mv (.t 2))⟩,
      ⟨(some 48), none, .q (.bin .add true (.t 47) (.k (.int .i64 1)))⟩,
      ⟨(some 15), none, .q (.mv (.t 48))⟩])
                (.block 2 (.loop (.seq (.seq (.reg /- 12 -/ [⟨(some 49), none, .q (.mv (.t 15))⟩,
      ⟨(some 50), none, .q (.mv (.t 3))⟩,
      ⟨(some 51), none, .q (.bin .lss true (.t 49) (.t 50))⟩])
                      (.cond (.t 51)
                        (.skip)
                        (.exit 2)))
                      (.seq (.block 3 (.seq (.reg /- 14 -/ [⟨(some 54), none, .l (.ldn 24 (.t 4))⟩,
      ⟨(some 55), none, .l (.ld1 (.t 5))⟩,
      ⟨(some 56), none, .q (.mv (.t 15))⟩,
      ⟨(some 57), none, .l (.ia 6 (.t 55) (.t 56))⟩,
      ⟨(some 58), none, .l (.ldn 6 (.t 57))⟩,
      ⟨(some 59), none, .e (.bsl 3 1 [(.k (.int .i64 4))])⟩,
      ⟨(some 60), none, .cq 43 [(.t 54), (.t 58), (.t 59)]⟩])
                          (.cond (.t 60)
                            (.seq (.reg /- 15 -/ [⟨(some 61), none, .q (.mv (.t 13))⟩,
      ⟨(some 62), none, .q (.mv (.t 14))⟩,
      ⟨(some 63), none, .q (.mv (.t 15))⟩,
      ⟨(some 64), none, .ca (.t 61) [(.t 62), (.t 63)] [0, 1, 2, 3, 4, 5, 6]⟩])
                              (.reg /- 16 -/ [⟨(some 65), none, .l (.ld1 (.t 5))⟩,
      ⟨(some 66), none, .q (.mv (.t 15))⟩,
      ⟨(some 67), none, .l (.ia 6 (.t 65) (.t 66))⟩,
      ⟨(some 68), none, .q (.fa 1 (.t 67))⟩,
      ⟨(some 69), none, .l (.ld1 (.t 68))⟩,
      ⟨(some 14), none, .q (.mv (.t 69))⟩]))
                            (.skip))))
                        (.reg /- 13 -/ [⟨(some 52), none, .q (.mv (.t 15))⟩,
      ⟨(some 53), none, .q (.bin .add true (.t 52) (.k (.int .i64 1)))⟩,
      ⟨(some 15), none, .q (.mv (.t 53))⟩]))))))
                (.seq (.reg /- 17 -/ [⟨(some 70), none, .q (.mv (.t 13))⟩,
      ⟨(some 71), none, .q (.mv (.t 14))⟩,
      ⟨(some 72), none, .q (.mv (.t 3))⟩,
      ⟨(some 73), none, .l (.ld1 (.t 5))⟩,
      ⟨(some 74), none, .q (.lnL (.t 73))⟩,
      ⟨(some 75), none, .q (.bin .sub true (.t 74) (.k (.int .i64 1)))⟩,
      ⟨(some 76), none, .q (.mx false (.t 72) (.t 75))⟩,
      ⟨(some 77), none, .ca (.t 70) [(.t 71), (.t 76)] [0, 1, 2, 3, 4, 5, 6]⟩])
                  (.seq (.reg /- 18 -/ [⟨(some 78), none, .l (.ld1 (.t 12))⟩,
      ⟨(some 8), none, .q (.mv (.t 78))⟩])
                    (.ret))))))))))
def rs46 : List RV := [.mv (.t 8)]
theorem ok46 : trFn Try.prog true ⟨fun r k => if r = 6 ∧ k = 6 then .q else if r = 14 ∧ k = 6 then .q else if r = 15 ∧ k = 3 then .own [0, 1, 2, 3, 4, 5, 6] else if r = 17 ∧ k = 7 then .own [0, 1, 2, 3, 4, 5, 6] else .own [], fun _ => false⟩ Try.f46 = some (pc46, rs46) := by kernel_rfl
/-- robotics/fixed.Dot -/
def pc52 : PC :=
  .seq (.reg /- 0 -/ [⟨(some 2), none, .e (.bx 48 (.t 0))⟩,
      ⟨(some 3), none, .e (.bx 48 (.t 1))⟩,
      ⟨(some 4), none, .q (.mv (.k (.int .i64 0)))⟩])
  (.seq (.reg /- 1 -/ [⟨(some 5), none, .q (.fa 0 (.t 2))⟩,
      ⟨(some 6), none, .l (.ld1 (.t 5))⟩,
      ⟨(some 7), none, .q (.fa 0 (.t 3))⟩,
      ⟨(some 8), none, .l (.ld1 (.t 7))⟩,
      ⟨(some 9), none, .q (.bin .mul true (.t 6) (.t 8))⟩,
      ⟨(some 10), none, .q (.fa 1 (.t 2))⟩,
      ⟨(some 11), none, .l (.ld1 (.t 10))⟩,
      ⟨(some 12), none, .q (.fa 1 (.t 3))⟩,
      ⟨(some 13), none, .l (.ld1 (.t 12))⟩,
      ⟨(some 14), none, .q (.bin .mul true (.t 11) (.t 13))⟩,
      ⟨(some 15), none, .q (.bin .add true (.t 9) (.t 14))⟩,
      ⟨(some 4), none, .q (.mv (.t 15))⟩])
    (.ret))
def rs52 : List RV := [.mv (.t 4)]
theorem ok52 : trFn Try.prog true ⟨fun _ _ => .own [], fun _ => false⟩ Try.f52 = some (pc52, rs52) := by kernel_rfl
/-- robotics/fixed.Root -/
def pc53 : PC :=
  .seq (.reg /- 0 -/ [⟨(some 2), none, .q (.mv (.k (.int .i64 0)))⟩])
  (.seq (.seq (.reg /- 1 -/ [⟨(some 6), none, .q (.mv (.t 0))⟩,
      ⟨(some 7), none, .q (.bin .leq true (.t 6) (.k (.int .i64 0)))⟩])
    (.cond (.t 7)
      (.seq (.reg /- 2 -/ [⟨(some 2), none, .q (.mv (.k (.int .i64 0)))⟩])
        (.ret))
      (.skip)))
    (.seq (.reg /- 3 -/ [⟨(some 3), none, .q (.mv (.k (.int .u64 0)))⟩])
      (.seq (.seq (.reg /- 4 -/ [⟨(some 4), none, .q (.mv (.k (.int .u64 2147483648)))⟩])
        (.block 0 (.loop (.seq (.seq (.reg /- 5 -/ [⟨(some 8), none, .q (.mv (.t 4))⟩,
      ⟨(some 9), none, .q (.bin .gtr true (.t 8) (.k (.int .u64 0)))⟩])
              (.cond (.t 9)
                (.skip)
                (.exit 0)))
              (.seq (.block 1 (.seq (.reg /- 7 -/ [⟨(some 12), none, .q (.mv (.t 3))⟩,
      ⟨(some 13), none, .q (.mv (.t 4))⟩,
      ⟨(some 14), none, .q (.bin .or true (.t 12) (.t 13))⟩,
      ⟨(some 5), none, .q (.mv (.t 14))⟩])
                  (.seq (.reg /- 8 -/ [⟨(some 15), none, .q (.mv (.t 5))⟩,
      ⟨(some 16), none, .q (.mv (.t 5))⟩,
      ⟨(some 17), none, .q (.bin .mul true (.t 15) (.t 16))⟩,
      ⟨(some 18), none, .q (.mv (.t 0))⟩,
      ⟨(some 19), none, .q (.cvt .u64 (.t 18))⟩,
      ⟨(some 20), none, .q (.bin .leq true (.t 17) (.t 19))⟩])
                    (.cond (.t 20)
                      (.reg /- 9 -/ [⟨(some 21), none, .q (.mv (.t 5))⟩,
      ⟨(some 3), none, .q (.mv (.t 21))⟩])
                      (.skip)))))
                (.reg /- 6 -/ [⟨(some 10), none, .q (.mv (.t 4))⟩,
      ⟨(some 11), none, .q (.bin .shr true (.t 10) (.k (.int .u64 1)))⟩,
      ⟨(some 4), none, .q (.mv (.t 11))⟩]))))))
        (.seq (.reg /- 10 -/ [⟨(some 22), none, .q (.mv (.t 3))⟩,
      ⟨(some 23), none, .q (.cvt .i64 (.t 22))⟩,
      ⟨(some 2), none, .q (.mv (.t 23))⟩])
          (.ret)))))
def rs53 : List RV := [.mv (.t 2)]
theorem ok53 : trFn Try.prog true ⟨fun _ _ => .own [], fun _ => false⟩ Try.f53 = some (pc53, rs53) := by kernel_rfl
/-- robotics/fixed.square -/
def pc54 : PC :=
  .seq (.reg /- 0 -/ [⟨(some 1), none, .e (.bx 48 (.t 0))⟩,
      ⟨(some 2), none, .q (.mv (.k (.int .i64 0)))⟩])
  (.seq (.reg /- 1 -/ [⟨(some 3), none, .q (.fa 0 (.t 1))⟩,
      ⟨(some 4), none, .l (.ld1 (.t 3))⟩,
      ⟨(some 5), none, .q (.fa 0 (.t 1))⟩,
      ⟨(some 6), none, .l (.ld1 (.t 5))⟩,
      ⟨(some 7), none, .q (.bin .mul true (.t 4) (.t 6))⟩,
      ⟨(some 8), none, .q (.fa 1 (.t 1))⟩,
      ⟨(some 9), none, .l (.ld1 (.t 8))⟩,
      ⟨(some 10), none, .q (.fa 1 (.t 1))⟩,
      ⟨(some 11), none, .l (.ld1 (.t 10))⟩,
      ⟨(some 12), none, .q (.bin .mul true (.t 9) (.t 11))⟩,
      ⟨(some 13), none, .q (.bin .add true (.t 7) (.t 12))⟩,
      ⟨(some 2), none, .q (.mv (.t 13))⟩])
    (.ret))
def rs54 : List RV := [.mv (.t 2)]
theorem ok54 : trFn Try.prog true ⟨fun _ _ => .own [], fun _ => false⟩ Try.f54 = some (pc54, rs54) := by kernel_rfl
/-- slices.IndexFunc[[]robotics/api.Goal,robotics/api.Goal] -/
def pc55 : PC :=
  .seq (.reg /- 0 -/ [⟨(some 4), none, .q (.mv (.k (.int .i64 0)))⟩])
  (.seq (.seq (.reg /- 1 -/ [⟨(some 6), none, .q (.mv (.t 0))⟩,
      ⟨(some 7), none, .q (.lnL (.t 6))⟩,
      ⟨(some 8), none, .q (.mv (.k (.int .i64 0)))⟩])
    (.block 0 (.loop (.seq (.reg /- 2 -/ [⟨(some 9), none, .q (.bin .lss true (.t 8) (.t 7))⟩])
          (.seq (.cond (.t 9)
            (.skip)
            (.exit 0))
            (.seq (.block 1 (.seq (.reg /- 3 -/ [⟨(some 10), none, .q (.mv (.t 8))⟩,
      ⟨(some 5), none, .q (.mv (.t 10))⟩])
                (.seq (.reg /- 4 -/ [⟨(some 11), none, .q (.mv (.t 1))⟩,
      ⟨(some 12), none, .q (.mv (.t 0))⟩,
      ⟨(some 13), none, .q (.mv (.t 5))⟩,
      ⟨(some 14), none, .l (.ia 7 (.t 12) (.t 13))⟩,
      ⟨(some 15), none, .l (.ldn 7 (.t 14))⟩,
      ⟨(some 16), none, .ca (.t 11) [(.t 15)] [0]⟩])
                  (.cond (.t 16)
                    (.seq (.reg /- 5 -/ [⟨(some 17), none, .q (.mv (.t 5))⟩,
      ⟨(some 4), none, .q (.mv (.t 17))⟩])
                      (.ret))
                    (.skip)))))
              (.reg /- 6 -/ [⟨(some 18), none, .q (.bin .add true (.t 8) (.k (.int .i64 1)))⟩,
      ⟨(some 8), none, .q (.mv (.t 18))⟩])))))))
    (.seq (.reg /- 7 -/ [⟨(some 4), none, .q (.mv (.k (.int .i64 (-1))))⟩])
      (.ret)))
def rs55 : List RV := [.mv (.t 4)]
theorem ok55 : trFn Try.prog true ⟨fun r k => if r = 4 ∧ k = 5 then .own [0] else .own [], fun _ => false⟩ Try.f55 = some (pc55, rs55) := by kernel_rfl
/-- slices.IndexFunc[[]robotics/api.Endpoint,robotics/api.Endpoint] -/
def pc56 : PC :=
  .seq (.reg /- 0 -/ [⟨(some 4), none, .q (.mv (.k (.int .i64 0)))⟩])
  (.seq (.seq (.reg /- 1 -/ [⟨(some 6), none, .q (.mv (.t 0))⟩,
      ⟨(some 7), none, .q (.lnL (.t 6))⟩,
      ⟨(some 8), none, .q (.mv (.k (.int .i64 0)))⟩])
    (.block 0 (.loop (.seq (.reg /- 2 -/ [⟨(some 9), none, .q (.bin .lss true (.t 8) (.t 7))⟩])
          (.seq (.cond (.t 9)
            (.skip)
            (.exit 0))
            (.seq (.block 1 (.seq (.reg /- 3 -/ [⟨(some 10), none, .q (.mv (.t 8))⟩,
      ⟨(some 5), none, .q (.mv (.t 10))⟩])
                (.seq (.reg /- 4 -/ [⟨(some 11), none, .q (.mv (.t 1))⟩,
      ⟨(some 12), none, .q (.mv (.t 0))⟩,
      ⟨(some 13), none, .q (.mv (.t 5))⟩,
      ⟨(some 14), none, .l (.ia 12 (.t 12) (.t 13))⟩,
      ⟨(some 15), none, .l (.ldn 12 (.t 14))⟩,
      ⟨(some 16), none, .ca (.t 11) [(.t 15)] [1]⟩])
                  (.cond (.t 16)
                    (.seq (.reg /- 5 -/ [⟨(some 17), none, .q (.mv (.t 5))⟩,
      ⟨(some 4), none, .q (.mv (.t 17))⟩])
                      (.ret))
                    (.skip)))))
              (.reg /- 6 -/ [⟨(some 18), none, .q (.bin .add true (.t 8) (.k (.int .i64 1)))⟩,
      ⟨(some 8), none, .q (.mv (.t 18))⟩])))))))
    (.seq (.reg /- 7 -/ [⟨(some 4), none, .q (.mv (.k (.int .i64 (-1))))⟩])
      (.ret)))
def rs56 : List RV := [.mv (.t 4)]
theorem ok56 : trFn Try.prog true ⟨fun r k => if r = 4 ∧ k = 5 then .own [1] else .own [], fun _ => false⟩ Try.f56 = some (pc56, rs56) := by kernel_rfl
/-- slices.Contains[[]int,int] -/
def pc57 : PC :=
  .seq (.reg /- 0 -/ [⟨(some 4), none, .q (.mv (.k (.bool false)))⟩])
  (.seq (.reg /- 1 -/ [⟨(some 5), none, .q (.mv (.t 0))⟩,
      ⟨(some 6), none, .q (.mv (.t 1))⟩,
      ⟨(some 7), none, .cq 62 [(.t 5), (.t 6)]⟩,
      ⟨(some 8), none, .q (.bin .geq true (.t 7) (.k (.int .i64 0)))⟩,
      ⟨(some 4), none, .q (.mv (.t 8))⟩])
    (.ret))
def rs57 : List RV := [.mv (.t 4)]
theorem ok57 : trFn Try.prog true ⟨fun r k => if r = 1 ∧ k = 2 then .q else .own [], fun _ => false⟩ Try.f57 = some (pc57, rs57) := by kernel_rfl
/-- (robotics/audit.pair).finding -/
def pc58 : PC :=
  .seq (.reg /- 0 -/ [⟨(some 4), none, .e (.bx 64 (.t 0))⟩,
      ⟨(some 8), none, .e (.al (.agg #[(.int .i64 0), (.int .i64 0), (.int .i64 0), (.int .i64 0), (.int .i64 0)]) 68)⟩])
  (.seq (.reg /- 1 -/ [⟨(some 9), none, .q (.mv (.t 1))⟩,
      ⟨(some 10), none, .q (.mv (.t 2))⟩,
      ⟨(some 11), none, .q (.mv (.t 3))⟩,
      ⟨(some 12), none, .q (.fa 0 (.t 4))⟩,
      ⟨(some 13), none, .q (.fa 0 (.t 12))⟩,
      ⟨(some 14), none, .l (.ld1 (.t 13))⟩,
      ⟨(some 15), none, .q (.fa 12 (.t 4))⟩,
      ⟨(some 16), none, .q (.fa 0 (.t 15))⟩,
      ⟨(some 17), none, .l (.ld1 (.t 16))⟩,
      ⟨(some 18), none, .q (.bd [(.int .i64 0), (.int .i64 0), (.int .i64 0), (.int .i64 0)] [(0, 1, (.t 10)), (1, 1, (.t 11)), (2, 1, (.t 14)), (3, 1, (.t 17))])⟩,
      ⟨(some 19), none, .q (.bd [(.int .i64 0), (.int .i64 0), (.int .i64 0), (.int .i64 0), (.int .i64 0)] [(0, 1, (.t 9)), (1, 4, (.t 18))])⟩,
      ⟨none, none, .e (.st 5 (.t 8) (.t 19))⟩])
    (.ret))
def rs58 : List RV := [.ld (.ldn 5 (.t 8))]
theorem ok58 : trFn Try.prog true ⟨fun _ _ => .own [], fun _ => false⟩ Try.f58 = some (pc58, rs58) := by kernel_rfl
/-- (robotics/audit.pair).deadlines$1 -/
def pc59 : PC :=
  .seq (.reg /- 0 -/ [⟨(some 9), none, .q (.mv (.k (.int .i64 1)))⟩])
  (.block 0 (.loop (.seq (.seq (.reg /- 1 -/ [⟨(some 10), none, .q (.mv (.t 9))⟩,
      ⟨(some 11), none, .q (.bin .leq true (.t 10) (.k (.int .i64 1000)))⟩,
      ⟨(some 12), none, .q (.mv (.t 11))⟩,
      ⟨(some 13), (some (12, true)), .q (.mv (.t 0))⟩,
      ⟨(some 14), (some (12, true)), .q (.mv (.t 9))⟩,
      ⟨(some 15), (some (12, true)), .l (.ld1 (.t 2))⟩,
      ⟨(some 16), (some (12, true)), .q (.bin .mul true (.t 14) (.t 15))⟩,
      ⟨(some 17), (some (12, true)), .q (.bin .add true (.t 13) (.t 16))⟩,
      ⟨(some 18), (some (12, true)), .l (.ld1 (.t 3))⟩,
      ⟨(some 19), (some (12, true)), .q (.mv (.t 1))⟩,
      ⟨(some 20), (some (12, true)), .l (.ia 6 (.t 18) (.t 19))⟩,
      ⟨(some 21), (some (12, true)), .q (.fa 1 (.t 20))⟩,
      ⟨(some 22), (some (12, true)), .l (.ld1 (.t 21))⟩,
      ⟨(some 23), (some (12, true)), .q (.bin .lss true (.t 17) (.t 22))⟩,
      ⟨(some 24), none, .pick (.t 12) (.t 23) (.k (.bool false))⟩])
        (.cond (.t 24)
          (.skip)
          (.exit 0)))
        (.seq (.block 1 (.seq (.reg /- 3 -/ [⟨(some 27), none, .l (.ld1 (.t 4))⟩,
      ⟨(some 28), none, .q (.mv (.t 0))⟩,
      ⟨(some 29), none, .q (.mv (.t 9))⟩,
      ⟨(some 30), none, .l (.ld1 (.t 2))⟩,
      ⟨(some 31), none, .q (.bin .mul true (.t 29) (.t 30))⟩,
      ⟨(some 32), none, .q (.bin .add true (.t 28) (.t 31))⟩,
      ⟨(some 33), none, .l (.lk (.int .i64) (.bool false) false (.t 27) (.t 32))⟩,
      ⟨(some 34), none, .q (.not (.t 33))⟩])
            (.cond (.t 34)
              (.ord /- 4 -/ [.q ⟨(some 35), none, .l (.ld1 (.t 5))⟩,
      .q ⟨(some 36), none, .l (.ldn 24 (.t 6))⟩,
      .q ⟨(some 37), none, .q (.mv (.t 1))⟩,
      .q ⟨(some 38), none, .q (.mv (.t 0))⟩,
      .q ⟨(some 39), none, .q (.mv (.t 9))⟩,
      .q ⟨(some 40), none, .l (.ld1 (.t 2))⟩,
      .q ⟨(some 41), none, .q (.bin .mul true (.t 39) (.t 40))⟩,
      .q ⟨(some 42), none, .q (.bin .add true (.t 38) (.t 41))⟩,
      .m ⟨(some 43), none, .cl 58 [(.t 36), (.t 37), (.k (.int .i64 4)), (.t 42)] []⟩,
      .rc ⟨(some 35), none, .l (.ld1 (.t 5))⟩,
      .m ⟨(some 44), none, .e (.bsl 68 5 [(.t 43)])⟩,
      .rc ⟨(some 35), none, .l (.ld1 (.t 5))⟩,
      .m ⟨(some 45), none, .e (.ap 68 5 40 (.t 35) (.t 44))⟩,
      .m ⟨none, none, .e (.st 1 (.t 5) (.t 45))⟩])
              (.skip))))
          (.reg /- 2 -/ [⟨(some 25), none, .q (.mv (.t 9))⟩,
      ⟨(some 26), none, .q (.bin .add true (.t 25) (.k (.int .i64 1)))⟩,
      ⟨(some 9), none, .q (.mv (.t 26))⟩])))))
def rs59 : List RV := []
theorem ok59 : trFn Try.prog true ⟨fun _ _ => .own [], fun _ => false⟩ Try.f59 = some (pc59, rs59) := by kernel_rfl
/-- slices.Index[[]int,int] -/
def pc62 : PC :=
  .seq (.reg /- 0 -/ [⟨(some 4), none, .q (.mv (.k (.int .i64 0)))⟩])
  (.seq (.seq (.reg /- 1 -/ [⟨(some 6), none, .q (.mv (.t 0))⟩,
      ⟨(some 7), none, .q (.lnL (.t 6))⟩,
      ⟨(some 8), none, .q (.mv (.k (.int .i64 0)))⟩])
    (.block 0 (.loop (.seq (.reg /- 2 -/ [⟨(some 9), none, .q (.bin .lss true (.t 8) (.t 7))⟩])
          (.seq (.cond (.t 9)
            (.skip)
            (.exit 0))
            (.seq (.block 1 (.seq (.reg /- 3 -/ [⟨(some 10), none, .q (.mv (.t 8))⟩,
      ⟨(some 5), none, .q (.mv (.t 10))⟩])
                (.seq (.reg /- 4 -/ [⟨(some 11), none, .q (.mv (.t 1))⟩,
      ⟨(some 12), none, .q (.mv (.t 0))⟩,
      ⟨(some 13), none, .q (.mv (.t 5))⟩,
      ⟨(some 14), none, .l (.ia 1 (.t 12) (.t 13))⟩,
      ⟨(some 15), none, .l (.ld1 (.t 14))⟩,
      ⟨(some 16), none, .q (.bin .eql true (.t 11) (.t 15))⟩])
                  (.cond (.t 16)
                    (.seq (.reg /- 5 -/ [⟨(some 17), none, .q (.mv (.t 5))⟩,
      ⟨(some 4), none, .q (.mv (.t 17))⟩])
                      (.ret))
                    (.skip)))))
              (.reg /- 6 -/ [⟨(some 18), none, .q (.bin .add true (.t 8) (.k (.int .i64 1)))⟩,
      ⟨(some 8), none, .q (.mv (.t 18))⟩])))))))
    (.seq (.reg /- 7 -/ [⟨(some 4), none, .q (.mv (.k (.int .i64 (-1))))⟩])
      (.ret)))
def rs62 : List RV := [.mv (.t 4)]
theorem ok62 : trFn Try.prog true ⟨fun _ _ => .own [], fun _ => false⟩ Try.f62 = some (pc62, rs62) := by kernel_rfl
end Go.Proofs.Ytdnohfhpbhlpaaa
/- Events, endpoints, pairs; of, ends, finding. -/
namespace Go.Proofs.Ytdnohfhpbhlpaaa
open Go.W
theorem row_rg {α : Type} {row : α → List C} {l : List α} {n : Nat} {c : α} (h : l[n]? = some c) (p : List C → Prop) : (∀ r, (l.map row)[n]? = some r → p r) = p (row c) := by
  rw [List.getElem?_map, h]; simp
theorem row_rg' {α : Type} {row : α → List C} {l : List α} {n : Nat} {c : α} (h : l[n]? = some c) (p : List C → Prop) : (∀ r, (l.map row)[((n : Nat) : Int).toNat]? = some r → p r) = p (row c) := by
  rw [Int.toNat_natCast, List.getElem?_map, h]; simp
structure Ev where
  k : Int
  at' : Int
  nd : Int
  ep : Int
  pr : Int
  sq : Int
structure Ep where
  id : Int
  nd : Int
  top : ByteArray
  typ : ByteArray
  wr : Bool
  rel : Bool
  dur : Bool
  keep : Bool
  dep : Int
  dl : Int
  life : Int
  lea : Int
structure Pr where
  r : Ep
  w : Ep
abbrev evC (e : Ev) : List C := [.vl (.int .i64 e.k), .vl (.int .i64 e.at'), .vl (.int .i64 e.nd), .vl (.int .i64 e.ep), .vl (.int .i64 e.pr), .vl (.int .i64 e.sq)]
abbrev epC (e : Ep) : List C := [.vl (.int .i64 e.id), .vl (.int .i64 e.nd), .vl (.string e.top), .vl (.string e.typ), .vl (.bool e.wr), .vl (.bool e.rel), .vl (.bool e.dur), .vl (.bool e.keep), .vl (.int .i64 e.dep), .vl (.int .i64 e.dl), .vl (.int .i64 e.life), .vl (.int .i64 e.lea)]
abbrev prC (p : Pr) : List C := [.vl (.int .i64 p.r.id), .vl (.int .i64 p.r.nd), .vl (.string p.r.top), .vl (.string p.r.typ), .vl (.bool p.r.wr), .vl (.bool p.r.rel), .vl (.bool p.r.dur), .vl (.bool p.r.keep), .vl (.int .i64 p.r.dep), .vl (.int .i64 p.r.dl), .vl (.int .i64 p.r.life), .vl (.int .i64 p.r.lea),
  .vl (.int .i64 p.w.id), .vl (.int .i64 p.w.nd), .vl (.string p.w.top), .vl (.string p.w.typ), .vl (.bool p.w.wr), .vl (.bool p.w.rel), .vl (.bool p.w.dur), .vl (.bool p.w.keep), .vl (.int .i64 p.w.dep), .vl (.int .i64 p.w.dl), .vl (.int .i64 p.w.life), .vl (.int .i64 p.w.lea)]
def isEv (c : List C) : Prop := ∃ e, c = evC e
def isPr (c : List C) : Prop := ∃ p, c = prC p
def isIs (rs : List (List C)) : Prop := ∃ l : List Int, rs = l.map inC ∧ l.length ≤ 1000
theorem isEv_mk (e : Ev) : isEv (evC e) := ⟨e, rfl⟩
theorem isPr_mk (p : Pr) : isPr (prC p) := ⟨p, rfl⟩
theorem isIs_mk {l : List Int} (h : l.length ≤ 1000) : isIs (l.map inC) := ⟨l, rfl, h⟩
@[go_sem] theorem gi_some (k : IntKind) (n : Int) : C.gi (some (.vl (.int k n))) = n := rfl
theorem gi_map (l : List Int) : (l.map inC).map (fun r => C.gi r[0]?) = l := by
  rw [List.map_map, show ((fun r => C.gi r[0]?) ∘ inC) = id from funext fun n => rfl, List.map_id]
/-! ### A number among numbers -/
def findI : List Int → Int → Nat → Int
  | [], _, _ => -1
  | x :: l, v, i => bif v == x then (i : Int) else findI l v (i + 1)
theorem findI_has : ∀ (l : List Int) (v : Int) (i : Nat), decide (0 ≤ findI l v i) = l.contains v
  | [], _, _ => rfl
  | x :: l, v, i => by
    simp only [findI, List.contains_cons]
    by_cases h : (v == x) = true
    · simp [h]
    · rw [Bool.not_eq_true] at h
      have := findI_has l v (i + 1)
      simp only [h, Bool.cond_false, Bool.false_or]
      exact this
def isPre : List S → Prop := fun xs => match xs with
  | [.va (.c1 (.fz rs)), .va (.c1 (.vl (.int .i64 _)))] => isIs rs
  | _ => False
theorem isPre_open {xs : List S} (h : isPre xs) : ∃ (l : List Int) (v : Int), xs = [.va (.c1 (.fz (l.map inC))), iS .i64 v] ∧ l.length ≤ 1000 := by
  unfold isPre at h
  split at h
  · obtain ⟨l, rfl, hl⟩ := h; exact ⟨l, _, rfl, hl⟩
  · exact h.elim
def ixVal : List S → A := fun xs => match xs with
  | [.va (.c1 (.fz rs)), .va (.c1 (.vl (.int .i64 v)))] => iA .i64 (findI (rs.map fun r => C.gi r[0]?) v 0)
  | _ => .gs []
theorem ixVal_eq (l : List Int) (v : Int) : ixVal [.va (.c1 (.fz (l.map inC))), iS .i64 v] = iA .i64 (findI l v 0) := by
  show iA .i64 (findI ((l.map inC).map fun r => C.gi r[0]?) v 0) = _
  rw [gi_map]
def ixFn : Fun := ⟨isPre, ixVal, fun xs h => by obtain ⟨l, v, rfl, _⟩ := isPre_open h; rw [ixVal_eq]; trivial⟩
theorem ixFn_len : ∀ xs H K, ixFn.sp xs H K → xs.length = 2 := fun xs H K h => by obtain ⟨l, v, rfl, _⟩ := isPre_open h.1.1; rfl
theorem mIndexI : Meets Try.prog 62 ixFn.sp := by
  refine meets_fn Try.func62 ok62 2 (by rw [Try.ntmps62]; decide) (meetsAll_nil _) ixFn_len ?_
  rintro xs H K ⟨⟨h, rfl⟩, hK⟩
  obtain ⟨l, v, rfl, hl⟩ := isPre_open h
  have hK' : K (iS .i64 (findI l v 0)) [] := by have := hK; rw [show ixFn.val = ixVal from rfl, ixVal_eq] at this; exact this
  simp -dsimp only [go_sem, pc62, rs62]
  refine vc_loop (α := Nat) (fun i => [(0, .va (.c1 (.fz (l.map inC)))), (1, iS .i64 v), (7, iS .i64 l.length), (8, iS .i64 i)]) (fun _ => []) (fun i => i ≤ l.length ∧ findI (l.drop i) v i = findI l v 0) (fun i => l.length - i) 0 0 ⟨by omega, rfl⟩ ?_ rfl ?_
  · simp [go_sem]
  rintro i ⟨hi, ho⟩
  rcases Nat.lt_or_ge i l.length with hlt | hge
  · obtain ⟨n, hn⟩ : ∃ n, l[i]? = some n := ⟨_, List.getElem?_eq_getElem hlt⟩
    have q1 := row_rg (row := inC) hn
    have q2 := row_rg' (row := inC) hn
    have hg : decide ((i : Int) < (l.length : Int)) = true := by simp; omega
    have hd : l.drop i = n :: l.drop (i + 1) := by
      rw [List.drop_eq_getElem_cons hlt]
      rw [List.getElem?_eq_getElem hlt] at hn
      rw [Option.some.inj hn]
    rw [hd] at ho
    simp only [findI] at ho
    cases hc : v == n with
    | true =>
      rw [hc, Bool.cond_true] at ho
      simp -dsimp only [go_sem, hg, ↓q2, hc]
      refine ⟨by omega, .done ?_⟩
      rw [show (i : Int) = findI l v 0 from ho]; exact hK'
    | false =>
      rw [hc, Bool.cond_false] at ho
      simp -dsimp only [go_sem, hg, ↓q2, hc]
      refine ⟨by omega, by omega, loop_next (i + 1) 0 ⟨by omega, ho⟩ (by omega) ?_ rfl⟩
      simp [go_sem]
  · have hg : decide ((i : Int) < (l.length : Int)) = false := by simp; omega
    have : l.drop i = [] := List.drop_eq_nil_iff.2 (by omega)
    rw [this] at ho
    simp -dsimp only [go_sem, hg]
    exact .done (by rw [show (-1 : Int) = findI l v 0 from ho]; exact hK')
def ctVal : List S → A := fun xs => match xs with
  | [.va (.c1 (.fz rs)), .va (.c1 (.vl (.int .i64 v)))] => bA ((rs.map fun r => C.gi r[0]?).contains v)
  | _ => .gs []
theorem ctVal_eq (l : List Int) (v : Int) : ctVal [.va (.c1 (.fz (l.map inC))), iS .i64 v] = bA (l.contains v) := by
  show bA (((l.map inC).map fun r => C.gi r[0]?).contains v) = _
  rw [gi_map]
def ctFn : Fun := ⟨isPre, ctVal, fun xs h => by obtain ⟨l, v, rfl, _⟩ := isPre_open h; rw [ctVal_eq]; trivial⟩
theorem ctFn_len : ∀ xs H K, ctFn.sp xs H K → xs.length = 2 := fun xs H K h => by obtain ⟨l, v, rfl, _⟩ := isPre_open h.1.1; rfl
theorem mContainsI : Meets Try.prog 57 ctFn.sp := by
  refine meets_fn Try.func57 ok57 2 (by rw [Try.ntmps57]; decide) (meetsAll_f mIndexI (meetsAll_nil _)) ctFn_len ?_
  rintro xs H K ⟨⟨h, rfl⟩, hK⟩
  obtain ⟨l, v, rfl, hl⟩ := isPre_open h
  have hK' : K (bS (l.contains v)) [] := by have := hK; rw [show ctFn.val = ctVal from rfl, ctVal_eq] at this; exact this
  have g0 := isIs_mk hl
  have e := findI_has l v 0
  simp -dsimp only [go_sem, pc57, rs57, ixFn, isPre, g0, ixVal_eq, e]
  exact .done hK'
/-! ### Of, ends, finding -/
def ofB (p : Pr) (e : Ev) (l : List Int) : Bool := e.ep == p.r.id && e.pr == p.w.id && l.contains e.k
def ofPre : List S → Prop := fun xs => match xs with
  | [.va (.gs pc), .va (.gs ec), .va (.c1 (.fz rs))] => isPr pc ∧ isEv ec ∧ isIs rs
  | _ => False
theorem ofPre_open {xs : List S} (h : ofPre xs) : ∃ (p : Pr) (e : Ev) (l : List Int), xs = [.va (.gs (prC p)), .va (.gs (evC e)), .va (.c1 (.fz (l.map inC)))] ∧ l.length ≤ 1000 := by
  unfold ofPre at h
  split at h
  · obtain ⟨⟨p, rfl⟩, ⟨e, rfl⟩, l, rfl, hl⟩ := h; exact ⟨p, e, l, rfl, hl⟩
  · exact h.elim
def ofVal : List S → A := fun xs => match xs with
  | [.va (.gs pc), .va (.gs ec), .va (.c1 (.fz rs))] => bA (C.gi ec[3]? == C.gi pc[0]? && C.gi ec[4]? == C.gi pc[12]? && (rs.map fun r => C.gi r[0]?).contains (C.gi ec[0]?))
  | _ => .gs []
theorem ofVal_eq (p : Pr) (e : Ev) (l : List Int) : ofVal [.va (.gs (prC p)), .va (.gs (evC e)), .va (.c1 (.fz (l.map inC)))] = bA (ofB p e l) := by
  show bA (e.ep == p.r.id && e.pr == p.w.id && ((l.map inC).map fun r => C.gi r[0]?).contains e.k) = _
  rw [gi_map]; rfl
def ofFn : Fun := ⟨ofPre, ofVal, fun xs h => by obtain ⟨p, e, l, rfl, _⟩ := ofPre_open h; rw [ofVal_eq]; trivial⟩
theorem ofFn_len : ∀ xs H K, ofFn.sp xs H K → xs.length = 3 := fun xs H K h => by obtain ⟨p, e, l, rfl, _⟩ := ofPre_open h.1.1; rfl
theorem mOf : Meets Try.prog 43 ofFn.sp := by
  refine meets_fn Try.func43 ok43 3 (by rw [Try.ntmps43]; decide) (meetsAll_f mContainsI (meetsAll_nil _)) ofFn_len ?_
  rintro xs H K ⟨⟨h, rfl⟩, hK⟩
  obtain ⟨p, e, l, rfl, hl⟩ := ofPre_open h
  have hK' : K (bS (ofB p e l)) [] := by have := hK; rw [show ofFn.val = ofVal from rfl, ofVal_eq] at this; exact this
  have g0 := isIs_mk hl
  unfold ofB at hK'
  simp -dsimp only [go_sem, pc43, rs43, ctFn, isPre, g0, ctVal_eq]
  exact .sel [] (by simp) (by simp) rfl (.done hK')
def endB (p : Pr) (e : Ev) : Bool := ofB p e [1, 3] || (e.k == 10 && e.nd == p.r.nd)
def enPre : List S → Prop := fun xs => match xs with
  | [.va (.gs pc), .va (.gs ec)] => isPr pc ∧ isEv ec
  | _ => False
theorem enPre_open {xs : List S} (h : enPre xs) : ∃ (p : Pr) (e : Ev), xs = [.va (.gs (prC p)), .va (.gs (evC e))] := by
  unfold enPre at h
  split at h
  · obtain ⟨⟨p, rfl⟩, e, rfl⟩ := h; exact ⟨p, e, rfl⟩
  · exact h.elim
def C.ev (r : List C) : Ev := ⟨C.gi r[0]?, C.gi r[1]?, C.gi r[2]?, C.gi r[3]?, C.gi r[4]?, C.gi r[5]?⟩
theorem ev_dec (e : Ev) : C.ev (evC e) = e := rfl
def C.gs' (c : Option C) : ByteArray := match c with
  | some (.vl (.string b)) => b
  | _ => ByteArray.empty
def C.gbo (c : Option C) : Bool := match c with
  | some (.vl (.bool b)) => b
  | _ => false
def C.pr (pc : List C) : Pr := ⟨⟨C.gi pc[0]?, C.gi pc[1]?, C.gs' pc[2]?, C.gs' pc[3]?, C.gbo pc[4]?, C.gbo pc[5]?, C.gbo pc[6]?, C.gbo pc[7]?, C.gi pc[8]?, C.gi pc[9]?, C.gi pc[10]?, C.gi pc[11]?⟩, ⟨C.gi pc[12]?, C.gi pc[13]?, C.gs' pc[14]?, C.gs' pc[15]?, C.gbo pc[16]?, C.gbo pc[17]?, C.gbo pc[18]?, C.gbo pc[19]?, C.gi pc[20]?, C.gi pc[21]?, C.gi pc[22]?, C.gi pc[23]?⟩⟩
theorem pr_dec (p : Pr) : C.pr (prC p) = p := rfl
@[go_sem] theorem ev_map (l : List Ev) : (l.map evC).map C.ev = l := by
  rw [List.map_map, show (C.ev ∘ evC) = id from funext fun e => rfl, List.map_id]
def enVal : List S → A := fun xs => match xs with
  | [.va (.gs pc), .va (.gs ec)] => bA (C.gi ec[3]? == C.gi pc[0]? && C.gi ec[4]? == C.gi pc[12]? && [1, 3].contains (C.gi ec[0]?) || (C.gi ec[0]? == 10 && C.gi ec[2]? == C.gi pc[1]?))
  | _ => .gs []
theorem enVal_eq (p : Pr) (e : Ev) : enVal [.va (.gs (prC p)), .va (.gs (evC e))] = bA (endB p e) := rfl
def enFn : Fun := ⟨enPre, enVal, fun xs h => by obtain ⟨p, e, rfl⟩ := enPre_open h; trivial⟩
theorem enFn_len : ∀ xs H K, enFn.sp xs H K → xs.length = 2 := fun xs H K h => by obtain ⟨p, e, rfl⟩ := enPre_open h.1.1; rfl
theorem mEnds : Meets Try.prog 44 enFn.sp := by
  refine meets_fn Try.func44 ok44 2 (by rw [Try.ntmps44]; decide) (meetsAll_f mOf (meetsAll_nil _)) enFn_len ?_
  rintro xs H K ⟨⟨h, rfl⟩, hK⟩
  obtain ⟨p, e, rfl⟩ := enPre_open h
  have hK' : K (bS (endB p e)) [] := hK
  have g1 := isPr_mk p
  have g2 := isEv_mk e
  have g3 : isIs [inC 1, inC 3] := isIs_mk (l := [1, 3]) (by decide)
  have hv := ofVal_eq p e [1, 3]
  simp only [List.map_cons, List.map_nil] at hv
  unfold endB at hK'
  simp -dsimp only [go_sem, pc44, rs44, ofFn, ofPre, g1, g2, g3, hv]
  refine ⟨fun h1 h2 => by rw [h1, h2]; rfl, .sel [] (by simp) (by simp) rfl (.done hK')⟩
def fiPre : List S → Prop := fun xs => match xs with
  | [.va (.gs pc), .va (.c1 (.vl (.int .i64 _))), .va (.c1 (.vl (.int .i64 _))), .va (.c1 (.vl (.int .i64 _)))] => isPr pc
  | _ => False
theorem fiPre_open {xs : List S} (h : fiPre xs) : ∃ (p : Pr) (i k t : Int), xs = [.va (.gs (prC p)), iS .i64 i, iS .i64 k, iS .i64 t] := by
  unfold fiPre at h
  split at h
  · obtain ⟨p, rfl⟩ := h; exact ⟨p, _, _, _, rfl⟩
  · exact h.elim
def fiVal : List S → A := fun xs => match xs with
  | [.va (.gs pc), .va (.c1 (.vl (.int .i64 i))), .va (.c1 (.vl (.int .i64 k))), .va (.c1 (.vl (.int .i64 t)))] => .gs (fnC ⟨i, k, t, C.gi pc[0]?, C.gi pc[12]?⟩)
  | _ => .gs []
theorem fiVal_eq (p : Pr) (i k t : Int) : fiVal [.va (.gs (prC p)), iS .i64 i, iS .i64 k, iS .i64 t] = .gs (fnC ⟨i, k, t, p.r.id, p.w.id⟩) := rfl
def fiFn : Fun := ⟨fiPre, fiVal, fun xs h => by
  obtain ⟨p, i, k, t, rfl⟩ := fiPre_open h
  rw [fiVal_eq]
  intro c hc
  simp only [List.mem_cons, List.not_mem_nil, or_false] at hc
  rcases hc with rfl | rfl | rfl | rfl | rfl <;> exact ⟨_, rfl⟩⟩
theorem fiFn_len : ∀ xs H K, fiFn.sp xs H K → xs.length = 4 := fun xs H K h => by obtain ⟨p, i, k, t, rfl⟩ := fiPre_open h.1.1; rfl
theorem mFinding : Meets Try.prog 58 fiFn.sp := by
  refine meets_fn Try.func58 ok58 4 (by rw [Try.ntmps58]; decide) (meetsAll_nil _) fiFn_len ?_
  rintro xs H K ⟨⟨h, rfl⟩, hK⟩
  obtain ⟨p, i, k, t, rfl⟩ := fiPre_open h
  have hK' : K (.va (.gs (fnC ⟨i, k, t, p.r.id, p.w.id⟩))) [] := hK
  simp -dsimp only [go_sem, pc58, rs58]
  exact .sel [] (by simp) (by simp) rfl (.done hK')
end Go.Proofs.Ytdnohfhpbhlpaaa
/- order: what is wrong with the deliveries between two events. -/
namespace Go.Proofs.Ytdnohfhpbhlpaaa
open Go.W
/-! ### A set of numbers, as a map -/
abbrev kI (ks : List Int) : List Value := ks.map fun n => Value.int .i64 n
abbrev tV (ks : List Int) : List A := ks.map fun _ => A.c1 (.vl (.bool true))
def addK (ks : List Int) (s : Int) : List Int := bif ks.contains s then ks else ks ++ [s]
theorem midx_kI (s : Int) : ∀ ks : List Int, (midx (kI ks) (.int .i64 s) = none ∧ ks.contains s = false) ∨ ∃ j, midx (kI ks) (.int .i64 s) = some j ∧ j < ks.length ∧ ks.contains s = true
  | [] => .inl ⟨rfl, rfl⟩
  | k :: ks => by
    simp only [kI, List.map_cons, midx, keyEq, List.contains_cons]
    cases h : s == k with
    | true => exact .inr ⟨0, rfl, by simp, rfl⟩
    | false =>
      rcases midx_kI s ks with ⟨h1, h2⟩ | ⟨j, h1, h2, h3⟩
      · exact .inl ⟨by rw [show midx (ks.map fun n => Value.int .i64 n) (.int .i64 s) = none from h1]; rfl, by rw [h2]; rfl⟩
      · exact .inr ⟨j + 1, by rw [show midx (ks.map fun n => Value.int .i64 n) (.int .i64 s) = some j from h1]; rfl, by simp; exact h2, by rw [h3]; rfl⟩
theorem mget_kI (ks : List Int) (s : Int) : mget (kI ks) (tV ks) (.int .i64 s) = bif ks.contains s then some (.c1 (.vl (.bool true))) else none := by
  unfold mget
  rcases midx_kI s ks with ⟨h1, h2⟩ | ⟨j, h1, h2, h3⟩
  · rw [h1, h2]; rfl
  · rw [h1, h3]
    simp [List.getElem?_eq_getElem h2]
theorem mputK_kI (ks : List Int) (s : Int) : mputK (kI ks) (.int .i64 s) = kI (addK ks s) := by
  unfold mputK addK
  rcases midx_kI s ks with ⟨h1, h2⟩ | ⟨j, h1, h2, h3⟩
  · rw [h1, h2]; simp
  · rw [h1, h3]; rfl
theorem mputV_kI (ks : List Int) (s : Int) : mputV (kI ks) (tV ks) (.int .i64 s) (.c1 (.vl (.bool true))) = tV (addK ks s) := by
  unfold mputV addK
  rcases midx_kI s ks with ⟨h1, h2⟩ | ⟨j, h1, h2, h3⟩
  · rw [h1, h2]; simp
  · rw [h1, h3]
    simp only [Bool.cond_true]
    refine List.ext_getElem? fun i => ?_
    rw [List.getElem?_set]
    split
    · rename_i hj
      subst hj
      simp [h2]
    · rfl
theorem lk_kI (ks : List Int) (s : Int) : lkS (.bool false) false (mget (kI ks) (tV ks) (.int .i64 s)) = bS (ks.contains s) := by
  rw [mget_kI]
  cases ks.contains s <;> rfl
/-! ### Logs -/
def Ev.ok (e : Ev) : Prop := 0 ≤ e.at' ∧ e.at' ≤ 1099511627776 ∧ -1000000000000 ≤ e.sq ∧ e.sq ≤ 1000000000000
def isLog (rs : List (List C)) : Prop := ∃ l : List Ev, rs = l.map evC ∧ l.length ≤ 60 ∧ ∀ e ∈ l, e.ok
theorem isLog_mk {l : List Ev} (h1 : l.length ≤ 60) (h2 : ∀ e ∈ l, e.ok) : isLog (l.map evC) := ⟨l, rfl, h1, h2⟩
def ordK (ks : List Int) (last s : Int) : Int := bif ks.isEmpty then 0 else bif decide (last + 1 < s) then 1 else bif decide (s ≤ last) && ks.contains s then 2 else bif decide (s ≤ last) then 3 else 0
def ordO (p : Pr) (i : Nat) (e : Ev) (k : Int) : List Fnd := bif k == 0 then [] else [⟨i, k, e.at', p.r.id, p.w.id⟩]
def ordSt (p : Pr) (i : Nat) (e : Ev) (z : List Int × Int × List Fnd) : List Int × Int × List Fnd :=
  bif ofB p e [4, 5] then (addK z.1 e.sq, max (bif z.1.isEmpty then e.sq else z.2.1) e.sq, z.2.2 ++ ordO p i e (ordK z.1 z.2.1 e.sq)) else z
def ordGo (p : Pr) (l : List Ev) : Nat → Nat → List Int × Int × List Fnd → List Int × Int × List Fnd
  | 0, _, z => z
  | n + 1, i, z => match l[i]? with
    | some e => ordGo p l n (i + 1) (ordSt p i e z)
    | none => z
def orderF (p : Pr) (l : List Ev) (f t : Nat) : List Fnd := (ordGo p l (t - (f + 1)) (f + 1) ([], 0, [])).2.2
theorem ordO_len (p : Pr) (i : Nat) (e : Ev) (k : Int) : (ordO p i e k).length ≤ 1 := by unfold ordO; cases k == 0 <;> simp
structure OrI (z : List Int × Int × List Fnd) (i : Nat) : Prop where
  ol : z.2.2.length ≤ i
  lo : -1000000000000 ≤ z.2.1
  hi : z.2.1 ≤ 1000000000000
theorem ori_st {p : Pr} {i : Nat} {e : Ev} {z : List Int × Int × List Fnd} (h : OrI z i) (he : e.ok) : OrI (ordSt p i e z) (i + 1) := by
  obtain ⟨h1, h2, h3⟩ := h
  obtain ⟨_, _, e3, e4⟩ := he
  unfold ordSt
  cases ofB p e [4, 5] with
  | false => exact ⟨by simp only [Bool.cond_false]; omega, h2, h3⟩
  | true =>
    have := ordO_len p i e (ordK z.1 z.2.1 e.sq)
    refine ⟨by simp only [Bool.cond_true, List.length_append]; omega, ?_, ?_⟩
    · simp only [Bool.cond_true]; cases z.1.isEmpty <;> simp only [Bool.cond_true, Bool.cond_false] <;> omega
    · simp only [Bool.cond_true]; cases z.1.isEmpty <;> simp only [Bool.cond_true, Bool.cond_false] <;> omega
def orSp : W.Spec := fun av H K =>
  match av, H with
  | [.va (.gs pc), .va (.c1 (.fz rs)), .va (.c1 (.vl (.int .i64 f))), .va (.c1 (.vl (.int .i64 t)))], [] =>
    (isPr pc ∧ isLog rs ∧ 0 ≤ f ∧ f ≤ rs.length ∧ 0 ≤ t ∧ t ≤ rs.length) ∧ K (.va (.c1 (.fz ((orderF (C.pr pc) (rs.map C.ev) f.toNat t.toNat).map fnC)))) []
  | _, _ => False
theorem orSp_open {av : List S} {H : Hp} {K : S → Hp → Prop} (h : orSp av H K) : ∃ (p : Pr) (l : List Ev) (f t : Nat), av = [.va (.gs (prC p)), .va (.c1 (.fz (l.map evC))), iS .i64 f, iS .i64 t] ∧ H = [] ∧ l.length ≤ 60 ∧ (∀ e ∈ l, e.ok) ∧ f ≤ l.length ∧ t ≤ l.length ∧ K (.va (.c1 (.fz ((orderF p l f t).map fnC)))) [] := by
  unfold orSp at h
  split at h
  · rename_i pc rs f t
    obtain ⟨⟨⟨p, rfl⟩, ⟨l, rfl, h1, h2⟩, h3, h4, h5, h6⟩, hK⟩ := h
    rw [ev_map] at hK
    rw [List.length_map] at h4 h6
    obtain ⟨f, rfl⟩ := Int.eq_ofNat_of_zero_le h3
    obtain ⟨t, rfl⟩ := Int.eq_ofNat_of_zero_le h5
    exact ⟨p, l, f, t, rfl, rfl, h1, h2, by omega, by omega, hK⟩
  · exact h.elim
attribute [go_sem ↓] orSp
set_option maxHeartbeats 4000000 in
set_option maxRecDepth 100000 in
theorem mOrder : Meets Try.prog 45 orSp := by
  refine meets_fn Try.func45 ok45 4 (by rw [Try.ntmps45]; decide) (meetsAll_f mOf (meetsAll_f mFinding (meetsAll_nil _))) (fun av H K h => by obtain ⟨_, _, _, _, rfl, _⟩ := orSp_open h; rfl) ?_
  intro av H K h
  obtain ⟨p, l, f, t, rfl, rfl, hll, hle, hf, ht, hK⟩ := orSp_open h
  have gp := isPr_mk p
  simp -dsimp only [go_sem, pc45, rs45]
  refine ⟨by omega, ?_⟩
  refine vc_loop_gh (α := Nat × (List Int × Int × List Fnd)) (fun z => [(1, .va (.c1 (.fz (l.map evC)))), (3, iS .i64 t), (4, .va (.c1 (.pt 0 0))), (9, .va (.c1 (.sl 2 z.2.2.2.length))), (10, .va (.c1 (.mp 1))), (11, iS .i64 z.2.2.1), (12, iS .i64 z.1)])
    (fun z => [.cells (prC p) 64, .map (.int .i64) (kI z.2.1) (tV z.2.1), .row (z.2.2.2.map fnC) 68 5])
    (fun z => (z.1 ≤ 61 ∧ OrI z.2 z.1) ∧ (ordGo p l (t - z.1) z.1 z.2).2.2 = orderF p l f t) (fun z => t - z.1)
    (.nil 9 68 5 rfl (gh_at (f + 1, ([], 0, [])) 3 ⟨⟨by simp only; omega, ⟨Nat.zero_le _, by simp only; omega, by simp only; omega⟩⟩, rfl⟩ ?_ ?_)) ?_
  · simp [go_sem]
  · simp [go_sem]
  rintro ⟨i, ks, last, out⟩ ⟨⟨hi, hI⟩, hgo⟩
  simp only at hi hI hgo
  have hol := hI.ol
  have hlo := hI.lo
  have hhi := hI.hi
  simp only at hol hlo hhi
  rcases Nat.lt_or_ge i t with hlt | hge
  · obtain ⟨e, hx⟩ : ∃ e, l[i]? = some e := ⟨_, List.getElem?_eq_getElem (by omega)⟩
    have heo := hle e (List.mem_of_getElem? hx)
    obtain ⟨e1, e2, e3, e4⟩ := id heo
    have q1 := row_rg (row := evC) hx
    have q2 := row_rg' (row := evC) hx
    have hg : decide ((i : Int) < (t : Int)) = true := by simp; omega
    have ge := isEv_mk e
    have g45 : isIs [inC 4, inC 5] := isIs_mk (l := [4, 5]) (by decide)
    have hv := ofVal_eq p e [4, 5]
    simp only [List.map_cons, List.map_nil] at hv
    have z0 : ((ks.length : Int) == 0) = ks.isEmpty := by cases ks <;> simp; omega
    have hs1 : t - i = (t - (i + 1)) + 1 := by omega
    rw [hs1] at hgo
    simp only [ordGo, hx] at hgo
    cases ho : ofB p e [4, 5] with
    | true =>
      cases he : ks.isEmpty with
      | true =>
        have hst : ordSt p i e (ks, last, out) = (addK ks e.sq, max e.sq e.sq, out) := by unfold ordSt ordO ordK; simp [ho, he]
        simp -dsimp only [go_sem, hg, ↓q2, ofFn, ofPre, gp, ge, g45, hv, ho, z0, he, mputK_kI, mputV_kI]
        and_intros
        all_goals first
          | omega
          | skip
        refine loop_next (i + 1, ordSt p i e (ks, last, out)) 3 ⟨⟨by simp only; omega, ori_st hI heo⟩, hgo⟩ (by simp only; omega) ?_ ?_
        · simp [go_sem, hst]
        · simp [go_sem, hst]
      | false =>
        cases h1 : decide (last + 1 < e.sq) with
        | true =>
          have hst : ordSt p i e (ks, last, out) = (addK ks e.sq, max last e.sq, out ++ [⟨i, 1, e.at', p.r.id, p.w.id⟩]) := by unfold ordSt ordO ordK; rw [ho, he, h1]; simp
          simp -dsimp only [go_sem, hg, ↓q2, ofFn, ofPre, gp, ge, g45, hv, ho, z0, he, fiFn, fiPre, fiVal, mputK_kI, mputV_kI, h1]
          and_intros
          all_goals first
            | omega
            | skip
          refine loop_next (i + 1, ordSt p i e (ks, last, out)) 3 ⟨⟨by simp only; omega, ori_st hI heo⟩, hgo⟩ (by simp only; omega) ?_ ?_
          · simp [go_sem, hst]
          · simp [go_sem, hst]
        | false =>
          cases h2 : decide (e.sq ≤ last) with
          | true =>
            cases h3 : ks.contains e.sq with
            | true =>
              have hst : ordSt p i e (ks, last, out) = (addK ks e.sq, max last e.sq, out ++ [⟨i, 2, e.at', p.r.id, p.w.id⟩]) := by unfold ordSt ordO ordK; rw [ho, he, h1, h2, h3]; simp
              have hm : mget (kI ks) (tV ks) (.int .i64 e.sq) = some (.c1 (.vl (.bool true))) := by rw [mget_kI, h3]; rfl
              simp -dsimp only [go_sem, hg, ↓q2, ofFn, ofPre, gp, ge, g45, hv, ho, z0, he, fiFn, fiPre, fiVal, mputK_kI, mputV_kI, h1, h2, hm]
              and_intros
              all_goals first
                | omega
                | skip
              refine loop_next (i + 1, ordSt p i e (ks, last, out)) 3 ⟨⟨by simp only; omega, ori_st hI heo⟩, hgo⟩ (by simp only; omega) ?_ ?_
              · simp [go_sem, hst]
              · simp [go_sem, hst]
            | false =>
              have hst : ordSt p i e (ks, last, out) = (addK ks e.sq, max last e.sq, out ++ [⟨i, 3, e.at', p.r.id, p.w.id⟩]) := by unfold ordSt ordO ordK; rw [ho, he, h1, h2, h3]; simp
              have hm : mget (kI ks) (tV ks) (.int .i64 e.sq) = none := by rw [mget_kI, h3]; rfl
              simp -dsimp only [go_sem, hg, ↓q2, ofFn, ofPre, gp, ge, g45, hv, ho, z0, he, fiFn, fiPre, fiVal, mputK_kI, mputV_kI, h1, h2, hm]
              and_intros
              all_goals first
                | omega
                | skip
              refine loop_next (i + 1, ordSt p i e (ks, last, out)) 3 ⟨⟨by simp only; omega, ori_st hI heo⟩, hgo⟩ (by simp only; omega) ?_ ?_
              · simp [go_sem, hst]
              · simp [go_sem, hst]
          | false =>
            have hst : ordSt p i e (ks, last, out) = (addK ks e.sq, max last e.sq, out) := by unfold ordSt ordO ordK; rw [ho, he, h1, h2]; simp
            simp -dsimp only [go_sem, hg, ↓q2, ofFn, ofPre, gp, ge, g45, hv, ho, z0, he, mputK_kI, mputV_kI, h1, h2]
            and_intros
            all_goals first
              | omega
              | skip
            refine loop_next (i + 1, ordSt p i e (ks, last, out)) 3 ⟨⟨by simp only; omega, ori_st hI heo⟩, hgo⟩ (by simp only; omega) ?_ ?_
            · simp [go_sem, hst]
            · simp [go_sem, hst]
    | false =>
      have hst : ordSt p i e (ks, last, out) = (ks, last, out) := by unfold ordSt; rw [ho]; rfl
      simp -dsimp only [go_sem, hg, ↓q2, ofFn, ofPre, gp, ge, g45, hv, ho]
      and_intros
      all_goals first
        | omega
        | skip
      refine loop_next (i + 1, ordSt p i e (ks, last, out)) 3 ⟨⟨by simp only; omega, ori_st hI heo⟩, hgo⟩ (by simp only; omega) ?_ ?_
      · simp [go_sem, hst]
      · simp [go_sem, hst]
  · have hg : decide ((i : Int) < (t : Int)) = false := by simp; omega
    have hz : t - i = 0 := by omega
    rw [hz] at hgo
    simp only [ordGo] at hgo
    subst hgo
    simp -dsimp only [go_sem, hg]
    refine .pub 2 _ _ _ rfl (.sel [] (by simp) (by simp [pubH]) rfl (.done ?_))
    simpa [go_sem, pubH] using hK
end Go.Proofs.Ytdnohfhpbhlpaaa
/- deadlines: the closure that looks at one interval. -/
namespace Go.Proofs.Ytdnohfhpbhlpaaa
open Go.W
def dlO (a b : Int) (ix : Int) (told : List Int) (v : Int) : List Fnd := bif told.contains v then [] else [⟨ix, 4, v, a, b⟩]
def dlF (a b per st un : Int) (ix : Int) (told : List Int) : Nat → Nat → List Fnd
  | 0, _ => []
  | n + 1, k => bif decide (st + k * per < un) then dlO a b ix told (st + k * per) ++ dlF a b per st un ix told n (k + 1) else []
theorem dlO_len (a b : Int) (ix : Int) (told : List Int) (v : Int) : (dlO a b ix told v).length ≤ 1 := by unfold dlO; cases told.contains v <;> simp
theorem dlF_len (a b per st un : Int) (ix : Int) (told : List Int) : ∀ n k, (dlF a b per st un ix told n k).length ≤ n
  | 0, _ => Nat.le_refl _
  | n + 1, k => by
    simp only [dlF]
    cases decide (st + k * per < un) with
    | false => simp
    | true =>
      have h1 := dlO_len a b ix told (st + k * per)
      have h2 := dlF_len a b per st un ix told n (k + 1)
      simp only [Bool.cond_true, List.length_append]; omega
abbrev dlH (p : Pr) (l : List Ev) (per : Int) (told : List Int) (out : List Fnd) : Hp := [.cells (prC p) 64, .cells [.fz (l.map evC)] 22, .cells [.vl (.int .i64 per)] 3, .map (.int .i64) (kI told) (tV told), .cells [.mp 3] 109, .cells [.sl 6 out.length] 60, .row (out.map fnC) 68 5]
def isDl (pc : List C) (rs : List (List C)) (per : Int) (ks : List Value) (vs : List A) (n : Nat) (ro : List (List C)) (st ix : Int) : Prop :=
  ∃ (p : Pr) (l : List Ev) (told : List Int) (out : List Fnd), pc = prC p ∧ rs = l.map evC ∧ ks = kI told ∧ vs = tV told ∧ n = out.length ∧ ro = out.map fnC ∧ 0 ≤ per ∧ per ≤ 1099511627776 ∧ (∀ e ∈ l, e.ok) ∧ out.length ≤ 1000000 ∧ 0 ≤ ix ∧ ix < l.length ∧ 0 ≤ st ∧ st ≤ 1099511627776
theorem isDl_mk {p : Pr} {l : List Ev} {per : Int} {told : List Int} {out : List Fnd} {st ix : Int} (h1 : 0 ≤ per) (h2 : per ≤ 1099511627776) (h3 : ∀ e ∈ l, e.ok) (h4 : out.length ≤ 1000000) (h5 : 0 ≤ ix) (h6 : ix < l.length) (h7 : 0 ≤ st) (h8 : st ≤ 1099511627776) : isDl (prC p) (l.map evC) per (kI told) (tV told) out.length (out.map fnC) st ix :=
  ⟨p, l, told, out, rfl, rfl, rfl, rfl, rfl, rfl, h1, h2, h3, h4, h5, h6, h7, h8⟩
def keyI : Value → Int
  | .int _ n => n
  | _ => 0
@[go_sem] theorem keyI_map (l : List Int) : (kI l).map keyI = l := by
  show (l.map fun n => Value.int .i64 n).map keyI = l
  rw [List.map_map, show (keyI ∘ fun n => Value.int .i64 n) = id from funext fun n => rfl, List.map_id]
def atR (rs : List (List C)) (ix : Int) : Int := match rs[ix.toNat]? with | some r => C.gi r[1]? | none => 0
def clSp : W.Spec := fun av H K =>
  match av, H with
  | [.va (.c1 (.vl (.int .i64 st))), .va (.c1 (.vl (.int .i64 ix))), .va (.c1 (.pt 2 0)), .va (.c1 (.pt 1 0)), .va (.c1 (.pt 4 0)), .va (.c1 (.pt 5 0)), .va (.c1 (.pt 0 0))],
    [.cells pc 64, .cells [.fz rs] 22, .cells [.vl (.int .i64 per)] 3, .map (.int .i64) ks vs, .cells [.mp 3] 109, .cells [.sl 6 n] 60, .row ro 68 5] =>
    isDl pc rs per ks vs n ro st ix ∧ K (.tu []) [.cells pc 64, .cells [.fz rs] 22, .cells [.vl (.int .i64 per)] 3, .map (.int .i64) ks vs, .cells [.mp 3] 109,
      .cells [.sl 6 (n + (dlF (C.gi pc[0]?) (C.gi pc[12]?) per st (atR rs ix) ix (ks.map keyI) 1000 1).length)] 60, .row (ro ++ (dlF (C.gi pc[0]?) (C.gi pc[12]?) per st (atR rs ix) ix (ks.map keyI) 1000 1).map fnC) 68 5]
  | _, _ => False
theorem clSp_open {av : List S} {H : Hp} {K : S → Hp → Prop} (h : clSp av H K) : ∃ (p : Pr) (l : List Ev) (per : Int) (told : List Int) (out : List Fnd) (st : Int) (ix : Nat) (e : Ev), av = [iS .i64 st, iS .i64 ix, .va (.c1 (.pt 2 0)), .va (.c1 (.pt 1 0)), .va (.c1 (.pt 4 0)), .va (.c1 (.pt 5 0)), .va (.c1 (.pt 0 0))] ∧ H = dlH p l per told out ∧
    0 ≤ per ∧ per ≤ 1099511627776 ∧ (∀ e ∈ l, e.ok) ∧ out.length ≤ 1000000 ∧ l[ix]? = some e ∧ 0 ≤ st ∧ st ≤ 1099511627776 ∧ K (.tu []) (dlH p l per told (out ++ dlF p.r.id p.w.id per st e.at' ix told 1000 1)) := by
  unfold clSp at h
  split at h
  · rename_i st ix pc rs per ks vs n ro
    obtain ⟨⟨p, l, told, out, rfl, rfl, rfl, rfl, rfl, rfl, h1, h2, h3, h4, h5, h6, h7, h8⟩, hK⟩ := h
    obtain ⟨ix, rfl⟩ := Int.eq_ofNat_of_zero_le h5
    have hx : l[ix]? = some l[ix] := List.getElem?_eq_getElem (by omega)
    refine ⟨p, l, per, told, out, st, ix, l[ix], rfl, rfl, h1, h2, h3, h4, hx, h7, h8, ?_⟩
    have ha : atR (l.map evC) (ix : Int) = (l[ix]).at' := by unfold atR; rw [Int.toNat_natCast, List.getElem?_map, hx]; rfl
    rw [keyI_map, ha] at hK
    have e1 : dlH p l per told (out ++ dlF p.r.id p.w.id per st (l[ix]).at' ix told 1000 1) = [.cells (prC p) 64, .cells [.fz (l.map evC)] 22, .cells [.vl (.int .i64 per)] 3, .map (.int .i64) (kI told) (tV told), .cells [.mp 3] 109,
      .cells [.sl 6 (out.length + (dlF p.r.id p.w.id per st (l[ix]).at' ix told 1000 1).length)] 60, .row (out.map fnC ++ (dlF p.r.id p.w.id per st (l[ix]).at' ix told 1000 1).map fnC) 68 5] := by
      unfold dlH; rw [List.length_append, List.map_append]
    rw [e1]; exact hK
  · exact h.elim
attribute [go_sem ↓] clSp
theorem mul_rng {k per : Int} (h1 : 0 ≤ k) (h2 : k ≤ 1001) (h3 : 0 ≤ per) (h4 : per ≤ 1099511627776) : 0 ≤ k * per ∧ k * per ≤ 1100611139403776 := by
  refine ⟨Int.mul_nonneg h1 h3, ?_⟩
  have := Int.mul_le_mul h2 h4 h3 (by omega : (0 : Int) ≤ 1001)
  omega
set_option maxHeartbeats 4000000 in
set_option maxRecDepth 100000 in
theorem mInterval : Meets Try.prog 59 clSp := by
  refine meets_fn Try.func59 ok59 7 (by rw [Try.ntmps59]; decide) (meetsAll_f mFinding (meetsAll_nil _)) (fun av H K h => by obtain ⟨_, _, _, _, _, _, _, _, rfl, _⟩ := clSp_open h; rfl) ?_
  intro av H K h
  obtain ⟨p, l, per, told, out, st, ix, e, rfl, rfl, hp1, hp2, hle, hol, hx, hs1, hs2, hK⟩ := clSp_open h
  have gp := isPr_mk p
  have hxl := (List.getElem?_eq_some_iff.1 hx).1
  have heo := hle e (List.mem_of_getElem? hx)
  obtain ⟨e1, e2, e3, e4⟩ := heo
  have q1 := row_rg (row := evC) hx
  have q2 := row_rg' (row := evC) hx
  have hDl := dlF_len p.r.id p.w.id per st e.at' ix told 1000 1
  clear h
  generalize hD : dlF p.r.id p.w.id per st e.at' ix told 1000 1 = D at *
  simp -dsimp only [go_sem, pc59, rs59]
  refine vc_loop (α := Nat × List Fnd) (fun z => [(0, iS .i64 st), (1, iS .i64 ix), (2, .va (.c1 (.pt 2 0))), (3, .va (.c1 (.pt 1 0))), (4, .va (.c1 (.pt 4 0))), (5, .va (.c1 (.pt 5 0))), (6, .va (.c1 (.pt 0 0))), (9, iS .i64 z.1)]) (fun z => dlH p l per told z.2)
    (fun z => (1 ≤ z.1 ∧ z.1 ≤ 1001 ∧ z.2.length ≤ out.length + z.1) ∧ z.2 ++ dlF p.r.id p.w.id per st e.at' ix told (1001 - z.1) z.1 = out ++ D) (fun z => 1001 - z.1) (1, out) 7 ⟨⟨by simp only; omega, by simp only; omega, by simp only; omega⟩, by simp only; rw [← hD]⟩ ?_ ?_ ?_
  · simp [go_sem]
  · simp [go_sem]
  rintro ⟨k, o⟩ ⟨⟨hk1, hk2, hkl⟩, hgo⟩
  simp only at hk1 hk2 hkl hgo
  have hm := mul_rng (k := (k : Int)) (by omega) (by omega) hp1 hp2
  rcases Nat.lt_or_ge k 1001 with hlt | hge
  · have hg : decide ((k : Int) ≤ 1000) = true := by simp; omega
    have hs : 1001 - k = (1001 - (k + 1)) + 1 := by omega
    rw [hs] at hgo
    simp only [dlF] at hgo
    cases hu : decide (st + (k : Int) * per < e.at') with
    | false =>
      rw [hu, Bool.cond_false, List.append_nil] at hgo
      simp -dsimp only [go_sem, hg, hu, ↓q2]
      refine ⟨by omega, by omega, by omega, ?_⟩
      rw [hgo]; exact .done hK
    | true =>
      rw [hu, Bool.cond_true] at hgo
      unfold dlO at hgo
      cases hc : told.contains (st + (k : Int) * per) with
      | true =>
        rw [hc, Bool.cond_true, List.nil_append] at hgo
        have hmg : mget (kI told) (tV told) (.int .i64 (st + (k : Int) * per)) = some (.c1 (.vl (.bool true))) := by rw [mget_kI, hc]; rfl
        simp -dsimp only [go_sem, hg, hu, ↓q2, hmg]
        refine ⟨by omega, by omega, by omega, by omega, by omega, by omega, ?_⟩
        refine loop_next (k + 1, o) 7 ⟨⟨by simp only; omega, by simp only; omega, by simp only; omega⟩, hgo⟩ (by simp only; omega) ?_ ?_
        · simp [go_sem]
        · simp [go_sem, dlH]
      | false =>
        rw [hc, Bool.cond_false] at hgo
        have hmg : mget (kI told) (tV told) (.int .i64 (st + (k : Int) * per)) = none := by rw [mget_kI, hc]; rfl
        simp -dsimp only [go_sem, hg, hu, ↓q2, hmg, fiFn, fiPre, fiVal, gp]
        refine ⟨by omega, by omega, by omega, by omega, by omega, by omega, by omega, by omega, by omega, ?_⟩
        refine loop_next (k + 1, o ++ [⟨ix, 4, st + k * per, p.r.id, p.w.id⟩]) 7 ⟨⟨by simp only; omega, by simp only; omega, by simp only [List.length_append, List.length_singleton]; omega⟩, by simp only [List.append_assoc]; exact hgo⟩ (by simp only; omega) ?_ ?_
        · simp [go_sem]
        · simp [go_sem, dlH]
  · obtain rfl : k = 1001 := by omega
    have hg : decide (((1001 : Nat) : Int) ≤ 1000) = false := by simp
    simp only [Nat.sub_self, dlF, List.append_nil] at hgo
    simp -dsimp only [go_sem, hg]
    rw [hgo]; exact .done hK
end Go.Proofs.Ytdnohfhpbhlpaaa
/- deadlines: the deadlines between two events that were not reported. -/
namespace Go.Proofs.Ytdnohfhpbhlpaaa
open Go.W
def tolS (p : Pr) (e : Ev) (z : List Int) : List Int := bif ofB p e [7] then addK z e.at' else z
def tolGo (p : Pr) (l : List Ev) : Nat → Nat → List Int → List Int
  | 0, _, z => z
  | n + 1, i, z => match l[i]? with
    | some e => tolGo p l n (i + 1) (tolS p e z)
    | none => z
def dlS (p : Pr) (told : List Int) (i : Nat) (e : Ev) (z : Int × List Fnd) : Int × List Fnd :=
  bif ofB p e [4] then (e.at', z.2 ++ dlF p.r.id p.w.id p.r.dl z.1 e.at' i told 1000 1) else z
def dlGo (p : Pr) (l : List Ev) (told : List Int) : Nat → Nat → Int × List Fnd → Int × List Fnd
  | 0, _, z => z
  | n + 1, i, z => match l[i]? with
    | some e => dlGo p l told n (i + 1) (dlS p told i e z)
    | none => z
def dlEnd (p : Pr) (l : List Ev) (told : List Int) (ix : Nat) (z : Int × List Fnd) : List Fnd :=
  match l[ix]? with
  | some e => z.2 ++ dlF p.r.id p.w.id p.r.dl z.1 e.at' ix told 1000 1
  | none => z.2
def deadF (p : Pr) (l : List Ev) (f t : Nat) : List Fnd :=
  match l[f]? with
  | some e => dlEnd p l (tolGo p l (t - (f + 1)) (f + 1) []) (min t (l.length - 1)) (dlGo p l (tolGo p l (t - (f + 1)) (f + 1) []) (t - (f + 1)) (f + 1) (e.at', []))
  | none => []
structure DlI (z : Int × List Fnd) (i : Nat) : Prop where
  ol : z.2.length ≤ 1000 * i
  lo : 0 ≤ z.1
  hi : z.1 ≤ 1099511627776
theorem dli_st {p : Pr} {told : List Int} {i : Nat} {e : Ev} {z : Int × List Fnd} (h : DlI z i) (he : e.ok) : DlI (dlS p told i e z) (i + 1) := by
  obtain ⟨h1, h2, h3⟩ := h
  obtain ⟨e1, e2, _, _⟩ := he
  unfold dlS
  cases ofB p e [4] with
  | false => exact ⟨by simp only [Bool.cond_false]; omega, h2, h3⟩
  | true =>
    have := dlF_len p.r.id p.w.id p.r.dl z.1 e.at' i told 1000 1
    exact ⟨by simp only [Bool.cond_true, List.length_append]; omega, e1, e2⟩
def deSp : W.Spec := fun av H K =>
  match av, H with
  | [.va (.gs pc), .va (.c1 (.fz rs)), .va (.c1 (.vl (.int .i64 f))), .va (.c1 (.vl (.int .i64 t)))], [] =>
    (isPr pc ∧ isLog rs ∧ 0 ≤ f ∧ f < rs.length ∧ 0 ≤ t ∧ t ≤ rs.length ∧ 0 ≤ C.gi pc[9]? ∧ C.gi pc[9]? ≤ 1099511627776) ∧ K (.va (.c1 (.fz ((deadF (C.pr pc) (rs.map C.ev) f.toNat t.toNat).map fnC)))) []
  | _, _ => False
theorem deSp_open {av : List S} {H : Hp} {K : S → Hp → Prop} (h : deSp av H K) : ∃ (p : Pr) (l : List Ev) (f t : Nat), av = [.va (.gs (prC p)), .va (.c1 (.fz (l.map evC))), iS .i64 f, iS .i64 t] ∧ H = [] ∧ l.length ≤ 60 ∧ (∀ e ∈ l, e.ok) ∧ f < l.length ∧ t ≤ l.length ∧ 0 ≤ p.r.dl ∧ p.r.dl ≤ 1099511627776 ∧ K (.va (.c1 (.fz ((deadF p l f t).map fnC)))) [] := by
  unfold deSp at h
  split at h
  · rename_i pc rs f t
    obtain ⟨⟨⟨p, rfl⟩, ⟨l, rfl, h1, h2⟩, h3, h4, h5, h6, h7, h8⟩, hK⟩ := h
    rw [ev_map] at hK
    rw [List.length_map] at h4 h6
    obtain ⟨f, rfl⟩ := Int.eq_ofNat_of_zero_le h3
    obtain ⟨t, rfl⟩ := Int.eq_ofNat_of_zero_le h5
    exact ⟨p, l, f, t, rfl, rfl, h1, h2, by omega, by omega, h7, h8, hK⟩
  · exact h.elim
attribute [go_sem ↓] deSp
theorem atR_map {l : List Ev} {i : Nat} {e : Ev} (h : l[i]? = some e) : atR (l.map evC) (i : Int) = e.at' := by
  unfold atR; rw [Int.toNat_natCast, List.getElem?_map, h]; rfl
@[go_sem] theorem tV_ren (f : Nat → Option Nat) (ks : List Int) : (tV ks).map (A.ren f) = tV ks := by
  unfold tV; rw [List.map_map]; rfl
set_option maxHeartbeats 4000000 in
set_option maxRecDepth 100000 in
theorem mDeadlines : Meets Try.prog 46 deSp := by
  refine meets_fn Try.func46 ok46 4 (by rw [Try.ntmps46]; decide) (meetsAll_f mOf (meetsAll_s mInterval (meetsAll_nil _))) (fun av H K h => by obtain ⟨_, _, _, _, rfl, _⟩ := deSp_open h; rfl) ?_
  intro av H K h
  obtain ⟨p, l, f, t, rfl, rfl, hll, hle, hf, ht, hp1, hp2, hK⟩ := deSp_open h
  have gp := isPr_mk p
  obtain ⟨e0, hx0⟩ : ∃ e, l[f]? = some e := ⟨_, List.getElem?_eq_getElem hf⟩
  have q10 := row_rg (row := evC) hx0
  have q20 := row_rg' (row := evC) hx0
  obtain ⟨e01, e02, _, _⟩ := id (hle e0 (List.mem_of_getElem? hx0))
  simp only [deadF, hx0] at hK
  generalize hT : tolGo p l (t - (f + 1)) (f + 1) [] = T at *
  simp -dsimp only [go_sem, pc46, rs46]
  refine ⟨by omega, ?_⟩
  refine vc_loop (α := Nat × List Int) (fun z => [(2, iS .i64 f), (3, iS .i64 t), (4, .va (.c1 (.pt 0 0))), (5, .va (.c1 (.pt 1 0))), (9, .va (.c1 (.pt 2 0))), (10, .va (.c1 (.pt 4 0))), (11, iS .i64 z.1)])
    (fun z => [.cells (prC p) 64, .cells [.fz (l.map evC)] 22, .cells [.vl (.int .i64 p.r.dl)] 3, .map (.int .i64) (kI z.2) (tV z.2), .cells [.mp 3] 109])
    (fun z => z.1 ≤ 61 ∧ tolGo p l (t - z.1) z.1 z.2 = T) (fun z => t - z.1) (f + 1, []) 5 ⟨by simp only; omega, hT⟩ ?_ ?_ ?_
  · simp [go_sem]
  · simp [go_sem]
  rintro ⟨i, told⟩ ⟨hi, hgo⟩
  simp only at hi hgo
  rcases Nat.lt_or_ge i t with hlt | hge
  · obtain ⟨e, hx⟩ : ∃ e, l[i]? = some e := ⟨_, List.getElem?_eq_getElem (by omega)⟩
    have q1 := row_rg (row := evC) hx
    have q2 := row_rg' (row := evC) hx
    have hg : decide ((i : Int) < (t : Int)) = true := by simp; omega
    have ge := isEv_mk e
    have g7 : isIs [inC 7] := isIs_mk (l := [7]) (by decide)
    have hv := ofVal_eq p e [7]
    simp only [List.map_cons, List.map_nil] at hv
    have hs1 : t - i = (t - (i + 1)) + 1 := by omega
    rw [hs1] at hgo
    simp only [tolGo, hx] at hgo
    cases ho : ofB p e [7] with
    | true =>
      have hst : tolS p e told = addK told e.at' := by unfold tolS; rw [ho]; rfl
      simp -dsimp only [go_sem, hg, ↓q2, ofFn, ofPre, gp, ge, g7, hv, ho, mputK_kI, mputV_kI]
      and_intros
      all_goals first
        | omega
        | skip
      refine loop_next (i + 1, tolS p e told) 5 ⟨by simp only; omega, hgo⟩ (by simp only; omega) ?_ ?_
      · simp [go_sem]
      · simp [go_sem, hst]
    | false =>
      have hst : tolS p e told = told := by unfold tolS; rw [ho]; rfl
      simp -dsimp only [go_sem, hg, ↓q2, ofFn, ofPre, gp, ge, g7, hv, ho]
      and_intros
      all_goals first
        | omega
        | skip
      refine loop_next (i + 1, tolS p e told) 5 ⟨by simp only; omega, hgo⟩ (by simp only; omega) ?_ ?_
      · simp [go_sem]
      · simp [go_sem, hst]
  have hg : decide ((i : Int) < (t : Int)) = false := by simp; omega
  have hz : t - i = 0 := by omega
  rw [hz] at hgo
  simp only [tolGo] at hgo
  subst hgo
  simp -dsimp only [go_sem, hg, ↓q20]
  refine ⟨by omega, by omega, ?_⟩
  clear hg hz hT
  generalize hR : dlGo p l told (t - (f + 1)) (f + 1) (e0.at', []) = R at *
  refine vc_loop_gh (α := Nat × (Int × List Fnd)) (fun z => [(3, iS .i64 t), (4, .va (.c1 (.pt 0 0))), (5, .va (.c1 (.pt 1 0))), (12, .va (.c1 (.pt 5 0))), (13, .va (.c1 (.fn 59 [(false, [.pt 2 0]), (false, [.pt 1 0]), (false, [.pt 4 0]), (false, [.pt 5 0]), (false, [.pt 0 0])]))), (14, iS .i64 z.2.1), (15, iS .i64 z.1)])
    (fun z => dlH p l p.r.dl told z.2.2)
    (fun z => (z.1 ≤ 61 ∧ DlI z.2 z.1) ∧ dlGo p l told (t - z.1) z.1 z.2 = R) (fun z => t - z.1)
    (.nilc 5 0 68 5 [.vl (.slice none 0 0)] 60 rfl rfl ?_) ?_
  · refine gh_at (f + 1, (e0.at', [])) 7 ⟨⟨by simp only; omega, ⟨Nat.zero_le _, e01, e02⟩⟩, hR⟩ ?_ ?_
    · simp [go_sem]
    · simp [go_sem, dlH]
  clear hi hge
  rintro ⟨i, st, out⟩ ⟨⟨hi, hI⟩, hgo⟩
  simp only at hi hI hgo
  obtain ⟨hol, hlo, hhi⟩ := id hI
  simp only at hol hlo hhi
  rcases Nat.lt_or_ge i t with hlt | hge
  · obtain ⟨e, hx⟩ : ∃ e, l[i]? = some e := ⟨_, List.getElem?_eq_getElem (by omega)⟩
    have heo := hle e (List.mem_of_getElem? hx)
    have q1 := row_rg (row := evC) hx
    have q2 := row_rg' (row := evC) hx
    have hg : decide ((i : Int) < (t : Int)) = true := by simp; omega
    have ge := isEv_mk e
    have g4 : isIs [inC 4] := isIs_mk (l := [4]) (by decide)
    have hv := ofVal_eq p e [4]
    have gd := isDl_mk (p := p) (l := l) (told := told) (out := out) (ix := (i : Int)) hp1 hp2 hle (by omega) (by omega) (by omega) hlo hhi
    have hat := atR_map hx
    simp only [List.map_cons, List.map_nil] at hv
    have hs1 : t - i = (t - (i + 1)) + 1 := by omega
    rw [hs1] at hgo
    simp only [dlGo, hx] at hgo
    cases ho : ofB p e [4] with
    | true =>
      have hst : dlS p told i e (st, out) = (e.at', out ++ dlF p.r.id p.w.id p.r.dl st e.at' i told 1000 1) := by unfold dlS; rw [ho]; rfl
      simp -dsimp only [go_sem, hg, ↓q2, ofFn, ofPre, gp, ge, g4, hv, ho, gd, hat]
      and_intros
      all_goals first
        | omega
        | skip
      refine loop_next (i + 1, dlS p told i e (st, out)) 7 ⟨⟨by simp only; omega, dli_st hI heo⟩, hgo⟩ (by simp only; omega) ?_ ?_
      · simp [go_sem, hst]
      · simp [go_sem, hst, dlH]
    | false =>
      have hst : dlS p told i e (st, out) = (st, out) := by unfold dlS; rw [ho]; rfl
      simp -dsimp only [go_sem, hg, ↓q2, ofFn, ofPre, gp, ge, g4, hv, ho]
      and_intros
      all_goals first
        | omega
        | skip
      refine loop_next (i + 1, dlS p told i e (st, out)) 7 ⟨⟨by simp only; omega, dli_st hI heo⟩, hgo⟩ (by simp only; omega) ?_ ?_
      · simp [go_sem, hst]
      · simp [go_sem, hst, dlH]
  · have hg : decide ((i : Int) < (t : Int)) = false := by simp; omega
    have hz : t - i = 0 := by omega
    rw [hz] at hgo
    simp only [dlGo] at hgo
    subst hgo
    have hmin : min (t : Int) ((l.length : Int) - 1) = ((min t (l.length - 1) : Nat) : Int) := by omega
    generalize hix : min t (l.length - 1) = ix at *
    obtain ⟨e, hx⟩ : ∃ e, l[ix]? = some e := ⟨_, List.getElem?_eq_getElem (by omega)⟩
    have hat := atR_map hx
    have gd := isDl_mk (p := p) (l := l) (told := told) (out := out) (ix := (ix : Int)) hp1 hp2 hle (by omega) (by omega) (by omega) hlo hhi
    simp only [dlEnd, hx] at hK
    simp -dsimp only [go_sem, hg, hmin, gd, hat]
    refine ⟨by omega, .pub 6 _ _ _ rfl (.sel [] (by simp) (by simp [pubH]) rfl (.done ?_))⟩
    simpa [go_sem, pubH] using hK
end Go.Proofs.Ytdnohfhpbhlpaaa
/- sessions: what is wrong with the sessions of a pair. -/
namespace Go.Proofs.Ytdnohfhpbhlpaaa
open Go.W
theorem ordGo_len (p : Pr) (l : List Ev) : ∀ (n i : Nat) (z : List Int × Int × List Fnd), (ordGo p l n i z).2.2.length ≤ z.2.2.length + n
  | 0, _, z => Nat.le_refl _
  | n + 1, i, z => by
    simp only [ordGo]
    cases h : l[i]? with
    | none => simp only; omega
    | some e =>
      simp only
      have h1 := ordGo_len p l n (i + 1) (ordSt p i e z)
      have h2 : (ordSt p i e z).2.2.length ≤ z.2.2.length + 1 := by
        have h3 := ordO_len p i e (ordK z.1 z.2.1 e.sq)
        unfold ordSt
        cases ofB p e [4, 5] with
        | false => simp
        | true => simp only [Bool.cond_true, List.length_append]; omega
      omega
theorem orderF_len (p : Pr) (l : List Ev) (f t : Nat) : (orderF p l f t).length ≤ t - (f + 1) := by
  have := ordGo_len p l (t - (f + 1)) (f + 1) ([], 0, [])
  simp only [List.length_nil] at this
  unfold orderF; omega
theorem dlGo_len (p : Pr) (l : List Ev) (told : List Int) : ∀ (n i : Nat) (z : Int × List Fnd), (dlGo p l told n i z).2.length ≤ z.2.length + 1000 * n
  | 0, _, z => Nat.le_refl _
  | n + 1, i, z => by
    simp only [dlGo]
    cases h : l[i]? with
    | none => simp only; omega
    | some e =>
      simp only
      have h1 := dlGo_len p l told n (i + 1) (dlS p told i e z)
      have h2 : (dlS p told i e z).2.length ≤ z.2.length + 1000 := by
        have h3 := dlF_len p.r.id p.w.id p.r.dl z.1 e.at' i told 1000 1
        unfold dlS
        cases ofB p e [4] with
        | false => simp
        | true => simp only [Bool.cond_true, List.length_append]; omega
      omega
theorem deadF_len (p : Pr) (l : List Ev) (f t : Nat) : (deadF p l f t).length ≤ 1000 * (t - (f + 1)) + 1000 := by
  unfold deadF
  split
  · rename_i e h
    have h1 := dlGo_len p l (tolGo p l (t - (f + 1)) (f + 1) []) (t - (f + 1)) (f + 1) (e.at', [])
    simp only [List.length_nil] at h1
    unfold dlEnd
    split
    · rename_i e' h'
      have h3 := dlF_len p.r.id p.w.id p.r.dl (dlGo p l (tolGo p l (t - (f + 1)) (f + 1) []) (t - (f + 1)) (f + 1) (e.at', [])).1 e'.at' (min t (l.length - 1) : Nat) (tolGo p l (t - (f + 1)) (f + 1) []) 1000 1
      simp only [List.length_append]; omega
    · omega
  · simp
def toGo (p : Pr) (l : List Ev) : Nat → Nat → Nat
  | 0, t => t
  | n + 1, t => match l[t]? with
    | some e => bif endB p e then t else toGo p l n (t + 1)
    | none => t
theorem toGo_le (p : Pr) (l : List Ev) : ∀ n t, t ≤ toGo p l n t ∧ toGo p l n t ≤ t + n
  | 0, t => ⟨Nat.le_refl _, Nat.le_refl _⟩
  | n + 1, t => by
    simp only [toGo]
    cases l[t]? with
    | none => simp only; omega
    | some e =>
      simp only
      have := toGo_le p l n (t + 1)
      cases endB p e <;> simp only [Bool.cond_true, Bool.cond_false] <;> omega
def seA (p : Pr) (l : List Ev) (i t : Nat) (out : List Fnd) : List Fnd :=
  (out ++ (bif p.r.rel && p.w.rel then orderF p l i t else [])) ++ (bif decide (0 < p.r.dl) then deadF p l i t else [])
def seS (p : Pr) (l : List Ev) (i : Nat) (e : Ev) (out : List Fnd) : List Fnd :=
  bif ofB p e [1] then seA p l i (toGo p l (l.length - (i + 1)) (i + 1)) out else out
def seGo (p : Pr) (l : List Ev) : Nat → Nat → List Fnd → List Fnd
  | 0, _, out => out
  | n + 1, i, out => match l[i]? with
    | some e => seGo p l n (i + 1) (seS p l i e out)
    | none => out
def sessF (p : Pr) (l : List Ev) : List Fnd := seGo p l l.length 0 []
theorem seA_len (p : Pr) (l : List Ev) (i t : Nat) (out : List Fnd) (ht : t ≤ 60) : (seA p l i t out).length ≤ out.length + 70000 := by
  have h1 := orderF_len p l i t
  have h2 := deadF_len p l i t
  unfold seA
  cases p.r.rel && p.w.rel <;> cases decide (0 < p.r.dl) <;> simp only [Bool.cond_true, Bool.cond_false, List.length_append, List.length_nil] <;> omega
theorem seS_len (p : Pr) (l : List Ev) (i : Nat) (e : Ev) (out : List Fnd) (hi : i < l.length) (hl : l.length ≤ 60) : (seS p l i e out).length ≤ out.length + 70000 := by
  have h0 := toGo_le p l (l.length - (i + 1)) (i + 1)
  have h1 := seA_len p l i (toGo p l (l.length - (i + 1)) (i + 1)) out (by omega)
  unfold seS
  cases ofB p e [1] <;> simp only [Bool.cond_true, Bool.cond_false] <;> omega
theorem seGo_len (p : Pr) (l : List Ev) (hl : l.length ≤ 60) : ∀ (n i : Nat) (out : List Fnd), (seGo p l n i out).length ≤ out.length + 70000 * n
  | 0, _, out => Nat.le_refl _
  | n + 1, i, out => by
    simp only [seGo]
    cases h : l[i]? with
    | none => simp only; omega
    | some e =>
      simp only
      have h1 := seGo_len p l hl n (i + 1) (seS p l i e out)
      have h2 := seS_len p l i e out (List.getElem?_eq_some_iff.1 h).1 hl
      omega
theorem sessF_len (p : Pr) (l : List Ev) (hl : l.length ≤ 60) : (sessF p l).length ≤ 4200000 := by
  have := seGo_len p l hl l.length 0 []
  simp only [List.length_nil] at this
  unfold sessF; omega
def seSp : W.Spec := fun av H K =>
  match av, H with
  | [.va (.gs pc), .va (.c1 (.fz rs))], [] =>
    (isPr pc ∧ isLog rs ∧ C.gi pc[9]? ≤ 1099511627776) ∧ K (.va (.c1 (.fz ((sessF (C.pr pc) (rs.map C.ev)).map fnC)))) []
  | _, _ => False
theorem seSp_open {av : List S} {H : Hp} {K : S → Hp → Prop} (h : seSp av H K) : ∃ (p : Pr) (l : List Ev), av = [.va (.gs (prC p)), .va (.c1 (.fz (l.map evC)))] ∧ H = [] ∧ l.length ≤ 60 ∧ (∀ e ∈ l, e.ok) ∧ p.r.dl ≤ 1099511627776 ∧ K (.va (.c1 (.fz ((sessF p l).map fnC)))) [] := by
  unfold seSp at h
  split at h
  · rename_i pc rs
    obtain ⟨⟨⟨p, rfl⟩, ⟨l, rfl, h1, h2⟩, h7⟩, hK⟩ := h
    rw [ev_map] at hK
    exact ⟨p, l, rfl, rfl, h1, h2, h7, hK⟩
  · exact h.elim
attribute [go_sem ↓] seSp
@[go_sem] theorem fn_r5 (L : List Fnd) : (∀ r : List C, r ∈ L.map fnC → r.length = 5) = True :=
  eq_true fun r hr => by obtain ⟨x, _, rfl⟩ := List.mem_map.1 hr; rfl
@[go_sem] theorem fn_rs (L : List Fnd) : (∀ r : List C, r ∈ L.map fnC → ∀ c : C, c ∈ r → c.shut = true ∧ c.one) = True :=
  eq_true fun r hr c hc => by
    obtain ⟨x, _, rfl⟩ := List.mem_map.1 hr
    simp only [List.mem_cons, List.not_mem_nil, or_false] at hc
    rcases hc with rfl | rfl | rfl | rfl | rfl <;> exact ⟨rfl, rfl⟩
set_option maxHeartbeats 4000000 in
set_option maxRecDepth 100000 in
theorem mSessions : Meets Try.prog 23 seSp := by
  refine meets_fn Try.func23 ok23 2 (by rw [Try.ntmps23]; decide) (meetsAll_f mOf (meetsAll_f mEnds (meetsAll_s mOrder (meetsAll_s mDeadlines (meetsAll_nil _))))) (fun av H K h => by obtain ⟨_, _, rfl, _⟩ := seSp_open h; rfl) ?_
  intro av H K h
  obtain ⟨p, l, rfl, rfl, hll, hle, hp2, hK⟩ := seSp_open h
  clear h
  have gp := isPr_mk p
  have dp := pr_dec p
  have gl := isLog_mk hll hle
  have g1 : isIs [inC 1] := isIs_mk (l := [1]) (by decide)
  simp -dsimp only [go_sem, pc23, rs23]
  refine vc_loop_gh (α := Nat × List Fnd) (fun z => [(1, .va (.c1 (.fz (l.map evC)))), (2, .va (.c1 (.pt 0 0))), (5, .va (.c1 (.sl 1 z.2.length))), (8, .va (.c1 (.fz (l.map evC)))), (9, iS .i64 l.length), (10, iS .i64 z.1)])
    (fun z => [.cells (prC p) 64, .row (z.2.map fnC) 68 5])
    (fun z => (z.1 ≤ l.length ∧ z.2.length ≤ 70000 * z.1) ∧ seGo p l (l.length - z.1) z.1 z.2 = sessF p l) (fun z => l.length - z.1)
    (.nil 5 68 5 rfl (gh_at (0, []) 2 ⟨⟨Nat.zero_le _, Nat.zero_le _⟩, rfl⟩ ?_ ?_)) ?_
  · simp [go_sem]
  · simp [go_sem]
  rintro ⟨i, out⟩ ⟨⟨hi, hol⟩, hgo⟩
  simp only at hi hol hgo
  rcases Nat.lt_or_ge i l.length with hlt | hge
  · obtain ⟨e, hx⟩ : ∃ e, l[i]? = some e := ⟨_, List.getElem?_eq_getElem (by omega)⟩
    have q1 := row_rg (row := evC) hx
    have q2 := row_rg' (row := evC) hx
    have hg : decide ((i : Int) < (l.length : Int)) = true := by simp; omega
    have ge := isEv_mk e
    have hv := ofVal_eq p e [1]
    simp only [List.map_cons, List.map_nil] at hv
    have hsl := seS_len p l i e out hlt hll
    have hs1 : l.length - i = (l.length - (i + 1)) + 1 := by omega
    rw [hs1] at hgo
    simp only [seGo, hx] at hgo
    cases ho : ofB p e [1] with
    | false =>
      have hst : seS p l i e out = out := by unfold seS; rw [ho]; rfl
      simp -dsimp only [go_sem, hg, ↓q2, ofFn, ofPre, gp, ge, g1, hv, ho]
      and_intros
      all_goals first
        | omega
        | skip
      refine loop_next (i + 1, seS p l i e out) 2 ⟨⟨by simp only; omega, by simp only; omega⟩, hgo⟩ (by simp only; omega) ?_ ?_
      · simp [go_sem, hst]
      · simp [go_sem, hst]
    | true =>
      simp -dsimp only [go_sem, hg, ↓q2, ofFn, ofPre, gp, ge, g1, hv, ho]
      refine ⟨by omega, by omega, ?_⟩
      generalize hT : toGo p l (l.length - (i + 1)) (i + 1) = T
      have hTb := toGo_le p l (l.length - (i + 1)) (i + 1)
      rw [hT] at hTb
      have hst : seS p l i e out = seA p l i T out := by unfold seS; rw [ho, hT]; rfl
      rw [hst] at hgo hsl
      refine vc_loop (α := Nat) (fun z => [(1, .va (.c1 (.fz (l.map evC)))), (2, .va (.c1 (.pt 0 0))), (5, .va (.c1 (.sl 1 out.length))), (6, iS .i64 i), (7, iS .i64 z), (8, .va (.c1 (.fz (l.map evC)))), (9, iS .i64 l.length), (10, iS .i64 i)])
        (fun _ => [.cells (prC p) 64, .row (out.map fnC) 68 5])
        (fun z => (i < z ∧ z ≤ l.length) ∧ toGo p l (l.length - z) z = T) (fun z => l.length - z) (i + 1) 2 ⟨⟨by omega, by omega⟩, hT⟩ ?_ ?_ ?_
      · simp [go_sem]
      · simp [go_sem]
      rintro t ⟨⟨ht1, ht2⟩, htg⟩
      rcases Nat.lt_or_ge t l.length with htl | hte
      · obtain ⟨e', hx'⟩ : ∃ e, l[t]? = some e := ⟨_, List.getElem?_eq_getElem (by omega)⟩
        have r1 := row_rg (row := evC) hx'
        have r2 := row_rg' (row := evC) hx'
        have hg' : decide ((t : Int) < (l.length : Int)) = true := by simp; omega
        have ge' := isEv_mk e'
        have hs2 : l.length - t = (l.length - (t + 1)) + 1 := by omega
        rw [hs2] at htg
        simp only [toGo, hx'] at htg
        have hv' := enVal_eq p e'
        cases hn : endB p e' with
        | false =>
          rw [hn] at htg
          simp -dsimp only [go_sem, hg', ↓r2, enFn, enPre, gp, ge', hv', hn]
          refine ⟨by omega, by omega, loop_next (t + 1) 2 ⟨⟨by omega, by omega⟩, htg⟩ (by omega) ?_ ?_⟩
          · simp [go_sem]
          · simp [go_sem]
        | true =>
          rw [hn] at htg
          obtain rfl : t = T := htg
          have ho1 := orderF_len p l i t
          have hd1 := deadF_len p l i t
          cases hrl : p.r.rel && p.w.rel with
          | true =>
            cases hd : decide (0 < p.r.dl) with
            | true =>
              have hsa : seA p l i t out = out ++ orderF p l i t ++ deadF p l i t := by unfold seA; rw [hrl, hd]; simp
              have hd' : 0 < p.r.dl := of_decide_eq_true hd
              simp -dsimp only [go_sem, hg', ↓r2, enFn, enPre, ge', hv', hn, gp, gl, dp, hrl, hd]
              and_intros
              all_goals first
                | omega
                | (simp only; omega)
                | skip
              refine loop_next (i + 1, seA p l i t out) 2 ⟨⟨by simp only; omega, by simp only; omega⟩, hgo⟩ (by simp only; omega) ?_ ?_
              · simp [go_sem, hsa, Nat.add_assoc]
              · simp [go_sem, hsa]
            | false =>
              have hsa : seA p l i t out = out ++ orderF p l i t := by unfold seA; rw [hrl, hd]; simp
              simp -dsimp only [go_sem, hg', ↓r2, enFn, enPre, ge', hv', hn, gp, gl, dp, hrl, hd]
              and_intros
              all_goals first
                | omega
                | (simp only; omega)
                | skip
              refine loop_next (i + 1, seA p l i t out) 2 ⟨⟨by simp only; omega, by simp only; omega⟩, hgo⟩ (by simp only; omega) ?_ ?_
              · simp [go_sem, hsa]
              · simp [go_sem, hsa]
          | false =>
            cases hd : decide (0 < p.r.dl) with
            | true =>
              have hsa : seA p l i t out = out ++ deadF p l i t := by unfold seA; rw [hrl, hd]; simp
              have hd' : 0 < p.r.dl := of_decide_eq_true hd
              simp -dsimp only [go_sem, hg', ↓r2, enFn, enPre, ge', hv', hn, gp, gl, dp, hrl, hd]
              and_intros
              all_goals first
                | omega
                | (simp only; omega)
                | skip
              refine loop_next (i + 1, seA p l i t out) 2 ⟨⟨by simp only; omega, by simp only; omega⟩, hgo⟩ (by simp only; omega) ?_ ?_
              · simp [go_sem, hsa]
              · simp [go_sem, hsa]
            | false =>
              have hsa : seA p l i t out = out := by unfold seA; rw [hrl, hd]; simp
              simp -dsimp only [go_sem, hg', ↓r2, enFn, enPre, ge', hv', hn, gp, hrl, hd]
              and_intros
              all_goals first
                | omega
                | (simp only; omega)
                | skip
              refine loop_next (i + 1, seA p l i t out) 2 ⟨⟨by simp only; omega, by simp only; omega⟩, hgo⟩ (by simp only; omega) ?_ ?_
              · simp [go_sem, hsa]
              · simp [go_sem, hsa]
      · have hg' : decide ((t : Int) < (l.length : Int)) = false := by simp; omega
        have hz : l.length - t = 0 := by omega
        rw [hz] at htg
        simp only [toGo] at htg
        obtain rfl : t = T := htg
        have ho1 := orderF_len p l i t
        have hd1 := deadF_len p l i t
        cases hrl : p.r.rel && p.w.rel with
        | true =>
          cases hd : decide (0 < p.r.dl) with
          | true =>
            have hsa : seA p l i t out = out ++ orderF p l i t ++ deadF p l i t := by unfold seA; rw [hrl, hd]; simp
            have hd' : 0 < p.r.dl := of_decide_eq_true hd
            simp -dsimp only [go_sem, hg', gp, gl, dp, hrl, hd]
            and_intros
            all_goals first
              | omega
              | (simp only [List.length_append]; omega)
              | skip
            refine loop_next (i + 1, seA p l i t out) 2 ⟨⟨by simp only; omega, by simp only; omega⟩, hgo⟩ (by simp only; omega) ?_ ?_
            · simp [go_sem, hsa, Nat.add_assoc]
            · simp [go_sem, hsa]
          | false =>
            have hsa : seA p l i t out = out ++ orderF p l i t := by unfold seA; rw [hrl, hd]; simp
            simp -dsimp only [go_sem, hg', gp, gl, dp, hrl, hd]
            and_intros
            all_goals first
              | omega
              | (simp only [List.length_append]; omega)
              | skip
            refine loop_next (i + 1, seA p l i t out) 2 ⟨⟨by simp only; omega, by simp only; omega⟩, hgo⟩ (by simp only; omega) ?_ ?_
            · simp [go_sem, hsa]
            · simp [go_sem, hsa]
        | false =>
          cases hd : decide (0 < p.r.dl) with
          | true =>
            have hsa : seA p l i t out = out ++ deadF p l i t := by unfold seA; rw [hrl, hd]; simp
            have hd' : 0 < p.r.dl := of_decide_eq_true hd
            simp -dsimp only [go_sem, hg', gp, gl, dp, hrl, hd]
            and_intros
            all_goals first
              | omega
              | (simp only [List.length_append]; omega)
              | skip
            refine loop_next (i + 1, seA p l i t out) 2 ⟨⟨by simp only; omega, by simp only; omega⟩, hgo⟩ (by simp only; omega) ?_ ?_
            · simp [go_sem, hsa]
            · simp [go_sem, hsa]
          | false =>
            have hsa : seA p l i t out = out := by unfold seA; rw [hrl, hd]; simp
            simp -dsimp only [go_sem, hg', hrl, hd]
            and_intros
            all_goals first
              | omega
              | (simp only [List.length_append]; omega)
              | skip
            refine loop_next (i + 1, seA p l i t out) 2 ⟨⟨by simp only; omega, by simp only; omega⟩, hgo⟩ (by simp only; omega) ?_ ?_
            · simp [go_sem, hsa]
            · simp [go_sem, hsa]
  · have hg : decide ((i : Int) < (l.length : Int)) = false := by simp; omega
    have hz : l.length - i = 0 := by omega
    rw [hz] at hgo
    simp only [seGo] at hgo
    subst hgo
    simp -dsimp only [go_sem, hg]
    refine .pub 1 _ _ _ rfl (.sel [] (by simp) (by simp [pubH]) rfl (.done ?_))
    simpa [go_sem, pubH] using hK
end Go.Proofs.Ytdnohfhpbhlpaaa
/- pairs: all pairs of a reader and a writer. -/
namespace Go.Proofs.Ytdnohfhpbhlpaaa
open Go.W
abbrev cpV : S := .va (.c1 (.fn 42 [(false, [.pt 1 0])]))
def hasE (es : List Ep) (x : Ep) : Bool := es.any fun y => y.id == x.id
def paSp : W.Spec := fun av H K =>
  match av, H with
  | [.va (.gs yc), .va (.c1 (.pt 0 0))], [.cells xc 31] => ((∃ y, yc = epC y) ∧ ∃ x, xc = epC x) ∧ K (bS (C.gi yc[0]? == C.gi xc[0]?)) [.cells xc 31]
  | _, _ => False
theorem paSp_open {av : List S} {H : Hp} {K : S → Hp → Prop} (h : paSp av H K) : ∃ y x : Ep, av = [.va (.gs (epC y)), .va (.c1 (.pt 0 0))] ∧ H = [.cells (epC x) 31] ∧ K (bS (y.id == x.id)) [.cells (epC x) 31] := by
  unfold paSp at h
  split at h
  · obtain ⟨⟨⟨y, rfl⟩, x, rfl⟩, hK⟩ := h
    exact ⟨y, x, rfl, rfl, hK⟩
  · exact h.elim
attribute [go_sem ↓] paSp
theorem mPairs1 : Meets Try.prog 42 paSp := by
  refine meets_fn Try.func42 ok42 2 (by rw [Try.ntmps42]; decide) (meetsAll_nil _) (fun av H K h => by obtain ⟨_, _, rfl, _⟩ := paSp_open h; rfl) ?_
  intro av H K h
  obtain ⟨y, x, rfl, rfl, hK⟩ := paSp_open h
  simp -dsimp only [go_sem, pc42, rs42]
  exact .sel [0] (by simp) (by simp) rfl (.done (by simpa [go_sem] using hK))
def fixE : List Ep → Ep → Nat → Int
  | [], _, _ => -1
  | y :: l, x, i => bif y.id == x.id then (i : Int) else fixE l x (i + 1)
theorem fixE_has : ∀ (l : List Ep) (x : Ep) (i : Nat), decide (0 ≤ fixE l x i) = hasE l x
  | [], _, _ => rfl
  | y :: l, x, i => by
    rw [show hasE (y :: l) x = (y.id == x.id || hasE l x) from rfl]
    simp only [fixE]
    by_cases h : (y.id == x.id) = true
    · simp [h]
    · rw [Bool.not_eq_true] at h
      have := fixE_has l x (i + 1)
      simp only [h, Bool.cond_false, Bool.false_or]
      exact this
abbrev epH (l : List Ep) (x : Ep) : Hp := [.row (l.map epC) 31 12, .cells (epC x) 31]
def ieSp : W.Spec := fun av H K => ∃ (l : List Ep) (x : Ep), av = [.va (.c1 (.sl 0 l.length)), cpV] ∧ H = epH l x ∧ l.length ≤ 1000 ∧ K (iS .i64 (fixE l x 0)) (epH l x)
theorem ie_use {l : List Ep} {x : Ep} {K : S → Hp → Prop} (h : l.length ≤ 1000) (hK : K (iS .i64 (fixE l x 0)) (epH l x)) : ieSp [.va (.c1 (.sl 0 l.length)), cpV] (epH l x) K := ⟨l, x, rfl, rfl, h, hK⟩
set_option maxHeartbeats 1000000 in
theorem mIndexE : Meets Try.prog 56 ieSp := by
  refine meets_fn Try.func56 ok56 2 (by rw [Try.ntmps56]; decide) (meetsAll_s mPairs1 (meetsAll_nil _)) (fun av H K h => by obtain ⟨_, _, rfl, _⟩ := h; rfl) ?_
  rintro av H K ⟨l, x, rfl, rfl, hl, hK⟩
  simp -dsimp only [go_sem, pc56, rs56]
  refine vc_loop (α := Nat) (fun i => [(0, .va (.c1 (.sl 0 l.length))), (1, cpV), (7, iS .i64 l.length), (8, iS .i64 i)]) (fun _ => epH l x)
    (fun i => i ≤ l.length ∧ fixE (l.drop i) x i = fixE l x 0) (fun i => l.length - i) 0 2 ⟨Nat.zero_le _, rfl⟩ ?_ ?_ ?_
  · simp [go_sem]
  · simp [go_sem]
  rintro i ⟨hi, ho⟩
  rcases Nat.lt_or_ge i l.length with hlt | hge
  · have hg : decide ((i : Int) < (l.length : Int)) = true := by simp; omega
    have hx : l[i]? = some l[i] := List.getElem?_eq_getElem hlt
    have q1 := row_rg (row := epC) hx
    have q2 := row_rg' (row := epC) hx
    rw [List.drop_eq_getElem_cons hlt] at ho
    simp only [fixE] at ho
    generalize l[i] = y at *
    have gy : ∃ z, epC y = epC z := ⟨y, rfl⟩
    have gx : ∃ z, epC x = epC z := ⟨x, rfl⟩
    cases hc : y.id == x.id with
    | true =>
      rw [hc, Bool.cond_true] at ho
      simp -dsimp only [go_sem, hg, ↓q1, hc, gy, gx]
      exact ⟨by omega, hlt, .done (by rw [ho]; exact hK)⟩
    | false =>
      rw [hc, Bool.cond_false] at ho
      simp -dsimp only [go_sem, hg, ↓q1, hc, gy, gx]
      refine ⟨by omega, hlt, by omega, loop_next (i + 1) 2 ⟨by omega, ho⟩ (by omega) ?_ ?_⟩
      · simp [go_sem]
      · simp [go_sem]
  · have hg : decide ((i : Int) < (l.length : Int)) = false := by simp; omega
    have : l.drop i = [] := List.drop_eq_nil_iff.2 (by omega)
    rw [this] at ho
    simp -dsimp only [go_sem, hg]
    exact .done (by rw [show (-1 : Int) = fixE l x 0 from ho]; exact hK)
def coSp : W.Spec := fun av H K => ∃ (l : List Ep) (x : Ep), av = [.va (.c1 (.sl 0 l.length)), cpV] ∧ H = epH l x ∧ l.length ≤ 1000 ∧ K (bS (hasE l x)) (epH l x)
theorem co_use {l : List Ep} {x : Ep} {K : S → Hp → Prop} (h : l.length ≤ 1000) (hK : K (bS (hasE l x)) (epH l x)) : coSp [.va (.c1 (.sl 0 l.length)), cpV] (epH l x) K := ⟨l, x, rfl, rfl, h, hK⟩
theorem mContainsE : Meets Try.prog 41 coSp := by
  refine meets_fn Try.func41 ok41 2 (by rw [Try.ntmps41]; decide) (meetsAll_s mIndexE (meetsAll_nil _)) (fun av H K h => by obtain ⟨_, _, rfl, _⟩ := h; rfl) ?_
  rintro av H K ⟨l, x, rfl, rfl, hl, hK⟩
  simp -dsimp only [go_sem, pc41, rs41]
  refine ie_use hl ?_
  simp -dsimp only [go_sem, fixE_has]
  exact .done hK
def firS (acc : List Ep) (x : Ep) : List Ep := bif hasE acc x then acc else acc ++ [x]
def firGo : List Ep → List Ep → List Ep
  | [], acc => acc
  | x :: es, acc => firGo es (firS acc x)
def firstF (es : List Ep) : List Ep := firGo es []
def prO (r w : Ep) : List Pr := bif !r.wr && w.wr then [⟨r, w⟩] else []
def prIn (r : Ep) : List Ep → List Pr → List Pr
  | [], acc => acc
  | w :: ws, acc => prIn r ws (acc ++ prO r w)
def prOut (fs : List Ep) : List Ep → List Pr → List Pr
  | [], acc => acc
  | r :: rs, acc => prOut fs rs (prIn r fs acc)
def pairsF (es : List Ep) : List Pr := prOut (firstF es) (firstF es) []
theorem firGo_len : ∀ (es acc : List Ep), (firGo es acc).length ≤ acc.length + es.length
  | [], acc => Nat.le_refl _
  | x :: es, acc => by
    have h1 := firGo_len es (firS acc x)
    have h2 : (firS acc x).length ≤ acc.length + 1 := by unfold firS; cases hasE acc x <;> simp
    simp only [firGo, List.length_cons]; omega
theorem firstF_len (es : List Ep) : (firstF es).length ≤ es.length := by
  have := firGo_len es []
  simp only [List.length_nil] at this
  unfold firstF; omega
theorem prO_len (r w : Ep) : (prO r w).length ≤ 1 := by unfold prO; cases !r.wr && w.wr <;> simp
theorem prIn_len (r : Ep) : ∀ (ws : List Ep) (acc : List Pr), (prIn r ws acc).length ≤ acc.length + ws.length
  | [], acc => Nat.le_refl _
  | w :: ws, acc => by
    have h1 := prIn_len r ws (acc ++ prO r w)
    have h2 := prO_len r w
    simp only [prIn, List.length_cons]
    rw [List.length_append] at h1
    omega
theorem prOut_len (fs : List Ep) : ∀ (rs : List Ep) (acc : List Pr), (prOut fs rs acc).length ≤ acc.length + rs.length * fs.length
  | [], acc => by simp [prOut]
  | r :: rs, acc => by
    have h1 := prOut_len fs rs (prIn r fs acc)
    have h2 := prIn_len r fs acc
    have h3 : (rs.length + 1) * fs.length = rs.length * fs.length + fs.length := Nat.succ_mul _ _
    simp only [prOut, List.length_cons]
    omega
end Go.Proofs.Ytdnohfhpbhlpaaa
/- pairs: the walk. -/
namespace Go.Proofs.Ytdnohfhpbhlpaaa
open Go.W
def C.ep (pc : List C) : Ep := ⟨C.gi pc[0]?, C.gi pc[1]?, C.gs' pc[2]?, C.gs' pc[3]?, C.gbo pc[4]?, C.gbo pc[5]?, C.gbo pc[6]?, C.gbo pc[7]?, C.gi pc[8]?, C.gi pc[9]?, C.gi pc[10]?, C.gi pc[11]?⟩
@[go_sem] theorem ep_map (l : List Ep) : (l.map epC).map C.ep = l := by
  rw [List.map_map, show (C.ep ∘ epC) = id from funext fun e => rfl, List.map_id]
def isEps (rs : List (List C)) : Prop := ∃ es : List Ep, rs = es.map epC ∧ es.length ≤ 6
def paiSp : W.Spec := fun av H K =>
  match av, H with
  | [.va (.c1 (.fz rs))], [] => isEps rs ∧ K (.va (.c1 (.fz ((pairsF (rs.map C.ep)).map prC)))) []
  | _, _ => False
theorem paiSp_open {av : List S} {H : Hp} {K : S → Hp → Prop} (h : paiSp av H K) : ∃ es : List Ep, av = [.va (.c1 (.fz (es.map epC)))] ∧ H = [] ∧ es.length ≤ 6 ∧ K (.va (.c1 (.fz ((pairsF es).map prC)))) [] := by
  unfold paiSp at h
  split at h
  · obtain ⟨⟨es, rfl, h1⟩, hK⟩ := h
    rw [ep_map] at hK
    exact ⟨es, rfl, rfl, h1, hK⟩
  · exact h.elim
attribute [go_sem ↓] paiSp
set_option maxHeartbeats 4000000 in
set_option maxRecDepth 100000 in
theorem mPairs : Meets Try.prog 22 paiSp := by
  refine meets_fn Try.func22 ok22 1 (by rw [Try.ntmps22]; decide) (meetsAll_s mContainsE (meetsAll_nil _)) (fun av H K h => by obtain ⟨_, rfl, _⟩ := paiSp_open h; rfl) ?_
  intro av H K h
  obtain ⟨es, rfl, rfl, hes, hK⟩ := paiSp_open h
  clear h
  unfold pairsF at hK
  have hfl := firstF_len es
  generalize hF : firstF es = fs at hK hfl
  simp -dsimp only [go_sem, pc22, rs22]
  refine vc_loop_gh (α := Nat × List Ep) (fun z => [(3, .va (.c1 (.sl 0 z.2.length))), (11, .va (.c1 (.fz (es.map epC)))), (12, iS .i64 es.length), (13, iS .i64 z.1)])
    (fun z => [.row (z.2.map epC) 31 12])
    (fun z => (z.1 ≤ es.length ∧ z.2.length ≤ z.1) ∧ firGo (es.drop z.1) z.2 = fs) (fun z => es.length - z.1)
    (.nil 3 31 12 rfl (gh_at (0, []) 1 ⟨⟨Nat.zero_le _, Nat.zero_le _⟩, hF⟩ ?_ ?_)) ?_
  · simp [go_sem]
  · simp [go_sem]
  rintro ⟨i, acc⟩ ⟨⟨hi, hal⟩, hgo⟩
  simp only at hi hal hgo
  rcases Nat.lt_or_ge i es.length with hlt | hge
  · have hx : es[i]? = some es[i] := List.getElem?_eq_getElem hlt
    have hg : decide ((i : Int) < (es.length : Int)) = true := by simp; omega
    have q1 := row_rg (row := epC) hx
    have q2 := row_rg' (row := epC) hx
    rw [List.drop_eq_getElem_cons hlt] at hgo
    simp only [firGo] at hgo
    generalize es[i] = x at *
    simp -dsimp only [go_sem, hg, ↓q2]
    refine ⟨by omega, ?_⟩
    refine co_use (x := x) (by omega) ?_
    cases hc : hasE acc x with
    | true =>
      have hst : firS acc x = acc := by unfold firS; rw [hc]; rfl
      rw [hst] at hgo
      simp -dsimp only [go_sem]
      refine ⟨by omega, loop_next (i + 1, acc) 1 ⟨⟨by simp only; omega, by simp only; omega⟩, hgo⟩ (by simp only; omega) ?_ ?_⟩
      · simp [go_sem]
      · simp [go_sem]
    | false =>
      have hst : firS acc x = acc ++ [x] := by unfold firS; rw [hc]; rfl
      rw [hst] at hgo
      simp -dsimp only [go_sem]
      refine ⟨by omega, by omega, loop_next (i + 1, acc ++ [x]) 1 ⟨⟨by simp only; omega, by simp only [List.length_append, List.length_singleton]; omega⟩, hgo⟩ (by simp only; omega) ?_ ?_⟩
      · simp [go_sem]
      · simp [go_sem]
  have hg : decide ((i : Int) < (es.length : Int)) = false := by simp; omega
  have : es.drop i = [] := List.drop_eq_nil_iff.2 (by omega)
  rw [this] at hgo
  simp only [firGo] at hgo
  subst hgo
  simp -dsimp only [go_sem, hg]
  have hf6 : acc.length ≤ 6 := by omega
  clear hg hge hi hal this hF hfl
  refine vc_loop_gh (α := Nat × List Pr) (fun z => [(3, .va (.c1 (.sl 0 acc.length))), (6, .va (.c1 (.sl 1 z.2.length))), (26, .va (.c1 (.sl 0 acc.length))), (27, iS .i64 acc.length), (28, iS .i64 z.1)])
    (fun z => [.row (acc.map epC) 31 12, .row (z.2.map prC) 64 24])
    (fun z => (z.1 ≤ acc.length ∧ z.2.length ≤ z.1 * 6) ∧ prOut acc (acc.drop z.1) z.2 = prOut acc acc []) (fun z => acc.length - z.1)
    (.nil 6 64 24 rfl (gh_at (0, []) 2 ⟨⟨Nat.zero_le _, Nat.zero_le _⟩, rfl⟩ ?_ ?_)) ?_
  · simp [go_sem]
  · simp [go_sem]
  rintro ⟨i, ps⟩ ⟨⟨hi, hpl⟩, hgo⟩
  simp only at hi hpl hgo
  rcases Nat.lt_or_ge i acc.length with hlt | hge
  · have hx : acc[i]? = some acc[i] := List.getElem?_eq_getElem hlt
    have hg : decide ((i : Int) < (acc.length : Int)) = true := by simp; omega
    have q1 := row_rg (row := epC) hx
    have q2 := row_rg' (row := epC) hx
    rw [List.drop_eq_getElem_cons hlt] at hgo
    simp only [prOut] at hgo
    generalize acc[i] = r at *
    have hil := prIn_len r acc ps
    generalize hI : prIn r acc ps = ps' at hgo hil
    simp -dsimp only [go_sem, hg, ↓q1]
    refine ⟨by omega, hlt, ?_⟩
    refine vc_loop (α := Nat × List Pr) (fun z => [(3, .va (.c1 (.sl 0 acc.length))), (6, .va (.c1 (.sl 1 z.2.length))), (8, .va (.c1 (.pt 2 0))), (26, .va (.c1 (.sl 0 acc.length))), (27, iS .i64 acc.length), (28, iS .i64 i), (32, .va (.c1 (.sl 0 acc.length))), (33, iS .i64 acc.length), (34, iS .i64 z.1)])
      (fun z => [.row (acc.map epC) 31 12, .row (z.2.map prC) 64 24, .cells (epC r) 31])
      (fun z => (z.1 ≤ acc.length ∧ z.2.length ≤ ps.length + z.1) ∧ prIn r (acc.drop z.1) z.2 = ps') (fun z => acc.length - z.1) (0, ps) 3 ⟨⟨Nat.zero_le _, Nat.le_refl _⟩, hI⟩ ?_ ?_ ?_
    · simp [go_sem]
    · simp [go_sem]
    rintro ⟨j, pz⟩ ⟨⟨hj, hzl⟩, hgj⟩
    simp only at hj hzl hgj
    rcases Nat.lt_or_ge j acc.length with hjt | hje
    · have hy : acc[j]? = some acc[j] := List.getElem?_eq_getElem hjt
      have hg' : decide ((j : Int) < (acc.length : Int)) = true := by simp; omega
      have r1 := row_rg (row := epC) hy
      have r2 := row_rg' (row := epC) hy
      rw [List.drop_eq_getElem_cons hjt] at hgj
      simp only [prIn] at hgj
      generalize acc[j] = w at *
      cases hrw : (!r.wr && w.wr) with
      | true =>
        have hst : prO r w = [⟨r, w⟩] := by unfold prO; rw [hrw]; rfl
        rw [hst] at hgj
        simp -dsimp only [go_sem, hg', ↓r1, hrw]
        refine ⟨by omega, hjt, by omega, by omega, loop_next (j + 1, pz ++ [⟨r, w⟩]) 3 ⟨⟨by simp only; omega, by simp only [List.length_append, List.length_singleton]; omega⟩, hgj⟩ (by simp only; omega) ?_ ?_⟩
        · simp [go_sem]
        · simp [go_sem]
      | false =>
        have hst : prO r w = [] := by unfold prO; rw [hrw]; rfl
        rw [hst, List.append_nil] at hgj
        simp -dsimp only [go_sem, hg', ↓r1, hrw]
        refine ⟨by omega, hjt, by omega, loop_next (j + 1, pz) 3 ⟨⟨by simp only; omega, by simp only; omega⟩, hgj⟩ (by simp only; omega) ?_ ?_⟩
        · simp [go_sem]
        · simp [go_sem]
    · have hg' : decide ((j : Int) < (acc.length : Int)) = false := by simp; omega
      have : acc.drop j = [] := List.drop_eq_nil_iff.2 (by omega)
      rw [this] at hgj
      simp only [prIn] at hgj
      subst hgj
      simp -dsimp only [go_sem, hg']
      refine ⟨by omega, loop_next (i + 1, pz) 2 ⟨⟨by simp only; omega, by simp only; omega⟩, hgo⟩ (by simp only; omega) ?_ ?_⟩
      · simp [go_sem]
      · simp [go_sem]
  · have hg : decide ((i : Int) < (acc.length : Int)) = false := by simp; omega
    have : acc.drop i = [] := List.drop_eq_nil_iff.2 (by omega)
    rw [this] at hgo
    simp only [prOut] at hgo
    subst hgo
    simp -dsimp only [go_sem, hg]
    refine .pub 1 _ _ _ rfl (.sel [] (by simp) (by simp [pubH]) rfl (.done ?_))
    simpa [go_sem, pubH] using hK
end Go.Proofs.Ytdnohfhpbhlpaaa
/- Contracts: what violates the contracts. -/
namespace Go.Proofs.Ytdnohfhpbhlpaaa
open Go.W
abbrev fdC (f : Fnd) : List C := [.vl (.int .i64 f.k), .vl (.int .i64 f.at'), .vl (.int .i64 f.a), .vl (.int .i64 f.b)]
def allGo (l : List Ev) : List Pr → List Fnd → List Fnd
  | [], acc => acc
  | p :: ps, acc => allGo l ps (acc ++ sessF p l)
def allF (l : List Ev) (es : List Ep) : List Fnd := allGo l (pairsF es) []
def contF (l : List Ev) (es : List Ep) : List Fnd := srt ltC (allF l es)
theorem firGo_sub (es : List Ep) : ∀ (xs acc : List Ep), (∀ x ∈ xs, x ∈ es) → (∀ x ∈ acc, x ∈ es) → ∀ x ∈ firGo xs acc, x ∈ es
  | [], _, _, h => h
  | y :: xs, acc, h1, h2 => by
    refine firGo_sub es xs (firS acc y) (fun x hx => h1 x (List.mem_cons_of_mem _ hx)) fun x hx => ?_
    unfold firS at hx
    cases hh : hasE acc y with
    | true => rw [hh] at hx; exact h2 x hx
    | false =>
      rw [hh, Bool.cond_false] at hx
      rcases List.mem_append.1 hx with h | h
      · exact h2 x h
      · rw [List.mem_singleton.1 h]; exact h1 y (by simp)
theorem prIn_sub (r : Ep) : ∀ (ws : List Ep) (acc : List Pr), ∀ p ∈ prIn r ws acc, p ∈ acc ∨ p.r = r
  | [], _, p, h => .inl h
  | w :: ws, acc, p, h => by
    rcases prIn_sub r ws _ p h with h | h
    · rcases List.mem_append.1 h with h | h
      · exact .inl h
      · refine .inr ?_
        unfold prO at h
        cases hh : !r.wr && w.wr with
        | true => rw [hh, Bool.cond_true] at h; rw [List.mem_singleton.1 h]
        | false => rw [hh, Bool.cond_false] at h; cases h
    · exact .inr h
theorem prOut_sub (fs : List Ep) : ∀ (rs : List Ep) (acc : List Pr), ∀ p ∈ prOut fs rs acc, p ∈ acc ∨ p.r ∈ rs
  | [], _, p, h => .inl h
  | r :: rs, acc, p, h => by
    rcases prOut_sub fs rs _ p h with h | h
    · rcases prIn_sub r fs acc p h with h | h
      · exact .inl h
      · exact .inr (by rw [h]; simp)
    · exact .inr (List.mem_cons_of_mem _ h)
theorem pairsF_sub (es : List Ep) (p : Pr) (h : p ∈ pairsF es) : p.r ∈ es := by
  rcases prOut_sub _ _ _ p h with h | h
  · cases h
  · exact firGo_sub es es [] (fun x hx => hx) (fun x hx => by cases hx) _ h
theorem pairsF_len (es : List Ep) (h : es.length ≤ 6) : (pairsF es).length ≤ 36 := by
  have h1 := prOut_len (firstF es) (firstF es) []
  have h2 := firstF_len es
  have h3 : (firstF es).length * (firstF es).length ≤ 6 * 6 := Nat.mul_le_mul (by omega) (by omega)
  simp only [List.length_nil] at h1
  unfold pairsF; omega
def conSp : W.Spec := fun av H K =>
  match av, H with
  | [.va (.c1 (.fz ls)), .va (.c1 (.fz rs))], [] => (isLog ls ∧ isEps rs ∧ ∀ e ∈ rs.map C.ep, e.dl ≤ 1099511627776) ∧ K (.va (.c1 (.fz ((contF (ls.map C.ev) (rs.map C.ep)).map fdC)))) []
  | _, _ => False
theorem conSp_open {av : List S} {H : Hp} {K : S → Hp → Prop} (h : conSp av H K) : ∃ (l : List Ev) (es : List Ep), av = [.va (.c1 (.fz (l.map evC))), .va (.c1 (.fz (es.map epC)))] ∧ H = [] ∧ l.length ≤ 60 ∧ (∀ e ∈ l, e.ok) ∧ es.length ≤ 6 ∧ (∀ e ∈ es, e.dl ≤ 1099511627776) ∧ K (.va (.c1 (.fz ((contF l es).map fdC)))) [] := by
  unfold conSp at h
  split at h
  · obtain ⟨⟨⟨l, rfl, h1, h2⟩, ⟨es, rfl, h3⟩, h4⟩, hK⟩ := h
    rw [ep_map] at h4
    rw [ev_map, ep_map] at hK
    exact ⟨l, es, rfl, rfl, h1, h2, h3, h4, hK⟩
  · exact h.elim
attribute [go_sem ↓] conSp
set_option maxHeartbeats 4000000 in
set_option maxRecDepth 100000 in
theorem mContracts : Meets Try.prog 12 conSp := by
  refine meets_fn Try.func12 ok12 2 (by rw [Try.ntmps12]; decide) (meetsAll_s mPairs (meetsAll_s mSessions (meetsAll_s mSortStable (meetsAll_nil _)))) (fun av H K h => by obtain ⟨_, _, rfl, _⟩ := conSp_open h; rfl) ?_
  intro av H K h
  obtain ⟨l, es, rfl, rfl, hll, hle, hes, hdl, hK⟩ := conSp_open h
  clear h
  have gl := isLog_mk hll hle
  have gs : isEps (es.map epC) := ⟨es, rfl, hes⟩
  have hpl := pairsF_len es hes
  have hps := pairsF_sub es
  unfold contF allF at hK
  generalize hP : pairsF es = ps at hK hpl hps
  simp -dsimp only [go_sem, pc12, rs12, gs, hP]
  refine vc_loop_gh (α := Nat × List Fnd) (fun z => [(0, .va (.c1 (.fz (l.map evC)))), (5, .va (.c1 (.sl 0 z.2.length))), (12, .va (.c1 (.fz (ps.map prC)))), (13, iS .i64 ps.length), (14, iS .i64 z.1)])
    (fun z => [.row (z.2.map fnC) 68 5])
    (fun z => (z.1 ≤ ps.length ∧ z.2.length ≤ z.1 * 4200000) ∧ allGo l (ps.drop z.1) z.2 = allGo l ps []) (fun z => ps.length - z.1)
    (.nil 5 68 5 rfl (gh_at (0, []) 1 ⟨⟨Nat.zero_le _, Nat.zero_le _⟩, rfl⟩ ?_ ?_)) ?_
  · simp [go_sem, hP, -List.map_map]
  · simp [go_sem]
  rintro ⟨i, acc⟩ ⟨⟨hi, hal⟩, hgo⟩
  simp only at hi hal hgo
  rcases Nat.lt_or_ge i ps.length with hlt | hge
  · have hx : ps[i]? = some ps[i] := List.getElem?_eq_getElem hlt
    have hg : decide ((i : Int) < (ps.length : Int)) = true := by simp; omega
    have q1 := row_rg (row := prC) hx
    have q2 := row_rg' (row := prC) hx
    have hd := hdl _ (hps _ (List.getElem_mem hlt))
    rw [List.drop_eq_getElem_cons hlt] at hgo
    simp only [allGo] at hgo
    generalize ps[i] = p at *
    have hsl := sessF_len p l hll
    have gp := isPr_mk p
    have dp := pr_dec p
    simp -dsimp only [go_sem, hg, ↓q2, gp, gl, dp, hd]
    and_intros
    all_goals first
      | omega
      | (simp only; omega)
      | skip
    refine loop_next (i + 1, acc ++ sessF p l) 1 ⟨⟨by simp only; omega, by simp only [List.length_append]; omega⟩, hgo⟩ (by simp only; omega) ?_ ?_
    · simp [go_sem]
    · simp [go_sem]
  have hg : decide ((i : Int) < (ps.length : Int)) = false := by simp; omega
  have : ps.drop i = [] := List.drop_eq_nil_iff.2 (by omega)
  rw [this] at hgo
  simp only [allGo] at hgo
  rw [← hgo] at hK
  clear hgo
  have hal' : acc.length ≤ 1000000000 := by omega
  simp -dsimp only [go_sem, hg, fnd_map]
  refine ⟨⟨⟨acc, rfl, rfl⟩, hal'⟩, srt_len _, ?_⟩
  clear this hg hge hps
  have hsl : (srt ltC acc).length ≤ 1000000000 := by rw [srt_len]; exact hal'
  refine vc_loop_gh (α := Nat) (fun z => [(8, .va (.c1 (.sl 1 z))), (26, .va (.c1 (.sl 0 acc.length))), (27, iS .i64 acc.length), (28, iS .i64 z)])
    (fun z => [.row ((srt ltC acc).map fnC) 68 5, .row (((srt ltC acc).take z).map fdC) 41 4])
    (fun z => z ≤ acc.length) (fun z => acc.length - z)
    (.nil 8 41 4 rfl (gh_at 0 2 (Nat.zero_le _) ?_ ?_)) ?_
  · simp [go_sem]
  · simp [go_sem]
  rintro j hj
  have hle2 : (srt ltC acc).length = acc.length := srt_len _
  generalize srt ltC acc = Z at *
  rcases Nat.lt_or_ge j acc.length with hlt | hge
  · have hx : Z[j]? = some Z[j] := List.getElem?_eq_getElem (by omega)
    have hg : decide ((j : Int) < (acc.length : Int)) = true := by simp; omega
    have q1 := row_rg (row := fnC) hx
    have q2 := row_rg' (row := fnC) hx
    have htk : Z.take (j + 1) = Z.take j ++ [Z[j]] := List.take_succ_eq_append_getElem (by omega)
    generalize Z[j] = f at *
    simp -dsimp only [go_sem, hg, ↓q1]
    and_intros
    all_goals first
      | omega
      | (rw [List.length_take]; omega)
      | skip
    refine loop_next (j + 1) 2 (by omega) (by omega) ?_ ?_
    · simp [go_sem]
    · simp [go_sem, htk]
  · have hg : decide ((j : Int) < (acc.length : Int)) = false := by simp; omega
    obtain rfl : j = Z.length := by omega
    have htk : Z.take Z.length = Z := List.take_of_length_le (by omega)
    simp -dsimp only [go_sem, hg, htk]
    refine .pub 1 _ _ _ rfl (.sel [] (by simp) (by simp [pubH]) rfl (.done ?_))
    simpa [go_sem, pubH] using hK
end Go.Proofs.Ytdnohfhpbhlpaaa
/- Name, and the small functions of numbers. -/
namespace Go.Proofs.Ytdnohfhpbhlpaaa
open Go.W
def nmL : List ByteArray := [mk [108, 111, 115, 116], mk [100, 117, 112, 108, 105, 99, 97, 116, 101], mk [111, 114, 100, 101, 114], mk [100, 101, 97, 100, 108, 105, 110, 101], mk [111, 112, 101, 110], mk [116, 119, 105, 99, 101], mk [115, 112, 101, 101, 100], mk [97, 99, 99, 101, 108, 101, 114, 97, 116, 105, 111, 110], mk [], mk [114, 101, 112, 108, 97, 121]]
def nmF (n : Int) : ByteArray := bif decide (n < 1) || decide (10 < n) then mk [] else nmL.getD (n - 1).toNat (mk [])
set_option maxHeartbeats 1000000 in
theorem mName : Meets Try.prog 18 (i1Fn fun n => .string (nmF n)).sp := by
  refine meets_fn Try.func18 ok18 1 (by rw [Try.ntmps18]; decide) (meetsAll_nil _) i1Fn_len ?_
  rintro xs H K ⟨⟨h, rfl⟩, hK⟩
  obtain ⟨n, rfl⟩ := i1Pre_open h
  have hK' : K (.va (.c1 (.vl (.string (nmF n))))) [] := hK
  clear hK h
  by_cases h1 : n < 1
  · have g1 : decide (n < 1) = true := by simpa using h1
    have : nmF n = mk [] := by unfold nmF; rw [g1]; rfl
    rw [this] at hK'
    simp -dsimp only [go_sem, pc18, rs18, g1]
    exact .done hK'
  have g1 : decide (n < 1) = false := by simpa using h1
  by_cases h2 : 10 < n
  · have g2 : decide (10 < n) = true := by simpa using h2
    have : nmF n = mk [] := by unfold nmF; rw [g1, g2]; rfl
    rw [this] at hK'
    simp -dsimp only [go_sem, pc18, rs18, g1, g2]
    exact .done hK'
  have : n = 1 ∨ n = 2 ∨ n = 3 ∨ n = 4 ∨ n = 5 ∨ n = 6 ∨ n = 7 ∨ n = 8 ∨ n = 9 ∨ n = 10 := by omega
  clear g1 h1 h2
  rcases this with rfl | rfl | rfl | rfl | rfl | rfl | rfl | rfl | rfl | rfl <;>
  · simp -dsimp only [go_sem, pc18, rs18, show decide ((1 : Int) < 1) = false from rfl]
    refine ⟨fun h => absurd h (by decide), fun _ => ⟨by decide, ?_⟩⟩
    refine ⟨by decide, ?_, ?_, .done hK'⟩ <;> first | trivial | rfl | (simp [go_sem]; done) | decide
end Go.Proofs.Ytdnohfhpbhlpaaa
