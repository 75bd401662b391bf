import Derived.Test.YtngmjggconefcaaProg
import Derived.Test.YtngmjggconefcaaW15
namespace Go.Proofs.Ytngmjggconefcaa
open Go.W
/-- robotics/liveliness.sorted -/
def pc24 : PC :=
  .reg /- 0 -/ [⟨(some 2), none, .q (.mv (.t 0))⟩,
      ⟨(some 3), none, .cl 33 [(.t 2), (.f 34)] [0]⟩]
def rs24 : List RV := []
theorem ok24 : trFn Try.prog true ⟨fun r k => if r = 0 ∧ k = 1 then .own [0] else .own [], fun _ => false⟩ Try.f24 = some (pc24, rs24) := by kernel_rfl
/-- slices.SortStableFunc[[]robotics/liveliness.Change,robotics/liveliness.Change] -/
def pc33 : PC :=
  .reg /- 0 -/ [⟨(some 4), none, .q (.mv (.t 0))⟩,
      ⟨(some 5), none, .q (.mv (.t 0))⟩,
      ⟨(some 6), none, .q (.lnL (.t 5))⟩,
      ⟨(some 7), none, .q (.mv (.t 1))⟩,
      ⟨(some 8), none, .cl 40 [(.t 4), (.t 6), (.t 7)] [0]⟩]
def rs33 : List RV := []
theorem ok33 : trFn Try.prog true ⟨fun r k => if r = 0 ∧ k = 4 then .own [0] else .own [], fun _ => false⟩ Try.f33 = some (pc33, rs33) := by kernel_rfl
/-- robotics/liveliness.sorted$1 -/
def pc34 : PC :=
  .seq (.reg /- 0 -/ [⟨(some 2), none, .e (.bx 44 (.t 0))⟩,
      ⟨(some 3), none, .e (.bx 44 (.t 1))⟩,
      ⟨(some 4), none, .q (.mv (.k (.int .i64 0)))⟩])
  (.seq (.reg /- 1 -/ [⟨(some 5), none, .q (.fa 1 (.t 2))⟩,
      ⟨(some 6), none, .l (.ld1 (.t 5))⟩,
      ⟨(some 7), none, .q (.fa 1 (.t 3))⟩,
      ⟨(some 8), none, .l (.ld1 (.t 7))⟩,
      ⟨(some 9), none, .cq 36 [(.t 6), (.t 8)]⟩,
      ⟨(some 10), none, .q (.fa 0 (.t 2))⟩,
      ⟨(some 11), none, .l (.ld1 (.t 10))⟩,
      ⟨(some 12), none, .q (.fa 0 (.t 3))⟩,
      ⟨(some 13), none, .l (.ld1 (.t 12))⟩,
      ⟨(some 14), none, .cq 36 [(.t 11), (.t 13)]⟩,
      ⟨(some 15), none, .e (.bsl 3 1 [(.t 9), (.t 14)])⟩,
      ⟨(some 16), none, .cq 35 [(.t 15)]⟩,
      ⟨(some 4), none, .q (.mv (.t 16))⟩])
    (.ret))
def rs34 : List RV := [.mv (.t 4)]
theorem ok34 : trFn Try.prog true ⟨fun r k => if r = 1 ∧ k = 4 then .q else if r = 1 ∧ k = 9 then .q else if r = 1 ∧ k = 11 then .q else .own [], fun _ => false⟩ Try.f34 = some (pc34, rs34) := by kernel_rfl
/-- cmp.Or[int] -/
def pc35 : PC :=
  .seq (.reg /- 0 -/ [⟨(some 2), none, .q (.mv (.k (.int .i64 0)))⟩])
  (.seq (.reg /- 1 -/ [⟨(some 3), none, .q (.mv (.k (.int .i64 0)))⟩])
    (.seq (.seq (.reg /- 2 -/ [⟨(some 6), none, .q (.mv (.t 0))⟩,
      ⟨(some 7), none, .q (.lnL (.t 6))⟩,
      ⟨(some 8), none, .q (.mv (.k (.int .i64 0)))⟩])
      (.block 0 (.loop (.seq (.reg /- 3 -/ [⟨(some 9), none, .q (.bin .lss true (.t 8) (.t 7))⟩])
            (.seq (.cond (.t 9)
              (.skip)
              (.exit 0))
              (.seq (.block 1 (.seq (.reg /- 4 -/ [⟨(some 10), none, .l (.ia 1 (.t 6) (.t 8))⟩,
      ⟨(some 11), none, .l (.ld1 (.t 10))⟩,
      ⟨(some 5), none, .q (.mv (.t 11))⟩])
                  (.seq (.reg /- 5 -/ [⟨(some 12), none, .q (.mv (.t 5))⟩,
      ⟨(some 13), none, .q (.mv (.t 3))⟩,
      ⟨(some 14), none, .q (.bin .neq true (.t 12) (.t 13))⟩])
                    (.cond (.t 14)
                      (.seq (.reg /- 6 -/ [⟨(some 15), none, .q (.mv (.t 5))⟩,
      ⟨(some 2), none, .q (.mv (.t 15))⟩])
                        (.ret))
                      (.skip)))))
                (.reg /- 7 -/ [⟨(some 16), none, .q (.bin .add true (.t 8) (.k (.int .i64 1)))⟩,
      ⟨(some 8), none, .q (.mv (.t 16))⟩])))))))
      (.seq (.reg /- 8 -/ [⟨(some 17), none, .q (.mv (.t 3))⟩,
      ⟨(some 2), none, .q (.mv (.t 17))⟩])
        (.ret))))
def rs35 : List RV := [.mv (.t 2)]
theorem ok35 : trFn Try.prog true ⟨fun _ _ => .own [], fun _ => false⟩ Try.f35 = some (pc35, rs35) := by kernel_rfl
/-- cmp.Compare[int] -/
def pc36 : PC :=
  .seq (.reg /- 0 -/ [⟨(some 4), none, .q (.mv (.k (.int .i64 0)))⟩])
  (.seq (.reg /- 1 -/ [⟨(some 7), none, .q (.mv (.t 0))⟩,
      ⟨(some 8), none, .cq 41 [(.t 7)]⟩,
      ⟨(some 5), none, .q (.mv (.t 8))⟩])
    (.seq (.reg /- 2 -/ [⟨(some 9), none, .q (.mv (.t 1))⟩,
      ⟨(some 10), none, .cq 41 [(.t 9)]⟩,
      ⟨(some 6), none, .q (.mv (.t 10))⟩])
      (.seq (.seq (.reg /- 3 -/ [⟨(some 11), none, .q (.mv (.t 5))⟩])
        (.cond (.t 11)
          (.seq (.seq (.reg /- 4 -/ [⟨(some 12), none, .q (.mv (.t 6))⟩])
            (.cond (.t 12)
              (.seq (.reg /- 5 -/ [⟨(some 4), none, .q (.mv (.k (.int .i64 0)))⟩])
                (.ret))
              (.skip)))
            (.seq (.reg /- 6 -/ [⟨(some 4), none, .q (.mv (.k (.int .i64 (-1))))⟩])
              (.ret)))
          (.skip)))
        (.seq (.seq (.reg /- 7 -/ [⟨(some 13), none, .q (.mv (.t 6))⟩])
          (.cond (.t 13)
            (.seq (.reg /- 8 -/ [⟨(some 4), none, .q (.mv (.k (.int .i64 1)))⟩])
              (.ret))
            (.skip)))
          (.seq (.seq (.reg /- 9 -/ [⟨(some 14), none, .q (.mv (.t 0))⟩,
      ⟨(some 15), none, .q (.mv (.t 1))⟩,
      ⟨(some 16), none, .q (.bin .lss true (.t 14) (.t 15))⟩])
            (.cond (.t 16)
              (.seq (.reg /- 10 -/ [⟨(some 4), none, .q (.mv (.k (.int .i64 (-1))))⟩])
                (.ret))
              (.skip)))
            (.seq (.seq (.reg /- 11 -/ [⟨(some 17), none, .q (.mv (.t 0))⟩,
      ⟨(some 18), none, .q (.mv (.t 1))⟩,
      ⟨(some 19), none, .q (.bin .gtr true (.t 17) (.t 18))⟩])
              (.cond (.t 19)
                (.seq (.reg /- 12 -/ [⟨(some 4), none, .q (.mv (.k (.int .i64 1)))⟩])
                  (.ret))
                (.skip)))
              (.seq (.reg /- 13 -/ [⟨(some 4), none, .q (.mv (.k (.int .i64 0)))⟩])
                (.ret))))))))
def rs36 : List RV := [.mv (.t 4)]
theorem ok36 : trFn Try.prog true ⟨fun r k => if r = 1 ∧ k = 1 then .q else if r = 2 ∧ k = 1 then .q else .own [], fun _ => false⟩ Try.f36 = some (pc36, rs36) := by kernel_rfl
/-- slices.stableCmpFunc[robotics/liveliness.Change] -/
def pc40 : PC :=
  .seq (.reg /- 0 -/ [⟨(some 6), none, .q (.mv (.k (.int .i64 20)))⟩])
  (.seq (.reg /- 1 -/ [⟨(some 10), none, .q (.mv (.t 6))⟩,
      ⟨(some 7), none, .q (.mv (.k (.int .i64 0)))⟩,
      ⟨(some 8), none, .q (.mv (.t 10))⟩])
    (.seq (.block 0 (.loop (.seq (.seq (.reg /- 2 -/ [⟨(some 11), none, .q (.mv (.t 8))⟩,
      ⟨(some 12), none, .q (.mv (.t 1))⟩,
      ⟨(some 13), none, .q (.bin .leq true (.t 11) (.t 12))⟩])
          (.cond (.t 13)
            (.skip)
            (.exit 0)))
          (.block 1 (.seq (.reg /- 3 -/ [⟨(some 14), none, .q (.mv (.t 0))⟩,
      ⟨(some 15), none, .q (.mv (.t 7))⟩,
      ⟨(some 16), none, .q (.mv (.t 8))⟩,
      ⟨(some 17), none, .q (.mv (.t 2))⟩,
      ⟨(some 18), none, .cl 42 [(.t 14), (.t 15), (.t 16), (.t 17)] [0]⟩])
              (.seq (.reg /- 4 -/ [⟨(some 19), none, .q (.mv (.t 8))⟩,
      ⟨(some 7), none, .q (.mv (.t 19))⟩])
                (.reg /- 5 -/ [⟨(some 20), none, .q (.mv (.t 8))⟩,
      ⟨(some 21), none, .q (.mv (.t 6))⟩,
      ⟨(some 22), none, .q (.bin .add true (.t 20) (.t 21))⟩,
      ⟨(some 8), none, .q (.mv (.t 22))⟩])))))))
      (.seq (.reg /- 6 -/ [⟨(some 23), none, .q (.mv (.t 0))⟩,
      ⟨(some 24), none, .q (.mv (.t 7))⟩,
      ⟨(some 25), none, .q (.mv (.t 1))⟩,
      ⟨(some 26), none, .q (.mv (.t 2))⟩,
      ⟨(some 27), none, .cl 42 [(.t 23), (.t 24), (.t 25), (.t 26)] [0]⟩])
        (.block 2 (.loop (.seq (.seq (.reg /- 7 -/ [⟨(some 28), none, .q (.mv (.t 6))⟩,
      ⟨(some 29), none, .q (.mv (.t 1))⟩,
      ⟨(some 30), none, .q (.bin .lss true (.t 28) (.t 29))⟩])
              (.cond (.t 30)
                (.skip)
                (.exit 2)))
              (.block 3 (.seq (.reg /- 8 -/ [⟨(some 31), none, .q (.mv (.t 6))⟩,
      ⟨(some 32), none, .q (.bin .mul true (.k (.int .i64 2)) (.t 31))⟩,
      ⟨(some 7), none, .q (.mv (.k (.int .i64 0)))⟩,
      ⟨(some 8), none, .q (.mv (.t 32))⟩])
                  (.seq (.block 4 (.loop (.seq (.seq (.reg /- 9 -/ [⟨(some 33), none, .q (.mv (.t 8))⟩,
      ⟨(some 34), none, .q (.mv (.t 1))⟩,
      ⟨(some 35), none, .q (.bin .leq true (.t 33) (.t 34))⟩])
                        (.cond (.t 35)
                          (.skip)
                          (.exit 4)))
                        (.block 5 (.seq (.reg /- 10 -/ [⟨(some 36), none, .q (.mv (.t 0))⟩,
      ⟨(some 37), none, .q (.mv (.t 7))⟩,
      ⟨(some 38), none, .q (.mv (.t 7))⟩,
      ⟨(some 39), none, .q (.mv (.t 6))⟩,
      ⟨(some 40), none, .q (.bin .add true (.t 38) (.t 39))⟩,
      ⟨(some 41), none, .q (.mv (.t 8))⟩,
      ⟨(some 42), none, .q (.mv (.t 2))⟩,
      ⟨(some 43), none, .cl 43 [(.t 36), (.t 37), (.t 40), (.t 41), (.t 42)] [0]⟩])
                            (.seq (.reg /- 11 -/ [⟨(some 44), none, .q (.mv (.t 8))⟩,
      ⟨(some 7), none, .q (.mv (.t 44))⟩])
                              (.reg /- 12 -/ [⟨(some 45), none, .q (.mv (.t 8))⟩,
      ⟨(some 46), none, .q (.mv (.t 6))⟩,
      ⟨(some 47), none, .q (.bin .mul true (.k (.int .i64 2)) (.t 46))⟩,
      ⟨(some 48), none, .q (.bin .add true (.t 45) (.t 47))⟩,
      ⟨(some 8), none, .q (.mv (.t 48))⟩])))))))
                    (.seq (.seq (.reg /- 13 -/ [⟨(some 49), none, .q (.mv (.t 7))⟩,
      ⟨(some 50), none, .q (.mv (.t 6))⟩,
      ⟨(some 51), none, .q (.bin .add true (.t 49) (.t 50))⟩,
      ⟨(some 9), none, .q (.mv (.t 51))⟩])
                      (.seq (.reg /- 14 -/ [⟨(some 52), none, .q (.mv (.t 9))⟩,
      ⟨(some 53), none, .q (.mv (.t 1))⟩,
      ⟨(some 54), none, .q (.bin .lss true (.t 52) (.t 53))⟩])
                        (.cond (.t 54)
                          (.reg /- 15 -/ [⟨(some 55), none, .q (.mv (.t 0))⟩,
      ⟨(some 56), none, .q (.mv (.t 7))⟩,
      ⟨(some 57), none, .q (.mv (.t 9))⟩,
      ⟨(some 58), none, .q (.mv (.t 1))⟩,
      ⟨(some 59), none, .q (.mv (.t 2))⟩,
      ⟨(some 60), none, .cl 43 [(.t 55), (.t 56), (.t 57), (.t 58), (.t 59)] [0]⟩])
                          (.skip))))
                      (.reg /- 16 -/ [⟨(some 61), none, .q (.mv (.t 6))⟩,
      ⟨(some 62), none, .q (.bin .mul true (.t 61) (.k (.int .i64 2)))⟩,
      ⟨(some 6), none, .q (.mv (.t 62))⟩])))))))))))
def rs40 : List RV := []
theorem ok40 : trFn Try.prog true ⟨fun r k => if r = 3 ∧ k = 4 then .own [0] else if r = 6 ∧ k = 4 then .own [0] else if r = 10 ∧ k = 7 then .own [0] else if r = 15 ∧ k = 5 then .own [0] else .own [], fun _ => false⟩ Try.f40 = some (pc40, rs40) := by kernel_rfl
/-- cmp.isNaN[int] -/
def pc41 : PC :=
  .seq (.reg /- 0 -/ [⟨(some 2), none, .q (.mv (.k (.bool false)))⟩])
  (.seq (.reg /- 1 -/ [⟨(some 3), none, .q (.mv (.t 0))⟩,
      ⟨(some 4), none, .q (.mv (.t 0))⟩,
      ⟨(some 5), none, .q (.bin .neq true (.t 3) (.t 4))⟩,
      ⟨(some 2), none, .q (.mv (.t 5))⟩])
    (.ret))
def rs41 : List RV := [.mv (.t 2)]
theorem ok41 : trFn Try.prog true ⟨fun _ _ => .own [], fun _ => false⟩ Try.f41 = some (pc41, rs41) := by kernel_rfl
/-- slices.insertionSortCmpFunc[robotics/liveliness.Change] -/
def pc42 : PC :=
  .seq (.reg /- 0 -/ [⟨(some 10), none, .q (.mv (.t 1))⟩,
      ⟨(some 11), none, .q (.bin .add true (.t 10) (.k (.int .i64 1)))⟩,
      ⟨(some 8), none, .q (.mv (.t 11))⟩])
  (.block 0 (.loop (.seq (.seq (.reg /- 1 -/ [⟨(some 12), none, .q (.mv (.t 8))⟩,
      ⟨(some 13), none, .q (.mv (.t 2))⟩,
      ⟨(some 14), none, .q (.bin .lss true (.t 12) (.t 13))⟩])
        (.cond (.t 14)
          (.skip)
          (.exit 0)))
        (.seq (.block 1 (.seq (.reg /- 3 -/ [⟨(some 17), none, .q (.mv (.t 8))⟩,
      ⟨(some 9), none, .q (.mv (.t 17))⟩])
            (.block 2 (.loop (.seq (.seq (.reg /- 4 -/ [⟨(some 18), none, .q (.mv (.t 9))⟩,
      ⟨(some 19), none, .q (.mv (.t 1))⟩,
      ⟨(some 20), none, .q (.bin .gtr true (.t 18) (.t 19))⟩,
      ⟨(some 21), none, .q (.mv (.t 20))⟩,
      ⟨(some 22), (some (21, true)), .q (.mv (.t 3))⟩,
      ⟨(some 23), (some (21, true)), .q (.mv (.t 0))⟩,
      ⟨(some 24), (some (21, true)), .q (.mv (.t 9))⟩,
      ⟨(some 25), (some (21, true)), .l (.ia 3 (.t 23) (.t 24))⟩,
      ⟨(some 26), (some (21, true)), .l (.ldn 3 (.t 25))⟩,
      ⟨(some 27), (some (21, true)), .q (.mv (.t 0))⟩,
      ⟨(some 28), (some (21, true)), .q (.mv (.t 9))⟩,
      ⟨(some 29), (some (21, true)), .q (.bin .sub true (.t 28) (.k (.int .i64 1)))⟩,
      ⟨(some 30), (some (21, true)), .l (.ia 3 (.t 27) (.t 29))⟩,
      ⟨(some 31), (some (21, true)), .l (.ldn 3 (.t 30))⟩,
      ⟨(some 32), (some (21, true)), .ca (.t 22) [(.t 26), (.t 31)] []⟩,
      ⟨(some 33), (some (21, true)), .q (.bin .lss true (.t 32) (.k (.int .i64 0)))⟩,
      ⟨(some 34), none, .pick (.t 21) (.t 33) (.k (.bool false))⟩])
                  (.cond (.t 34)
                    (.skip)
                    (.exit 2)))
                  (.seq (.block 3 (.reg /- 6 -/ [⟨(some 39), none, .q (.mv (.t 0))⟩,
      ⟨(some 40), none, .q (.mv (.t 9))⟩,
      ⟨(some 41), none, .q (.bin .sub true (.t 40) (.k (.int .i64 1)))⟩,
      ⟨(some 37), none, .q (.mv (.t 0))⟩,
      ⟨(some 38), none, .q (.mv (.t 9))⟩,
      ⟨(some 42), none, .q (.mv (.t 0))⟩,
      ⟨(some 43), none, .q (.mv (.t 9))⟩,
      ⟨(some 44), none, .q (.bin .sub true (.t 43) (.k (.int .i64 1)))⟩,
      ⟨(some 45), none, .l (.ia 3 (.t 42) (.t 44))⟩,
      ⟨(some 46), none, .l (.ldn 3 (.t 45))⟩,
      ⟨(some 47), none, .q (.mv (.t 0))⟩,
      ⟨(some 48), none, .q (.mv (.t 9))⟩,
      ⟨(some 49), none, .l (.ia 3 (.t 47) (.t 48))⟩,
      ⟨(some 50), none, .l (.ldn 3 (.t 49))⟩,
      ⟨(some 51), none, .l (.ia 3 (.t 37) (.t 38))⟩,
      ⟨none, none, .e (.st 3 (.t 51) (.t 46))⟩,
      ⟨(some 52), none, .l (.ia 3 (.t 39) (.t 41))⟩,
      ⟨none, none, .e (.st 3 (.t 52) (.t 50))⟩]))
                    (.reg /- 5 -/ [⟨(some 35), none, .q (.mv (.t 9))⟩,
      ⟨(some 36), none, .q (.bin .sub true (.t 35) (.k (.int .i64 1)))⟩,
      ⟨(some 9), none, .q (.mv (.t 36))⟩])))))))
          (.reg /- 2 -/ [⟨(some 15), none, .q (.mv (.t 8))⟩,
      ⟨(some 16), none, .q (.bin .add true (.t 15) (.k (.int .i64 1)))⟩,
      ⟨(some 8), none, .q (.mv (.t 16))⟩])))))
def rs42 : List RV := []
theorem ok42 : trFn Try.prog true ⟨fun _ _ => .own [], fun _ => false⟩ Try.f42 = some (pc42, rs42) := by kernel_rfl
/- slices.symMergeCmpFunc[robotics/liveliness.Change] -/
def pc43_43 : PC :=
  .seq (.gh (.reg /- 43 -/ [⟨(some 206), none, .q (.mv (.t 18))⟩,
      ⟨(some 207), none, .q (.mv (.t 24))⟩,
      ⟨(some 208), none, .q (.bin .lss true (.t 206) (.t 207))⟩,
      ⟨(some 209), none, .q (.mv (.t 208))⟩,
      ⟨(some 210), (some (209, true)), .q (.mv (.t 24))⟩,
      ⟨(some 211), (some (209, true)), .q (.mv (.t 3))⟩,
      ⟨(some 212), (some (209, true)), .q (.bin .lss true (.t 210) (.t 211))⟩,
      ⟨(some 213), none, .pick (.t 209) (.t 212) (.k (.bool false))⟩]))
  (.cond (.t 213)
    (.reg /- 44 -/ [⟨(some 214), none, .q (.mv (.t 0))⟩,
      ⟨(some 215), none, .q (.mv (.t 18))⟩,
      ⟨(some 216), none, .q (.mv (.t 24))⟩,
      ⟨(some 217), none, .q (.mv (.t 3))⟩,
      ⟨(some 218), none, .q (.mv (.t 4))⟩,
      ⟨(some 219), none, .cl 43 [(.t 214), (.t 215), (.t 216), (.t 217), (.t 218)] [0]⟩])
    (.skip))
@[go_sem ↓] theorem fold43_43 (Γ : Env) (k0 : Nat) (fr : Fr) (H : Hp) (K : Ex → Fr → Hp → Prop) : vc Γ k0 pc43_43 fr H K = vcn Γ k0 pc43_43 fr H K ⟨⟩ := rfl
def pc43_41 : PC :=
  .seq (.seq (.gh (.reg /- 41 -/ [⟨(some 192), none, .q (.mv (.t 1))⟩,
      ⟨(some 193), none, .q (.mv (.t 20))⟩,
      ⟨(some 194), none, .q (.bin .lss true (.t 192) (.t 193))⟩,
      ⟨(some 195), none, .q (.mv (.t 194))⟩,
      ⟨(some 196), (some (195, true)), .q (.mv (.t 20))⟩,
      ⟨(some 197), (some (195, true)), .q (.mv (.t 18))⟩,
      ⟨(some 198), (some (195, true)), .q (.bin .lss true (.t 196) (.t 197))⟩,
      ⟨(some 199), none, .pick (.t 195) (.t 198) (.k (.bool false))⟩]))
  (.cond (.t 199)
    (.reg /- 42 -/ [⟨(some 200), none, .q (.mv (.t 0))⟩,
      ⟨(some 201), none, .q (.mv (.t 1))⟩,
      ⟨(some 202), none, .q (.mv (.t 20))⟩,
      ⟨(some 203), none, .q (.mv (.t 18))⟩,
      ⟨(some 204), none, .q (.mv (.t 4))⟩,
      ⟨(some 205), none, .cl 43 [(.t 200), (.t 201), (.t 202), (.t 203), (.t 204)] [0]⟩])
    (.skip)))
  (pc43_43)
@[go_sem ↓] theorem fold43_41 (Γ : Env) (k0 : Nat) (fr : Fr) (H : Hp) (K : Ex → Fr → Hp → Prop) : vc Γ k0 pc43_41 fr H K = vcn Γ k0 pc43_41 fr H K ⟨⟩ := rfl
def pc43_38 : PC :=
  .seq (.gh (.reg /- 38 -/ [⟨(some 175), none, .q (.mv (.t 19))⟩,
      ⟨(some 176), none, .q (.mv (.t 20))⟩,
      ⟨(some 177), none, .q (.bin .sub true (.t 175) (.t 176))⟩,
      ⟨(some 24), none, .q (.mv (.t 177))⟩]))
  (.seq (.seq (.reg /- 39 -/ [⟨(some 178), none, .q (.mv (.t 20))⟩,
      ⟨(some 179), none, .q (.mv (.t 2))⟩,
      ⟨(some 180), none, .q (.bin .lss true (.t 178) (.t 179))⟩,
      ⟨(some 181), none, .q (.mv (.t 180))⟩,
      ⟨(some 182), (some (181, true)), .q (.mv (.t 2))⟩,
      ⟨(some 183), (some (181, true)), .q (.mv (.t 24))⟩,
      ⟨(some 184), (some (181, true)), .q (.bin .lss true (.t 182) (.t 183))⟩,
      ⟨(some 185), none, .pick (.t 181) (.t 184) (.k (.bool false))⟩])
    (.cond (.t 185)
      (.reg /- 40 -/ [⟨(some 186), none, .q (.mv (.t 0))⟩,
      ⟨(some 187), none, .q (.mv (.t 20))⟩,
      ⟨(some 188), none, .q (.mv (.t 2))⟩,
      ⟨(some 189), none, .q (.mv (.t 24))⟩,
      ⟨(some 190), none, .q (.mv (.t 4))⟩,
      ⟨(some 191), none, .cl 44 [(.t 186), (.t 187), (.t 188), (.t 189), (.t 190)] [0]⟩])
      (.skip)))
    (pc43_41))
@[go_sem ↓] theorem fold43_38 (Γ : Env) (k0 : Nat) (fr : Fr) (H : Hp) (K : Ex → Fr → Hp → Prop) : vc Γ k0 pc43_38 fr H K = vcn Γ k0 pc43_38 fr H K ⟨⟩ := rfl
def pc43_32 : PC :=
  .seq (.gh (.reg /- 32 -/ [⟨(some 147), none, .q (.mv (.t 19))⟩,
      ⟨(some 148), none, .q (.bin .sub true (.t 147) (.k (.int .i64 1)))⟩,
      ⟨(some 22), none, .q (.mv (.t 148))⟩]))
  (.seq (.block 8 (.loop (.seq (.seq (.reg /- 33 -/ [⟨(some 149), none, .q (.mv (.t 20))⟩,
      ⟨(some 150), none, .q (.mv (.t 21))⟩,
      ⟨(some 151), none, .q (.bin .lss true (.t 149) (.t 150))⟩])
        (.cond (.t 151)
          (.skip)
          (.exit 8)))
        (.block 9 (.seq (.reg /- 34 -/ [⟨(some 152), none, .q (.mv (.t 20))⟩,
      ⟨(some 153), none, .q (.mv (.t 21))⟩,
      ⟨(some 154), none, .q (.bin .add true (.t 152) (.t 153))⟩,
      ⟨(some 155), none, .q (.cvt .u64 (.t 154))⟩,
      ⟨(some 156), none, .q (.bin .shr true (.t 155) (.k (.int .u64 1)))⟩,
      ⟨(some 157), none, .q (.cvt .i64 (.t 156))⟩,
      ⟨(some 23), none, .q (.mv (.t 157))⟩])
            (.seq (.reg /- 35 -/ [⟨(some 158), none, .q (.mv (.t 4))⟩,
      ⟨(some 159), none, .q (.mv (.t 0))⟩,
      ⟨(some 160), none, .q (.mv (.t 22))⟩,
      ⟨(some 161), none, .q (.mv (.t 23))⟩,
      ⟨(some 162), none, .q (.bin .sub true (.t 160) (.t 161))⟩,
      ⟨(some 163), none, .l (.ia 3 (.t 159) (.t 162))⟩,
      ⟨(some 164), none, .l (.ldn 3 (.t 163))⟩,
      ⟨(some 165), none, .q (.mv (.t 0))⟩,
      ⟨(some 166), none, .q (.mv (.t 23))⟩,
      ⟨(some 167), none, .l (.ia 3 (.t 165) (.t 166))⟩,
      ⟨(some 168), none, .l (.ldn 3 (.t 167))⟩,
      ⟨(some 169), none, .ca (.t 158) [(.t 164), (.t 168)] []⟩,
      ⟨(some 170), none, .q (.bin .lss true (.t 169) (.k (.int .i64 0)))⟩,
      ⟨(some 171), none, .q (.not (.t 170))⟩])
              (.cond (.t 171)
                (.reg /- 36 -/ [⟨(some 172), none, .q (.mv (.t 23))⟩,
      ⟨(some 173), none, .q (.bin .add true (.t 172) (.k (.int .i64 1)))⟩,
      ⟨(some 20), none, .q (.mv (.t 173))⟩])
                (.reg /- 37 -/ [⟨(some 174), none, .q (.mv (.t 23))⟩,
      ⟨(some 21), none, .q (.mv (.t 174))⟩]))))))))
    (pc43_38))
@[go_sem ↓] theorem fold43_32 (Γ : Env) (k0 : Nat) (fr : Fr) (H : Hp) (K : Ex → Fr → Hp → Prop) : vc Γ k0 pc43_32 fr H K = vcn Γ k0 pc43_32 fr H K ⟨⟩ := rfl
def pc43_24 : PC :=
  .seq (.gh (.reg /- 24 -/ [⟨(some 129), none, .q (.mv (.t 1))⟩,
      ⟨(some 130), none, .q (.mv (.t 3))⟩,
      ⟨(some 131), none, .q (.bin .add true (.t 129) (.t 130))⟩,
      ⟨(some 132), none, .q (.cvt .u64 (.t 131))⟩,
      ⟨(some 133), none, .q (.bin .shr true (.t 132) (.k (.int .u64 1)))⟩,
      ⟨(some 134), none, .q (.cvt .i64 (.t 133))⟩,
      ⟨(some 18), none, .q (.mv (.t 134))⟩]))
  (.seq (.reg /- 25 -/ [⟨(some 135), none, .q (.mv (.t 18))⟩,
      ⟨(some 136), none, .q (.mv (.t 2))⟩,
      ⟨(some 137), none, .q (.bin .add true (.t 135) (.t 136))⟩,
      ⟨(some 19), none, .q (.mv (.t 137))⟩])
    (.seq (.reg /- 26 -/ [⟨(some 20), none, .q (.mv (.k (.int .i64 0)))⟩,
      ⟨(some 21), none, .q (.mv (.k (.int .i64 0)))⟩])
      (.seq (.seq (.reg /- 27 -/ [⟨(some 138), none, .q (.mv (.t 2))⟩,
      ⟨(some 139), none, .q (.mv (.t 18))⟩,
      ⟨(some 140), none, .q (.bin .gtr true (.t 138) (.t 139))⟩])
        (.cond (.t 140)
          (.seq (.reg /- 28 -/ [⟨(some 141), none, .q (.mv (.t 19))⟩,
      ⟨(some 142), none, .q (.mv (.t 3))⟩,
      ⟨(some 143), none, .q (.bin .sub true (.t 141) (.t 142))⟩,
      ⟨(some 20), none, .q (.mv (.t 143))⟩])
            (.reg /- 29 -/ [⟨(some 144), none, .q (.mv (.t 18))⟩,
      ⟨(some 21), none, .q (.mv (.t 144))⟩]))
          (.seq (.reg /- 30 -/ [⟨(some 145), none, .q (.mv (.t 1))⟩,
      ⟨(some 20), none, .q (.mv (.t 145))⟩])
            (.reg /- 31 -/ [⟨(some 146), none, .q (.mv (.t 2))⟩,
      ⟨(some 21), none, .q (.mv (.t 146))⟩]))))
        (pc43_32))))
@[go_sem ↓] theorem fold43_24 (Γ : Env) (k0 : Nat) (fr : Fr) (H : Hp) (K : Ex → Fr → Hp → Prop) : vc Γ k0 pc43_24 fr H K = vcn Γ k0 pc43_24 fr H K ⟨⟩ := rfl
def pc43_12 : PC :=
  .seq (.seq (.gh (.reg /- 12 -/ [⟨(some 77), none, .q (.mv (.t 3))⟩,
      ⟨(some 78), none, .q (.mv (.t 2))⟩,
      ⟨(some 79), none, .q (.bin .sub true (.t 77) (.t 78))⟩,
      ⟨(some 80), none, .q (.bin .eql true (.t 79) (.k (.int .i64 1)))⟩]))
  (.cond (.t 80)
    (.seq (.reg /- 13 -/ [⟨(some 81), none, .q (.mv (.t 1))⟩,
      ⟨(some 14), none, .q (.mv (.t 81))⟩])
      (.seq (.reg /- 14 -/ [⟨(some 82), none, .q (.mv (.t 2))⟩,
      ⟨(some 15), none, .q (.mv (.t 82))⟩])
        (.seq (.block 4 (.loop (.seq (.seq (.reg /- 15 -/ [⟨(some 83), none, .q (.mv (.t 14))⟩,
      ⟨(some 84), none, .q (.mv (.t 15))⟩,
      ⟨(some 85), none, .q (.bin .lss true (.t 83) (.t 84))⟩])
              (.cond (.t 85)
                (.skip)
                (.exit 4)))
              (.block 5 (.seq (.reg /- 16 -/ [⟨(some 86), none, .q (.mv (.t 14))⟩,
      ⟨(some 87), none, .q (.mv (.t 15))⟩,
      ⟨(some 88), none, .q (.bin .add true (.t 86) (.t 87))⟩,
      ⟨(some 89), none, .q (.cvt .u64 (.t 88))⟩,
      ⟨(some 90), none, .q (.bin .shr true (.t 89) (.k (.int .u64 1)))⟩,
      ⟨(some 91), none, .q (.cvt .i64 (.t 90))⟩,
      ⟨(some 16), none, .q (.mv (.t 91))⟩])
                  (.seq (.reg /- 17 -/ [⟨(some 92), none, .q (.mv (.t 4))⟩,
      ⟨(some 93), none, .q (.mv (.t 0))⟩,
      ⟨(some 94), none, .q (.mv (.t 2))⟩,
      ⟨(some 95), none, .l (.ia 3 (.t 93) (.t 94))⟩,
      ⟨(some 96), none, .l (.ldn 3 (.t 95))⟩,
      ⟨(some 97), none, .q (.mv (.t 0))⟩,
      ⟨(some 98), none, .q (.mv (.t 16))⟩,
      ⟨(some 99), none, .l (.ia 3 (.t 97) (.t 98))⟩,
      ⟨(some 100), none, .l (.ldn 3 (.t 99))⟩,
      ⟨(some 101), none, .ca (.t 92) [(.t 96), (.t 100)] []⟩,
      ⟨(some 102), none, .q (.bin .lss true (.t 101) (.k (.int .i64 0)))⟩,
      ⟨(some 103), none, .q (.not (.t 102))⟩])
                    (.cond (.t 103)
                      (.reg /- 18 -/ [⟨(some 104), none, .q (.mv (.t 16))⟩,
      ⟨(some 105), none, .q (.bin .add true (.t 104) (.k (.int .i64 1)))⟩,
      ⟨(some 14), none, .q (.mv (.t 105))⟩])
                      (.reg /- 19 -/ [⟨(some 106), none, .q (.mv (.t 16))⟩,
      ⟨(some 15), none, .q (.mv (.t 106))⟩]))))))))
          (.seq (.seq (.reg /- 20 -/ [⟨(some 107), none, .q (.mv (.t 2))⟩,
      ⟨(some 17), none, .q (.mv (.t 107))⟩])
            (.block 6 (.loop (.seq (.seq (.reg /- 21 -/ [⟨(some 108), none, .q (.mv (.t 17))⟩,
      ⟨(some 109), none, .q (.mv (.t 14))⟩,
      ⟨(some 110), none, .q (.bin .gtr true (.t 108) (.t 109))⟩])
                  (.cond (.t 110)
                    (.skip)
                    (.exit 6)))
                  (.seq (.block 7 (.reg /- 23 -/ [⟨(some 115), none, .q (.mv (.t 0))⟩,
      ⟨(some 116), none, .q (.mv (.t 17))⟩,
      ⟨(some 117), none, .q (.bin .sub true (.t 116) (.k (.int .i64 1)))⟩,
      ⟨(some 113), none, .q (.mv (.t 0))⟩,
      ⟨(some 114), none, .q (.mv (.t 17))⟩,
      ⟨(some 118), none, .q (.mv (.t 0))⟩,
      ⟨(some 119), none, .q (.mv (.t 17))⟩,
      ⟨(some 120), none, .q (.bin .sub true (.t 119) (.k (.int .i64 1)))⟩,
      ⟨(some 121), none, .l (.ia 3 (.t 118) (.t 120))⟩,
      ⟨(some 122), none, .l (.ldn 3 (.t 121))⟩,
      ⟨(some 123), none, .q (.mv (.t 0))⟩,
      ⟨(some 124), none, .q (.mv (.t 17))⟩,
      ⟨(some 125), none, .l (.ia 3 (.t 123) (.t 124))⟩,
      ⟨(some 126), none, .l (.ldn 3 (.t 125))⟩,
      ⟨(some 127), none, .l (.ia 3 (.t 113) (.t 114))⟩,
      ⟨none, none, .e (.st 3 (.t 127) (.t 122))⟩,
      ⟨(some 128), none, .l (.ia 3 (.t 115) (.t 117))⟩,
      ⟨none, none, .e (.st 3 (.t 128) (.t 126))⟩]))
                    (.reg /- 22 -/ [⟨(some 111), none, .q (.mv (.t 17))⟩,
      ⟨(some 112), none, .q (.bin .sub true (.t 111) (.k (.int .i64 1)))⟩,
      ⟨(some 17), none, .q (.mv (.t 112))⟩]))))))
            (.ret)))))
    (.skip)))
  (pc43_24)
@[go_sem ↓] theorem fold43_12 (Γ : Env) (k0 : Nat) (fr : Fr) (H : Hp) (K : Ex → Fr → Hp → Prop) : vc Γ k0 pc43_12 fr H K = vcn Γ k0 pc43_12 fr H K ⟨⟩ := rfl
def pc43 : PC :=
  .seq (.seq (.reg /- 0 -/ [⟨(some 25), none, .q (.mv (.t 2))⟩,
      ⟨(some 26), none, .q (.mv (.t 1))⟩,
      ⟨(some 27), none, .q (.bin .sub true (.t 25) (.t 26))⟩,
      ⟨(some 28), none, .q (.bin .eql true (.t 27) (.k (.int .i64 1)))⟩])
  (.cond (.t 28)
    (.seq (.reg /- 1 -/ [⟨(some 29), none, .q (.mv (.t 2))⟩,
      ⟨(some 10), none, .q (.mv (.t 29))⟩])
      (.seq (.reg /- 2 -/ [⟨(some 30), none, .q (.mv (.t 3))⟩,
      ⟨(some 11), none, .q (.mv (.t 30))⟩])
        (.seq (.block 0 (.loop (.seq (.seq (.reg /- 3 -/ [⟨(some 31), none, .q (.mv (.t 10))⟩,
      ⟨(some 32), none, .q (.mv (.t 11))⟩,
      ⟨(some 33), none, .q (.bin .lss true (.t 31) (.t 32))⟩])
              (.cond (.t 33)
                (.skip)
                (.exit 0)))
              (.block 1 (.seq (.reg /- 4 -/ [⟨(some 34), none, .q (.mv (.t 10))⟩,
      ⟨(some 35), none, .q (.mv (.t 11))⟩,
      ⟨(some 36), none, .q (.bin .add true (.t 34) (.t 35))⟩,
      ⟨(some 37), none, .q (.cvt .u64 (.t 36))⟩,
      ⟨(some 38), none, .q (.bin .shr true (.t 37) (.k (.int .u64 1)))⟩,
      ⟨(some 39), none, .q (.cvt .i64 (.t 38))⟩,
      ⟨(some 12), none, .q (.mv (.t 39))⟩])
                  (.seq (.reg /- 5 -/ [⟨(some 40), none, .q (.mv (.t 4))⟩,
      ⟨(some 41), none, .q (.mv (.t 0))⟩,
      ⟨(some 42), none, .q (.mv (.t 12))⟩,
      ⟨(some 43), none, .l (.ia 3 (.t 41) (.t 42))⟩,
      ⟨(some 44), none, .l (.ldn 3 (.t 43))⟩,
      ⟨(some 45), none, .q (.mv (.t 0))⟩,
      ⟨(some 46), none, .q (.mv (.t 1))⟩,
      ⟨(some 47), none, .l (.ia 3 (.t 45) (.t 46))⟩,
      ⟨(some 48), none, .l (.ldn 3 (.t 47))⟩,
      ⟨(some 49), none, .ca (.t 40) [(.t 44), (.t 48)] []⟩,
      ⟨(some 50), none, .q (.bin .lss true (.t 49) (.k (.int .i64 0)))⟩])
                    (.cond (.t 50)
                      (.reg /- 6 -/ [⟨(some 51), none, .q (.mv (.t 12))⟩,
      ⟨(some 52), none, .q (.bin .add true (.t 51) (.k (.int .i64 1)))⟩,
      ⟨(some 10), none, .q (.mv (.t 52))⟩])
                      (.reg /- 7 -/ [⟨(some 53), none, .q (.mv (.t 12))⟩,
      ⟨(some 11), none, .q (.mv (.t 53))⟩]))))))))
          (.seq (.seq (.reg /- 8 -/ [⟨(some 54), none, .q (.mv (.t 1))⟩,
      ⟨(some 13), none, .q (.mv (.t 54))⟩])
            (.block 2 (.loop (.seq (.seq (.reg /- 9 -/ [⟨(some 55), none, .q (.mv (.t 13))⟩,
      ⟨(some 56), none, .q (.mv (.t 10))⟩,
      ⟨(some 57), none, .q (.bin .sub true (.t 56) (.k (.int .i64 1)))⟩,
      ⟨(some 58), none, .q (.bin .lss true (.t 55) (.t 57))⟩])
                  (.cond (.t 58)
                    (.skip)
                    (.exit 2)))
                  (.seq (.block 3 (.reg /- 11 -/ [⟨(some 63), none, .q (.mv (.t 0))⟩,
      ⟨(some 64), none, .q (.mv (.t 13))⟩,
      ⟨(some 65), none, .q (.bin .add true (.t 64) (.k (.int .i64 1)))⟩,
      ⟨(some 61), none, .q (.mv (.t 0))⟩,
      ⟨(some 62), none, .q (.mv (.t 13))⟩,
      ⟨(some 66), none, .q (.mv (.t 0))⟩,
      ⟨(some 67), none, .q (.mv (.t 13))⟩,
      ⟨(some 68), none, .q (.bin .add true (.t 67) (.k (.int .i64 1)))⟩,
      ⟨(some 69), none, .l (.ia 3 (.t 66) (.t 68))⟩,
      ⟨(some 70), none, .l (.ldn 3 (.t 69))⟩,
      ⟨(some 71), none, .q (.mv (.t 0))⟩,
      ⟨(some 72), none, .q (.mv (.t 13))⟩,
      ⟨(some 73), none, .l (.ia 3 (.t 71) (.t 72))⟩,
      ⟨(some 74), none, .l (.ldn 3 (.t 73))⟩,
      ⟨(some 75), none, .l (.ia 3 (.t 61) (.t 62))⟩,
      ⟨none, none, .e (.st 3 (.t 75) (.t 70))⟩,
      ⟨(some 76), none, .l (.ia 3 (.t 63) (.t 65))⟩,
      ⟨none, none, .e (.st 3 (.t 76) (.t 74))⟩]))
                    (.reg /- 10 -/ [⟨(some 59), none, .q (.mv (.t 13))⟩,
      ⟨(some 60), none, .q (.bin .add true (.t 59) (.k (.int .i64 1)))⟩,
      ⟨(some 13), none, .q (.mv (.t 60))⟩]))))))
            (.ret)))))
    (.skip)))
  (pc43_12)
def rs43 : List RV := []
theorem ok43 : trFn Try.prog true ⟨fun r k => if r = 40 ∧ k = 5 then .own [0] else if r = 42 ∧ k = 5 then .own [0] else if r = 44 ∧ k = 5 then .own [0] else .own [], fun r => [12, 24, 32, 38, 41, 43].contains r⟩ Try.f43 = some (pc43, rs43) := by kernel_rfl
/-- slices.rotateCmpFunc[robotics/liveliness.Change] -/
def pc44 : PC :=
  .seq (.reg /- 0 -/ [⟨(some 12), none, .q (.mv (.t 2))⟩,
      ⟨(some 13), none, .q (.mv (.t 1))⟩,
      ⟨(some 14), none, .q (.bin .sub true (.t 12) (.t 13))⟩,
      ⟨(some 10), none, .q (.mv (.t 14))⟩])
  (.seq (.reg /- 1 -/ [⟨(some 15), none, .q (.mv (.t 3))⟩,
      ⟨(some 16), none, .q (.mv (.t 2))⟩,
      ⟨(some 17), none, .q (.bin .sub true (.t 15) (.t 16))⟩,
      ⟨(some 11), none, .q (.mv (.t 17))⟩])
    (.seq (.block 0 (.loop (.seq (.seq (.reg /- 2 -/ [⟨(some 18), none, .q (.mv (.t 10))⟩,
      ⟨(some 19), none, .q (.mv (.t 11))⟩,
      ⟨(some 20), none, .q (.bin .neq true (.t 18) (.t 19))⟩])
          (.cond (.t 20)
            (.skip)
            (.exit 0)))
          (.block 1 (.seq (.reg /- 3 -/ [⟨(some 21), none, .q (.mv (.t 10))⟩,
      ⟨(some 22), none, .q (.mv (.t 11))⟩,
      ⟨(some 23), none, .q (.bin .gtr true (.t 21) (.t 22))⟩])
              (.cond (.t 23)
                (.seq (.reg /- 4 -/ [⟨(some 24), none, .q (.mv (.t 0))⟩,
      ⟨(some 25), none, .q (.mv (.t 2))⟩,
      ⟨(some 26), none, .q (.mv (.t 10))⟩,
      ⟨(some 27), none, .q (.bin .sub true (.t 25) (.t 26))⟩,
      ⟨(some 28), none, .q (.mv (.t 2))⟩,
      ⟨(some 29), none, .q (.mv (.t 11))⟩,
      ⟨(some 30), none, .q (.mv (.t 4))⟩,
      ⟨(some 31), none, .cl 45 [(.t 24), (.t 27), (.t 28), (.t 29), (.t 30)] [0]⟩])
                  (.reg /- 5 -/ [⟨(some 32), none, .q (.mv (.t 10))⟩,
      ⟨(some 33), none, .q (.mv (.t 11))⟩,
      ⟨(some 34), none, .q (.bin .sub true (.t 32) (.t 33))⟩,
      ⟨(some 10), none, .q (.mv (.t 34))⟩]))
                (.seq (.reg /- 6 -/ [⟨(some 35), none, .q (.mv (.t 0))⟩,
      ⟨(some 36), none, .q (.mv (.t 2))⟩,
      ⟨(some 37), none, .q (.mv (.t 10))⟩,
      ⟨(some 38), none, .q (.bin .sub true (.t 36) (.t 37))⟩,
      ⟨(some 39), none, .q (.mv (.t 2))⟩,
      ⟨(some 40), none, .q (.mv (.t 11))⟩,
      ⟨(some 41), none, .q (.bin .add true (.t 39) (.t 40))⟩,
      ⟨(some 42), none, .q (.mv (.t 10))⟩,
      ⟨(some 43), none, .q (.bin .sub true (.t 41) (.t 42))⟩,
      ⟨(some 44), none, .q (.mv (.t 10))⟩,
      ⟨(some 45), none, .q (.mv (.t 4))⟩,
      ⟨(some 46), none, .cl 45 [(.t 35), (.t 38), (.t 43), (.t 44), (.t 45)] [0]⟩])
                  (.reg /- 7 -/ [⟨(some 47), none, .q (.mv (.t 11))⟩,
      ⟨(some 48), none, .q (.mv (.t 10))⟩,
      ⟨(some 49), none, .q (.bin .sub true (.t 47) (.t 48))⟩,
      ⟨(some 11), none, .q (.mv (.t 49))⟩]))))))))
      (.reg /- 8 -/ [⟨(some 50), none, .q (.mv (.t 0))⟩,
      ⟨(some 51), none, .q (.mv (.t 2))⟩,
      ⟨(some 52), none, .q (.mv (.t 10))⟩,
      ⟨(some 53), none, .q (.bin .sub true (.t 51) (.t 52))⟩,
      ⟨(some 54), none, .q (.mv (.t 2))⟩,
      ⟨(some 55), none, .q (.mv (.t 10))⟩,
      ⟨(some 56), none, .q (.mv (.t 4))⟩,
      ⟨(some 57), none, .cl 45 [(.t 50), (.t 53), (.t 54), (.t 55), (.t 56)] [0]⟩])))
def rs44 : List RV := []
theorem ok44 : trFn Try.prog true ⟨fun r k => if r = 4 ∧ k = 7 then .own [0] else if r = 6 ∧ k = 11 then .own [0] else if r = 8 ∧ k = 7 then .own [0] else .own [], fun _ => false⟩ Try.f44 = some (pc44, rs44) := by kernel_rfl
/-- slices.swapRangeCmpFunc[robotics/liveliness.Change] -/
def pc45 : PC :=
  .seq (.reg /- 0 -/ [⟨(some 10), none, .q (.mv (.k (.int .i64 0)))⟩])
  (.block 0 (.loop (.seq (.seq (.reg /- 1 -/ [⟨(some 11), none, .q (.mv (.t 10))⟩,
      ⟨(some 12), none, .q (.mv (.t 3))⟩,
      ⟨(some 13), none, .q (.bin .lss true (.t 11) (.t 12))⟩])
        (.cond (.t 13)
          (.skip)
          (.exit 0)))
        (.seq (.block 1 (.reg /- 3 -/ [⟨(some 20), none, .q (.mv (.t 0))⟩,
      ⟨(some 21), none, .q (.mv (.t 2))⟩,
      ⟨(some 22), none, .q (.mv (.t 10))⟩,
      ⟨(some 23), none, .q (.bin .add true (.t 21) (.t 22))⟩,
      ⟨(some 16), none, .q (.mv (.t 0))⟩,
      ⟨(some 17), none, .q (.mv (.t 1))⟩,
      ⟨(some 18), none, .q (.mv (.t 10))⟩,
      ⟨(some 19), none, .q (.bin .add true (.t 17) (.t 18))⟩,
      ⟨(some 24), none, .q (.mv (.t 0))⟩,
      ⟨(some 25), none, .q (.mv (.t 2))⟩,
      ⟨(some 26), none, .q (.mv (.t 10))⟩,
      ⟨(some 27), none, .q (.bin .add true (.t 25) (.t 26))⟩,
      ⟨(some 28), none, .l (.ia 3 (.t 24) (.t 27))⟩,
      ⟨(some 29), none, .l (.ldn 3 (.t 28))⟩,
      ⟨(some 30), none, .q (.mv (.t 0))⟩,
      ⟨(some 31), none, .q (.mv (.t 1))⟩,
      ⟨(some 32), none, .q (.mv (.t 10))⟩,
      ⟨(some 33), none, .q (.bin .add true (.t 31) (.t 32))⟩,
      ⟨(some 34), none, .l (.ia 3 (.t 30) (.t 33))⟩,
      ⟨(some 35), none, .l (.ldn 3 (.t 34))⟩,
      ⟨(some 36), none, .l (.ia 3 (.t 16) (.t 19))⟩,
      ⟨none, none, .e (.st 3 (.t 36) (.t 29))⟩,
      ⟨(some 37), none, .l (.ia 3 (.t 20) (.t 23))⟩,
      ⟨none, none, .e (.st 3 (.t 37) (.t 35))⟩]))
          (.reg /- 2 -/ [⟨(some 14), none, .q (.mv (.t 10))⟩,
      ⟨(some 15), none, .q (.bin .add true (.t 14) (.k (.int .i64 1)))⟩,
      ⟨(some 10), none, .q (.mv (.t 15))⟩])))))
def rs45 : List RV := []
theorem ok45 : trFn Try.prog true ⟨fun _ _ => .own [], fun _ => false⟩ Try.f45 = some (pc45, rs45) := by kernel_rfl
end Go.Proofs.Ytngmjggconefcaa
