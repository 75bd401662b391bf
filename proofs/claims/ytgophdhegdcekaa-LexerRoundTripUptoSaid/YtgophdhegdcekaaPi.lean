import Derived.Test.YtgophdhegdcekaaProg
import Derived.Test.YtgophdhegdcekaaW15
namespace Go.Proofs.Ytgophdhegdcekaa.Rt
open Go.W
/- robotics/roboticslaw06.LexerRoundTrip -/
def pc7_14 : PC :=
  .seq (.seq (.gh (.reg /- 14 -/ [⟨(some 41), none, .q (.mv (.t 7))⟩,
      ⟨(some 42), none, .q (.mv (.t 4))⟩,
      ⟨(some 43), none, .q (.lnL (.t 42))⟩,
      ⟨(some 44), none, .q (.bin .geq true (.t 41) (.t 43))⟩,
      ⟨(some 45), none, .q (.mv (.t 44))⟩,
      ⟨(some 46), (some (45, false)), .q (.mv (.t 4))⟩,
      ⟨(some 47), (some (45, false)), .q (.mv (.t 7))⟩,
      ⟨(some 48), (some (45, false)), .l (.ia 4 (.t 46) (.t 47))⟩,
      ⟨(some 49), (some (45, false)), .q (.fa 0 (.t 48))⟩,
      ⟨(some 50), (some (45, false)), .l (.ld1 (.t 49))⟩,
      ⟨(some 51), (some (45, false)), .q (.mv (.t 0))⟩,
      ⟨(some 52), (some (45, false)), .q (.mv (.t 8))⟩,
      ⟨(some 53), (some (45, false)), .l (.ia 4 (.t 51) (.t 52))⟩,
      ⟨(some 54), (some (45, false)), .q (.fa 0 (.t 53))⟩,
      ⟨(some 55), (some (45, false)), .l (.ld1 (.t 54))⟩,
      ⟨(some 56), (some (45, false)), .q (.bin .neq true (.t 50) (.t 55))⟩,
      ⟨(some 57), none, .pick (.t 45) (.k (.bool true)) (.t 56)⟩,
      ⟨(some 58), none, .q (.mv (.t 57))⟩,
      ⟨(some 59), (some (58, false)), .q (.mv (.t 4))⟩,
      ⟨(some 60), (some (58, false)), .q (.mv (.t 7))⟩,
      ⟨(some 61), (some (58, false)), .l (.ia 4 (.t 59) (.t 60))⟩,
      ⟨(some 62), (some (58, false)), .q (.fa 1 (.t 61))⟩,
      ⟨(some 63), (some (58, false)), .l (.ld1 (.t 62))⟩,
      ⟨(some 64), (some (58, false)), .q (.mv (.t 0))⟩,
      ⟨(some 65), (some (58, false)), .q (.mv (.t 8))⟩,
      ⟨(some 66), (some (58, false)), .l (.ia 4 (.t 64) (.t 65))⟩,
      ⟨(some 67), (some (58, false)), .q (.fa 1 (.t 66))⟩,
      ⟨(some 68), (some (58, false)), .l (.ld1 (.t 67))⟩,
      ⟨(some 69), (some (58, false)), .q (.bin .neq true (.t 63) (.t 68))⟩,
      ⟨(some 70), none, .pick (.t 58) (.k (.bool true)) (.t 69)⟩,
      ⟨(some 71), none, .q (.mv (.t 70))⟩,
      ⟨(some 72), (some (71, false)), .q (.mv (.t 4))⟩,
      ⟨(some 73), (some (71, false)), .q (.mv (.t 7))⟩,
      ⟨(some 74), (some (71, false)), .l (.ia 4 (.t 72) (.t 73))⟩,
      ⟨(some 75), (some (71, false)), .q (.fa 2 (.t 74))⟩,
      ⟨(some 76), (some (71, false)), .l (.ld1 (.t 75))⟩,
      ⟨(some 77), (some (71, false)), .q (.mv (.t 0))⟩,
      ⟨(some 78), (some (71, false)), .q (.mv (.t 8))⟩,
      ⟨(some 79), (some (71, false)), .l (.ia 4 (.t 77) (.t 78))⟩,
      ⟨(some 80), (some (71, false)), .q (.fa 2 (.t 79))⟩,
      ⟨(some 81), (some (71, false)), .l (.ld1 (.t 80))⟩,
      ⟨(some 82), (some (71, false)), .q (.bin .neq true (.t 76) (.t 81))⟩,
      ⟨(some 83), none, .pick (.t 71) (.k (.bool true)) (.t 82)⟩]))
  (.cond (.t 83)
    (.seq (.reg /- 15 -/ [⟨(some 2), none, .q (.mv (.k (.bool false)))⟩])
      (.ret))
    (.skip)))
  (.reg /- 16 -/ [⟨(some 84), none, .q (.mv (.t 7))⟩,
      ⟨(some 85), none, .q (.bin .add true (.t 84) (.k (.int .i64 1)))⟩,
      ⟨(some 7), none, .q (.mv (.t 85))⟩])
@[go_sem ↓] theorem fold7_14 (Γ : Env) (k0 : Nat) (fr : Fr) (H : Hp) (K : Ex → Fr → Hp → Prop) : vc Γ k0 pc7_14 fr H K = vcn Γ k0 pc7_14 fr H K ⟨⟩ := rfl
def pc7_17 : PC :=
  .seq (.gh (.reg /- 17 -/ [⟨(some 86), none, .q (.mv (.t 5))⟩,
      ⟨(some 87), none, .q (.bin .eql true (.t 86) (.k (.int .i64 0)))⟩,
      ⟨(some 88), none, .q (.mv (.t 87))⟩,
      ⟨(some 89), (some (88, true)), .q (.mv (.t 4))⟩,
      ⟨(some 90), (some (88, true)), .q (.lnL (.t 89))⟩,
      ⟨(some 91), (some (88, true)), .q (.mv (.t 7))⟩,
      ⟨(some 92), (some (88, true)), .q (.bin .add true (.t 91) (.k (.int .i64 1)))⟩,
      ⟨(some 93), (some (88, true)), .q (.bin .eql true (.t 90) (.t 92))⟩,
      ⟨(some 94), none, .pick (.t 88) (.t 93) (.k (.bool false))⟩,
      ⟨(some 95), none, .q (.mv (.t 94))⟩,
      ⟨(some 96), (some (95, true)), .q (.mv (.t 4))⟩,
      ⟨(some 97), (some (95, true)), .q (.mv (.t 7))⟩,
      ⟨(some 98), (some (95, true)), .l (.ia 4 (.t 96) (.t 97))⟩,
      ⟨(some 99), (some (95, true)), .q (.fa 0 (.t 98))⟩,
      ⟨(some 100), (some (95, true)), .l (.ld1 (.t 99))⟩,
      ⟨(some 101), (some (95, true)), .q (.bin .eql true (.t 100) (.k (.int .i64 0)))⟩,
      ⟨(some 102), none, .pick (.t 95) (.t 101) (.k (.bool false))⟩,
      ⟨(some 103), none, .q (.mv (.t 102))⟩,
      ⟨(some 104), (some (103, true)), .cq 11 []⟩,
      ⟨(some 105), none, .pick (.t 103) (.t 104) (.k (.bool false))⟩,
      ⟨(some 2), none, .q (.mv (.t 105))⟩]))
  (.ret)
@[go_sem ↓] theorem fold7_17 (Γ : Env) (k0 : Nat) (fr : Fr) (H : Hp) (K : Ex → Fr → Hp → Prop) : vc Γ k0 pc7_17 fr H K = vcn Γ k0 pc7_17 fr H K ⟨⟩ := rfl
def pc7 : PC :=
  .seq (.reg /- 0 -/ [⟨(some 2), none, .q (.mv (.k (.bool false)))⟩])
  (.seq (.seq (.reg /- 1 -/ [⟨(some 9), none, .q (.mv (.t 0))⟩,
      ⟨(some 10), none, .q (.lnL (.t 9))⟩,
      ⟨(some 11), none, .q (.bin .gtr true (.t 10) (.k (.int .i64 60)))⟩])
    (.cond (.t 11)
      (.seq (.reg /- 2 -/ [⟨(some 12), none, .cq 11 []⟩,
      ⟨(some 2), none, .q (.mv (.t 12))⟩])
        (.ret))
      (.skip)))
    (.seq (.reg /- 3 -/ [⟨(some 13), none, .q (.mv (.t 0))⟩,
      ⟨(some 14), none, .cq 24 [(.t 13)]⟩,
      ⟨(some 3), none, .q (.mv (.t 14))⟩])
      (.seq (.seq (.reg /- 4 -/ [⟨(some 15), none, .q (.mv (.t 3))⟩,
      ⟨(some 16), none, .q (.mv (.t 0))⟩,
      ⟨(some 17), none, .cq 25 [(.t 16)]⟩,
      ⟨(some 18), none, .q (.bin .neq true (.t 15) (.t 17))⟩])
        (.cond (.t 18)
          (.seq (.reg /- 5 -/ [⟨(some 2), none, .q (.mv (.k (.bool false)))⟩])
            (.ret))
          (.skip)))
        (.seq (.seq (.reg /- 6 -/ [⟨(some 19), none, .q (.mv (.t 3))⟩,
      ⟨(some 20), none, .q (.lnS (.t 19))⟩,
      ⟨(some 21), none, .q (.bin .gtr true (.t 20) (.k (.int .i64 4000)))⟩])
          (.cond (.t 21)
            (.seq (.reg /- 7 -/ [⟨(some 22), none, .cq 11 []⟩,
      ⟨(some 2), none, .q (.mv (.t 22))⟩])
              (.ret))
            (.skip)))
          (.seq (.reg /- 8 -/ [⟨(some 24), none, .q (.mv (.t 3))⟩,
      ⟨(some 25), none, .cl 8 [(.t 24)] []⟩,
      ⟨(some 23), none, .q (.mv (.t 25))⟩,
      ⟨(some 26), none, .q (.ex (.t 23) 0)⟩,
      ⟨(some 27), none, .q (.ex (.t 23) 1)⟩,
      ⟨(some 28), none, .q (.ex (.t 23) 2)⟩,
      ⟨(some 4), none, .q (.mv (.t 26))⟩,
      ⟨(some 5), none, .q (.mv (.t 27))⟩,
      ⟨(some 6), none, .q (.mv (.t 28))⟩])
            (.seq (.reg /- 9 -/ [⟨(some 7), none, .q (.mv (.k (.int .i64 0)))⟩])
              (.seq (.seq (.reg /- 10 -/ [⟨(some 8), none, .q (.mv (.k (.int .i64 0)))⟩])
                (.block 0 (.loop (.seq (.seq (.reg /- 11 -/ [⟨(some 29), none, .q (.mv (.t 8))⟩,
      ⟨(some 30), none, .q (.mv (.t 0))⟩,
      ⟨(some 31), none, .q (.lnL (.t 30))⟩,
      ⟨(some 32), none, .q (.bin .lss true (.t 29) (.t 31))⟩])
                      (.cond (.t 32)
                        (.skip)
                        (.exit 0)))
                      (.seq (.block 1 (.seq (.seq (.reg /- 13 -/ [⟨(some 35), none, .q (.mv (.t 0))⟩,
      ⟨(some 36), none, .q (.mv (.t 8))⟩,
      ⟨(some 37), none, .l (.ia 4 (.t 35) (.t 36))⟩,
      ⟨(some 38), none, .l (.ldn 4 (.t 37))⟩,
      ⟨(some 39), none, .cq 26 [(.t 38)]⟩,
      ⟨(some 40), none, .q (.not (.t 39))⟩])
                          (.cond (.t 40)
                            (.exit 1)
                            (.skip)))
                          (pc7_14)))
                        (.reg /- 12 -/ [⟨(some 33), none, .q (.mv (.t 8))⟩,
      ⟨(some 34), none, .q (.bin .add true (.t 33) (.k (.int .i64 1)))⟩,
      ⟨(some 8), none, .q (.mv (.t 34))⟩]))))))
                (pc7_17))))))))
def rs7 : List RV := [.mv (.t 2)]
theorem ok7 : trFn Try.prog true ⟨fun r k => if r = 2 ∧ k = 0 then .q else if r = 3 ∧ k = 1 then .q else if r = 4 ∧ k = 2 then .q else if r = 7 ∧ k = 0 then .q else if r = 13 ∧ k = 4 then .q else if r = 17 ∧ k = 18 then .q else .own [], fun r => [14, 17].contains r⟩ Try.f7 = some (pc7, rs7) := by kernel_rfl
end Go.Proofs.Ytgophdhegdcekaa.Rt
