import Derived.Test.YtngmjggconefcaaProg
import Derived.Test.YtngmjggconefcaaW15
namespace Go.Proofs.Ytngmjggconefcaa
open Go.W
/- robotics/roboticslaw22.LivelinessPlays -/
def pc5_9 : PC :=
  .seq (.gh (.reg /- 9 -/ [⟨(some 34), none, .l (.ldn 3 (.t 6))⟩,
      ⟨none, none, .e (.st 3 (.t 4) (.t 34))⟩]))
  (.seq (.reg /- 10 -/ [⟨(some 36), none, .q (.mv (.t 3))⟩,
      ⟨(some 37), none, .cl 16 [(.t 36)] [0, 1, 2]⟩,
      ⟨(some 35), none, .q (.mv (.t 37))⟩,
      ⟨(some 38), none, .q (.ex (.t 35) 0)⟩,
      ⟨(some 39), none, .q (.ex (.t 35) 1)⟩,
      ⟨(some 8), none, .q (.mv (.t 38))⟩,
      ⟨(some 9), none, .q (.mv (.t 39))⟩])
    (.seq (.reg /- 11 -/ [⟨(some 41), none, .l (.ldn 3 (.t 4))⟩,
      ⟨(some 42), none, .cl 18 [(.t 41)] []⟩,
      ⟨(some 40), none, .q (.mv (.t 42))⟩,
      ⟨(some 43), none, .q (.ex (.t 40) 0)⟩,
      ⟨(some 44), none, .q (.ex (.t 40) 1)⟩,
      ⟨(some 10), none, .q (.mv (.t 43))⟩,
      ⟨(some 11), none, .q (.mv (.t 44))⟩])
      (.seq (.ord /- 12 -/ [.q ⟨(some 45), none, .q (.mv (.t 7))⟩,
      .q ⟨(some 46), none, .q (.not (.t 45))⟩,
      .q ⟨(some 47), none, .q (.mv (.t 46))⟩,
      .q ⟨(some 48), (some (47, false)), .q (.mv (.t 8))⟩,
      .q ⟨(some 49), (some (47, false)), .q (.mv (.t 10))⟩,
      .q ⟨(some 50), (some (47, false)), .q (.bin .neq true (.t 48) (.t 49))⟩,
      .q ⟨(some 51), none, .pick (.t 47) (.k (.bool true)) (.t 50)⟩,
      .q ⟨(some 52), none, .q (.mv (.t 51))⟩,
      .q ⟨(some 53), (some (52, false)), .q (.mv (.t 9))⟩,
      .q ⟨(some 54), (some (52, false)), .q (.mv (.t 11))⟩,
      .q ⟨(some 55), (some (52, false)), .q (.eqB true (.t 53) (.t 54))⟩,
      .q ⟨(some 56), none, .pick (.t 52) (.k (.bool true)) (.t 55)⟩,
      .q ⟨(some 57), none, .q (.mv (.t 56))⟩,
      .q ⟨(some 58), (some (57, false)), .q (.mv (.t 3))⟩,
      .q ⟨(some 59), (some (57, false)), .q (.mv (.t 0))⟩,
      .q ⟨(some 60), (some (57, false)), .q (.mv (.t 5))⟩,
      .q ⟨(some 61), (some (57, false)), .l (.ia 4 (.t 59) (.t 60))⟩,
      .q ⟨(some 62), (some (57, false)), .q (.fa 1 (.t 61))⟩,
      .q ⟨(some 63), (some (57, false)), .l (.ld1 (.t 62))⟩,
      .q ⟨(some 65), (some (57, false)), .l (.ldn 3 (.t 4))⟩,
      .q ⟨(some 66), (some (57, false)), .q (.mv (.t 0))⟩,
      .q ⟨(some 67), (some (57, false)), .q (.mv (.t 5))⟩,
      .q ⟨(some 68), (some (57, false)), .l (.ia 4 (.t 66) (.t 67))⟩,
      .q ⟨(some 69), (some (57, false)), .q (.fa 1 (.t 68))⟩,
      .q ⟨(some 70), (some (57, false)), .l (.ld1 (.t 69))⟩,
      .m ⟨(some 64), (some (57, false)), .cl 12 [(.t 58), (.t 63)] [0, 1, 2]⟩,
      .rc ⟨(some 65), (some (57, false)), .l (.ldn 3 (.t 4))⟩,
      .rc ⟨(some 66), (some (57, false)), .q (.mv (.t 0))⟩,
      .rc ⟨(some 67), (some (57, false)), .q (.mv (.t 5))⟩,
      .rc ⟨(some 68), (some (57, false)), .l (.ia 4 (.t 66) (.t 67))⟩,
      .rc ⟨(some 69), (some (57, false)), .q (.fa 1 (.t 68))⟩,
      .rc ⟨(some 70), (some (57, false)), .l (.ld1 (.t 69))⟩,
      .m ⟨(some 71), (some (57, false)), .cq 19 [(.t 65), (.t 70)]⟩,
      .q ⟨(some 72), (some (57, false)), .q (.eqB true (.t 64) (.t 71))⟩,
      .q ⟨(some 73), none, .pick (.t 57) (.k (.bool true)) (.t 72)⟩])
        (.cond (.t 73)
          (.seq (.reg /- 13 -/ [⟨(some 2), none, .q (.mv (.k (.bool false)))⟩])
            (.ret))
          (.skip)))))
@[go_sem ↓] theorem fold5_9 (Γ : Env) (k0 : Nat) (fr : Fr) (H : Hp) (K : Ex → Fr → Hp → Prop) : vc Γ k0 pc5_9 fr H K = vcn Γ k0 pc5_9 fr H K ⟨⟩ := rfl
def pc5 : PC :=
  .seq (.reg /- 0 -/ [⟨(some 2), none, .q (.mv (.k (.bool false)))⟩])
  (.seq (.seq (.reg /- 1 -/ [⟨(some 12), none, .q (.mv (.t 0))⟩,
      ⟨(some 13), none, .q (.lnL (.t 12))⟩,
      ⟨(some 14), none, .q (.bin .gtr true (.t 13) (.k (.int .i64 80)))⟩])
    (.cond (.t 14)
      (.seq (.reg /- 2 -/ [⟨(some 15), none, .cq 8 []⟩,
      ⟨(some 2), none, .q (.mv (.t 15))⟩])
        (.ret))
      (.skip)))
    (.seq (.reg /- 3 -/ [⟨(some 16), none, .cl 9 [] []⟩,
      ⟨(some 3), none, .q (.mv (.t 16))⟩])
      (.seq (.reg /- 4 -/ [⟨(some 17), none, .q (.bd [(.int .i64 0), (.slice none 0 0), (.slice none 0 0)] [])⟩,
      ⟨(some 4), none, .e (.al (.agg #[(.int .i64 0), (.slice none 0 0), (.slice none 0 0)]) 48)⟩,
      ⟨none, none, .e (.st 3 (.t 4) (.t 17))⟩])
        (.seq (.seq (.reg /- 5 -/ [⟨(some 5), none, .q (.mv (.k (.int .i64 0)))⟩])
          (.block 0 (.loop (.seq (.seq (.reg /- 6 -/ [⟨(some 18), none, .q (.mv (.t 5))⟩,
      ⟨(some 19), none, .q (.mv (.t 0))⟩,
      ⟨(some 20), none, .q (.lnL (.t 19))⟩,
      ⟨(some 21), none, .q (.bin .lss true (.t 18) (.t 20))⟩])
                (.cond (.t 21)
                  (.skip)
                  (.exit 0)))
                (.seq (.block 1 (.seq (.ord /- 8 -/ [.q ⟨(some 25), none, .q (.mv (.t 3))⟩,
      .q ⟨(some 26), none, .l (.ldn 3 (.t 4))⟩,
      .q ⟨(some 27), none, .q (.mv (.t 0))⟩,
      .q ⟨(some 28), none, .q (.mv (.t 5))⟩,
      .q ⟨(some 29), none, .l (.ia 4 (.t 27) (.t 28))⟩,
      .q ⟨(some 30), none, .l (.ldn 4 (.t 29))⟩,
      .m ⟨(some 31), none, .cl 17 [(.t 25), (.t 26), (.t 30)] [0, 1, 2]⟩,
      .q ⟨(some 24), none, .q (.mv (.t 31))⟩,
      .q ⟨(some 32), none, .q (.ex (.t 24) 0)⟩,
      .q ⟨(some 33), none, .q (.ex (.t 24) 1)⟩,
      .m ⟨(some 6), none, .e (.al (.agg #[(.int .i64 0), (.slice none 0 0), (.slice none 0 0)]) 48)⟩,
      .rc ⟨(some 24), none, .q (.mv (.t 31))⟩,
      .rc ⟨(some 32), none, .q (.ex (.t 24) 0)⟩,
      .rc ⟨(some 33), none, .q (.ex (.t 24) 1)⟩,
      .m ⟨none, none, .e (.st 3 (.t 6) (.t 32))⟩,
      .rc ⟨(some 33), none, .q (.ex (.t 24) 1)⟩,
      .m ⟨(some 7), none, .q (.mv (.t 33))⟩])
                    (pc5_9)))
                  (.reg /- 7 -/ [⟨(some 22), none, .q (.mv (.t 5))⟩,
      ⟨(some 23), none, .q (.bin .add true (.t 22) (.k (.int .i64 1)))⟩,
      ⟨(some 5), none, .q (.mv (.t 23))⟩]))))))
          (.seq (.reg /- 14 -/ [⟨(some 74), none, .cq 8 []⟩,
      ⟨(some 2), none, .q (.mv (.t 74))⟩])
            (.ret))))))
def rs5 : List RV := [.mv (.t 2)]
theorem ok5 : trFn Try.prog true ⟨fun r k => if r = 2 ∧ k = 0 then .q else if r = 3 ∧ k = 0 then .own [] else if r = 8 ∧ k = 6 then .own [0, 1, 2] else if r = 10 ∧ k = 1 then .own [0, 1, 2] else if r = 11 ∧ k = 1 then .own [] else if r = 12 ∧ k = 19 then .own [0, 1, 2] else if r = 12 ∧ k = 26 then .q else if r = 14 ∧ k = 0 then .q else .own [], fun r => [9].contains r⟩ Try.f5 = some (pc5, rs5) := by kernel_rfl
/-- robotics/roboticslaw22.play -/
def pc17 : PC :=
  .seq (.reg /- 0 -/ [⟨(some 4), none, .e (.bx 48 (.t 1))⟩,
      ⟨(some 5), none, .e (.bx 43 (.t 2))⟩,
      ⟨(some 6), none, .e (.al (.agg #[(.int .i64 0), (.slice none 0 0), (.slice none 0 0)]) 48)⟩,
      ⟨(some 7), none, .q (.mv (.k (.bool false)))⟩])
  (.seq (.seq (.reg /- 1 -/ [⟨(some 16), none, .q (.fa 0 (.t 5))⟩,
      ⟨(some 17), none, .l (.ld1 (.t 16))⟩])
    (.block 0 (.seq (.reg /- 2 -/ [⟨(some 19), none, .q (.bin .eql true (.t 17) (.k (.int .i64 0)))⟩,
      ⟨(some 18), none, .q (.mv (.t 19))⟩])
        (.cond (.t 18)
          (.seq (.reg /- 3 -/ [⟨(some 21), none, .l (.ldn 3 (.t 4))⟩,
      ⟨(some 22), none, .q (.fa 1 (.t 5))⟩,
      ⟨(some 23), none, .l (.ld1 (.t 22))⟩,
      ⟨(some 24), none, .q (.fa 2 (.t 5))⟩,
      ⟨(some 25), none, .l (.ld1 (.t 24))⟩,
      ⟨(some 26), none, .q (.fa 3 (.t 5))⟩,
      ⟨(some 27), none, .l (.ld1 (.t 26))⟩,
      ⟨(some 28), none, .cl 26 [(.t 21), (.t 23), (.t 25), (.t 27)] []⟩,
      ⟨(some 20), none, .q (.mv (.t 28))⟩,
      ⟨(some 29), none, .q (.ex (.t 20) 0)⟩,
      ⟨(some 30), none, .q (.ex (.t 20) 1)⟩,
      ⟨(some 8), none, .e (.al (.agg #[(.int .i64 0), (.slice none 0 0), (.slice none 0 0)]) 48)⟩,
      ⟨none, none, .e (.st 3 (.t 8) (.t 29))⟩,
      ⟨(some 9), none, .q (.mv (.t 30))⟩])
            (.seq (.ord /- 4 -/ [.q ⟨(some 31), none, .l (.ldn 3 (.t 8))⟩,
      .q ⟨(some 32), none, .q (.mv (.t 0))⟩,
      .q ⟨(some 33), none, .q (.fa 1 (.t 5))⟩,
      .q ⟨(some 34), none, .l (.ld1 (.t 33))⟩,
      .q ⟨(some 35), none, .q (.fa 2 (.t 5))⟩,
      .q ⟨(some 36), none, .l (.ld1 (.t 35))⟩,
      .q ⟨(some 37), none, .q (.fa 3 (.t 5))⟩,
      .q ⟨(some 38), none, .l (.ld1 (.t 37))⟩,
      .q ⟨(some 40), none, .q (.mv (.t 9))⟩,
      .m ⟨(some 39), none, .cl 10 [(.t 32), (.t 34), (.t 36), (.t 38)] [0, 1, 2]⟩,
      .rc ⟨(some 31), none, .l (.ldn 3 (.t 8))⟩,
      .rc ⟨(some 40), none, .q (.mv (.t 9))⟩,
      .q ⟨(some 41), none, .q (.bin .eql true (.t 39) (.t 40))⟩,
      .m ⟨none, none, .e (.st 3 (.t 6) (.t 31))⟩,
      .rc ⟨(some 40), none, .q (.mv (.t 9))⟩,
      .rc ⟨(some 41), none, .q (.bin .eql true (.t 39) (.t 40))⟩,
      .m ⟨(some 7), none, .q (.mv (.t 41))⟩])
              (.ret)))
          (.seq (.reg /- 5 -/ [⟨(some 43), none, .q (.bin .eql true (.t 17) (.k (.int .i64 1)))⟩,
      ⟨(some 42), none, .q (.mv (.t 43))⟩])
            (.cond (.t 42)
              (.seq (.reg /- 6 -/ [⟨(some 45), none, .l (.ldn 3 (.t 4))⟩,
      ⟨(some 46), none, .q (.fa 1 (.t 5))⟩,
      ⟨(some 47), none, .l (.ld1 (.t 46))⟩,
      ⟨(some 48), none, .cl 27 [(.t 45), (.t 47)] []⟩,
      ⟨(some 44), none, .q (.mv (.t 48))⟩,
      ⟨(some 49), none, .q (.ex (.t 44) 0)⟩,
      ⟨(some 50), none, .q (.ex (.t 44) 1)⟩,
      ⟨(some 10), none, .e (.al (.agg #[(.int .i64 0), (.slice none 0 0), (.slice none 0 0)]) 48)⟩,
      ⟨none, none, .e (.st 3 (.t 10) (.t 49))⟩,
      ⟨(some 11), none, .q (.mv (.t 50))⟩])
                (.seq (.ord /- 7 -/ [.q ⟨(some 51), none, .l (.ldn 3 (.t 10))⟩,
      .q ⟨(some 52), none, .q (.mv (.t 0))⟩,
      .q ⟨(some 53), none, .q (.fa 1 (.t 5))⟩,
      .q ⟨(some 54), none, .l (.ld1 (.t 53))⟩,
      .q ⟨(some 56), none, .q (.mv (.t 11))⟩,
      .m ⟨(some 55), none, .cl 20 [(.t 52), (.t 54)] [0, 1, 2]⟩,
      .rc ⟨(some 51), none, .l (.ldn 3 (.t 10))⟩,
      .rc ⟨(some 56), none, .q (.mv (.t 11))⟩,
      .q ⟨(some 57), none, .q (.bin .eql true (.t 55) (.t 56))⟩,
      .m ⟨none, none, .e (.st 3 (.t 6) (.t 51))⟩,
      .rc ⟨(some 56), none, .q (.mv (.t 11))⟩,
      .rc ⟨(some 57), none, .q (.bin .eql true (.t 55) (.t 56))⟩,
      .m ⟨(some 7), none, .q (.mv (.t 57))⟩])
                  (.ret)))
              (.seq (.reg /- 8 -/ [⟨(some 59), none, .q (.bin .eql true (.t 17) (.k (.int .i64 2)))⟩,
      ⟨(some 58), none, .q (.mv (.t 59))⟩])
                (.cond (.t 58)
                  (.seq (.reg /- 9 -/ [⟨(some 61), none, .l (.ldn 3 (.t 4))⟩,
      ⟨(some 62), none, .q (.fa 1 (.t 5))⟩,
      ⟨(some 63), none, .l (.ld1 (.t 62))⟩,
      ⟨(some 64), none, .q (.fa 3 (.t 5))⟩,
      ⟨(some 65), none, .l (.ld1 (.t 64))⟩,
      ⟨(some 66), none, .cl 28 [(.t 61), (.t 63), (.t 65)] []⟩,
      ⟨(some 60), none, .q (.mv (.t 66))⟩,
      ⟨(some 67), none, .q (.ex (.t 60) 0)⟩,
      ⟨(some 68), none, .q (.ex (.t 60) 1)⟩,
      ⟨(some 12), none, .e (.al (.agg #[(.int .i64 0), (.slice none 0 0), (.slice none 0 0)]) 48)⟩,
      ⟨none, none, .e (.st 3 (.t 12) (.t 67))⟩,
      ⟨(some 13), none, .q (.mv (.t 68))⟩])
                    (.seq (.ord /- 10 -/ [.q ⟨(some 69), none, .l (.ldn 3 (.t 12))⟩,
      .q ⟨(some 70), none, .q (.mv (.t 0))⟩,
      .q ⟨(some 71), none, .q (.fa 1 (.t 5))⟩,
      .q ⟨(some 72), none, .l (.ld1 (.t 71))⟩,
      .q ⟨(some 73), none, .q (.fa 3 (.t 5))⟩,
      .q ⟨(some 74), none, .l (.ld1 (.t 73))⟩,
      .q ⟨(some 76), none, .q (.mv (.t 13))⟩,
      .m ⟨(some 75), none, .cl 11 [(.t 70), (.t 72), (.t 74)] [0, 1, 2]⟩,
      .rc ⟨(some 69), none, .l (.ldn 3 (.t 12))⟩,
      .rc ⟨(some 76), none, .q (.mv (.t 13))⟩,
      .q ⟨(some 77), none, .q (.bin .eql true (.t 75) (.t 76))⟩,
      .m ⟨none, none, .e (.st 3 (.t 6) (.t 69))⟩,
      .rc ⟨(some 76), none, .q (.mv (.t 13))⟩,
      .rc ⟨(some 77), none, .q (.bin .eql true (.t 75) (.t 76))⟩,
      .m ⟨(some 7), none, .q (.mv (.t 77))⟩])
                      (.ret)))
                  (.skip)))))))))
    (.seq (.reg /- 11 -/ [⟨(some 79), none, .l (.ldn 3 (.t 4))⟩,
      ⟨(some 80), none, .q (.fa 3 (.t 5))⟩,
      ⟨(some 81), none, .l (.ld1 (.t 80))⟩,
      ⟨(some 82), none, .cl 29 [(.t 79), (.t 81)] []⟩,
      ⟨(some 78), none, .q (.mv (.t 82))⟩,
      ⟨(some 83), none, .q (.ex (.t 78) 0)⟩,
      ⟨(some 84), none, .q (.ex (.t 78) 1)⟩,
      ⟨(some 14), none, .e (.al (.agg #[(.int .i64 0), (.slice none 0 0), (.slice none 0 0)]) 48)⟩,
      ⟨none, none, .e (.st 3 (.t 14) (.t 83))⟩,
      ⟨(some 15), none, .q (.mv (.t 84))⟩])
      (.seq (.ord /- 12 -/ [.q ⟨(some 85), none, .l (.ldn 3 (.t 14))⟩,
      .q ⟨(some 86), none, .q (.mv (.t 0))⟩,
      .q ⟨(some 87), none, .q (.fa 3 (.t 5))⟩,
      .q ⟨(some 88), none, .l (.ld1 (.t 87))⟩,
      .q ⟨(some 91), none, .q (.mv (.t 15))⟩,
      .m ⟨(some 89), none, .cl 15 [(.t 86), (.t 88)] [0, 1, 2]⟩,
      .rc ⟨(some 85), none, .l (.ldn 3 (.t 14))⟩,
      .rc ⟨(some 91), none, .q (.mv (.t 15))⟩,
      .m ⟨(some 90), none, .cl 14 [(.t 89)] []⟩,
      .rc ⟨(some 85), none, .l (.ldn 3 (.t 14))⟩,
      .rc ⟨(some 91), none, .q (.mv (.t 15))⟩,
      .m ⟨(some 92), none, .cq 13 [(.t 90), (.t 91)]⟩,
      .rc ⟨(some 85), none, .l (.ldn 3 (.t 14))⟩,
      .m ⟨none, none, .e (.st 3 (.t 6) (.t 85))⟩,
      .m ⟨(some 7), none, .q (.mv (.t 92))⟩])
        (.ret))))
def rs17 : List RV := [.ld (.ldn 3 (.t 6)), .mv (.t 7)]
theorem ok17 : trFn Try.prog true ⟨fun r k => if r = 3 ∧ k = 7 then .own [] else if r = 4 ∧ k = 8 then .own [0, 1, 2] else if r = 6 ∧ k = 3 then .own [] else if r = 7 ∧ k = 4 then .own [0, 1, 2] else if r = 9 ∧ k = 5 then .own [] else if r = 10 ∧ k = 6 then .own [0, 1, 2] else if r = 11 ∧ k = 3 then .own [] else if r = 12 ∧ k = 4 then .own [0, 1, 2] else if r = 12 ∧ k = 5 then .own [] else if r = 12 ∧ k = 7 then .q else .own [], fun _ => false⟩ Try.f17 = some (pc17, rs17) := by kernel_rfl
end Go.Proofs.Ytngmjggconefcaa
