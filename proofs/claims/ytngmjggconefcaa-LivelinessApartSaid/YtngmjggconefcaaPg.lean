import Derived.Test.YtngmjggconefcaaProg
import Derived.Test.YtngmjggconefcaaW15
namespace Go.Proofs.Ytngmjggconefcaa
open Go.W
/- robotics/roboticslaw22.LivelinessApart -/
def pc6_39 : PC :=
  .seq (.gh (.reg /- 39 -/ [⟨(some 162), none, .q (.mv (.t 5))⟩,
      ⟨(some 163), none, .q (.mv (.t 1))⟩,
      ⟨(some 164), none, .cl 12 [(.t 162), (.t 163)] [0, 1, 2]⟩,
      ⟨(some 165), none, .q (.mv (.t 6))⟩,
      ⟨(some 166), none, .q (.mv (.t 1))⟩,
      ⟨(some 167), none, .cl 12 [(.t 165), (.t 166)] [3, 4, 5]⟩,
      ⟨(some 168), none, .q (.eqB true (.t 164) (.t 167))⟩,
      ⟨(some 169), none, .q (.mv (.t 168))⟩,
      ⟨(some 170), (some (169, true)), .q (.fa 0 (.t 9))⟩,
      ⟨(some 171), (some (169, true)), .l (.ld1 (.t 170))⟩,
      ⟨(some 172), (some (169, true)), .q (.bin .gtr true (.t 171) (.k (.int .i64 2)))⟩,
      ⟨(some 173), none, .pick (.t 169) (.t 172) (.k (.bool false))⟩]))
  (.cond (.t 173)
    (.seq (.reg /- 40 -/ [⟨(some 4), none, .q (.mv (.k (.bool false)))⟩])
      (.ret))
    (.skip))
@[go_sem ↓] theorem fold6_39 (Γ : Env) (k0 : Nat) (fr : Fr) (H : Hp) (K : Ex → Fr → Hp → Prop) : vc Γ k0 pc6_39 fr H K = vcn Γ k0 pc6_39 fr H K ⟨⟩ := rfl
def pc6_7 : PC :=
  .seq (.gh (.reg /- 7 -/ [⟨(some 25), none, .q (.mv (.t 6))⟩,
      ⟨(some 26), none, .q (.mv (.t 7))⟩,
      ⟨(some 27), none, .cl 10 [(.t 25), (.t 26), (.k (.int .i64 0)), (.k (.int .i64 0))] [3, 4, 5]⟩]))
  (.seq (.seq (.reg /- 8 -/ [⟨(some 8), none, .q (.mv (.k (.int .i64 0)))⟩])
    (.block 0 (.loop (.seq (.seq (.reg /- 9 -/ [⟨(some 28), none, .q (.mv (.t 8))⟩,
      ⟨(some 29), none, .q (.mv (.t 0))⟩,
      ⟨(some 30), none, .q (.lnL (.t 29))⟩,
      ⟨(some 31), none, .q (.bin .lss true (.t 28) (.t 30))⟩])
          (.cond (.t 31)
            (.skip)
            (.exit 0)))
          (.seq (.block 1 (.seq (.reg /- 11 -/ [⟨(some 34), none, .q (.mv (.t 0))⟩,
      ⟨(some 35), none, .q (.mv (.t 8))⟩,
      ⟨(some 36), none, .l (.ia 4 (.t 34) (.t 35))⟩,
      ⟨(some 37), none, .l (.ldn 4 (.t 36))⟩,
      ⟨(some 9), none, .e (.al (.agg #[(.int .i64 0), (.int .i64 0), (.int .i64 0), (.int .i64 0)]) 43)⟩,
      ⟨none, none, .e (.st 4 (.t 9) (.t 37))⟩])
              (.seq (.reg /- 12 -/ [⟨(some 38), none, .q (.mv (.t 8))⟩,
      ⟨(some 39), none, .q (.bin .mul true (.t 38) (.k (.int .i64 7)))⟩,
      ⟨(some 40), none, .q (.fa 3 (.t 9))⟩,
      ⟨(some 41), none, .l (.ld1 (.t 40))⟩,
      ⟨(some 42), none, .q (.cvt .u64 (.t 41))⟩,
      ⟨(some 43), none, .q (.bin .rem true (.t 42) (.k (.int .u64 7)))⟩,
      ⟨(some 44), none, .q (.cvt .i64 (.t 43))⟩,
      ⟨(some 45), none, .q (.bin .add true (.t 39) (.t 44))⟩,
      ⟨(some 46), none, .q (.fa 3 (.t 9))⟩,
      ⟨none, none, .e (.st 1 (.t 46) (.t 45))⟩])
                (.seq (.seq (.reg /- 13 -/ [⟨(some 47), none, .q (.fa 0 (.t 9))⟩,
      ⟨(some 48), none, .l (.ld1 (.t 47))⟩])
                  (.block 2 (.seq (.reg /- 23 -/ [⟨(some 83), none, .q (.bin .eql true (.t 48) (.k (.int .i64 0)))⟩,
      ⟨(some 82), none, .q (.mv (.t 83))⟩])
                      (.cond (.t 82)
                        (.seq (.reg /- 24 -/ [⟨(some 84), none, .q (.mv (.t 5))⟩,
      ⟨(some 85), none, .q (.fa 1 (.t 9))⟩,
      ⟨(some 86), none, .l (.ld1 (.t 85))⟩,
      ⟨(some 87), none, .q (.fa 2 (.t 9))⟩,
      ⟨(some 88), none, .l (.ld1 (.t 87))⟩,
      ⟨(some 89), none, .q (.fa 3 (.t 9))⟩,
      ⟨(some 90), none, .l (.ld1 (.t 89))⟩,
      ⟨(some 91), none, .cl 10 [(.t 84), (.t 86), (.t 88), (.t 90)] [0, 1, 2]⟩,
      ⟨(some 10), none, .q (.mv (.t 91))⟩])
                          (.seq (.seq (.reg /- 25 -/ [⟨(some 92), none, .q (.fa 1 (.t 9))⟩,
      ⟨(some 93), none, .l (.ld1 (.t 92))⟩,
      ⟨(some 94), none, .q (.mv (.t 1))⟩,
      ⟨(some 95), none, .q (.bin .eql true (.t 93) (.t 94))⟩,
      ⟨(some 96), none, .q (.mv (.t 95))⟩,
      ⟨(some 97), (some (96, true)), .q (.mv (.t 6))⟩,
      ⟨(some 98), (some (96, true)), .q (.fa 1 (.t 9))⟩,
      ⟨(some 99), (some (96, true)), .l (.ld1 (.t 98))⟩,
      ⟨(some 100), (some (96, true)), .q (.fa 2 (.t 9))⟩,
      ⟨(some 101), (some (96, true)), .l (.ld1 (.t 100))⟩,
      ⟨(some 102), (some (96, true)), .q (.fa 3 (.t 9))⟩,
      ⟨(some 103), (some (96, true)), .l (.ld1 (.t 102))⟩,
      ⟨(some 104), (some (96, true)), .cl 10 [(.t 97), (.t 99), (.t 101), (.t 103)] [3, 4, 5]⟩,
      ⟨(some 105), (some (96, true)), .q (.mv (.t 10))⟩,
      ⟨(some 106), (some (96, true)), .q (.bin .neq true (.t 104) (.t 105))⟩,
      ⟨(some 107), none, .pick (.t 96) (.t 106) (.k (.bool false))⟩])
                            (.cond (.t 107)
                              (.seq (.reg /- 26 -/ [⟨(some 4), none, .q (.mv (.k (.bool false)))⟩])
                                (.ret))
                              (.skip)))
                            (.seq (.reg /- 27 -/ [⟨(some 108), none, .q (.mv (.t 10))⟩,
      ⟨(some 109), none, .q (.bin .eql true (.t 108) (.k (.int .i64 0)))⟩])
                              (.cond (.t 109)
                                (.reg /- 28 -/ [⟨(some 110), none, .q (.mv (.t 6))⟩,
      ⟨(some 111), none, .q (.mv (.t 7))⟩,
      ⟨(some 112), none, .q (.fa 3 (.t 9))⟩,
      ⟨(some 113), none, .l (.ld1 (.t 112))⟩,
      ⟨(some 114), none, .cl 11 [(.t 110), (.t 111), (.t 113)] [3, 4, 5]⟩])
                                (.skip)))))
                        (.seq (.reg /- 29 -/ [⟨(some 116), none, .q (.bin .eql true (.t 48) (.k (.int .i64 1)))⟩,
      ⟨(some 115), none, .q (.mv (.t 116))⟩])
                          (.cond (.t 115)
                            (.seq (.reg /- 30 -/ [⟨(some 117), none, .q (.mv (.t 5))⟩,
      ⟨(some 118), none, .q (.fa 1 (.t 9))⟩,
      ⟨(some 119), none, .l (.ld1 (.t 118))⟩,
      ⟨(some 120), none, .cl 20 [(.t 117), (.t 119)] [0, 1, 2]⟩,
      ⟨(some 11), none, .q (.mv (.t 120))⟩])
                              (.seq (.reg /- 31 -/ [⟨(some 121), none, .q (.fa 1 (.t 9))⟩,
      ⟨(some 122), none, .l (.ld1 (.t 121))⟩,
      ⟨(some 123), none, .q (.mv (.t 1))⟩,
      ⟨(some 124), none, .q (.bin .eql true (.t 122) (.t 123))⟩,
      ⟨(some 125), none, .q (.mv (.t 124))⟩,
      ⟨(some 126), (some (125, true)), .q (.mv (.t 6))⟩,
      ⟨(some 127), (some (125, true)), .q (.fa 1 (.t 9))⟩,
      ⟨(some 128), (some (125, true)), .l (.ld1 (.t 127))⟩,
      ⟨(some 129), (some (125, true)), .cl 20 [(.t 126), (.t 128)] [3, 4, 5]⟩,
      ⟨(some 130), (some (125, true)), .q (.mv (.t 11))⟩,
      ⟨(some 131), (some (125, true)), .q (.bin .neq true (.t 129) (.t 130))⟩,
      ⟨(some 132), none, .pick (.t 125) (.t 131) (.k (.bool false))⟩])
                                (.cond (.t 132)
                                  (.seq (.reg /- 32 -/ [⟨(some 4), none, .q (.mv (.k (.bool false)))⟩])
                                    (.ret))
                                  (.skip))))
                            (.seq (.reg /- 33 -/ [⟨(some 134), none, .q (.bin .eql true (.t 48) (.k (.int .i64 2)))⟩,
      ⟨(some 133), none, .q (.mv (.t 134))⟩])
                              (.cond (.t 133)
                                (.seq (.reg /- 34 -/ [⟨(some 135), none, .q (.mv (.t 5))⟩,
      ⟨(some 136), none, .q (.fa 1 (.t 9))⟩,
      ⟨(some 137), none, .l (.ld1 (.t 136))⟩,
      ⟨(some 138), none, .q (.fa 3 (.t 9))⟩,
      ⟨(some 139), none, .l (.ld1 (.t 138))⟩,
      ⟨(some 140), none, .cl 11 [(.t 135), (.t 137), (.t 139)] [0, 1, 2]⟩,
      ⟨(some 12), none, .q (.mv (.t 140))⟩])
                                  (.seq (.seq (.reg /- 35 -/ [⟨(some 141), none, .q (.fa 1 (.t 9))⟩,
      ⟨(some 142), none, .l (.ld1 (.t 141))⟩,
      ⟨(some 143), none, .q (.mv (.t 1))⟩,
      ⟨(some 144), none, .q (.bin .eql true (.t 142) (.t 143))⟩,
      ⟨(some 145), none, .q (.mv (.t 144))⟩,
      ⟨(some 146), (some (145, true)), .q (.mv (.t 6))⟩,
      ⟨(some 147), (some (145, true)), .q (.fa 1 (.t 9))⟩,
      ⟨(some 148), (some (145, true)), .l (.ld1 (.t 147))⟩,
      ⟨(some 149), (some (145, true)), .q (.fa 3 (.t 9))⟩,
      ⟨(some 150), (some (145, true)), .l (.ld1 (.t 149))⟩,
      ⟨(some 151), (some (145, true)), .cl 11 [(.t 146), (.t 148), (.t 150)] [3, 4, 5]⟩,
      ⟨(some 152), (some (145, true)), .q (.mv (.t 12))⟩,
      ⟨(some 153), (some (145, true)), .q (.bin .neq true (.t 151) (.t 152))⟩,
      ⟨(some 154), none, .pick (.t 145) (.t 153) (.k (.bool false))⟩])
                                    (.cond (.t 154)
                                      (.seq (.reg /- 36 -/ [⟨(some 4), none, .q (.mv (.k (.bool false)))⟩])
                                        (.ret))
                                      (.skip)))
                                    (.seq (.reg /- 37 -/ [⟨(some 155), none, .q (.mv (.t 12))⟩,
      ⟨(some 156), none, .q (.bin .eql true (.t 155) (.k (.int .i64 0)))⟩])
                                      (.cond (.t 156)
                                        (.reg /- 38 -/ [⟨(some 157), none, .q (.mv (.t 6))⟩,
      ⟨(some 158), none, .q (.mv (.t 7))⟩,
      ⟨(some 159), none, .q (.fa 3 (.t 9))⟩,
      ⟨(some 160), none, .l (.ld1 (.t 159))⟩,
      ⟨(some 161), none, .cl 11 [(.t 157), (.t 158), (.t 160)] [3, 4, 5]⟩])
                                        (.skip)))))
                                (.seq (.reg /- 14 -/ [⟨(some 49), none, .q (.mv (.t 5))⟩,
      ⟨(some 50), none, .q (.fa 3 (.t 9))⟩,
      ⟨(some 51), none, .l (.ld1 (.t 50))⟩,
      ⟨(some 52), none, .cl 15 [(.t 49), (.t 51)] [0, 1, 2]⟩,
      ⟨(some 53), none, .cl 14 [(.t 52)] []⟩,
      ⟨(some 13), none, .q (.mv (.t 53))⟩])
                                  (.seq (.reg /- 15 -/ [⟨(some 14), none, .q (.mv (.k (.slice none 0 0)))⟩])
                                    (.seq (.seq (.reg /- 16 -/ [⟨(some 15), none, .q (.mv (.k (.int .i64 0)))⟩])
                                      (.block 3 (.loop (.seq (.seq (.reg /- 17 -/ [⟨(some 54), none, .q (.mv (.t 15))⟩,
      ⟨(some 55), none, .q (.mv (.t 13))⟩,
      ⟨(some 56), none, .q (.lnL (.t 55))⟩,
      ⟨(some 57), none, .q (.bin .lss true (.t 54) (.t 56))⟩])
                                            (.cond (.t 57)
                                              (.skip)
                                              (.exit 3)))
                                            (.seq (.block 4 (.seq (.reg /- 19 -/ [⟨(some 60), none, .q (.mv (.t 13))⟩,
      ⟨(some 61), none, .q (.mv (.t 15))⟩,
      ⟨(some 62), none, .l (.ia 3 (.t 60) (.t 61))⟩,
      ⟨(some 63), none, .q (.fa 0 (.t 62))⟩,
      ⟨(some 64), none, .l (.ld1 (.t 63))⟩,
      ⟨(some 65), none, .q (.mv (.t 1))⟩,
      ⟨(some 66), none, .q (.bin .eql true (.t 64) (.t 65))⟩])
                                                (.cond (.t 66)
                                                  (.reg /- 20 -/ [⟨(some 67), none, .q (.mv (.t 14))⟩,
      ⟨(some 68), none, .q (.mv (.t 13))⟩,
      ⟨(some 69), none, .q (.mv (.t 15))⟩,
      ⟨(some 70), none, .l (.ia 3 (.t 68) (.t 69))⟩,
      ⟨(some 71), none, .l (.ldn 3 (.t 70))⟩,
      ⟨(some 72), none, .e (.bsl 31 3 [(.t 71)])⟩,
      ⟨(some 73), none, .e (.ap 31 3 24 (.t 67) (.t 72))⟩,
      ⟨(some 14), none, .q (.mv (.t 73))⟩])
                                                  (.skip))))
                                              (.reg /- 18 -/ [⟨(some 58), none, .q (.mv (.t 15))⟩,
      ⟨(some 59), none, .q (.bin .add true (.t 58) (.k (.int .i64 1)))⟩,
      ⟨(some 15), none, .q (.mv (.t 59))⟩]))))))
                                      (.seq (.reg /- 21 -/ [⟨(some 74), none, .q (.mv (.t 6))⟩,
      ⟨(some 75), none, .q (.fa 3 (.t 9))⟩,
      ⟨(some 76), none, .l (.ld1 (.t 75))⟩,
      ⟨(some 77), none, .cl 15 [(.t 74), (.t 76)] [3, 4, 5]⟩,
      ⟨(some 78), none, .cl 14 [(.t 77)] []⟩,
      ⟨(some 79), none, .q (.mv (.t 14))⟩,
      ⟨(some 80), none, .cq 13 [(.t 78), (.t 79)]⟩,
      ⟨(some 81), none, .q (.not (.t 80))⟩])
                                        (.cond (.t 81)
                                          (.seq (.reg /- 22 -/ [⟨(some 4), none, .q (.mv (.k (.bool false)))⟩])
                                            (.ret))
                                          (.skip))))))))))))))
                  (pc6_39)))))
            (.reg /- 10 -/ [⟨(some 32), none, .q (.mv (.t 8))⟩,
      ⟨(some 33), none, .q (.bin .add true (.t 32) (.k (.int .i64 1)))⟩,
      ⟨(some 8), none, .q (.mv (.t 33))⟩]))))))
    (.seq (.reg /- 41 -/ [⟨(some 174), none, .cq 8 []⟩,
      ⟨(some 4), none, .q (.mv (.t 174))⟩])
      (.ret)))
@[go_sem ↓] theorem fold6_7 (Γ : Env) (k0 : Nat) (fr : Fr) (H : Hp) (K : Ex → Fr → Hp → Prop) : vc Γ k0 pc6_7 fr H K = vcn Γ k0 pc6_7 fr H K ⟨⟩ := rfl
def pc6 : PC :=
  .seq (.reg /- 0 -/ [⟨(some 4), none, .q (.mv (.k (.bool false)))⟩])
  (.seq (.seq (.reg /- 1 -/ [⟨(some 16), none, .q (.mv (.t 0))⟩,
      ⟨(some 17), none, .q (.lnL (.t 16))⟩,
      ⟨(some 18), none, .q (.bin .gtr true (.t 17) (.k (.int .i64 40)))⟩])
    (.cond (.t 18)
      (.seq (.reg /- 2 -/ [⟨(some 19), none, .cq 8 []⟩,
      ⟨(some 4), none, .q (.mv (.t 19))⟩])
        (.ret))
      (.skip)))
    (.seq (.reg /- 3 -/ [⟨(some 20), none, .cl 9 [] []⟩,
      ⟨(some 21), none, .cl 9 [] []⟩,
      ⟨(some 5), none, .q (.mv (.t 20))⟩,
      ⟨(some 6), none, .q (.mv (.t 21))⟩])
      (.seq (.reg /- 4 -/ [⟨(some 7), none, .q (.mv (.k (.int .i64 1)))⟩])
        (.seq (.seq (.reg /- 5 -/ [⟨(some 22), none, .q (.mv (.t 1))⟩,
      ⟨(some 23), none, .q (.mv (.t 7))⟩,
      ⟨(some 24), none, .q (.bin .eql true (.t 22) (.t 23))⟩])
          (.cond (.t 24)
            (.reg /- 6 -/ [⟨(some 7), none, .q (.mv (.k (.int .i64 2)))⟩])
            (.skip)))
          (pc6_7)))))
def rs6 : List RV := [.mv (.t 4)]
theorem ok6 : trFn Try.prog true ⟨fun r k => if r = 2 ∧ k = 0 then .q else if r = 3 ∧ k = 0 then .own [] else if r = 3 ∧ k = 1 then .own [] else if r = 7 ∧ k = 2 then .own [3, 4, 5] else if r = 24 ∧ k = 7 then .own [0, 1, 2] else if r = 25 ∧ k = 12 then .own [3, 4, 5] else if r = 28 ∧ k = 4 then .own [3, 4, 5] else if r = 30 ∧ k = 3 then .own [0, 1, 2] else if r = 31 ∧ k = 8 then .own [3, 4, 5] else if r = 34 ∧ k = 5 then .own [0, 1, 2] else if r = 35 ∧ k = 10 then .own [3, 4, 5] else if r = 38 ∧ k = 4 then .own [3, 4, 5] else if r = 14 ∧ k = 3 then .own [0, 1, 2] else if r = 14 ∧ k = 4 then .own [] else if r = 21 ∧ k = 3 then .own [3, 4, 5] else if r = 21 ∧ k = 4 then .own [] else if r = 21 ∧ k = 6 then .q else if r = 39 ∧ k = 2 then .own [0, 1, 2] else if r = 39 ∧ k = 5 then .own [3, 4, 5] else if r = 41 ∧ k = 0 then .q else .own [], fun r => [7, 39].contains r⟩ Try.f6 = some (pc6, rs6) := by kernel_rfl
end Go.Proofs.Ytngmjggconefcaa
