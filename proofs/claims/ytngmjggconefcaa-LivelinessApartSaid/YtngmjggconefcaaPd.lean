import Derived.Test.YtngmjggconefcaaProg
import Derived.Test.YtngmjggconefcaaW15
namespace Go.Proofs.Ytngmjggconefcaa
open Go.W
/- robotics/roboticslaw22.LivelinessAlternates -/
def pc4_11 : PC :=
  .seq (.seq (.gh (.reg /- 11 -/ [⟨(some 8), none, .q (.mv (.k (.int .i64 1)))⟩]))
  (.block 3 (.loop (.seq (.seq (.reg /- 12 -/ [⟨(some 33), none, .q (.mv (.t 8))⟩,
      ⟨(some 34), none, .q (.mv (.t 7))⟩,
      ⟨(some 35), none, .q (.lnL (.t 34))⟩,
      ⟨(some 36), none, .q (.bin .lss true (.t 33) (.t 35))⟩])
        (.cond (.t 36)
          (.skip)
          (.exit 3)))
        (.seq (.block 4 (.seq (.reg /- 14 -/ [⟨(some 39), none, .q (.mv (.t 7))⟩,
      ⟨(some 40), none, .q (.mv (.t 8))⟩,
      ⟨(some 41), none, .q (.bin .sub true (.t 40) (.k (.int .i64 1)))⟩,
      ⟨(some 42), none, .l (.ia 3 (.t 39) (.t 41))⟩,
      ⟨(some 43), none, .q (.fa 1 (.t 42))⟩,
      ⟨(some 44), none, .l (.ld1 (.t 43))⟩,
      ⟨(some 45), none, .q (.mv (.t 7))⟩,
      ⟨(some 46), none, .q (.mv (.t 8))⟩,
      ⟨(some 47), none, .l (.ia 3 (.t 45) (.t 46))⟩,
      ⟨(some 48), none, .q (.fa 1 (.t 47))⟩,
      ⟨(some 49), none, .l (.ld1 (.t 48))⟩,
      ⟨(some 50), none, .q (.bin .gtr true (.t 44) (.t 49))⟩,
      ⟨(some 51), none, .q (.mv (.t 50))⟩,
      ⟨(some 52), (some (51, false)), .q (.mv (.t 7))⟩,
      ⟨(some 53), (some (51, false)), .q (.mv (.t 8))⟩,
      ⟨(some 54), (some (51, false)), .q (.bin .sub true (.t 53) (.k (.int .i64 1)))⟩,
      ⟨(some 55), (some (51, false)), .l (.ia 3 (.t 52) (.t 54))⟩,
      ⟨(some 56), (some (51, false)), .q (.fa 1 (.t 55))⟩,
      ⟨(some 57), (some (51, false)), .l (.ld1 (.t 56))⟩,
      ⟨(some 58), (some (51, false)), .q (.mv (.t 7))⟩,
      ⟨(some 59), (some (51, false)), .q (.mv (.t 8))⟩,
      ⟨(some 60), (some (51, false)), .l (.ia 3 (.t 58) (.t 59))⟩,
      ⟨(some 61), (some (51, false)), .q (.fa 1 (.t 60))⟩,
      ⟨(some 62), (some (51, false)), .l (.ld1 (.t 61))⟩,
      ⟨(some 63), (some (51, false)), .q (.bin .eql true (.t 57) (.t 62))⟩,
      ⟨(some 64), (some (51, false)), .q (.mv (.t 63))⟩,
      ⟨(some 65), (some (64, true)), .q (.mv (.t 7))⟩,
      ⟨(some 66), (some (64, true)), .q (.mv (.t 8))⟩,
      ⟨(some 67), (some (64, true)), .q (.bin .sub true (.t 66) (.k (.int .i64 1)))⟩,
      ⟨(some 68), (some (64, true)), .l (.ia 3 (.t 65) (.t 67))⟩,
      ⟨(some 69), (some (64, true)), .q (.fa 0 (.t 68))⟩,
      ⟨(some 70), (some (64, true)), .l (.ld1 (.t 69))⟩,
      ⟨(some 71), (some (64, true)), .q (.mv (.t 7))⟩,
      ⟨(some 72), (some (64, true)), .q (.mv (.t 8))⟩,
      ⟨(some 73), (some (64, true)), .l (.ia 3 (.t 71) (.t 72))⟩,
      ⟨(some 74), (some (64, true)), .q (.fa 0 (.t 73))⟩,
      ⟨(some 75), (some (64, true)), .l (.ld1 (.t 74))⟩,
      ⟨(some 76), (some (64, true)), .q (.bin .gtr true (.t 70) (.t 75))⟩,
      ⟨(some 77), (some (51, false)), .pick (.t 64) (.t 76) (.k (.bool false))⟩,
      ⟨(some 78), none, .pick (.t 51) (.k (.bool true)) (.t 77)⟩])
            (.cond (.t 78)
              (.seq (.reg /- 15 -/ [⟨(some 2), none, .q (.mv (.k (.bool false)))⟩])
                (.ret))
              (.skip))))
          (.reg /- 13 -/ [⟨(some 37), none, .q (.mv (.t 8))⟩,
      ⟨(some 38), none, .q (.bin .add true (.t 37) (.k (.int .i64 1)))⟩,
      ⟨(some 8), none, .q (.mv (.t 38))⟩]))))))
  (.reg /- 16 -/ [⟨(some 79), none, .q (.mv (.t 4))⟩,
      ⟨(some 80), none, .q (.mv (.t 7))⟩,
      ⟨(some 81), none, .e (.ap 44 3 24 (.t 79) (.t 80))⟩,
      ⟨(some 4), none, .q (.mv (.t 81))⟩])
@[go_sem ↓] theorem fold4_11 (Γ : Env) (k0 : Nat) (fr : Fr) (H : Hp) (K : Ex → Fr → Hp → Prop) : vc Γ k0 pc4_11 fr H K = vcn Γ k0 pc4_11 fr H K ⟨⟩ := rfl
def pc4 : PC :=
  .seq (.reg /- 0 -/ [⟨(some 2), none, .q (.mv (.k (.bool false)))⟩])
  (.seq (.seq (.reg /- 1 -/ [⟨(some 12), none, .q (.mv (.t 0))⟩,
      ⟨(some 13), none, .q (.lnL (.t 12))⟩,
      ⟨(some 14), none, .q (.bin .gtr true (.t 13) (.k (.int .i64 60)))⟩])
    (.cond (.t 14)
      (.seq (.reg /- 2 -/ [⟨(some 15), none, .cq 8 []⟩,
      ⟨(some 2), none, .q (.mv (.t 15))⟩])
        (.ret))
      (.skip)))
    (.seq (.reg /- 3 -/ [⟨(some 16), none, .cl 9 [] []⟩,
      ⟨(some 3), none, .q (.mv (.t 16))⟩])
      (.seq (.reg /- 4 -/ [⟨(some 4), none, .q (.mv (.k (.slice none 0 0)))⟩])
        (.seq (.seq (.reg /- 5 -/ [⟨(some 5), none, .q (.mv (.k (.int .i64 0)))⟩])
          (.block 0 (.loop (.seq (.seq (.reg /- 6 -/ [⟨(some 17), none, .q (.mv (.t 5))⟩,
      ⟨(some 18), none, .q (.mv (.t 0))⟩,
      ⟨(some 19), none, .q (.lnL (.t 18))⟩,
      ⟨(some 20), none, .q (.bin .lss true (.t 17) (.t 19))⟩])
                (.cond (.t 20)
                  (.skip)
                  (.exit 0)))
                (.seq (.block 1 (.seq (.reg /- 8 -/ [⟨(some 23), none, .q (.mv (.t 0))⟩,
      ⟨(some 24), none, .q (.mv (.t 5))⟩,
      ⟨(some 25), none, .l (.ia 4 (.t 23) (.t 24))⟩,
      ⟨(some 26), none, .l (.ldn 4 (.t 25))⟩,
      ⟨(some 6), none, .e (.al (.agg #[(.int .i64 0), (.int .i64 0), (.int .i64 0), (.int .i64 0)]) 43)⟩,
      ⟨none, none, .e (.st 4 (.t 6) (.t 26))⟩])
                    (.seq (.reg /- 9 -/ [⟨(some 27), none, .q (.fa 0 (.t 6))⟩,
      ⟨(some 28), none, .l (.ld1 (.t 27))⟩])
                      (.block 2 (.seq (.reg /- 17 -/ [⟨(some 83), none, .q (.bin .eql true (.t 28) (.k (.int .i64 0)))⟩,
      ⟨(some 82), none, .q (.mv (.t 83))⟩])
                          (.cond (.t 82)
                            (.reg /- 18 -/ [⟨(some 84), none, .q (.mv (.t 3))⟩,
      ⟨(some 85), none, .q (.fa 1 (.t 6))⟩,
      ⟨(some 86), none, .l (.ld1 (.t 85))⟩,
      ⟨(some 87), none, .q (.fa 2 (.t 6))⟩,
      ⟨(some 88), none, .l (.ld1 (.t 87))⟩,
      ⟨(some 89), none, .q (.fa 3 (.t 6))⟩,
      ⟨(some 90), none, .l (.ld1 (.t 89))⟩,
      ⟨(some 91), none, .cl 10 [(.t 84), (.t 86), (.t 88), (.t 90)] [0, 1, 2]⟩])
                            (.seq (.seq (.reg /- 19 -/ [⟨(some 93), none, .q (.bin .eql true (.t 28) (.k (.int .i64 1)))⟩,
      ⟨(some 92), none, .q (.mv (.t 93))⟩])
                              (.cond (.t 92)
                                (.skip)
                                (.reg /- 20 -/ [⟨(some 94), none, .q (.bin .eql true (.t 28) (.k (.int .i64 2)))⟩,
      ⟨(some 92), none, .q (.mv (.t 94))⟩])))
                              (.cond (.t 92)
                                (.reg /- 21 -/ [⟨(some 95), none, .q (.mv (.t 3))⟩,
      ⟨(some 96), none, .q (.fa 1 (.t 6))⟩,
      ⟨(some 97), none, .l (.ld1 (.t 96))⟩,
      ⟨(some 98), none, .q (.fa 3 (.t 6))⟩,
      ⟨(some 99), none, .l (.ld1 (.t 98))⟩,
      ⟨(some 100), none, .cl 11 [(.t 95), (.t 97), (.t 99)] [0, 1, 2]⟩])
                                (.seq (.reg /- 10 -/ [⟨(some 29), none, .q (.mv (.t 3))⟩,
      ⟨(some 30), none, .q (.fa 3 (.t 6))⟩,
      ⟨(some 31), none, .l (.ld1 (.t 30))⟩,
      ⟨(some 32), none, .cl 15 [(.t 29), (.t 31)] [0, 1, 2]⟩,
      ⟨(some 7), none, .q (.mv (.t 32))⟩])
                                  (pc4_11))))))))))
                  (.reg /- 7 -/ [⟨(some 21), none, .q (.mv (.t 5))⟩,
      ⟨(some 22), none, .q (.bin .add true (.t 21) (.k (.int .i64 1)))⟩,
      ⟨(some 5), none, .q (.mv (.t 22))⟩]))))))
          (.seq (.seq (.reg /- 22 -/ [⟨(some 9), none, .q (.mv (.k (.int .i64 0)))⟩])
            (.block 5 (.loop (.seq (.seq (.reg /- 23 -/ [⟨(some 101), none, .q (.mv (.t 9))⟩,
      ⟨(some 102), none, .q (.mv (.t 4))⟩,
      ⟨(some 103), none, .q (.lnL (.t 102))⟩,
      ⟨(some 104), none, .q (.bin .lss true (.t 101) (.t 103))⟩])
                  (.cond (.t 104)
                    (.skip)
                    (.exit 5)))
                  (.seq (.block 6 (.seq (.reg /- 25 -/ [⟨(some 10), none, .q (.mv (.k (.int .i64 (-1))))⟩])
                      (.seq (.seq (.reg /- 26 -/ [⟨(some 11), none, .q (.mv (.k (.int .i64 0)))⟩])
                        (.block 7 (.loop (.seq (.seq (.reg /- 27 -/ [⟨(some 107), none, .q (.mv (.t 11))⟩,
      ⟨(some 108), none, .q (.mv (.t 9))⟩,
      ⟨(some 109), none, .q (.bin .lss true (.t 107) (.t 108))⟩])
                              (.cond (.t 109)
                                (.skip)
                                (.exit 7)))
                              (.seq (.block 8 (.seq (.reg /- 29 -/ [⟨(some 112), none, .q (.mv (.t 4))⟩,
      ⟨(some 113), none, .q (.mv (.t 11))⟩,
      ⟨(some 114), none, .l (.ia 3 (.t 112) (.t 113))⟩,
      ⟨(some 115), none, .q (.fa 0 (.t 114))⟩,
      ⟨(some 116), none, .l (.ld1 (.t 115))⟩,
      ⟨(some 117), none, .q (.mv (.t 4))⟩,
      ⟨(some 118), none, .q (.mv (.t 9))⟩,
      ⟨(some 119), none, .l (.ia 3 (.t 117) (.t 118))⟩,
      ⟨(some 120), none, .q (.fa 0 (.t 119))⟩,
      ⟨(some 121), none, .l (.ld1 (.t 120))⟩,
      ⟨(some 122), none, .q (.bin .eql true (.t 116) (.t 121))⟩])
                                  (.cond (.t 122)
                                    (.reg /- 30 -/ [⟨(some 123), none, .q (.mv (.t 11))⟩,
      ⟨(some 10), none, .q (.mv (.t 123))⟩])
                                    (.skip))))
                                (.reg /- 28 -/ [⟨(some 110), none, .q (.mv (.t 11))⟩,
      ⟨(some 111), none, .q (.bin .add true (.t 110) (.k (.int .i64 1)))⟩,
      ⟨(some 11), none, .q (.mv (.t 111))⟩]))))))
                        (.seq (.seq (.reg /- 31 -/ [⟨(some 124), none, .q (.mv (.t 10))⟩,
      ⟨(some 125), none, .q (.bin .lss true (.t 124) (.k (.int .i64 0)))⟩,
      ⟨(some 126), none, .q (.mv (.t 125))⟩,
      ⟨(some 127), (some (126, true)), .q (.mv (.t 4))⟩,
      ⟨(some 128), (some (126, true)), .q (.mv (.t 9))⟩,
      ⟨(some 129), (some (126, true)), .l (.ia 3 (.t 127) (.t 128))⟩,
      ⟨(some 130), (some (126, true)), .q (.fa 2 (.t 129))⟩,
      ⟨(some 131), (some (126, true)), .l (.ld1 (.t 130))⟩,
      ⟨(some 132), none, .pick (.t 126) (.t 131) (.k (.bool false))⟩])
                          (.cond (.t 132)
                            (.seq (.reg /- 32 -/ [⟨(some 2), none, .q (.mv (.k (.bool false)))⟩])
                              (.ret))
                            (.skip)))
                          (.seq (.reg /- 33 -/ [⟨(some 133), none, .q (.mv (.t 10))⟩,
      ⟨(some 134), none, .q (.bin .geq true (.t 133) (.k (.int .i64 0)))⟩,
      ⟨(some 135), none, .q (.mv (.t 134))⟩,
      ⟨(some 136), (some (135, true)), .q (.mv (.t 4))⟩,
      ⟨(some 137), (some (135, true)), .q (.mv (.t 10))⟩,
      ⟨(some 138), (some (135, true)), .l (.ia 3 (.t 136) (.t 137))⟩,
      ⟨(some 139), (some (135, true)), .q (.fa 2 (.t 138))⟩,
      ⟨(some 140), (some (135, true)), .l (.ld1 (.t 139))⟩,
      ⟨(some 141), (some (135, true)), .q (.mv (.t 4))⟩,
      ⟨(some 142), (some (135, true)), .q (.mv (.t 9))⟩,
      ⟨(some 143), (some (135, true)), .l (.ia 3 (.t 141) (.t 142))⟩,
      ⟨(some 144), (some (135, true)), .q (.fa 2 (.t 143))⟩,
      ⟨(some 145), (some (135, true)), .l (.ld1 (.t 144))⟩,
      ⟨(some 146), (some (135, true)), .q (.eqB false (.t 140) (.t 145))⟩,
      ⟨(some 147), (some (135, true)), .q (.mv (.t 146))⟩,
      ⟨(some 148), (some (147, false)), .q (.mv (.t 4))⟩,
      ⟨(some 149), (some (147, false)), .q (.mv (.t 10))⟩,
      ⟨(some 150), (some (147, false)), .l (.ia 3 (.t 148) (.t 149))⟩,
      ⟨(some 151), (some (147, false)), .q (.fa 1 (.t 150))⟩,
      ⟨(some 152), (some (147, false)), .l (.ld1 (.t 151))⟩,
      ⟨(some 153), (some (147, false)), .q (.mv (.t 4))⟩,
      ⟨(some 154), (some (147, false)), .q (.mv (.t 9))⟩,
      ⟨(some 155), (some (147, false)), .l (.ia 3 (.t 153) (.t 154))⟩,
      ⟨(some 156), (some (147, false)), .q (.fa 1 (.t 155))⟩,
      ⟨(some 157), (some (147, false)), .l (.ld1 (.t 156))⟩,
      ⟨(some 158), (some (147, false)), .q (.bin .gtr true (.t 152) (.t 157))⟩,
      ⟨(some 159), (some (135, true)), .pick (.t 147) (.k (.bool true)) (.t 158)⟩,
      ⟨(some 160), none, .pick (.t 135) (.t 159) (.k (.bool false))⟩])
                            (.cond (.t 160)
                              (.seq (.reg /- 34 -/ [⟨(some 2), none, .q (.mv (.k (.bool false)))⟩])
                                (.ret))
                              (.skip)))))))
                    (.reg /- 24 -/ [⟨(some 105), none, .q (.mv (.t 9))⟩,
      ⟨(some 106), none, .q (.bin .add true (.t 105) (.k (.int .i64 1)))⟩,
      ⟨(some 9), none, .q (.mv (.t 106))⟩]))))))
            (.seq (.reg /- 35 -/ [⟨(some 161), none, .cq 8 []⟩,
      ⟨(some 2), none, .q (.mv (.t 161))⟩])
              (.ret)))))))
def rs4 : List RV := [.mv (.t 2)]
theorem ok4 : trFn Try.prog true ⟨fun r k => if r = 2 ∧ k = 0 then .q else if r = 3 ∧ k = 0 then .own [] else if r = 18 ∧ k = 7 then .own [0, 1, 2] else if r = 21 ∧ k = 5 then .own [0, 1, 2] else if r = 10 ∧ k = 3 then .own [0, 1, 2] else if r = 35 ∧ k = 0 then .q else .own [], fun r => [11].contains r⟩ Try.f4 = some (pc4, rs4) := by kernel_rfl
/-- robotics/roboticslaw22.LivelinessNobody -/
def pc7 : PC :=
  .seq (.reg /- 0 -/ [⟨(some 6), none, .q (.mv (.k (.bool false)))⟩])
  (.seq (.reg /- 1 -/ [⟨(some 7), none, .q (.mv (.k (.pointer none)))⟩])
    (.seq (.reg /- 2 -/ [⟨(some 11), none, .q (.mv (.t 7))⟩,
      ⟨(some 12), none, .cl 16 [(.t 11)] []⟩,
      ⟨(some 10), none, .q (.mv (.t 12))⟩,
      ⟨(some 13), none, .q (.ex (.t 10) 0)⟩,
      ⟨(some 14), none, .q (.ex (.t 10) 1)⟩,
      ⟨(some 8), none, .q (.mv (.t 13))⟩,
      ⟨(some 9), none, .q (.mv (.t 14))⟩])
      (.seq (.reg /- 3 -/ [⟨(some 15), none, .q (.mv (.t 7))⟩,
      ⟨(some 16), none, .q (.mv (.t 0))⟩,
      ⟨(some 17), none, .q (.mv (.t 1))⟩,
      ⟨(some 18), none, .q (.mv (.t 2))⟩,
      ⟨(some 19), none, .cl 10 [(.t 15), (.t 16), (.t 17), (.t 18)] []⟩,
      ⟨(some 20), none, .q (.bin .eql true (.t 19) (.k (.int .i64 6)))⟩,
      ⟨(some 21), none, .q (.mv (.t 20))⟩,
      ⟨(some 22), (some (21, true)), .q (.mv (.t 7))⟩,
      ⟨(some 23), (some (21, true)), .q (.mv (.t 0))⟩,
      ⟨(some 24), (some (21, true)), .cl 20 [(.t 22), (.t 23)] []⟩,
      ⟨(some 25), (some (21, true)), .q (.bin .eql true (.t 24) (.k (.int .i64 6)))⟩,
      ⟨(some 26), none, .pick (.t 21) (.t 25) (.k (.bool false))⟩,
      ⟨(some 27), none, .q (.mv (.t 26))⟩,
      ⟨(some 28), (some (27, true)), .q (.mv (.t 7))⟩,
      ⟨(some 29), (some (27, true)), .q (.mv (.t 0))⟩,
      ⟨(some 30), (some (27, true)), .q (.mv (.t 2))⟩,
      ⟨(some 31), (some (27, true)), .cl 11 [(.t 28), (.t 29), (.t 30)] []⟩,
      ⟨(some 32), (some (27, true)), .q (.bin .eql true (.t 31) (.k (.int .i64 6)))⟩,
      ⟨(some 33), none, .pick (.t 27) (.t 32) (.k (.bool false))⟩,
      ⟨(some 34), none, .q (.mv (.t 33))⟩,
      ⟨(some 35), (some (34, true)), .q (.mv (.t 7))⟩,
      ⟨(some 36), (some (34, true)), .q (.mv (.t 2))⟩,
      ⟨(some 37), (some (34, true)), .cl 15 [(.t 35), (.t 36)] []⟩,
      ⟨(some 38), (some (34, true)), .q (.lnL (.t 37))⟩,
      ⟨(some 39), (some (34, true)), .q (.bin .eql true (.t 38) (.k (.int .i64 0)))⟩,
      ⟨(some 40), none, .pick (.t 34) (.t 39) (.k (.bool false))⟩,
      ⟨(some 41), none, .q (.mv (.t 40))⟩,
      ⟨(some 42), (some (41, true)), .q (.mv (.t 7))⟩,
      ⟨(some 43), (some (41, true)), .q (.mv (.t 0))⟩,
      ⟨(some 44), (some (41, true)), .cl 12 [(.t 42), (.t 43)] []⟩,
      ⟨(some 45), (some (41, true)), .q (.not (.t 44))⟩,
      ⟨(some 46), none, .pick (.t 41) (.t 45) (.k (.bool false))⟩,
      ⟨(some 47), none, .q (.mv (.t 46))⟩,
      ⟨(some 48), (some (47, true)), .q (.mv (.t 8))⟩,
      ⟨(some 49), (some (47, true)), .q (.bin .eql true (.t 48) (.k (.int .i64 0)))⟩,
      ⟨(some 50), none, .pick (.t 47) (.t 49) (.k (.bool false))⟩,
      ⟨(some 51), none, .q (.mv (.t 50))⟩,
      ⟨(some 52), (some (51, true)), .q (.mv (.t 9))⟩,
      ⟨(some 53), (some (51, true)), .q (.not (.t 52))⟩,
      ⟨(some 54), none, .pick (.t 51) (.t 53) (.k (.bool false))⟩,
      ⟨(some 55), none, .q (.mv (.t 54))⟩,
      ⟨(some 56), (some (55, true)), .cq 8 []⟩,
      ⟨(some 57), none, .pick (.t 55) (.t 56) (.k (.bool false))⟩,
      ⟨(some 6), none, .q (.mv (.t 57))⟩])
        (.ret))))
def rs7 : List RV := [.mv (.t 6)]
theorem ok7 : trFn Try.prog true ⟨fun r k => if r = 2 ∧ k = 1 then .own [] else if r = 3 ∧ k = 4 then .own [] else if r = 3 ∧ k = 9 then .own [] else if r = 3 ∧ k = 16 then .own [] else if r = 3 ∧ k = 22 then .own [] else if r = 3 ∧ k = 29 then .own [] else if r = 3 ∧ k = 41 then .q else .own [], fun _ => false⟩ Try.f7 = some (pc7, rs7) := by kernel_rfl
end Go.Proofs.Ytngmjggconefcaa
