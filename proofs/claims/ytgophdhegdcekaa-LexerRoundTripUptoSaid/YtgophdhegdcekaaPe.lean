import Derived.Test.YtgophdhegdcekaaProg
import Derived.Test.YtgophdhegdcekaaW15
namespace Go.Proofs.Ytgophdhegdcekaa
open Go.W
/-- robotics/roboticsref06.Scan -/
def pc9 : PC :=
  .seq (.reg /- 0 -/ [⟨(some 2), none, .q (.mv (.k (.slice none 0 0)))⟩,
      ⟨(some 3), none, .q (.mv (.k (.int .i64 0)))⟩,
      ⟨(some 4), none, .q (.mv (.k (.int .i64 0)))⟩])
  (.seq (.seq (.reg /- 1 -/ [⟨(some 12), none, .q (.mv (.t 0))⟩,
      ⟨(some 13), none, .q (.lnS (.t 12))⟩,
      ⟨(some 14), none, .q (.bin .gtr true (.t 13) (.k (.int .i64 4000)))⟩])
    (.cond (.t 14)
      (.seq (.reg /- 2 -/ [⟨(some 2), none, .q (.mv (.k (.slice none 0 0)))⟩,
      ⟨(some 3), none, .q (.mv (.k (.int .i64 3)))⟩,
      ⟨(some 4), none, .q (.mv (.k (.int .i64 0)))⟩])
        (.ret))
      (.skip)))
    (.seq (.reg /- 3 -/ [⟨(some 5), none, .q (.mv (.k (.slice none 0 0)))⟩])
      (.seq (.reg /- 4 -/ [⟨(some 15), none, .q (.mv (.t 0))⟩,
      ⟨(some 16), none, .cq 28 [(.t 15), (.k (.int .i64 0))]⟩,
      ⟨(some 6), none, .q (.mv (.t 16))⟩])
        (.seq (.block 0 (.loop (.seq (.seq (.reg /- 5 -/ [⟨(some 17), none, .q (.mv (.t 6))⟩,
      ⟨(some 18), none, .q (.mv (.t 0))⟩,
      ⟨(some 19), none, .q (.lnS (.t 18))⟩,
      ⟨(some 20), none, .q (.bin .lss true (.t 17) (.t 19))⟩])
              (.cond (.t 20)
                (.skip)
                (.exit 0)))
              (.block 1 (.seq (.reg /- 6 -/ [⟨(some 21), none, .q (.mv (.t 6))⟩,
      ⟨(some 22), none, .q (.bd [(.int .i64 0), (.string (mk [])), (.int .i64 0), (.int .i64 0)] [(3, 1, (.t 21))])⟩,
      ⟨(some 7), none, .e (.al (.agg #[(.int .i64 0), (.string (mk [])), (.int .i64 0), (.int .i64 0)]) 30)⟩,
      ⟨none, none, .e (.st 4 (.t 7) (.t 22))⟩])
                  (.seq (.reg /- 7 -/ [⟨(some 23), none, .q (.mv (.t 6))⟩,
      ⟨(some 24), none, .q (.bin .add true (.t 23) (.k (.int .i64 1)))⟩,
      ⟨(some 8), none, .q (.mv (.t 24))⟩,
      ⟨(some 9), none, .q (.mv (.k (.int .i64 0)))⟩,
      ⟨(some 10), none, .q (.mv (.k (.int .i64 0)))⟩])
                    (.seq (.reg /- 8 -/ [⟨(some 25), none, .q (.mv (.t 0))⟩,
      ⟨(some 26), none, .q (.mv (.t 6))⟩,
      ⟨(some 27), none, .ix (.t 25) (.t 26)⟩,
      ⟨(some 11), none, .q (.mv (.t 27))⟩])
                      (.seq (.block 2 (.seq (.reg /- 10 -/ [⟨(some 30), none, .q (.mv (.t 11))⟩,
      ⟨(some 31), none, .cq 29 [(.t 30)]⟩,
      ⟨(some 29), none, .q (.mv (.t 31))⟩])
                          (.cond (.t 29)
                            (.seq (.reg /- 11 -/ [⟨(some 33), none, .q (.mv (.t 0))⟩,
      ⟨(some 34), none, .q (.mv (.t 6))⟩,
      ⟨(some 35), none, .cl 30 [(.t 33), (.t 34)] []⟩,
      ⟨(some 32), none, .q (.mv (.t 35))⟩,
      ⟨(some 36), none, .q (.ex (.t 32) 0)⟩,
      ⟨(some 37), none, .q (.ex (.t 32) 1)⟩,
      ⟨(some 38), none, .q (.ex (.t 32) 2)⟩,
      ⟨(some 8), none, .q (.mv (.t 36))⟩,
      ⟨(some 9), none, .q (.mv (.t 37))⟩,
      ⟨(some 10), none, .q (.mv (.t 38))⟩])
                              (.seq (.reg /- 12 -/ [⟨(some 39), none, .q (.fa 0 (.t 7))⟩,
      ⟨none, none, .e (.st 1 (.t 39) (.k (.int .i64 1)))⟩])
                                (.reg /- 13 -/ [⟨(some 40), none, .q (.mv (.t 0))⟩,
      ⟨(some 41), none, .q (.mv (.t 6))⟩,
      ⟨(some 42), none, .q (.mv (.t 8))⟩,
      ⟨(some 43), none, .q (.ss (.t 40) (some (.t 41)) (some (.t 42)))⟩,
      ⟨(some 44), none, .q (.fa 1 (.t 7))⟩,
      ⟨none, none, .e (.st 1 (.t 44) (.t 43))⟩])))
                            (.seq (.reg /- 14 -/ [⟨(some 46), none, .q (.mv (.t 11))⟩,
      ⟨(some 47), none, .cq 31 [(.t 46)]⟩,
      ⟨(some 48), none, .q (.mv (.t 47))⟩,
      ⟨(some 49), (some (48, false)), .q (.mv (.t 11))⟩,
      ⟨(some 50), (some (48, false)), .q (.bin .eql true (.t 49) (.k (.int .u8 45)))⟩,
      ⟨(some 51), none, .pick (.t 48) (.k (.bool true)) (.t 50)⟩,
      ⟨(some 45), none, .q (.mv (.t 51))⟩])
                              (.cond (.t 45)
                                (.seq (.reg /- 15 -/ [⟨(some 53), none, .q (.mv (.t 0))⟩,
      ⟨(some 54), none, .q (.mv (.t 6))⟩,
      ⟨(some 55), none, .cl 32 [(.t 53), (.t 54)] []⟩,
      ⟨(some 52), none, .q (.mv (.t 55))⟩,
      ⟨(some 56), none, .q (.ex (.t 52) 0)⟩,
      ⟨(some 57), none, .q (.ex (.t 52) 1)⟩,
      ⟨(some 58), none, .q (.ex (.t 52) 2)⟩,
      ⟨(some 59), none, .q (.ex (.t 52) 3)⟩,
      ⟨(some 8), none, .q (.mv (.t 56))⟩,
      ⟨(some 60), none, .q (.fa 2 (.t 7))⟩,
      ⟨none, none, .e (.st 1 (.t 60) (.t 57))⟩,
      ⟨(some 9), none, .q (.mv (.t 58))⟩,
      ⟨(some 10), none, .q (.mv (.t 59))⟩])
                                  (.reg /- 16 -/ [⟨(some 61), none, .q (.fa 0 (.t 7))⟩,
      ⟨none, none, .e (.st 1 (.t 61) (.k (.int .i64 2)))⟩]))
                                (.seq (.reg /- 17 -/ [⟨(some 63), none, .q (.mv (.t 11))⟩,
      ⟨(some 64), none, .q (.bin .eql true (.t 63) (.k (.int .u8 34)))⟩,
      ⟨(some 62), none, .q (.mv (.t 64))⟩])
                                  (.cond (.t 62)
                                    (.seq (.reg /- 18 -/ [⟨(some 66), none, .q (.mv (.t 0))⟩,
      ⟨(some 67), none, .q (.mv (.t 6))⟩,
      ⟨(some 68), none, .cl 33 [(.t 66), (.t 67)] []⟩,
      ⟨(some 65), none, .q (.mv (.t 68))⟩,
      ⟨(some 69), none, .q (.ex (.t 65) 0)⟩,
      ⟨(some 70), none, .q (.ex (.t 65) 1)⟩,
      ⟨(some 71), none, .q (.ex (.t 65) 2)⟩,
      ⟨(some 72), none, .q (.ex (.t 65) 3)⟩,
      ⟨(some 8), none, .q (.mv (.t 69))⟩,
      ⟨(some 73), none, .q (.fa 1 (.t 7))⟩,
      ⟨none, none, .e (.st 1 (.t 73) (.t 70))⟩,
      ⟨(some 9), none, .q (.mv (.t 71))⟩,
      ⟨(some 10), none, .q (.mv (.t 72))⟩])
                                      (.reg /- 19 -/ [⟨(some 74), none, .q (.fa 0 (.t 7))⟩,
      ⟨none, none, .e (.st 1 (.t 74) (.k (.int .i64 3)))⟩]))
                                    (.seq (.reg /- 20 -/ [⟨(some 76), none, .q (.mv (.t 11))⟩,
      ⟨(some 77), none, .cq 34 [(.t 76)]⟩,
      ⟨(some 75), none, .q (.mv (.t 77))⟩])
                                      (.cond (.t 75)
                                        (.seq (.reg /- 21 -/ [⟨(some 78), none, .q (.fa 0 (.t 7))⟩,
      ⟨none, none, .e (.st 1 (.t 78) (.k (.int .i64 4)))⟩])
                                          (.reg /- 22 -/ [⟨(some 79), none, .q (.mv (.t 0))⟩,
      ⟨(some 80), none, .q (.mv (.t 6))⟩,
      ⟨(some 81), none, .q (.mv (.t 8))⟩,
      ⟨(some 82), none, .q (.ss (.t 79) (some (.t 80)) (some (.t 81)))⟩,
      ⟨(some 83), none, .q (.fa 1 (.t 7))⟩,
      ⟨none, none, .e (.st 1 (.t 83) (.t 82))⟩]))
                                        (.seq (.reg /- 9 -/ [⟨(some 28), none, .q (.mv (.t 6))⟩,
      ⟨(some 2), none, .q (.mv (.k (.slice none 0 0)))⟩,
      ⟨(some 3), none, .q (.mv (.k (.int .i64 2)))⟩,
      ⟨(some 4), none, .q (.mv (.t 28))⟩])
                                          (.ret)))))))))))
                        (.seq (.seq (.reg /- 23 -/ [⟨(some 84), none, .q (.mv (.t 9))⟩,
      ⟨(some 85), none, .q (.bin .neq true (.t 84) (.k (.int .i64 0)))⟩])
                          (.cond (.t 85)
                            (.seq (.reg /- 24 -/ [⟨(some 86), none, .q (.mv (.t 9))⟩,
      ⟨(some 87), none, .q (.mv (.t 10))⟩,
      ⟨(some 2), none, .q (.mv (.k (.slice none 0 0)))⟩,
      ⟨(some 3), none, .q (.mv (.t 86))⟩,
      ⟨(some 4), none, .q (.mv (.t 87))⟩])
                              (.ret))
                            (.skip)))
                          (.seq (.reg /- 25 -/ [⟨(some 88), none, .q (.mv (.t 5))⟩,
      ⟨(some 89), none, .l (.ldn 4 (.t 7))⟩,
      ⟨(some 90), none, .e (.bsl 30 4 [(.t 89)])⟩,
      ⟨(some 91), none, .e (.ap 30 4 40 (.t 88) (.t 90))⟩,
      ⟨(some 5), none, .q (.mv (.t 91))⟩])
                            (.reg /- 26 -/ [⟨(some 92), none, .q (.mv (.t 0))⟩,
      ⟨(some 93), none, .q (.mv (.t 8))⟩,
      ⟨(some 94), none, .cq 28 [(.t 92), (.t 93)]⟩,
      ⟨(some 6), none, .q (.mv (.t 94))⟩])))))))))))
          (.seq (.reg /- 27 -/ [⟨(some 95), none, .q (.mv (.t 5))⟩,
      ⟨(some 96), none, .q (.mv (.t 0))⟩,
      ⟨(some 97), none, .q (.lnS (.t 96))⟩,
      ⟨(some 98), none, .q (.bd [(.int .i64 0), (.string (mk [])), (.int .i64 0), (.int .i64 0)] [(3, 1, (.t 97))])⟩,
      ⟨(some 99), none, .e (.bsl 30 4 [(.t 98)])⟩,
      ⟨(some 100), none, .e (.ap 30 4 40 (.t 95) (.t 99))⟩,
      ⟨(some 2), none, .q (.mv (.t 100))⟩,
      ⟨(some 3), none, .q (.mv (.k (.int .i64 0)))⟩,
      ⟨(some 4), none, .q (.mv (.k (.int .i64 0)))⟩])
            (.ret))))))
def rs9 : List RV := [.mv (.t 2), .mv (.t 3), .mv (.t 4)]
theorem ok9 : trFn Try.prog true ⟨fun r k => if r = 4 ∧ k = 1 then .q else if r = 10 ∧ k = 1 then .q else if r = 14 ∧ k = 1 then .q else if r = 20 ∧ k = 1 then .q else if r = 26 ∧ k = 2 then .q else .own [], fun _ => false⟩ Try.f9 = some (pc9, rs9) := by kernel_rfl
/-- robotics/roboticsref06.Same -/
def pc10 : PC :=
  .seq (.reg /- 0 -/ [⟨(some 4), none, .q (.mv (.k (.bool false)))⟩])
  (.seq (.seq (.reg /- 1 -/ [⟨(some 6), none, .q (.mv (.t 0))⟩,
      ⟨(some 7), none, .q (.lnL (.t 6))⟩,
      ⟨(some 8), none, .q (.mv (.t 1))⟩,
      ⟨(some 9), none, .q (.lnL (.t 8))⟩,
      ⟨(some 10), none, .q (.bin .neq true (.t 7) (.t 9))⟩])
    (.cond (.t 10)
      (.seq (.reg /- 2 -/ [⟨(some 4), none, .q (.mv (.k (.bool false)))⟩])
        (.ret))
      (.skip)))
    (.seq (.seq (.reg /- 3 -/ [⟨(some 5), none, .q (.mv (.k (.int .i64 0)))⟩])
      (.block 0 (.loop (.seq (.seq (.reg /- 4 -/ [⟨(some 11), none, .q (.mv (.t 5))⟩,
      ⟨(some 12), none, .q (.mv (.t 0))⟩,
      ⟨(some 13), none, .q (.lnL (.t 12))⟩,
      ⟨(some 14), none, .q (.bin .lss true (.t 11) (.t 13))⟩])
            (.cond (.t 14)
              (.skip)
              (.exit 0)))
            (.seq (.block 1 (.seq (.reg /- 6 -/ [⟨(some 17), none, .q (.mv (.t 0))⟩,
      ⟨(some 18), none, .q (.mv (.t 5))⟩,
      ⟨(some 19), none, .l (.ia 4 (.t 17) (.t 18))⟩,
      ⟨(some 20), none, .l (.ldn 4 (.t 19))⟩,
      ⟨(some 21), none, .q (.mv (.t 1))⟩,
      ⟨(some 22), none, .q (.mv (.t 5))⟩,
      ⟨(some 23), none, .l (.ia 4 (.t 21) (.t 22))⟩,
      ⟨(some 24), none, .l (.ldn 4 (.t 23))⟩,
      ⟨(some 25), none, .q (.eqT true [(0, .int .i64), (1, .str), (2, .int .i64), (3, .int .i64)] (.t 20) (.t 24))⟩])
                (.cond (.t 25)
                  (.seq (.reg /- 7 -/ [⟨(some 4), none, .q (.mv (.k (.bool false)))⟩])
                    (.ret))
                  (.skip))))
              (.reg /- 5 -/ [⟨(some 15), none, .q (.mv (.t 5))⟩,
      ⟨(some 16), none, .q (.bin .add true (.t 15) (.k (.int .i64 1)))⟩,
      ⟨(some 5), none, .q (.mv (.t 16))⟩]))))))
      (.seq (.reg /- 8 -/ [⟨(some 4), none, .q (.mv (.k (.bool true)))⟩])
        (.ret))))
def rs10 : List RV := [.mv (.t 4)]
theorem ok10 : trFn Try.prog true ⟨fun _ _ => .own [], fun _ => false⟩ Try.f10 = some (pc10, rs10) := by kernel_rfl
/-- robotics/roboticsref06.skip -/
def pc28 : PC :=
  .seq (.reg /- 0 -/ [⟨(some 4), none, .q (.mv (.k (.int .i64 0)))⟩])
  (.seq (.reg /- 1 -/ [⟨(some 5), none, .q (.mv (.k (.bool false)))⟩])
    (.seq (.block 0 (.loop (.seq (.seq (.reg /- 2 -/ [⟨(some 7), none, .q (.mv (.t 1))⟩,
      ⟨(some 8), none, .q (.mv (.t 0))⟩,
      ⟨(some 9), none, .q (.lnS (.t 8))⟩,
      ⟨(some 10), none, .q (.bin .lss true (.t 7) (.t 9))⟩])
          (.cond (.t 10)
            (.skip)
            (.exit 0)))
          (.block 1 (.seq (.reg /- 3 -/ [⟨(some 11), none, .q (.mv (.t 0))⟩,
      ⟨(some 12), none, .q (.mv (.t 1))⟩,
      ⟨(some 13), none, .ix (.t 11) (.t 12)⟩,
      ⟨(some 6), none, .q (.mv (.t 13))⟩])
              (.seq (.seq (.reg /- 4 -/ [⟨(some 14), none, .q (.mv (.t 6))⟩,
      ⟨(some 15), none, .q (.bin .eql true (.t 14) (.k (.int .u8 10)))⟩])
                (.cond (.t 15)
                  (.reg /- 5 -/ [⟨(some 5), none, .q (.mv (.k (.bool false)))⟩])
                  (.skip)))
                (.seq (.seq (.reg /- 6 -/ [⟨(some 16), none, .q (.mv (.t 6))⟩,
      ⟨(some 17), none, .q (.bin .eql true (.t 16) (.k (.int .u8 35)))⟩])
                  (.cond (.t 17)
                    (.reg /- 7 -/ [⟨(some 5), none, .q (.mv (.k (.bool true)))⟩])
                    (.skip)))
                  (.seq (.seq (.reg /- 8 -/ [⟨(some 18), none, .q (.mv (.t 5))⟩,
      ⟨(some 19), none, .q (.not (.t 18))⟩,
      ⟨(some 20), none, .q (.mv (.t 19))⟩,
      ⟨(some 21), (some (20, true)), .q (.mv (.t 6))⟩,
      ⟨(some 22), (some (20, true)), .q (.bin .neq true (.t 21) (.k (.int .u8 32)))⟩,
      ⟨(some 23), none, .pick (.t 20) (.t 22) (.k (.bool false))⟩,
      ⟨(some 24), none, .q (.mv (.t 23))⟩,
      ⟨(some 25), (some (24, true)), .q (.mv (.t 6))⟩,
      ⟨(some 26), (some (24, true)), .q (.bin .neq true (.t 25) (.k (.int .u8 9)))⟩,
      ⟨(some 27), none, .pick (.t 24) (.t 26) (.k (.bool false))⟩,
      ⟨(some 28), none, .q (.mv (.t 27))⟩,
      ⟨(some 29), (some (28, true)), .q (.mv (.t 6))⟩,
      ⟨(some 30), (some (28, true)), .q (.bin .neq true (.t 29) (.k (.int .u8 10)))⟩,
      ⟨(some 31), none, .pick (.t 28) (.t 30) (.k (.bool false))⟩])
                    (.cond (.t 31)
                      (.seq (.reg /- 9 -/ [⟨(some 32), none, .q (.mv (.t 1))⟩,
      ⟨(some 4), none, .q (.mv (.t 32))⟩])
                        (.ret))
                      (.skip)))
                    (.reg /- 10 -/ [⟨(some 33), none, .q (.mv (.t 1))⟩,
      ⟨(some 34), none, .q (.bin .add true (.t 33) (.k (.int .i64 1)))⟩,
      ⟨(some 1), none, .q (.mv (.t 34))⟩])))))))))
      (.seq (.reg /- 11 -/ [⟨(some 35), none, .q (.mv (.t 1))⟩,
      ⟨(some 4), none, .q (.mv (.t 35))⟩])
        (.ret))))
def rs28 : List RV := [.mv (.t 4)]
theorem ok28 : trFn Try.prog true ⟨fun _ _ => .own [], fun _ => false⟩ Try.f28 = some (pc28, rs28) := by kernel_rfl
/-- robotics/roboticsref06.name -/
def pc30 : PC :=
  .seq (.reg /- 0 -/ [⟨(some 4), none, .q (.mv (.k (.int .i64 0)))⟩,
      ⟨(some 5), none, .q (.mv (.k (.int .i64 0)))⟩,
      ⟨(some 6), none, .q (.mv (.k (.int .i64 0)))⟩])
  (.seq (.reg /- 1 -/ [⟨(some 8), none, .q (.mv (.t 1))⟩,
      ⟨(some 7), none, .q (.mv (.t 8))⟩])
    (.seq (.block 0 (.loop (.seq (.seq (.reg /- 2 -/ [⟨(some 9), none, .q (.mv (.t 7))⟩,
      ⟨(some 10), none, .q (.mv (.t 0))⟩,
      ⟨(some 11), none, .q (.lnS (.t 10))⟩,
      ⟨(some 12), none, .q (.bin .lss true (.t 9) (.t 11))⟩,
      ⟨(some 13), none, .q (.mv (.t 12))⟩,
      ⟨(some 14), (some (13, true)), .q (.mv (.t 0))⟩,
      ⟨(some 15), (some (13, true)), .q (.mv (.t 7))⟩,
      ⟨(some 16), (some (13, true)), .ix (.t 14) (.t 15)⟩,
      ⟨(some 17), (some (13, true)), .cq 36 [(.t 16)]⟩,
      ⟨(some 18), none, .pick (.t 13) (.t 17) (.k (.bool false))⟩])
          (.cond (.t 18)
            (.skip)
            (.exit 0)))
          (.block 1 (.reg /- 3 -/ [⟨(some 19), none, .q (.mv (.t 7))⟩,
      ⟨(some 20), none, .q (.bin .add true (.t 19) (.k (.int .i64 1)))⟩,
      ⟨(some 7), none, .q (.mv (.t 20))⟩])))))
      (.seq (.seq (.reg /- 4 -/ [⟨(some 21), none, .q (.mv (.t 7))⟩,
      ⟨(some 22), none, .q (.mv (.t 1))⟩,
      ⟨(some 23), none, .q (.bin .sub true (.t 21) (.t 22))⟩,
      ⟨(some 24), none, .q (.bin .gtr true (.t 23) (.k (.int .i64 16)))⟩])
        (.cond (.t 24)
          (.seq (.reg /- 5 -/ [⟨(some 25), none, .q (.mv (.t 7))⟩,
      ⟨(some 26), none, .q (.mv (.t 1))⟩,
      ⟨(some 4), none, .q (.mv (.t 25))⟩,
      ⟨(some 5), none, .q (.mv (.k (.int .i64 3)))⟩,
      ⟨(some 6), none, .q (.mv (.t 26))⟩])
            (.ret))
          (.skip)))
        (.seq (.seq (.reg /- 6 -/ [⟨(some 27), none, .q (.mv (.t 7))⟩,
      ⟨(some 28), none, .q (.mv (.t 0))⟩,
      ⟨(some 29), none, .q (.lnS (.t 28))⟩,
      ⟨(some 30), none, .q (.bin .lss true (.t 27) (.t 29))⟩,
      ⟨(some 31), none, .q (.mv (.t 30))⟩,
      ⟨(some 32), (some (31, true)), .q (.mv (.t 0))⟩,
      ⟨(some 33), (some (31, true)), .q (.mv (.t 7))⟩,
      ⟨(some 34), (some (31, true)), .ix (.t 32) (.t 33)⟩,
      ⟨(some 35), (some (31, true)), .q (.bin .eql true (.t 34) (.k (.int .u8 45)))⟩,
      ⟨(some 36), none, .pick (.t 31) (.t 35) (.k (.bool false))⟩])
          (.cond (.t 36)
            (.seq (.reg /- 7 -/ [⟨(some 37), none, .q (.mv (.t 7))⟩,
      ⟨(some 38), none, .q (.mv (.t 7))⟩,
      ⟨(some 4), none, .q (.mv (.t 37))⟩,
      ⟨(some 5), none, .q (.mv (.k (.int .i64 2)))⟩,
      ⟨(some 6), none, .q (.mv (.t 38))⟩])
              (.ret))
            (.skip)))
          (.seq (.reg /- 8 -/ [⟨(some 39), none, .q (.mv (.t 7))⟩,
      ⟨(some 4), none, .q (.mv (.t 39))⟩,
      ⟨(some 5), none, .q (.mv (.k (.int .i64 0)))⟩,
      ⟨(some 6), none, .q (.mv (.k (.int .i64 0)))⟩])
            (.ret))))))
def rs30 : List RV := [.mv (.t 4), .mv (.t 5), .mv (.t 6)]
theorem ok30 : trFn Try.prog true ⟨fun r k => if r = 2 ∧ k = 8 then .q else .own [], fun _ => false⟩ Try.f30 = some (pc30, rs30) := by kernel_rfl
/- robotics/roboticsref06.number -/
def pc32_6 : PC :=
  .seq (.gh (.reg /- 6 -/ [⟨(some 31), none, .q (.mv (.t 0))⟩,
      ⟨(some 32), none, .q (.mv (.t 1))⟩,
      ⟨(some 33), none, .q (.mv (.t 8))⟩,
      ⟨(some 34), none, .q (.ss (.t 31) (some (.t 32)) (some (.t 33)))⟩,
      ⟨(some 35), none, .cl 51 [(.t 34)] []⟩,
      ⟨(some 30), none, .q (.mv (.t 35))⟩,
      ⟨(some 36), none, .q (.ex (.t 30) 0)⟩,
      ⟨(some 37), none, .q (.ex (.t 30) 1)⟩,
      ⟨(some 9), none, .q (.mv (.t 36))⟩,
      ⟨(some 10), none, .q (.mv (.t 37))⟩]))
  (.seq (.seq (.reg /- 7 -/ [⟨(some 38), none, .q (.mv (.t 10))⟩,
      ⟨(some 39), none, .q (.bin .eql true (.t 38) (.k (.int .i64 2)))⟩])
    (.cond (.t 39)
      (.seq (.reg /- 8 -/ [⟨(some 40), none, .q (.mv (.t 8))⟩,
      ⟨(some 41), none, .q (.mv (.t 1))⟩,
      ⟨(some 4), none, .q (.mv (.t 40))⟩,
      ⟨(some 5), none, .q (.mv (.k (.int .i64 0)))⟩,
      ⟨(some 6), none, .q (.mv (.k (.int .i64 2)))⟩,
      ⟨(some 7), none, .q (.mv (.t 41))⟩])
        (.ret))
      (.skip)))
    (.seq (.seq (.reg /- 9 -/ [⟨(some 42), none, .q (.mv (.t 10))⟩,
      ⟨(some 43), none, .q (.bin .eql true (.t 42) (.k (.int .i64 1)))⟩])
      (.cond (.t 43)
        (.seq (.reg /- 10 -/ [⟨(some 44), none, .q (.mv (.t 8))⟩,
      ⟨(some 45), none, .q (.mv (.t 1))⟩,
      ⟨(some 4), none, .q (.mv (.t 44))⟩,
      ⟨(some 5), none, .q (.mv (.k (.int .i64 0)))⟩,
      ⟨(some 6), none, .q (.mv (.k (.int .i64 4)))⟩,
      ⟨(some 7), none, .q (.mv (.t 45))⟩])
          (.ret))
        (.skip)))
      (.seq (.seq (.reg /- 11 -/ [⟨(some 46), none, .q (.mv (.t 8))⟩,
      ⟨(some 47), none, .q (.mv (.t 0))⟩,
      ⟨(some 48), none, .q (.lnS (.t 47))⟩,
      ⟨(some 49), none, .q (.bin .lss true (.t 46) (.t 48))⟩,
      ⟨(some 50), none, .q (.mv (.t 49))⟩,
      ⟨(some 51), (some (50, true)), .q (.mv (.t 0))⟩,
      ⟨(some 52), (some (50, true)), .q (.mv (.t 8))⟩,
      ⟨(some 53), (some (50, true)), .ix (.t 51) (.t 52)⟩,
      ⟨(some 54), (some (50, true)), .cq 36 [(.t 53)]⟩,
      ⟨(some 55), (some (50, true)), .q (.mv (.t 54))⟩,
      ⟨(some 56), (some (55, false)), .q (.mv (.t 0))⟩,
      ⟨(some 57), (some (55, false)), .q (.mv (.t 8))⟩,
      ⟨(some 58), (some (55, false)), .ix (.t 56) (.t 57)⟩,
      ⟨(some 59), (some (55, false)), .q (.bin .eql true (.t 58) (.k (.int .u8 45)))⟩,
      ⟨(some 60), (some (50, true)), .pick (.t 55) (.k (.bool true)) (.t 59)⟩,
      ⟨(some 61), none, .pick (.t 50) (.t 60) (.k (.bool false))⟩])
        (.cond (.t 61)
          (.seq (.reg /- 12 -/ [⟨(some 62), none, .q (.mv (.t 8))⟩,
      ⟨(some 63), none, .q (.mv (.t 8))⟩,
      ⟨(some 4), none, .q (.mv (.t 62))⟩,
      ⟨(some 5), none, .q (.mv (.k (.int .i64 0)))⟩,
      ⟨(some 6), none, .q (.mv (.k (.int .i64 2)))⟩,
      ⟨(some 7), none, .q (.mv (.t 63))⟩])
            (.ret))
          (.skip)))
        (.seq (.reg /- 13 -/ [⟨(some 64), none, .q (.mv (.t 8))⟩,
      ⟨(some 65), none, .q (.mv (.t 9))⟩,
      ⟨(some 4), none, .q (.mv (.t 64))⟩,
      ⟨(some 5), none, .q (.mv (.t 65))⟩,
      ⟨(some 6), none, .q (.mv (.k (.int .i64 0)))⟩,
      ⟨(some 7), none, .q (.mv (.k (.int .i64 0)))⟩])
          (.ret)))))
@[go_sem ↓] theorem fold32_6 (Γ : Env) (k0 : Nat) (fr : Fr) (H : Hp) (K : Ex → Fr → Hp → Prop) : vc Γ k0 pc32_6 fr H K = vcn Γ k0 pc32_6 fr H K ⟨⟩ := rfl
def pc32 : PC :=
  .seq (.reg /- 0 -/ [⟨(some 4), none, .q (.mv (.k (.int .i64 0)))⟩,
      ⟨(some 5), none, .q (.mv (.k (.int .i64 0)))⟩,
      ⟨(some 6), none, .q (.mv (.k (.int .i64 0)))⟩,
      ⟨(some 7), none, .q (.mv (.k (.int .i64 0)))⟩])
  (.seq (.reg /- 1 -/ [⟨(some 11), none, .q (.mv (.t 1))⟩,
      ⟨(some 8), none, .q (.mv (.t 11))⟩])
    (.seq (.seq (.reg /- 2 -/ [⟨(some 12), none, .q (.mv (.t 0))⟩,
      ⟨(some 13), none, .q (.mv (.t 8))⟩,
      ⟨(some 14), none, .ix (.t 12) (.t 13)⟩,
      ⟨(some 15), none, .q (.bin .eql true (.t 14) (.k (.int .u8 45)))⟩])
      (.cond (.t 15)
        (.reg /- 3 -/ [⟨(some 16), none, .q (.mv (.t 8))⟩,
      ⟨(some 17), none, .q (.bin .add true (.t 16) (.k (.int .i64 1)))⟩,
      ⟨(some 8), none, .q (.mv (.t 17))⟩])
        (.skip)))
      (.seq (.block 0 (.loop (.seq (.seq (.reg /- 4 -/ [⟨(some 18), none, .q (.mv (.t 8))⟩,
      ⟨(some 19), none, .q (.mv (.t 0))⟩,
      ⟨(some 20), none, .q (.lnS (.t 19))⟩,
      ⟨(some 21), none, .q (.bin .lss true (.t 18) (.t 20))⟩,
      ⟨(some 22), none, .q (.mv (.t 21))⟩,
      ⟨(some 23), (some (22, true)), .q (.mv (.t 0))⟩,
      ⟨(some 24), (some (22, true)), .q (.mv (.t 8))⟩,
      ⟨(some 25), (some (22, true)), .ix (.t 23) (.t 24)⟩,
      ⟨(some 26), (some (22, true)), .cq 31 [(.t 25)]⟩,
      ⟨(some 27), none, .pick (.t 22) (.t 26) (.k (.bool false))⟩])
            (.cond (.t 27)
              (.skip)
              (.exit 0)))
            (.block 1 (.reg /- 5 -/ [⟨(some 28), none, .q (.mv (.t 8))⟩,
      ⟨(some 29), none, .q (.bin .add true (.t 28) (.k (.int .i64 1)))⟩,
      ⟨(some 8), none, .q (.mv (.t 29))⟩])))))
        (pc32_6))))
def rs32 : List RV := [.mv (.t 4), .mv (.t 5), .mv (.t 6), .mv (.t 7)]
theorem ok32 : trFn Try.prog true ⟨fun r k => if r = 4 ∧ k = 8 then .q else if r = 11 ∧ k = 8 then .q else .own [], fun r => [6].contains r⟩ Try.f32 = some (pc32, rs32) := by kernel_rfl
/-- robotics/roboticsref06.quoted -/
def pc33 : PC :=
  .seq (.reg /- 0 -/ [⟨(some 4), none, .q (.mv (.k (.int .i64 0)))⟩,
      ⟨(some 5), none, .q (.mv (.k (.string (mk []))))⟩,
      ⟨(some 6), none, .q (.mv (.k (.int .i64 0)))⟩,
      ⟨(some 7), none, .q (.mv (.k (.int .i64 0)))⟩])
  (.seq (.reg /- 1 -/ [⟨(some 8), none, .q (.mv (.k (.string (mk []))))⟩])
    (.seq (.reg /- 2 -/ [⟨(some 11), none, .q (.mv (.t 1))⟩,
      ⟨(some 12), none, .q (.bin .add true (.t 11) (.k (.int .i64 1)))⟩,
      ⟨(some 9), none, .q (.mv (.t 12))⟩])
      (.block 0 (.loop (.block 1 (.seq (.seq (.reg /- 3 -/ [⟨(some 13), none, .q (.mv (.t 9))⟩,
      ⟨(some 14), none, .q (.mv (.t 0))⟩,
      ⟨(some 15), none, .q (.lnS (.t 14))⟩,
      ⟨(some 16), none, .q (.bin .geq true (.t 13) (.t 15))⟩])
              (.cond (.t 16)
                (.seq (.reg /- 4 -/ [⟨(some 17), none, .q (.mv (.t 9))⟩,
      ⟨(some 18), none, .q (.mv (.t 0))⟩,
      ⟨(some 19), none, .q (.lnS (.t 18))⟩,
      ⟨(some 4), none, .q (.mv (.t 17))⟩,
      ⟨(some 5), none, .q (.mv (.k (.string (mk []))))⟩,
      ⟨(some 6), none, .q (.mv (.k (.int .i64 2)))⟩,
      ⟨(some 7), none, .q (.mv (.t 19))⟩])
                  (.ret))
                (.skip)))
              (.seq (.reg /- 5 -/ [⟨(some 20), none, .q (.mv (.t 0))⟩,
      ⟨(some 21), none, .q (.mv (.t 9))⟩,
      ⟨(some 22), none, .ix (.t 20) (.t 21)⟩,
      ⟨(some 10), none, .q (.mv (.t 22))⟩])
                (.seq (.seq (.reg /- 6 -/ [⟨(some 23), none, .q (.mv (.t 10))⟩,
      ⟨(some 24), none, .q (.bin .eql true (.t 23) (.k (.int .u8 34)))⟩])
                  (.cond (.t 24)
                    (.seq (.seq (.reg /- 7 -/ [⟨(some 25), none, .q (.mv (.t 8))⟩,
      ⟨(some 26), none, .q (.lnS (.t 25))⟩,
      ⟨(some 27), none, .q (.bin .gtr true (.t 26) (.k (.int .i64 200)))⟩])
                      (.cond (.t 27)
                        (.seq (.reg /- 8 -/ [⟨(some 28), none, .q (.mv (.t 9))⟩,
      ⟨(some 29), none, .q (.mv (.t 1))⟩,
      ⟨(some 4), none, .q (.mv (.t 28))⟩,
      ⟨(some 5), none, .q (.mv (.k (.string (mk []))))⟩,
      ⟨(some 6), none, .q (.mv (.k (.int .i64 3)))⟩,
      ⟨(some 7), none, .q (.mv (.t 29))⟩])
                          (.ret))
                        (.skip)))
                      (.seq (.reg /- 9 -/ [⟨(some 30), none, .q (.mv (.t 9))⟩,
      ⟨(some 31), none, .q (.bin .add true (.t 30) (.k (.int .i64 1)))⟩,
      ⟨(some 32), none, .q (.mv (.t 8))⟩,
      ⟨(some 4), none, .q (.mv (.t 31))⟩,
      ⟨(some 5), none, .q (.mv (.t 32))⟩,
      ⟨(some 6), none, .q (.mv (.k (.int .i64 0)))⟩,
      ⟨(some 7), none, .q (.mv (.k (.int .i64 0)))⟩])
                        (.ret)))
                    (.skip)))
                  (.seq (.seq (.reg /- 10 -/ [⟨(some 33), none, .q (.mv (.t 10))⟩,
      ⟨(some 34), none, .q (.bin .lss true (.t 33) (.k (.int .u8 32)))⟩,
      ⟨(some 35), none, .q (.mv (.t 34))⟩,
      ⟨(some 36), (some (35, false)), .q (.mv (.t 10))⟩,
      ⟨(some 37), (some (35, false)), .q (.bin .gtr true (.t 36) (.k (.int .u8 126)))⟩,
      ⟨(some 38), none, .pick (.t 35) (.k (.bool true)) (.t 37)⟩,
      ⟨(some 39), none, .q (.mv (.t 38))⟩,
      ⟨(some 40), (some (39, false)), .q (.mv (.t 10))⟩,
      ⟨(some 41), (some (39, false)), .q (.bin .eql true (.t 40) (.k (.int .u8 92)))⟩,
      ⟨(some 42), (some (39, false)), .q (.mv (.t 41))⟩,
      ⟨(some 43), (some (42, true)), .q (.mv (.t 9))⟩,
      ⟨(some 44), (some (42, true)), .q (.bin .add true (.t 43) (.k (.int .i64 1)))⟩,
      ⟨(some 45), (some (42, true)), .q (.mv (.t 0))⟩,
      ⟨(some 46), (some (42, true)), .q (.lnS (.t 45))⟩,
      ⟨(some 47), (some (42, true)), .q (.bin .geq true (.t 44) (.t 46))⟩,
      ⟨(some 48), (some (42, true)), .q (.mv (.t 47))⟩,
      ⟨(some 49), (some (48, false)), .q (.mv (.t 0))⟩,
      ⟨(some 50), (some (48, false)), .q (.mv (.t 9))⟩,
      ⟨(some 51), (some (48, false)), .q (.bin .add true (.t 50) (.k (.int .i64 1)))⟩,
      ⟨(some 52), (some (48, false)), .ix (.t 49) (.t 51)⟩,
      ⟨(some 53), (some (48, false)), .q (.bin .neq true (.t 52) (.k (.int .u8 34)))⟩,
      ⟨(some 54), (some (48, false)), .q (.mv (.t 53))⟩,
      ⟨(some 55), (some (54, true)), .q (.mv (.t 0))⟩,
      ⟨(some 56), (some (54, true)), .q (.mv (.t 9))⟩,
      ⟨(some 57), (some (54, true)), .q (.bin .add true (.t 56) (.k (.int .i64 1)))⟩,
      ⟨(some 58), (some (54, true)), .ix (.t 55) (.t 57)⟩,
      ⟨(some 59), (some (54, true)), .q (.bin .neq true (.t 58) (.k (.int .u8 92)))⟩,
      ⟨(some 60), (some (48, false)), .pick (.t 54) (.t 59) (.k (.bool false))⟩,
      ⟨(some 61), (some (42, true)), .pick (.t 48) (.k (.bool true)) (.t 60)⟩,
      ⟨(some 62), (some (39, false)), .pick (.t 42) (.t 61) (.k (.bool false))⟩,
      ⟨(some 63), none, .pick (.t 39) (.k (.bool true)) (.t 62)⟩])
                    (.cond (.t 63)
                      (.seq (.reg /- 11 -/ [⟨(some 64), none, .q (.mv (.t 9))⟩,
      ⟨(some 65), none, .q (.mv (.t 9))⟩,
      ⟨(some 4), none, .q (.mv (.t 64))⟩,
      ⟨(some 5), none, .q (.mv (.k (.string (mk []))))⟩,
      ⟨(some 6), none, .q (.mv (.k (.int .i64 2)))⟩,
      ⟨(some 7), none, .q (.mv (.t 65))⟩])
                        (.ret))
                      (.skip)))
                    (.seq (.seq (.reg /- 12 -/ [⟨(some 66), none, .q (.mv (.t 10))⟩,
      ⟨(some 67), none, .q (.bin .eql true (.t 66) (.k (.int .u8 92)))⟩])
                      (.cond (.t 67)
                        (.reg /- 13 -/ [⟨(some 68), none, .q (.mv (.t 9))⟩,
      ⟨(some 69), none, .q (.bin .add true (.t 68) (.k (.int .i64 1)))⟩,
      ⟨(some 9), none, .q (.mv (.t 69))⟩])
                        (.skip)))
                      (.seq (.reg /- 14 -/ [⟨(some 70), none, .q (.mv (.t 8))⟩,
      ⟨(some 71), none, .q (.mv (.t 0))⟩,
      ⟨(some 72), none, .q (.mv (.t 9))⟩,
      ⟨(some 73), none, .q (.mv (.t 9))⟩,
      ⟨(some 74), none, .q (.bin .add true (.t 73) (.k (.int .i64 1)))⟩,
      ⟨(some 75), none, .q (.ss (.t 71) (some (.t 72)) (some (.t 74)))⟩,
      ⟨(some 76), none, .q (.bin .add true (.t 70) (.t 75))⟩,
      ⟨(some 8), none, .q (.mv (.t 76))⟩])
                        (.reg /- 15 -/ [⟨(some 77), none, .q (.mv (.t 9))⟩,
      ⟨(some 78), none, .q (.bin .add true (.t 77) (.k (.int .i64 1)))⟩,
      ⟨(some 9), none, .q (.mv (.t 78))⟩]))))))))))))
def rs33 : List RV := [.mv (.t 4), .mv (.t 5), .mv (.t 6), .mv (.t 7)]
theorem ok33 : trFn Try.prog true ⟨fun _ _ => .own [], fun _ => false⟩ Try.f33 = some (pc33, rs33) := by kernel_rfl
/- robotics/roboticsref06.Number -/
def pc51_4 : PC :=
  .seq (.seq (.gh (.reg /- 4 -/ [⟨(some 16), none, .q (.mv (.t 4))⟩,
      ⟨(some 17), none, .q (.mv (.t 0))⟩,
      ⟨(some 18), none, .q (.lnS (.t 17))⟩,
      ⟨(some 19), none, .q (.bin .geq true (.t 16) (.t 18))⟩,
      ⟨(some 20), none, .q (.mv (.t 19))⟩,
      ⟨(some 21), (some (20, false)), .q (.mv (.t 0))⟩,
      ⟨(some 22), (some (20, false)), .q (.lnS (.t 21))⟩,
      ⟨(some 23), (some (20, false)), .q (.mv (.t 4))⟩,
      ⟨(some 24), (some (20, false)), .q (.bin .sub true (.t 22) (.t 23))⟩,
      ⟨(some 25), (some (20, false)), .q (.bin .gtr true (.t 24) (.k (.int .i64 1)))⟩,
      ⟨(some 26), (some (20, false)), .q (.mv (.t 25))⟩,
      ⟨(some 27), (some (26, true)), .q (.mv (.t 0))⟩,
      ⟨(some 28), (some (26, true)), .q (.mv (.t 4))⟩,
      ⟨(some 29), (some (26, true)), .ix (.t 27) (.t 28)⟩,
      ⟨(some 30), (some (26, true)), .q (.bin .eql true (.t 29) (.k (.int .u8 48)))⟩,
      ⟨(some 31), (some (20, false)), .pick (.t 26) (.t 30) (.k (.bool false))⟩,
      ⟨(some 32), none, .pick (.t 20) (.k (.bool true)) (.t 31)⟩,
      ⟨(some 33), none, .q (.mv (.t 32))⟩,
      ⟨(some 34), (some (33, false)), .q (.mv (.t 4))⟩,
      ⟨(some 35), (some (33, false)), .q (.bin .eql true (.t 34) (.k (.int .i64 1)))⟩,
      ⟨(some 36), (some (33, false)), .q (.mv (.t 35))⟩,
      ⟨(some 37), (some (36, true)), .q (.mv (.t 0))⟩,
      ⟨(some 38), (some (36, true)), .q (.mv (.t 4))⟩,
      ⟨(some 39), (some (36, true)), .ix (.t 37) (.t 38)⟩,
      ⟨(some 40), (some (36, true)), .q (.bin .eql true (.t 39) (.k (.int .u8 48)))⟩,
      ⟨(some 41), (some (33, false)), .pick (.t 36) (.t 40) (.k (.bool false))⟩,
      ⟨(some 42), none, .pick (.t 33) (.k (.bool true)) (.t 41)⟩]))
  (.cond (.t 42)
    (.seq (.reg /- 5 -/ [⟨(some 2), none, .q (.mv (.k (.int .i64 0)))⟩,
      ⟨(some 3), none, .q (.mv (.k (.int .i64 2)))⟩])
      (.ret))
    (.skip)))
  (.seq (.reg /- 6 -/ [⟨(some 5), none, .q (.mv (.k (.int .u64 0)))⟩])
    (.seq (.seq (.reg /- 7 -/ [⟨(some 43), none, .q (.mv (.t 4))⟩,
      ⟨(some 6), none, .q (.mv (.t 43))⟩])
      (.block 0 (.loop (.seq (.seq (.reg /- 8 -/ [⟨(some 44), none, .q (.mv (.t 6))⟩,
      ⟨(some 45), none, .q (.mv (.t 0))⟩,
      ⟨(some 46), none, .q (.lnS (.t 45))⟩,
      ⟨(some 47), none, .q (.bin .lss true (.t 44) (.t 46))⟩])
            (.cond (.t 47)
              (.skip)
              (.exit 0)))
            (.seq (.block 1 (.seq (.seq (.reg /- 10 -/ [⟨(some 50), none, .q (.mv (.t 0))⟩,
      ⟨(some 51), none, .q (.mv (.t 6))⟩,
      ⟨(some 52), none, .ix (.t 50) (.t 51)⟩,
      ⟨(some 53), none, .cq 31 [(.t 52)]⟩,
      ⟨(some 54), none, .q (.not (.t 53))⟩])
                (.cond (.t 54)
                  (.seq (.reg /- 11 -/ [⟨(some 2), none, .q (.mv (.k (.int .i64 0)))⟩,
      ⟨(some 3), none, .q (.mv (.k (.int .i64 2)))⟩])
                    (.ret))
                  (.skip)))
                (.seq (.seq (.reg /- 12 -/ [⟨(some 55), none, .q (.mv (.t 5))⟩,
      ⟨(some 56), none, .q (.bin .gtr true (.t 55) (.k (.int .u64 1000000000000000000)))⟩])
                  (.cond (.t 56)
                    (.seq (.reg /- 13 -/ [⟨(some 2), none, .q (.mv (.k (.int .i64 0)))⟩,
      ⟨(some 3), none, .q (.mv (.k (.int .i64 1)))⟩])
                      (.ret))
                    (.skip)))
                  (.reg /- 14 -/ [⟨(some 57), none, .q (.mv (.t 5))⟩,
      ⟨(some 58), none, .q (.bin .mul true (.k (.int .u64 10)) (.t 57))⟩,
      ⟨(some 59), none, .q (.mv (.t 0))⟩,
      ⟨(some 60), none, .q (.mv (.t 6))⟩,
      ⟨(some 61), none, .ix (.t 59) (.t 60)⟩,
      ⟨(some 62), none, .q (.bin .sub true (.t 61) (.k (.int .u8 48)))⟩,
      ⟨(some 63), none, .q (.cvt .u64 (.t 62))⟩,
      ⟨(some 64), none, .q (.bin .add true (.t 58) (.t 63))⟩,
      ⟨(some 5), none, .q (.mv (.t 64))⟩]))))
              (.reg /- 9 -/ [⟨(some 48), none, .q (.mv (.t 6))⟩,
      ⟨(some 49), none, .q (.bin .add true (.t 48) (.k (.int .i64 1)))⟩,
      ⟨(some 6), none, .q (.mv (.t 49))⟩]))))))
      (.seq (.seq (.reg /- 15 -/ [⟨(some 65), none, .q (.mv (.t 4))⟩,
      ⟨(some 66), none, .q (.bin .eql true (.t 65) (.k (.int .i64 1)))⟩])
        (.cond (.t 66)
          (.seq (.seq (.reg /- 16 -/ [⟨(some 67), none, .q (.mv (.t 5))⟩,
      ⟨(some 68), none, .q (.bin .gtr true (.t 67) (.k (.int .u64 9223372036854775808)))⟩])
            (.cond (.t 68)
              (.seq (.reg /- 17 -/ [⟨(some 2), none, .q (.mv (.k (.int .i64 0)))⟩,
      ⟨(some 3), none, .q (.mv (.k (.int .i64 1)))⟩])
                (.ret))
              (.skip)))
            (.seq (.reg /- 18 -/ [⟨(some 69), none, .q (.mv (.t 5))⟩,
      ⟨(some 70), none, .q (.bin .sub true (.t 69) (.k (.int .u64 1)))⟩,
      ⟨(some 71), none, .q (.cvt .i64 (.t 70))⟩,
      ⟨(some 72), none, .q (.bin .sub true (.k (.int .i64 0)) (.t 71))⟩,
      ⟨(some 73), none, .q (.bin .sub true (.t 72) (.k (.int .i64 1)))⟩,
      ⟨(some 2), none, .q (.mv (.t 73))⟩,
      ⟨(some 3), none, .q (.mv (.k (.int .i64 0)))⟩])
              (.ret)))
          (.skip)))
        (.seq (.seq (.reg /- 19 -/ [⟨(some 74), none, .q (.mv (.t 5))⟩,
      ⟨(some 75), none, .q (.bin .gtr true (.t 74) (.k (.int .u64 9223372036854775807)))⟩])
          (.cond (.t 75)
            (.seq (.reg /- 20 -/ [⟨(some 2), none, .q (.mv (.k (.int .i64 0)))⟩,
      ⟨(some 3), none, .q (.mv (.k (.int .i64 1)))⟩])
              (.ret))
            (.skip)))
          (.seq (.reg /- 21 -/ [⟨(some 76), none, .q (.mv (.t 5))⟩,
      ⟨(some 77), none, .q (.cvt .i64 (.t 76))⟩,
      ⟨(some 2), none, .q (.mv (.t 77))⟩,
      ⟨(some 3), none, .q (.mv (.k (.int .i64 0)))⟩])
            (.ret))))))
@[go_sem ↓] theorem fold51_4 (Γ : Env) (k0 : Nat) (fr : Fr) (H : Hp) (K : Ex → Fr → Hp → Prop) : vc Γ k0 pc51_4 fr H K = vcn Γ k0 pc51_4 fr H K ⟨⟩ := rfl
def pc51 : PC :=
  .seq (.reg /- 0 -/ [⟨(some 2), none, .q (.mv (.k (.int .i64 0)))⟩,
      ⟨(some 3), none, .q (.mv (.k (.int .i64 0)))⟩])
  (.seq (.reg /- 1 -/ [⟨(some 4), none, .q (.mv (.k (.int .i64 0)))⟩])
    (.seq (.seq (.reg /- 2 -/ [⟨(some 7), none, .q (.mv (.t 4))⟩,
      ⟨(some 8), none, .q (.mv (.t 0))⟩,
      ⟨(some 9), none, .q (.lnS (.t 8))⟩,
      ⟨(some 10), none, .q (.bin .lss true (.t 7) (.t 9))⟩,
      ⟨(some 11), none, .q (.mv (.t 10))⟩,
      ⟨(some 12), (some (11, true)), .q (.mv (.t 0))⟩,
      ⟨(some 13), (some (11, true)), .ix (.t 12) (.k (.int .i64 0))⟩,
      ⟨(some 14), (some (11, true)), .q (.bin .eql true (.t 13) (.k (.int .u8 45)))⟩,
      ⟨(some 15), none, .pick (.t 11) (.t 14) (.k (.bool false))⟩])
      (.cond (.t 15)
        (.reg /- 3 -/ [⟨(some 4), none, .q (.mv (.k (.int .i64 1)))⟩])
        (.skip)))
      (pc51_4)))
def rs51 : List RV := [.mv (.t 2), .mv (.t 3)]
theorem ok51 : trFn Try.prog true ⟨fun r k => if r = 10 ∧ k = 3 then .q else .own [], fun r => [4].contains r⟩ Try.f51 = some (pc51, rs51) := by kernel_rfl
end Go.Proofs.Ytgophdhegdcekaa
