import Derived.Test.YtgophdhegdcekaaProg
import Derived.Test.YtgophdhegdcekaaW15
namespace Go.Proofs.Ytgophdhegdcekaa
open Go.W
/-- robotics/lexer.Scan -/
def pc8 : PC :=
  .seq (.reg /- 0 -/ [⟨(some 2), none, .q (.mv (.k (.slice none 0 0)))⟩,
      ⟨(some 3), none, .q (.mv (.k (.int .i64 0)))⟩,
      ⟨(some 4), none, .q (.mv (.k (.int .i64 0)))⟩])
  (.seq (.seq (.reg /- 1 -/ [⟨(some 8), none, .q (.mv (.t 0))⟩,
      ⟨(some 9), none, .q (.lnS (.t 8))⟩,
      ⟨(some 10), none, .q (.bin .gtr true (.t 9) (.k (.int .i64 4000)))⟩])
    (.cond (.t 10)
      (.seq (.reg /- 2 -/ [⟨(some 2), none, .q (.mv (.k (.slice none 0 0)))⟩,
      ⟨(some 3), none, .q (.mv (.k (.int .i64 3)))⟩,
      ⟨(some 4), none, .q (.mv (.k (.int .i64 0)))⟩])
        (.ret))
      (.skip)))
    (.seq (.reg /- 3 -/ [⟨(some 11), none, .q (.mv (.t 0))⟩,
      ⟨(some 12), none, .q (.bd [(.string (mk [])), (.int .i64 0), (.int .i64 0), (.int .i64 0)] [(0, 1, (.t 11))])⟩,
      ⟨(some 13), none, .e (.bx 46 (.t 12))⟩,
      ⟨(some 5), none, .q (.mv (.t 13))⟩])
      (.seq (.reg /- 4 -/ [⟨(some 6), none, .q (.mv (.k (.slice none 0 0)))⟩])
        (.block 0 (.loop (.block 1 (.seq (.reg /- 5 -/ [⟨(some 14), none, .q (.mv (.t 5))⟩,
      ⟨(some 15), none, .cl 27 [(.t 14)] [0]⟩,
      ⟨(some 7), none, .e (.al (.agg #[(.int .i64 0), (.string (mk [])), (.int .i64 0), (.int .i64 0)]) 30)⟩,
      ⟨none, none, .e (.st 4 (.t 7) (.t 15))⟩])
                (.seq (.seq (.reg /- 6 -/ [⟨(some 16), none, .q (.mv (.t 5))⟩,
      ⟨(some 17), none, .q (.nc (.t 16))⟩,
      ⟨(some 18), none, .q (.fa 2 (.t 17))⟩,
      ⟨(some 19), none, .l (.ld1 (.t 18))⟩,
      ⟨(some 20), none, .q (.bin .neq true (.t 19) (.k (.int .i64 0)))⟩])
                  (.cond (.t 20)
                    (.seq (.reg /- 7 -/ [⟨(some 21), none, .q (.mv (.t 5))⟩,
      ⟨(some 22), none, .q (.nc (.t 21))⟩,
      ⟨(some 23), none, .q (.fa 2 (.t 22))⟩,
      ⟨(some 24), none, .l (.ld1 (.t 23))⟩,
      ⟨(some 25), none, .q (.mv (.t 5))⟩,
      ⟨(some 26), none, .q (.nc (.t 25))⟩,
      ⟨(some 27), none, .q (.fa 3 (.t 26))⟩,
      ⟨(some 28), none, .l (.ld1 (.t 27))⟩,
      ⟨(some 2), none, .q (.mv (.k (.slice none 0 0)))⟩,
      ⟨(some 3), none, .q (.mv (.t 24))⟩,
      ⟨(some 4), none, .q (.mv (.t 28))⟩])
                      (.ret))
                    (.skip)))
                  (.seq (.reg /- 8 -/ [⟨(some 29), none, .q (.mv (.t 6))⟩,
      ⟨(some 30), none, .l (.ldn 4 (.t 7))⟩,
      ⟨(some 31), none, .e (.bsl 30 4 [(.t 30)])⟩,
      ⟨(some 32), none, .e (.ap 30 4 40 (.t 29) (.t 31))⟩,
      ⟨(some 6), none, .q (.mv (.t 32))⟩])
                    (.seq (.reg /- 9 -/ [⟨(some 33), none, .q (.fa 0 (.t 7))⟩,
      ⟨(some 34), none, .l (.ld1 (.t 33))⟩,
      ⟨(some 35), none, .q (.bin .eql true (.t 34) (.k (.int .i64 0)))⟩])
                      (.cond (.t 35)
                        (.seq (.reg /- 10 -/ [⟨(some 36), none, .q (.mv (.t 6))⟩,
      ⟨(some 2), none, .q (.mv (.t 36))⟩,
      ⟨(some 3), none, .q (.mv (.k (.int .i64 0)))⟩,
      ⟨(some 4), none, .q (.mv (.k (.int .i64 0)))⟩])
                          (.ret))
                        (.skip))))))))))))
def rs8 : List RV := [.mv (.t 2), .mv (.t 3), .mv (.t 4)]
theorem ok8 : trFn Try.prog true ⟨fun r k => if r = 5 ∧ k = 1 then .own [0] else .own [], fun _ => false⟩ Try.f8 = some (pc8, rs8) := by kernel_rfl
/-- robotics/lexer.IsName -/
def pc12 : PC :=
  .seq (.reg /- 0 -/ [⟨(some 2), none, .q (.mv (.k (.bool false)))⟩])
  (.seq (.seq (.reg /- 1 -/ [⟨(some 5), none, .q (.mv (.t 0))⟩,
      ⟨(some 6), none, .q (.bin .eql true (.t 5) (.k (.string (mk []))))⟩,
      ⟨(some 7), none, .q (.mv (.t 6))⟩,
      ⟨(some 8), (some (7, false)), .q (.mv (.t 0))⟩,
      ⟨(some 9), (some (7, false)), .q (.lnS (.t 8))⟩,
      ⟨(some 10), (some (7, false)), .q (.bin .gtr true (.t 9) (.k (.int .i64 16)))⟩,
      ⟨(some 11), none, .pick (.t 7) (.k (.bool true)) (.t 10)⟩,
      ⟨(some 12), none, .q (.mv (.t 11))⟩,
      ⟨(some 13), (some (12, false)), .q (.mv (.t 0))⟩,
      ⟨(some 14), (some (12, false)), .ix (.t 13) (.k (.int .i64 0))⟩,
      ⟨(some 15), (some (12, false)), .cq 35 [(.t 14)]⟩,
      ⟨(some 16), (some (12, false)), .q (.bin .neq true (.t 15) (.k (.int .i64 3)))⟩,
      ⟨(some 17), none, .pick (.t 12) (.k (.bool true)) (.t 16)⟩])
    (.cond (.t 17)
      (.seq (.reg /- 2 -/ [⟨(some 2), none, .q (.mv (.k (.bool false)))⟩])
        (.ret))
      (.skip)))
    (.seq (.seq (.reg /- 3 -/ [⟨(some 18), none, .q (.mv (.t 0))⟩,
      ⟨(some 19), none, .q (.lnS (.t 18))⟩,
      ⟨(some 20), none, .q (.mv (.k (.int .i64 0)))⟩])
      (.block 0 (.loop (.seq (.reg /- 4 -/ [⟨(some 21), none, .q (.bin .lss true (.t 20) (.t 19))⟩])
            (.seq (.cond (.t 21)
              (.skip)
              (.exit 0))
              (.seq (.block 1 (.seq (.reg /- 5 -/ [⟨(some 22), none, .q (.mv (.t 20))⟩,
      ⟨(some 3), none, .q (.mv (.t 22))⟩])
                  (.seq (.reg /- 6 -/ [⟨(some 23), none, .q (.mv (.t 0))⟩,
      ⟨(some 24), none, .q (.mv (.t 3))⟩,
      ⟨(some 25), none, .ix (.t 23) (.t 24)⟩,
      ⟨(some 26), none, .cq 35 [(.t 25)]⟩,
      ⟨(some 4), none, .q (.mv (.t 26))⟩])
                    (.seq (.reg /- 7 -/ [⟨(some 27), none, .q (.mv (.t 4))⟩,
      ⟨(some 28), none, .q (.bin .neq true (.t 27) (.k (.int .i64 3)))⟩,
      ⟨(some 29), none, .q (.mv (.t 28))⟩,
      ⟨(some 30), (some (29, true)), .q (.mv (.t 4))⟩,
      ⟨(some 31), (some (29, true)), .q (.bin .neq true (.t 30) (.k (.int .i64 4)))⟩,
      ⟨(some 32), none, .pick (.t 29) (.t 31) (.k (.bool false))⟩,
      ⟨(some 33), none, .q (.mv (.t 32))⟩,
      ⟨(some 34), (some (33, true)), .q (.mv (.t 4))⟩,
      ⟨(some 35), (some (33, true)), .q (.bin .neq true (.t 34) (.k (.int .i64 6)))⟩,
      ⟨(some 36), none, .pick (.t 33) (.t 35) (.k (.bool false))⟩])
                      (.cond (.t 36)
                        (.seq (.reg /- 8 -/ [⟨(some 2), none, .q (.mv (.k (.bool false)))⟩])
                          (.ret))
                        (.skip))))))
                (.reg /- 9 -/ [⟨(some 37), none, .q (.bin .add true (.t 20) (.k (.int .i64 1)))⟩,
      ⟨(some 20), none, .q (.mv (.t 37))⟩])))))))
      (.seq (.reg /- 10 -/ [⟨(some 2), none, .q (.mv (.k (.bool true)))⟩])
        (.ret))))
def rs12 : List RV := [.mv (.t 2)]
theorem ok12 : trFn Try.prog true ⟨fun r k => if r = 1 ∧ k = 10 then .q else if r = 6 ∧ k = 3 then .q else .own [], fun _ => false⟩ Try.f12 = some (pc12, rs12) := by kernel_rfl
/-- robotics/lexer.NewScanner -/
def pc14 : PC :=
  .seq (.reg /- 0 -/ [⟨(some 2), none, .q (.mv (.k (.pointer none)))⟩,
      ⟨(some 3), none, .q (.mv (.k (.int .i64 0)))⟩,
      ⟨(some 4), none, .q (.mv (.k (.int .i64 0)))⟩])
  (.seq (.reg /- 1 -/ [⟨(some 9), none, .q (.mv (.t 0))⟩,
      ⟨(some 10), none, .cl 8 [(.t 9)] []⟩,
      ⟨(some 8), none, .q (.mv (.t 10))⟩,
      ⟨(some 11), none, .q (.ex (.t 8) 0)⟩,
      ⟨(some 12), none, .q (.ex (.t 8) 1)⟩,
      ⟨(some 13), none, .q (.ex (.t 8) 2)⟩,
      ⟨(some 5), none, .q (.mv (.t 11))⟩,
      ⟨(some 6), none, .q (.mv (.t 12))⟩,
      ⟨(some 7), none, .q (.mv (.t 13))⟩])
    (.seq (.seq (.reg /- 2 -/ [⟨(some 14), none, .q (.mv (.t 6))⟩,
      ⟨(some 15), none, .q (.bin .neq true (.t 14) (.k (.int .i64 0)))⟩])
      (.cond (.t 15)
        (.seq (.reg /- 3 -/ [⟨(some 16), none, .q (.mv (.t 6))⟩,
      ⟨(some 17), none, .q (.mv (.t 7))⟩,
      ⟨(some 2), none, .q (.mv (.k (.pointer none)))⟩,
      ⟨(some 3), none, .q (.mv (.t 16))⟩,
      ⟨(some 4), none, .q (.mv (.t 17))⟩])
          (.ret))
        (.skip)))
      (.seq (.reg /- 4 -/ [⟨(some 18), none, .q (.mv (.t 5))⟩,
      ⟨(some 19), none, .q (.bd [(.slice none 0 0), (.int .i64 0)] [(0, 1, (.t 18))])⟩,
      ⟨(some 20), none, .e (.bx 57 (.t 19))⟩,
      ⟨(some 2), none, .q (.mv (.t 20))⟩,
      ⟨(some 3), none, .q (.mv (.k (.int .i64 0)))⟩,
      ⟨(some 4), none, .q (.mv (.k (.int .i64 0)))⟩])
        (.ret))))
def rs14 : List RV := [.mv (.t 2), .mv (.t 3), .mv (.t 4)]
theorem ok14 : trFn Try.prog true ⟨fun _ _ => .own [], fun _ => false⟩ Try.f14 = some (pc14, rs14) := by kernel_rfl
/-- (*robotics/lexer.Scanner).Next -/
def pc16 : PC :=
  .seq (.reg /- 0 -/ [⟨(some 2), none, .e (.al (.agg #[(.int .i64 0), (.string (mk [])), (.int .i64 0), (.int .i64 0)]) 30)⟩])
  (.seq (.reg /- 1 -/ [⟨(some 4), none, .q (.mv (.t 0))⟩,
      ⟨(some 5), none, .cl 18 [(.t 4)] [0]⟩,
      ⟨(some 3), none, .e (.al (.agg #[(.int .i64 0), (.string (mk [])), (.int .i64 0), (.int .i64 0)]) 30)⟩,
      ⟨none, none, .e (.st 4 (.t 3) (.t 5))⟩])
    (.seq (.seq (.reg /- 2 -/ [⟨(some 6), none, .q (.mv (.t 0))⟩,
      ⟨(some 7), none, .q (.eqP true (.t 6) (.k (.pointer none)))⟩,
      ⟨(some 8), none, .q (.mv (.t 7))⟩,
      ⟨(some 9), (some (8, true)), .q (.mv (.t 0))⟩,
      ⟨(some 10), (some (8, true)), .q (.nc (.t 9))⟩,
      ⟨(some 11), (some (8, true)), .q (.fa 1 (.t 10))⟩,
      ⟨(some 12), (some (8, true)), .l (.ld1 (.t 11))⟩,
      ⟨(some 13), (some (8, true)), .q (.mv (.t 0))⟩,
      ⟨(some 14), (some (8, true)), .q (.nc (.t 13))⟩,
      ⟨(some 15), (some (8, true)), .q (.fa 0 (.t 14))⟩,
      ⟨(some 16), (some (8, true)), .l (.ld1 (.t 15))⟩,
      ⟨(some 17), (some (8, true)), .q (.lnL (.t 16))⟩,
      ⟨(some 18), (some (8, true)), .q (.bin .sub true (.t 17) (.k (.int .i64 1)))⟩,
      ⟨(some 19), (some (8, true)), .q (.bin .lss true (.t 12) (.t 18))⟩,
      ⟨(some 20), none, .pick (.t 8) (.t 19) (.k (.bool false))⟩])
      (.cond (.t 20)
        (.reg /- 3 -/ [⟨(some 21), none, .q (.mv (.t 0))⟩,
      ⟨(some 22), none, .q (.nc (.t 21))⟩,
      ⟨(some 23), none, .q (.fa 1 (.t 22))⟩,
      ⟨(some 24), none, .l (.ld1 (.t 23))⟩,
      ⟨(some 25), none, .q (.bin .add true (.t 24) (.k (.int .i64 1)))⟩,
      ⟨(some 26), none, .q (.nc (.t 21))⟩,
      ⟨(some 27), none, .q (.fa 1 (.t 26))⟩,
      ⟨none, none, .e (.st 1 (.t 27) (.t 25))⟩])
        (.skip)))
      (.seq (.reg /- 4 -/ [⟨(some 28), none, .l (.ldn 4 (.t 3))⟩,
      ⟨none, none, .e (.st 4 (.t 2) (.t 28))⟩])
        (.ret))))
def rs16 : List RV := [.ld (.ldn 4 (.t 2))]
theorem ok16 : trFn Try.prog true ⟨fun r k => if r = 1 ∧ k = 1 then .own [0] else .own [], fun _ => false⟩ Try.f16 = some (pc16, rs16) := by kernel_rfl
/-- (*robotics/lexer.Scanner).Peek -/
def pc18 : PC :=
  .seq (.reg /- 0 -/ [⟨(some 2), none, .e (.al (.agg #[(.int .i64 0), (.string (mk [])), (.int .i64 0), (.int .i64 0)]) 30)⟩])
  (.seq (.seq (.reg /- 1 -/ [⟨(some 3), none, .q (.mv (.t 0))⟩,
      ⟨(some 4), none, .q (.eqP false (.t 3) (.k (.pointer none)))⟩,
      ⟨(some 5), none, .q (.mv (.t 4))⟩,
      ⟨(some 6), (some (5, false)), .q (.mv (.t 0))⟩,
      ⟨(some 7), (some (5, false)), .q (.nc (.t 6))⟩,
      ⟨(some 8), (some (5, false)), .q (.fa 0 (.t 7))⟩,
      ⟨(some 9), (some (5, false)), .l (.ld1 (.t 8))⟩,
      ⟨(some 10), (some (5, false)), .q (.lnL (.t 9))⟩,
      ⟨(some 11), (some (5, false)), .q (.bin .eql true (.t 10) (.k (.int .i64 0)))⟩,
      ⟨(some 12), none, .pick (.t 5) (.k (.bool true)) (.t 11)⟩])
    (.cond (.t 12)
      (.seq (.reg /- 2 -/ [⟨(some 13), none, .q (.bd [(.int .i64 0), (.string (mk [])), (.int .i64 0), (.int .i64 0)] [])⟩,
      ⟨none, none, .e (.st 4 (.t 2) (.t 13))⟩])
        (.ret))
      (.skip)))
    (.seq (.reg /- 3 -/ [⟨(some 14), none, .q (.mv (.t 0))⟩,
      ⟨(some 15), none, .q (.nc (.t 14))⟩,
      ⟨(some 16), none, .q (.fa 0 (.t 15))⟩,
      ⟨(some 17), none, .l (.ld1 (.t 16))⟩,
      ⟨(some 18), none, .q (.mv (.t 0))⟩,
      ⟨(some 19), none, .q (.nc (.t 18))⟩,
      ⟨(some 20), none, .q (.fa 1 (.t 19))⟩,
      ⟨(some 21), none, .l (.ld1 (.t 20))⟩,
      ⟨(some 22), none, .l (.ia 4 (.t 17) (.t 21))⟩,
      ⟨(some 23), none, .l (.ldn 4 (.t 22))⟩,
      ⟨none, none, .e (.st 4 (.t 2) (.t 23))⟩])
      (.ret)))
def rs18 : List RV := [.ld (.ldn 4 (.t 2))]
theorem ok18 : trFn Try.prog true ⟨fun _ _ => .own [], fun _ => false⟩ Try.f18 = some (pc18, rs18) := by kernel_rfl
/-- (*robotics/lexer.Scanner).Mark -/
def pc20 : PC :=
  .seq (.reg /- 0 -/ [⟨(some 4), none, .q (.mv (.k (.bool false)))⟩])
  (.seq (.reg /- 1 -/ [⟨(some 5), none, .q (.mv (.t 0))⟩,
      ⟨(some 6), none, .q (.mv (.t 1))⟩,
      ⟨(some 7), none, .cl 37 [(.t 5), (.k (.int .i64 4)), (.t 6)] [0]⟩,
      ⟨(some 4), none, .q (.mv (.t 7))⟩])
    (.ret))
def rs20 : List RV := [.mv (.t 4)]
theorem ok20 : trFn Try.prog true ⟨fun r k => if r = 1 ∧ k = 2 then .own [0] else .own [], fun _ => false⟩ Try.f20 = some (pc20, rs20) := by kernel_rfl
/-- (*robotics/lexer.Scanner).Word -/
def pc22 : PC :=
  .seq (.reg /- 0 -/ [⟨(some 4), none, .q (.mv (.k (.bool false)))⟩])
  (.seq (.reg /- 1 -/ [⟨(some 5), none, .q (.mv (.t 0))⟩,
      ⟨(some 6), none, .q (.mv (.t 1))⟩,
      ⟨(some 7), none, .cl 37 [(.t 5), (.k (.int .i64 1)), (.t 6)] [0]⟩,
      ⟨(some 4), none, .q (.mv (.t 7))⟩])
    (.ret))
def rs22 : List RV := [.mv (.t 4)]
theorem ok22 : trFn Try.prog true ⟨fun r k => if r = 1 ∧ k = 2 then .own [0] else .own [], fun _ => false⟩ Try.f22 = some (pc22, rs22) := by kernel_rfl
/-- robotics/lexer.Print -/
def pc24 : PC :=
  .seq (.reg /- 0 -/ [⟨(some 2), none, .q (.mv (.k (.string (mk []))))⟩])
  (.seq (.reg /- 1 -/ [⟨(some 3), none, .e (.al (.agg #[(.pointer none), (.slice none 0 0)]) 62)⟩])
    (.seq (.seq (.reg /- 2 -/ [⟨(some 8), none, .q (.mv (.t 0))⟩,
      ⟨(some 9), none, .q (.lnL (.t 8))⟩,
      ⟨(some 10), none, .q (.mv (.k (.int .i64 0)))⟩])
      (.block 0 (.loop (.seq (.reg /- 3 -/ [⟨(some 11), none, .q (.bin .lss true (.t 10) (.t 9))⟩])
            (.seq (.cond (.t 11)
              (.skip)
              (.exit 0))
              (.seq (.block 1 (.seq (.reg /- 4 -/ [⟨(some 12), none, .l (.ia 4 (.t 8) (.t 10))⟩,
      ⟨(some 13), none, .l (.ldn 4 (.t 12))⟩,
      ⟨(some 5), none, .e (.al (.agg #[(.int .i64 0), (.string (mk [])), (.int .i64 0), (.int .i64 0)]) 30)⟩,
      ⟨none, none, .e (.st 4 (.t 5) (.t 13))⟩])
                  (.seq (.reg /- 5 -/ [⟨(some 15), none, .l (.ldn 4 (.t 5))⟩,
      ⟨(some 16), none, .cl 38 [(.t 15)] []⟩,
      ⟨(some 14), none, .q (.mv (.t 16))⟩,
      ⟨(some 17), none, .q (.ex (.t 14) 0)⟩,
      ⟨(some 18), none, .q (.ex (.t 14) 1)⟩,
      ⟨(some 6), none, .q (.mv (.t 17))⟩,
      ⟨(some 7), none, .q (.mv (.t 18))⟩])
                    (.seq (.seq (.reg /- 6 -/ [⟨(some 19), none, .q (.mv (.t 7))⟩,
      ⟨(some 20), none, .q (.not (.t 19))⟩])
                      (.cond (.t 20)
                        (.exit 1)
                        (.skip)))
                      (.seq (.seq (.reg /- 7 -/ [⟨(some 21), none, .cl 39 [(.t 3)] [0]⟩,
      ⟨(some 22), none, .q (.bin .gtr true (.t 21) (.k (.int .i64 0)))⟩])
                        (.cond (.t 22)
                          (.reg /- 8 -/ [⟨(some 23), none, .cl 40 [(.t 3), (.k (.int .u8 32))] [0]⟩])
                          (.skip)))
                        (.reg /- 9 -/ [⟨(some 24), none, .q (.mv (.t 6))⟩,
      ⟨(some 25), none, .cl 41 [(.t 3), (.t 24)] [0]⟩]))))))
                (.reg /- 10 -/ [⟨(some 26), none, .q (.bin .add true (.t 10) (.k (.int .i64 1)))⟩,
      ⟨(some 10), none, .q (.mv (.t 26))⟩])))))))
      (.seq (.reg /- 11 -/ [⟨(some 27), none, .cl 42 [(.t 3)] [0]⟩,
      ⟨(some 2), none, .q (.mv (.t 27))⟩])
        (.ret))))
def rs24 : List RV := [.mv (.t 2)]
theorem ok24 : trFn Try.prog true ⟨fun r k => if r = 7 ∧ k = 0 then .own [0] else if r = 8 ∧ k = 0 then .own [0] else if r = 9 ∧ k = 1 then .own [0] else if r = 11 ∧ k = 0 then .own [0] else .own [], fun _ => false⟩ Try.f24 = some (pc24, rs24) := by kernel_rfl
/-- (*robotics/lexer.scanner).next -/
def pc27 : PC :=
  .seq (.reg /- 0 -/ [⟨(some 2), none, .e (.al (.agg #[(.int .i64 0), (.string (mk [])), (.int .i64 0), (.int .i64 0)]) 30)⟩])
  (.seq (.reg /- 1 -/ [⟨(some 3), none, .q (.mv (.t 0))⟩,
      ⟨(some 4), none, .cl 45 [(.t 3)] [0]⟩])
    (.seq (.seq (.reg /- 2 -/ [⟨(some 5), none, .q (.mv (.t 0))⟩,
      ⟨(some 6), none, .cl 46 [(.t 5)] [0]⟩])
      (.block 0 (.seq (.reg /- 3 -/ [⟨(some 8), none, .q (.bin .eql true (.t 6) (.k (.int .i64 (-1))))⟩,
      ⟨(some 7), none, .q (.mv (.t 8))⟩])
          (.cond (.t 7)
            (.seq (.reg /- 4 -/ [⟨(some 9), none, .q (.mv (.t 0))⟩,
      ⟨(some 10), none, .q (.nc (.t 9))⟩,
      ⟨(some 11), none, .q (.fa 1 (.t 10))⟩,
      ⟨(some 12), none, .l (.ld1 (.t 11))⟩,
      ⟨(some 13), none, .q (.bd [(.int .i64 0), (.string (mk [])), (.int .i64 0), (.int .i64 0)] [(3, 1, (.t 12))])⟩,
      ⟨none, none, .e (.st 4 (.t 2) (.t 13))⟩])
              (.ret))
            (.seq (.reg /- 5 -/ [⟨(some 15), none, .q (.bin .eql true (.t 6) (.k (.int .i64 3)))⟩,
      ⟨(some 14), none, .q (.mv (.t 15))⟩])
              (.cond (.t 14)
                (.seq (.reg /- 6 -/ [⟨(some 16), none, .q (.mv (.t 0))⟩,
      ⟨(some 17), none, .cl 47 [(.t 16)] [0]⟩,
      ⟨none, none, .e (.st 4 (.t 2) (.t 17))⟩])
                  (.ret))
                (.seq (.seq (.reg /- 7 -/ [⟨(some 19), none, .q (.bin .eql true (.t 6) (.k (.int .i64 4)))⟩,
      ⟨(some 18), none, .q (.mv (.t 19))⟩])
                  (.cond (.t 18)
                    (.skip)
                    (.reg /- 8 -/ [⟨(some 20), none, .q (.bin .eql true (.t 6) (.k (.int .i64 5)))⟩,
      ⟨(some 18), none, .q (.mv (.t 20))⟩])))
                  (.cond (.t 18)
                    (.seq (.reg /- 9 -/ [⟨(some 21), none, .q (.mv (.t 0))⟩,
      ⟨(some 22), none, .cl 48 [(.t 21)] [0]⟩,
      ⟨none, none, .e (.st 4 (.t 2) (.t 22))⟩])
                      (.ret))
                    (.seq (.reg /- 10 -/ [⟨(some 24), none, .q (.bin .eql true (.t 6) (.k (.int .i64 7)))⟩,
      ⟨(some 23), none, .q (.mv (.t 24))⟩])
                      (.cond (.t 23)
                        (.seq (.reg /- 11 -/ [⟨(some 25), none, .q (.mv (.t 0))⟩,
      ⟨(some 26), none, .cl 49 [(.t 25)] [0]⟩,
      ⟨none, none, .e (.st 4 (.t 2) (.t 26))⟩])
                          (.ret))
                        (.seq (.reg /- 12 -/ [⟨(some 28), none, .q (.bin .eql true (.t 6) (.k (.int .i64 8)))⟩,
      ⟨(some 27), none, .q (.mv (.t 28))⟩])
                          (.cond (.t 27)
                            (.seq (.reg /- 13 -/ [⟨(some 29), none, .q (.mv (.t 0))⟩,
      ⟨(some 30), none, .q (.nc (.t 29))⟩,
      ⟨(some 31), none, .q (.fa 1 (.t 30))⟩,
      ⟨(some 32), none, .l (.ld1 (.t 31))⟩,
      ⟨(some 33), none, .q (.bin .add true (.t 32) (.k (.int .i64 1)))⟩,
      ⟨(some 34), none, .q (.nc (.t 29))⟩,
      ⟨(some 35), none, .q (.fa 1 (.t 34))⟩,
      ⟨none, none, .e (.st 1 (.t 35) (.t 33))⟩])
                              (.seq (.reg /- 14 -/ [⟨(some 36), none, .q (.mv (.t 0))⟩,
      ⟨(some 37), none, .q (.nc (.t 36))⟩,
      ⟨(some 38), none, .q (.fa 0 (.t 37))⟩,
      ⟨(some 39), none, .l (.ld1 (.t 38))⟩,
      ⟨(some 40), none, .q (.mv (.t 0))⟩,
      ⟨(some 41), none, .q (.nc (.t 40))⟩,
      ⟨(some 42), none, .q (.fa 1 (.t 41))⟩,
      ⟨(some 43), none, .l (.ld1 (.t 42))⟩,
      ⟨(some 44), none, .q (.bin .sub true (.t 43) (.k (.int .i64 1)))⟩,
      ⟨(some 45), none, .q (.mv (.t 0))⟩,
      ⟨(some 46), none, .q (.nc (.t 45))⟩,
      ⟨(some 47), none, .q (.fa 1 (.t 46))⟩,
      ⟨(some 48), none, .l (.ld1 (.t 47))⟩,
      ⟨(some 49), none, .q (.ss (.t 39) (some (.t 44)) (some (.t 48)))⟩,
      ⟨(some 50), none, .q (.mv (.t 0))⟩,
      ⟨(some 51), none, .q (.nc (.t 50))⟩,
      ⟨(some 52), none, .q (.fa 1 (.t 51))⟩,
      ⟨(some 53), none, .l (.ld1 (.t 52))⟩,
      ⟨(some 54), none, .q (.bin .sub true (.t 53) (.k (.int .i64 1)))⟩,
      ⟨(some 55), none, .q (.bd [(.int .i64 0), (.string (mk [])), (.int .i64 0), (.int .i64 0)] [(0, 1, (.k (.int .i64 4))), (1, 1, (.t 49)), (3, 1, (.t 54))])⟩,
      ⟨none, none, .e (.st 4 (.t 2) (.t 55))⟩])
                                (.ret)))
                            (.skip)))))))))))))
      (.seq (.reg /- 15 -/ [⟨(some 56), none, .q (.mv (.t 0))⟩,
      ⟨(some 57), none, .q (.mv (.t 0))⟩,
      ⟨(some 58), none, .q (.nc (.t 57))⟩,
      ⟨(some 59), none, .q (.fa 1 (.t 58))⟩,
      ⟨(some 60), none, .l (.ld1 (.t 59))⟩,
      ⟨(some 61), none, .cl 50 [(.t 56), (.k (.int .i64 2)), (.t 60)] [0]⟩])
        (.seq (.reg /- 16 -/ [⟨(some 62), none, .q (.bd [(.int .i64 0), (.string (mk [])), (.int .i64 0), (.int .i64 0)] [])⟩,
      ⟨none, none, .e (.st 4 (.t 2) (.t 62))⟩])
          (.ret)))))
def rs27 : List RV := [.ld (.ldn 4 (.t 2))]
theorem ok27 : trFn Try.prog true ⟨fun r k => if r = 1 ∧ k = 1 then .own [0] else if r = 2 ∧ k = 1 then .own [0] else if r = 6 ∧ k = 1 then .own [0] else if r = 9 ∧ k = 1 then .own [0] else if r = 11 ∧ k = 1 then .own [0] else if r = 15 ∧ k = 5 then .own [0] else .own [], fun _ => false⟩ Try.f27 = some (pc27, rs27) := by kernel_rfl
/-- robotics/lexer.class -/
def pc35 : PC :=
  .seq (.reg /- 0 -/ [⟨(some 2), none, .q (.mv (.k (.int .i64 0)))⟩])
  (.seq (.seq (.reg /- 1 -/ [⟨(some 4), none, .q (.mv (.t 0))⟩,
      ⟨(some 5), none, .q (.cvt .i32 (.t 4))⟩,
      ⟨(some 3), none, .q (.mv (.t 5))⟩])
    (.block 0 (.seq (.reg /- 2 -/ [⟨(some 7), none, .q (.mv (.t 3))⟩,
      ⟨(some 8), none, .q (.bin .eql true (.t 7) (.k (.int .i32 32)))⟩,
      ⟨(some 9), none, .q (.mv (.t 8))⟩,
      ⟨(some 10), (some (9, false)), .q (.mv (.t 3))⟩,
      ⟨(some 11), (some (9, false)), .q (.bin .eql true (.t 10) (.k (.int .i32 9)))⟩,
      ⟨(some 12), none, .pick (.t 9) (.k (.bool true)) (.t 11)⟩,
      ⟨(some 13), none, .q (.mv (.t 12))⟩,
      ⟨(some 14), (some (13, false)), .q (.mv (.t 3))⟩,
      ⟨(some 15), (some (13, false)), .q (.bin .eql true (.t 14) (.k (.int .i32 10)))⟩,
      ⟨(some 16), none, .pick (.t 13) (.k (.bool true)) (.t 15)⟩,
      ⟨(some 6), none, .q (.mv (.t 16))⟩])
        (.cond (.t 6)
          (.seq (.reg /- 3 -/ [⟨(some 2), none, .q (.mv (.k (.int .i64 1)))⟩])
            (.ret))
          (.seq (.reg /- 4 -/ [⟨(some 18), none, .q (.mv (.t 3))⟩,
      ⟨(some 19), none, .q (.bin .eql true (.t 18) (.k (.int .i32 35)))⟩,
      ⟨(some 17), none, .q (.mv (.t 19))⟩])
            (.cond (.t 17)
              (.seq (.reg /- 5 -/ [⟨(some 2), none, .q (.mv (.k (.int .i64 2)))⟩])
                (.ret))
              (.seq (.reg /- 6 -/ [⟨(some 21), none, .q (.mv (.t 3))⟩,
      ⟨(some 22), none, .q (.bin .geq true (.t 21) (.k (.int .i32 97)))⟩,
      ⟨(some 23), none, .q (.mv (.t 22))⟩,
      ⟨(some 24), (some (23, true)), .q (.mv (.t 3))⟩,
      ⟨(some 25), (some (23, true)), .q (.bin .leq true (.t 24) (.k (.int .i32 122)))⟩,
      ⟨(some 26), none, .pick (.t 23) (.t 25) (.k (.bool false))⟩,
      ⟨(some 27), none, .q (.mv (.t 26))⟩,
      ⟨(some 28), (some (27, false)), .q (.mv (.t 3))⟩,
      ⟨(some 29), (some (27, false)), .q (.bin .geq true (.t 28) (.k (.int .i32 65)))⟩,
      ⟨(some 30), (some (27, false)), .q (.mv (.t 29))⟩,
      ⟨(some 31), (some (30, true)), .q (.mv (.t 3))⟩,
      ⟨(some 32), (some (30, true)), .q (.bin .leq true (.t 31) (.k (.int .i32 90)))⟩,
      ⟨(some 33), (some (27, false)), .pick (.t 30) (.t 32) (.k (.bool false))⟩,
      ⟨(some 34), none, .pick (.t 27) (.k (.bool true)) (.t 33)⟩,
      ⟨(some 20), none, .q (.mv (.t 34))⟩])
                (.cond (.t 20)
                  (.seq (.reg /- 7 -/ [⟨(some 2), none, .q (.mv (.k (.int .i64 3)))⟩])
                    (.ret))
                  (.seq (.reg /- 8 -/ [⟨(some 36), none, .q (.mv (.t 3))⟩,
      ⟨(some 37), none, .q (.bin .geq true (.t 36) (.k (.int .i32 48)))⟩,
      ⟨(some 38), none, .q (.mv (.t 37))⟩,
      ⟨(some 39), (some (38, true)), .q (.mv (.t 3))⟩,
      ⟨(some 40), (some (38, true)), .q (.bin .leq true (.t 39) (.k (.int .i32 57)))⟩,
      ⟨(some 41), none, .pick (.t 38) (.t 40) (.k (.bool false))⟩,
      ⟨(some 35), none, .q (.mv (.t 41))⟩])
                    (.cond (.t 35)
                      (.seq (.reg /- 9 -/ [⟨(some 2), none, .q (.mv (.k (.int .i64 4)))⟩])
                        (.ret))
                      (.seq (.reg /- 10 -/ [⟨(some 43), none, .q (.mv (.t 3))⟩,
      ⟨(some 44), none, .q (.bin .eql true (.t 43) (.k (.int .i32 45)))⟩,
      ⟨(some 42), none, .q (.mv (.t 44))⟩])
                        (.cond (.t 42)
                          (.seq (.reg /- 11 -/ [⟨(some 2), none, .q (.mv (.k (.int .i64 5)))⟩])
                            (.ret))
                          (.seq (.reg /- 12 -/ [⟨(some 46), none, .q (.mv (.t 3))⟩,
      ⟨(some 47), none, .q (.bin .eql true (.t 46) (.k (.int .i32 95)))⟩,
      ⟨(some 45), none, .q (.mv (.t 47))⟩])
                            (.cond (.t 45)
                              (.seq (.reg /- 13 -/ [⟨(some 2), none, .q (.mv (.k (.int .i64 6)))⟩])
                                (.ret))
                              (.seq (.reg /- 14 -/ [⟨(some 49), none, .q (.mv (.t 3))⟩,
      ⟨(some 50), none, .q (.bin .eql true (.t 49) (.k (.int .i32 34)))⟩,
      ⟨(some 48), none, .q (.mv (.t 50))⟩])
                                (.cond (.t 48)
                                  (.seq (.reg /- 15 -/ [⟨(some 2), none, .q (.mv (.k (.int .i64 7)))⟩])
                                    (.ret))
                                  (.seq (.reg /- 16 -/ [⟨(some 52), none, .q (.mv (.t 0))⟩,
      ⟨(some 53), none, .cq 52 [(.k (.string (mk [123, 125, 40, 41, 91, 93, 58, 59, 44, 61, 46, 63, 33, 38, 124, 64]))), (.t 52)]⟩,
      ⟨(some 54), none, .q (.bin .geq true (.t 53) (.k (.int .i64 0)))⟩,
      ⟨(some 51), none, .q (.mv (.t 54))⟩])
                                    (.cond (.t 51)
                                      (.seq (.reg /- 17 -/ [⟨(some 2), none, .q (.mv (.k (.int .i64 8)))⟩])
                                        (.ret))
                                      (.skip)))))))))))))))))))
    (.seq (.reg /- 18 -/ [⟨(some 2), none, .q (.mv (.k (.int .i64 0)))⟩])
      (.ret)))
def rs35 : List RV := [.mv (.t 2)]
theorem ok35 : trFn Try.prog true ⟨fun r k => if r = 16 ∧ k = 1 then .q else .own [], fun _ => false⟩ Try.f35 = some (pc35, rs35) := by kernel_rfl
/-- (*robotics/lexer.Scanner).take -/
def pc37 : PC :=
  .seq (.reg /- 0 -/ [⟨(some 6), none, .q (.mv (.k (.bool false)))⟩])
  (.seq (.seq (.reg /- 1 -/ [⟨(some 8), none, .q (.mv (.t 0))⟩,
      ⟨(some 9), none, .cl 18 [(.t 8)] [0]⟩,
      ⟨(some 7), none, .e (.al (.agg #[(.int .i64 0), (.string (mk [])), (.int .i64 0), (.int .i64 0)]) 30)⟩,
      ⟨none, none, .e (.st 4 (.t 7) (.t 9))⟩])
    (.seq (.reg /- 2 -/ [⟨(some 10), none, .q (.fa 0 (.t 7))⟩,
      ⟨(some 11), none, .l (.ld1 (.t 10))⟩,
      ⟨(some 12), none, .q (.mv (.t 1))⟩,
      ⟨(some 13), none, .q (.bin .neq true (.t 11) (.t 12))⟩,
      ⟨(some 14), none, .q (.mv (.t 13))⟩,
      ⟨(some 15), (some (14, false)), .q (.fa 1 (.t 7))⟩,
      ⟨(some 16), (some (14, false)), .l (.ld1 (.t 15))⟩,
      ⟨(some 17), (some (14, false)), .q (.mv (.t 2))⟩,
      ⟨(some 18), (some (14, false)), .q (.bin .neq true (.t 16) (.t 17))⟩,
      ⟨(some 19), none, .pick (.t 14) (.k (.bool true)) (.t 18)⟩])
      (.cond (.t 19)
        (.seq (.reg /- 3 -/ [⟨(some 6), none, .q (.mv (.k (.bool false)))⟩])
          (.ret))
        (.skip))))
    (.seq (.reg /- 4 -/ [⟨(some 20), none, .q (.mv (.t 0))⟩,
      ⟨(some 21), none, .cl 16 [(.t 20)] [0]⟩])
      (.seq (.reg /- 5 -/ [⟨(some 6), none, .q (.mv (.k (.bool true)))⟩])
        (.ret))))
def rs37 : List RV := [.mv (.t 6)]
theorem ok37 : trFn Try.prog true ⟨fun r k => if r = 1 ∧ k = 1 then .own [0] else if r = 4 ∧ k = 1 then .own [0] else .own [], fun _ => false⟩ Try.f37 = some (pc37, rs37) := by kernel_rfl
/-- robotics/lexer.printed -/
def pc38 : PC :=
  .seq (.reg /- 0 -/ [⟨(some 1), none, .e (.bx 30 (.t 0))⟩,
      ⟨(some 2), none, .q (.mv (.k (.string (mk []))))⟩,
      ⟨(some 3), none, .q (.mv (.k (.bool false)))⟩])
  (.seq (.seq (.reg /- 1 -/ [⟨(some 6), none, .q (.fa 0 (.t 1))⟩,
      ⟨(some 7), none, .l (.ld1 (.t 6))⟩])
    (.block 0 (.seq (.reg /- 2 -/ [⟨(some 9), none, .q (.bin .eql true (.t 7) (.k (.int .i64 1)))⟩,
      ⟨(some 8), none, .q (.mv (.t 9))⟩])
        (.cond (.t 8)
          (.seq (.reg /- 3 -/ [⟨(some 10), none, .q (.fa 1 (.t 1))⟩,
      ⟨(some 11), none, .l (.ld1 (.t 10))⟩,
      ⟨(some 12), none, .q (.fa 2 (.t 1))⟩,
      ⟨(some 13), none, .l (.ld1 (.t 12))⟩,
      ⟨(some 14), none, .q (.bin .eql true (.t 13) (.k (.int .i64 0)))⟩,
      ⟨(some 15), none, .q (.mv (.t 14))⟩,
      ⟨(some 16), (some (15, true)), .q (.fa 1 (.t 1))⟩,
      ⟨(some 17), (some (15, true)), .l (.ld1 (.t 16))⟩,
      ⟨(some 18), (some (15, true)), .cq 12 [(.t 17)]⟩,
      ⟨(some 19), none, .pick (.t 15) (.t 18) (.k (.bool false))⟩,
      ⟨(some 2), none, .q (.mv (.t 11))⟩,
      ⟨(some 3), none, .q (.mv (.t 19))⟩])
            (.ret))
          (.seq (.reg /- 4 -/ [⟨(some 21), none, .q (.bin .eql true (.t 7) (.k (.int .i64 2)))⟩,
      ⟨(some 20), none, .q (.mv (.t 21))⟩])
            (.cond (.t 20)
              (.seq (.reg /- 5 -/ [⟨(some 22), none, .q (.fa 2 (.t 1))⟩,
      ⟨(some 23), none, .l (.ld1 (.t 22))⟩,
      ⟨(some 24), none, .cq 53 [(.t 23)]⟩,
      ⟨(some 25), none, .q (.fa 1 (.t 1))⟩,
      ⟨(some 26), none, .l (.ld1 (.t 25))⟩,
      ⟨(some 27), none, .q (.bin .eql true (.t 26) (.k (.string (mk []))))⟩,
      ⟨(some 2), none, .q (.mv (.t 24))⟩,
      ⟨(some 3), none, .q (.mv (.t 27))⟩])
                (.ret))
              (.seq (.reg /- 6 -/ [⟨(some 29), none, .q (.bin .eql true (.t 7) (.k (.int .i64 3)))⟩,
      ⟨(some 28), none, .q (.mv (.t 29))⟩])
                (.cond (.t 28)
                  (.seq (.reg /- 7 -/ [⟨(some 30), none, .q (.fa 2 (.t 1))⟩,
      ⟨(some 31), none, .l (.ld1 (.t 30))⟩,
      ⟨(some 32), none, .q (.bin .eql true (.t 31) (.k (.int .i64 0)))⟩,
      ⟨(some 33), none, .q (.mv (.t 32))⟩,
      ⟨(some 34), (some (33, true)), .q (.fa 1 (.t 1))⟩,
      ⟨(some 35), (some (33, true)), .l (.ld1 (.t 34))⟩,
      ⟨(some 36), (some (33, true)), .q (.lnS (.t 35))⟩,
      ⟨(some 37), (some (33, true)), .q (.bin .leq true (.t 36) (.k (.int .i64 200)))⟩,
      ⟨(some 38), none, .pick (.t 33) (.t 37) (.k (.bool false))⟩,
      ⟨(some 4), none, .q (.mv (.t 38))⟩])
                    (.seq (.seq (.reg /- 8 -/ [⟨(some 39), none, .q (.fa 1 (.t 1))⟩,
      ⟨(some 40), none, .l (.ld1 (.t 39))⟩,
      ⟨(some 41), none, .q (.lnS (.t 40))⟩,
      ⟨(some 42), none, .q (.mv (.k (.int .i64 0)))⟩])
                      (.block 1 (.loop (.seq (.reg /- 9 -/ [⟨(some 43), none, .q (.bin .lss true (.t 42) (.t 41))⟩])
                            (.seq (.cond (.t 43)
                              (.skip)
                              (.exit 1))
                              (.seq (.block 2 (.seq (.reg /- 10 -/ [⟨(some 44), none, .q (.mv (.t 42))⟩,
      ⟨(some 5), none, .q (.mv (.t 44))⟩])
                                  (.reg /- 11 -/ [⟨(some 45), none, .q (.mv (.t 4))⟩,
      ⟨(some 46), none, .q (.mv (.t 45))⟩,
      ⟨(some 47), (some (46, true)), .q (.fa 1 (.t 1))⟩,
      ⟨(some 48), (some (46, true)), .l (.ld1 (.t 47))⟩,
      ⟨(some 49), (some (46, true)), .q (.mv (.t 5))⟩,
      ⟨(some 50), (some (46, true)), .ix (.t 48) (.t 49)⟩,
      ⟨(some 51), (some (46, true)), .q (.bin .geq true (.t 50) (.k (.int .u8 32)))⟩,
      ⟨(some 52), none, .pick (.t 46) (.t 51) (.k (.bool false))⟩,
      ⟨(some 53), none, .q (.mv (.t 52))⟩,
      ⟨(some 54), (some (53, true)), .q (.fa 1 (.t 1))⟩,
      ⟨(some 55), (some (53, true)), .l (.ld1 (.t 54))⟩,
      ⟨(some 56), (some (53, true)), .q (.mv (.t 5))⟩,
      ⟨(some 57), (some (53, true)), .ix (.t 55) (.t 56)⟩,
      ⟨(some 58), (some (53, true)), .q (.bin .leq true (.t 57) (.k (.int .u8 126)))⟩,
      ⟨(some 59), none, .pick (.t 53) (.t 58) (.k (.bool false))⟩,
      ⟨(some 4), none, .q (.mv (.t 59))⟩])))
                                (.reg /- 12 -/ [⟨(some 60), none, .q (.bin .add true (.t 42) (.k (.int .i64 1)))⟩,
      ⟨(some 42), none, .q (.mv (.t 60))⟩])))))))
                      (.seq (.reg /- 13 -/ [⟨(some 61), none, .q (.fa 1 (.t 1))⟩,
      ⟨(some 62), none, .l (.ld1 (.t 61))⟩,
      ⟨(some 63), none, .cq 54 [(.t 62)]⟩,
      ⟨(some 64), none, .q (.mv (.t 4))⟩,
      ⟨(some 2), none, .q (.mv (.t 63))⟩,
      ⟨(some 3), none, .q (.mv (.t 64))⟩])
                        (.ret))))
                  (.seq (.reg /- 14 -/ [⟨(some 66), none, .q (.bin .eql true (.t 7) (.k (.int .i64 4)))⟩,
      ⟨(some 65), none, .q (.mv (.t 66))⟩])
                    (.cond (.t 65)
                      (.seq (.reg /- 15 -/ [⟨(some 67), none, .q (.fa 1 (.t 1))⟩,
      ⟨(some 68), none, .l (.ld1 (.t 67))⟩,
      ⟨(some 69), none, .q (.fa 2 (.t 1))⟩,
      ⟨(some 70), none, .l (.ld1 (.t 69))⟩,
      ⟨(some 71), none, .q (.bin .eql true (.t 70) (.k (.int .i64 0)))⟩,
      ⟨(some 72), none, .q (.mv (.t 71))⟩,
      ⟨(some 73), (some (72, true)), .q (.fa 1 (.t 1))⟩,
      ⟨(some 74), (some (72, true)), .l (.ld1 (.t 73))⟩,
      ⟨(some 75), (some (72, true)), .q (.lnS (.t 74))⟩,
      ⟨(some 76), (some (72, true)), .q (.bin .eql true (.t 75) (.k (.int .i64 1)))⟩,
      ⟨(some 77), none, .pick (.t 72) (.t 76) (.k (.bool false))⟩,
      ⟨(some 78), none, .q (.mv (.t 77))⟩,
      ⟨(some 79), (some (78, true)), .q (.fa 1 (.t 1))⟩,
      ⟨(some 80), (some (78, true)), .l (.ld1 (.t 79))⟩,
      ⟨(some 81), (some (78, true)), .ix (.t 80) (.k (.int .i64 0))⟩,
      ⟨(some 82), (some (78, true)), .cq 35 [(.t 81)]⟩,
      ⟨(some 83), (some (78, true)), .q (.bin .eql true (.t 82) (.k (.int .i64 8)))⟩,
      ⟨(some 84), none, .pick (.t 78) (.t 83) (.k (.bool false))⟩,
      ⟨(some 2), none, .q (.mv (.t 68))⟩,
      ⟨(some 3), none, .q (.mv (.t 84))⟩])
                        (.ret))
                      (.skip)))))))))))
    (.seq (.reg /- 16 -/ [⟨(some 2), none, .q (.mv (.k (.string (mk []))))⟩,
      ⟨(some 3), none, .q (.mv (.k (.bool false)))⟩])
      (.ret)))
def rs38 : List RV := [.mv (.t 2), .mv (.t 3)]
theorem ok38 : trFn Try.prog true ⟨fun r k => if r = 3 ∧ k = 8 then .q else if r = 5 ∧ k = 2 then .q else if r = 13 ∧ k = 2 then .q else if r = 15 ∧ k = 15 then .q else .own [], fun _ => false⟩ Try.f38 = some (pc38, rs38) := by kernel_rfl
/-- (*strings.Builder).Len -/
def pc39 : PC :=
  .seq (.reg /- 0 -/ [⟨(some 2), none, .q (.mv (.k (.int .i64 0)))⟩])
  (.seq (.reg /- 1 -/ [⟨(some 3), none, .q (.mv (.t 0))⟩,
      ⟨(some 4), none, .q (.nc (.t 3))⟩,
      ⟨(some 5), none, .q (.fa 1 (.t 4))⟩,
      ⟨(some 6), none, .l (.ld1 (.t 5))⟩,
      ⟨(some 7), none, .q (.lnL (.t 6))⟩,
      ⟨(some 2), none, .q (.mv (.t 7))⟩])
    (.ret))
def rs39 : List RV := [.mv (.t 2)]
theorem ok39 : trFn Try.prog true ⟨fun _ _ => .own [], fun _ => false⟩ Try.f39 = some (pc39, rs39) := by kernel_rfl
/-- (*strings.Builder).WriteByte -/
def pc40 : PC :=
  .seq (.reg /- 0 -/ [⟨(some 4), none, .q (.mv (.k .nilIface))⟩])
  (.seq (.reg /- 1 -/ [⟨(some 5), none, .q (.mv (.t 0))⟩,
      ⟨(some 6), none, .cl 55 [(.t 5)] [0, 1]⟩])
    (.seq (.reg /- 2 -/ [⟨(some 7), none, .q (.mv (.t 0))⟩,
      ⟨(some 8), none, .q (.mv (.t 0))⟩,
      ⟨(some 9), none, .q (.nc (.t 8))⟩,
      ⟨(some 10), none, .q (.fa 1 (.t 9))⟩,
      ⟨(some 11), none, .l (.ld1 (.t 10))⟩,
      ⟨(some 12), none, .q (.mv (.t 1))⟩,
      ⟨(some 13), none, .e (.bsl 5 1 [(.t 12)])⟩,
      ⟨(some 14), none, .e (.ap 5 1 1 (.t 11) (.t 13))⟩,
      ⟨(some 15), none, .q (.nc (.t 7))⟩,
      ⟨(some 16), none, .q (.fa 1 (.t 15))⟩,
      ⟨none, none, .e (.st 1 (.t 16) (.t 14))⟩])
      (.seq (.reg /- 3 -/ [⟨(some 4), none, .q (.mv (.k .nilIface))⟩])
        (.ret))))
def rs40 : List RV := [.mv (.t 4)]
theorem ok40 : trFn Try.prog true ⟨fun r k => if r = 1 ∧ k = 1 then .own [0, 1] else .own [], fun _ => false⟩ Try.f40 = some (pc40, rs40) := by kernel_rfl
/-- (*strings.Builder).WriteString -/
def pc41 : PC :=
  .seq (.reg /- 0 -/ [⟨(some 4), none, .q (.mv (.k (.int .i64 0)))⟩,
      ⟨(some 5), none, .q (.mv (.k .nilIface))⟩])
  (.seq (.reg /- 1 -/ [⟨(some 6), none, .q (.mv (.t 0))⟩,
      ⟨(some 7), none, .cl 55 [(.t 6)] [0]⟩])
    (.seq (.reg /- 2 -/ [⟨(some 8), none, .q (.mv (.t 0))⟩,
      ⟨(some 9), none, .q (.mv (.t 0))⟩,
      ⟨(some 10), none, .q (.nc (.t 9))⟩,
      ⟨(some 11), none, .q (.fa 1 (.t 10))⟩,
      ⟨(some 12), none, .l (.ld1 (.t 11))⟩,
      ⟨(some 13), none, .q (.mv (.t 1))⟩,
      ⟨(some 14), none, .e (.aps 5 (.t 12) (.t 13))⟩,
      ⟨(some 15), none, .q (.nc (.t 8))⟩,
      ⟨(some 16), none, .q (.fa 1 (.t 15))⟩,
      ⟨none, none, .e (.st 1 (.t 16) (.t 14))⟩])
      (.seq (.reg /- 3 -/ [⟨(some 17), none, .q (.mv (.t 1))⟩,
      ⟨(some 18), none, .q (.lnS (.t 17))⟩,
      ⟨(some 4), none, .q (.mv (.t 18))⟩,
      ⟨(some 5), none, .q (.mv (.k .nilIface))⟩])
        (.ret))))
def rs41 : List RV := [.mv (.t 4), .mv (.t 5)]
theorem ok41 : trFn Try.prog true ⟨fun r k => if r = 1 ∧ k = 1 then .own [0] else .own [], fun _ => false⟩ Try.f41 = some (pc41, rs41) := by kernel_rfl
/-- (*strings.Builder).String -/
def pc42 : PC :=
  .seq (.reg /- 0 -/ [⟨(some 2), none, .q (.mv (.k (.string (mk []))))⟩])
  (.seq (.reg /- 1 -/ [⟨(some 3), none, .q (.mv (.t 0))⟩,
      ⟨(some 4), none, .q (.nc (.t 3))⟩,
      ⟨(some 5), none, .q (.fa 1 (.t 4))⟩,
      ⟨(some 6), none, .l (.ld1 (.t 5))⟩,
      ⟨(some 7), none, .q (.usd (.t 6))⟩,
      ⟨(some 8), none, .q (.mv (.t 0))⟩,
      ⟨(some 9), none, .q (.nc (.t 8))⟩,
      ⟨(some 10), none, .q (.fa 1 (.t 9))⟩,
      ⟨(some 11), none, .l (.ld1 (.t 10))⟩,
      ⟨(some 12), none, .q (.lnL (.t 11))⟩,
      ⟨(some 13), none, .e (.us 5 (.t 7) (.t 12))⟩,
      ⟨(some 2), none, .q (.mv (.t 13))⟩])
    (.ret))
def rs42 : List RV := [.mv (.t 2)]
theorem ok42 : trFn Try.prog true ⟨fun _ _ => .own [], fun _ => false⟩ Try.f42 = some (pc42, rs42) := by kernel_rfl
/-- (*robotics/lexer.scanner).skip -/
def pc45 : PC :=
  .block 0 (.loop (.seq (.seq (.reg /- 0 -/ [⟨(some 3), none, .q (.mv (.t 0))⟩,
      ⟨(some 4), none, .q (.nc (.t 3))⟩,
      ⟨(some 5), none, .q (.fa 1 (.t 4))⟩,
      ⟨(some 6), none, .l (.ld1 (.t 5))⟩,
      ⟨(some 7), none, .q (.mv (.t 0))⟩,
      ⟨(some 8), none, .q (.nc (.t 7))⟩,
      ⟨(some 9), none, .q (.fa 0 (.t 8))⟩,
      ⟨(some 10), none, .l (.ld1 (.t 9))⟩,
      ⟨(some 11), none, .q (.lnS (.t 10))⟩,
      ⟨(some 12), none, .q (.bin .lss true (.t 6) (.t 11))⟩])
      (.cond (.t 12)
        (.skip)
        (.exit 0)))
      (.block 1 (.seq (.reg /- 1 -/ [⟨(some 13), none, .q (.mv (.t 0))⟩,
      ⟨(some 14), none, .cl 46 [(.t 13)] [0]⟩])
          (.block 2 (.seq (.reg /- 2 -/ [⟨(some 16), none, .q (.bin .eql true (.t 14) (.k (.int .i64 1)))⟩,
      ⟨(some 15), none, .q (.mv (.t 16))⟩])
              (.cond (.t 15)
                (.reg /- 3 -/ [⟨(some 17), none, .q (.mv (.t 0))⟩,
      ⟨(some 18), none, .q (.nc (.t 17))⟩,
      ⟨(some 19), none, .q (.fa 1 (.t 18))⟩,
      ⟨(some 20), none, .l (.ld1 (.t 19))⟩,
      ⟨(some 21), none, .q (.bin .add true (.t 20) (.k (.int .i64 1)))⟩,
      ⟨(some 22), none, .q (.nc (.t 17))⟩,
      ⟨(some 23), none, .q (.fa 1 (.t 22))⟩,
      ⟨none, none, .e (.st 1 (.t 23) (.t 21))⟩])
                (.seq (.reg /- 4 -/ [⟨(some 25), none, .q (.bin .eql true (.t 14) (.k (.int .i64 2)))⟩,
      ⟨(some 24), none, .q (.mv (.t 25))⟩])
                  (.cond (.t 24)
                    (.seq (.reg /- 5 -/ [⟨(some 26), none, .q (.mv (.t 0))⟩,
      ⟨(some 27), none, .q (.nc (.t 26))⟩,
      ⟨(some 28), none, .q (.fa 0 (.t 27))⟩,
      ⟨(some 29), none, .l (.ld1 (.t 28))⟩,
      ⟨(some 30), none, .q (.mv (.t 0))⟩,
      ⟨(some 31), none, .q (.nc (.t 30))⟩,
      ⟨(some 32), none, .q (.fa 1 (.t 31))⟩,
      ⟨(some 33), none, .l (.ld1 (.t 32))⟩,
      ⟨(some 34), none, .q (.ss (.t 29) (some (.t 33)) none)⟩,
      ⟨(some 35), none, .cq 52 [(.t 34), (.k (.int .u8 10))]⟩,
      ⟨(some 2), none, .q (.mv (.t 35))⟩])
                      (.seq (.reg /- 6 -/ [⟨(some 36), none, .q (.mv (.t 2))⟩,
      ⟨(some 37), none, .q (.bin .geq true (.t 36) (.k (.int .i64 0)))⟩])
                        (.cond (.t 37)
                          (.reg /- 7 -/ [⟨(some 38), none, .q (.mv (.t 0))⟩,
      ⟨(some 39), none, .q (.nc (.t 38))⟩,
      ⟨(some 40), none, .q (.fa 1 (.t 39))⟩,
      ⟨(some 41), none, .l (.ld1 (.t 40))⟩,
      ⟨(some 42), none, .q (.mv (.t 2))⟩,
      ⟨(some 43), none, .q (.bin .add true (.t 41) (.t 42))⟩,
      ⟨(some 44), none, .q (.nc (.t 38))⟩,
      ⟨(some 45), none, .q (.fa 1 (.t 44))⟩,
      ⟨none, none, .e (.st 1 (.t 45) (.t 43))⟩])
                          (.reg /- 8 -/ [⟨(some 46), none, .q (.mv (.t 0))⟩,
      ⟨(some 47), none, .q (.mv (.t 0))⟩,
      ⟨(some 48), none, .q (.nc (.t 47))⟩,
      ⟨(some 49), none, .q (.fa 0 (.t 48))⟩,
      ⟨(some 50), none, .l (.ld1 (.t 49))⟩,
      ⟨(some 51), none, .q (.lnS (.t 50))⟩,
      ⟨(some 52), none, .q (.nc (.t 46))⟩,
      ⟨(some 53), none, .q (.fa 1 (.t 52))⟩,
      ⟨none, none, .e (.st 1 (.t 53) (.t 51))⟩]))))
                    (.ret))))))))))
def rs45 : List RV := []
theorem ok45 : trFn Try.prog true ⟨fun r k => if r = 1 ∧ k = 1 then .own [0] else if r = 5 ∧ k = 9 then .q else .own [], fun _ => false⟩ Try.f45 = some (pc45, rs45) := by kernel_rfl
/-- (*robotics/lexer.scanner).kind -/
def pc46 : PC :=
  .seq (.reg /- 0 -/ [⟨(some 2), none, .q (.mv (.k (.int .i64 0)))⟩])
  (.seq (.seq (.reg /- 1 -/ [⟨(some 3), none, .q (.mv (.t 0))⟩,
      ⟨(some 4), none, .q (.nc (.t 3))⟩,
      ⟨(some 5), none, .q (.fa 1 (.t 4))⟩,
      ⟨(some 6), none, .l (.ld1 (.t 5))⟩,
      ⟨(some 7), none, .q (.mv (.t 0))⟩,
      ⟨(some 8), none, .q (.nc (.t 7))⟩,
      ⟨(some 9), none, .q (.fa 0 (.t 8))⟩,
      ⟨(some 10), none, .l (.ld1 (.t 9))⟩,
      ⟨(some 11), none, .q (.lnS (.t 10))⟩,
      ⟨(some 12), none, .q (.bin .geq true (.t 6) (.t 11))⟩])
    (.cond (.t 12)
      (.seq (.reg /- 2 -/ [⟨(some 2), none, .q (.mv (.k (.int .i64 (-1))))⟩])
        (.ret))
      (.skip)))
    (.seq (.reg /- 3 -/ [⟨(some 13), none, .q (.mv (.t 0))⟩,
      ⟨(some 14), none, .q (.nc (.t 13))⟩,
      ⟨(some 15), none, .q (.fa 0 (.t 14))⟩,
      ⟨(some 16), none, .l (.ld1 (.t 15))⟩,
      ⟨(some 17), none, .q (.mv (.t 0))⟩,
      ⟨(some 18), none, .q (.nc (.t 17))⟩,
      ⟨(some 19), none, .q (.fa 1 (.t 18))⟩,
      ⟨(some 20), none, .l (.ld1 (.t 19))⟩,
      ⟨(some 21), none, .ix (.t 16) (.t 20)⟩,
      ⟨(some 22), none, .cq 35 [(.t 21)]⟩,
      ⟨(some 2), none, .q (.mv (.t 22))⟩])
      (.ret)))
def rs46 : List RV := [.mv (.t 2)]
theorem ok46 : trFn Try.prog true ⟨fun r k => if r = 3 ∧ k = 9 then .q else .own [], fun _ => false⟩ Try.f46 = some (pc46, rs46) := by kernel_rfl
/-- (*robotics/lexer.scanner).word -/
def pc47 : PC :=
  .seq (.reg /- 0 -/ [⟨(some 2), none, .e (.al (.agg #[(.int .i64 0), (.string (mk [])), (.int .i64 0), (.int .i64 0)]) 30)⟩])
  (.seq (.reg /- 1 -/ [⟨(some 5), none, .q (.mv (.t 0))⟩,
      ⟨(some 6), none, .q (.nc (.t 5))⟩,
      ⟨(some 7), none, .q (.fa 1 (.t 6))⟩,
      ⟨(some 8), none, .l (.ld1 (.t 7))⟩,
      ⟨(some 3), none, .q (.mv (.t 8))⟩])
    (.seq (.seq (.reg /- 2 -/ [⟨(some 9), none, .q (.mv (.t 0))⟩,
      ⟨(some 10), none, .cl 46 [(.t 9)] [0]⟩,
      ⟨(some 4), none, .q (.mv (.t 10))⟩])
      (.block 0 (.loop (.seq (.seq (.reg /- 3 -/ [⟨(some 11), none, .q (.mv (.t 4))⟩,
      ⟨(some 12), none, .q (.bin .eql true (.t 11) (.k (.int .i64 3)))⟩,
      ⟨(some 13), none, .q (.mv (.t 12))⟩,
      ⟨(some 14), (some (13, false)), .q (.mv (.t 4))⟩,
      ⟨(some 15), (some (13, false)), .q (.bin .eql true (.t 14) (.k (.int .i64 4)))⟩,
      ⟨(some 16), none, .pick (.t 13) (.k (.bool true)) (.t 15)⟩,
      ⟨(some 17), none, .q (.mv (.t 16))⟩,
      ⟨(some 18), (some (17, false)), .q (.mv (.t 4))⟩,
      ⟨(some 19), (some (17, false)), .q (.bin .eql true (.t 18) (.k (.int .i64 6)))⟩,
      ⟨(some 20), none, .pick (.t 17) (.k (.bool true)) (.t 19)⟩])
            (.cond (.t 20)
              (.skip)
              (.exit 0)))
            (.seq (.block 1 (.reg /- 5 -/ [⟨(some 23), none, .q (.mv (.t 0))⟩,
      ⟨(some 24), none, .q (.nc (.t 23))⟩,
      ⟨(some 25), none, .q (.fa 1 (.t 24))⟩,
      ⟨(some 26), none, .l (.ld1 (.t 25))⟩,
      ⟨(some 27), none, .q (.bin .add true (.t 26) (.k (.int .i64 1)))⟩,
      ⟨(some 28), none, .q (.nc (.t 23))⟩,
      ⟨(some 29), none, .q (.fa 1 (.t 28))⟩,
      ⟨none, none, .e (.st 1 (.t 29) (.t 27))⟩]))
              (.reg /- 4 -/ [⟨(some 21), none, .q (.mv (.t 0))⟩,
      ⟨(some 22), none, .cl 46 [(.t 21)] [0]⟩,
      ⟨(some 4), none, .q (.mv (.t 22))⟩]))))))
      (.seq (.seq (.reg /- 6 -/ [⟨(some 30), none, .q (.mv (.t 0))⟩,
      ⟨(some 31), none, .q (.nc (.t 30))⟩,
      ⟨(some 32), none, .q (.fa 1 (.t 31))⟩,
      ⟨(some 33), none, .l (.ld1 (.t 32))⟩,
      ⟨(some 34), none, .q (.mv (.t 3))⟩,
      ⟨(some 35), none, .q (.bin .sub true (.t 33) (.t 34))⟩,
      ⟨(some 36), none, .q (.bin .gtr true (.t 35) (.k (.int .i64 16)))⟩])
        (.cond (.t 36)
          (.reg /- 7 -/ [⟨(some 37), none, .q (.mv (.t 0))⟩,
      ⟨(some 38), none, .q (.mv (.t 3))⟩,
      ⟨(some 39), none, .cl 50 [(.t 37), (.k (.int .i64 3)), (.t 38)] [0]⟩])
          (.skip)))
        (.seq (.seq (.reg /- 8 -/ [⟨(some 40), none, .q (.mv (.t 0))⟩,
      ⟨(some 41), none, .cl 46 [(.t 40)] [0]⟩,
      ⟨(some 42), none, .q (.bin .eql true (.t 41) (.k (.int .i64 5)))⟩])
          (.cond (.t 42)
            (.reg /- 9 -/ [⟨(some 43), none, .q (.mv (.t 0))⟩,
      ⟨(some 44), none, .q (.mv (.t 0))⟩,
      ⟨(some 45), none, .q (.nc (.t 44))⟩,
      ⟨(some 46), none, .q (.fa 1 (.t 45))⟩,
      ⟨(some 47), none, .l (.ld1 (.t 46))⟩,
      ⟨(some 48), none, .cl 50 [(.t 43), (.k (.int .i64 2)), (.t 47)] [0]⟩])
            (.skip)))
          (.seq (.reg /- 10 -/ [⟨(some 49), none, .q (.mv (.t 0))⟩,
      ⟨(some 50), none, .q (.nc (.t 49))⟩,
      ⟨(some 51), none, .q (.fa 0 (.t 50))⟩,
      ⟨(some 52), none, .l (.ld1 (.t 51))⟩,
      ⟨(some 53), none, .q (.mv (.t 3))⟩,
      ⟨(some 54), none, .q (.mv (.t 0))⟩,
      ⟨(some 55), none, .q (.nc (.t 54))⟩,
      ⟨(some 56), none, .q (.fa 1 (.t 55))⟩,
      ⟨(some 57), none, .l (.ld1 (.t 56))⟩,
      ⟨(some 58), none, .q (.ss (.t 52) (some (.t 53)) (some (.t 57)))⟩,
      ⟨(some 59), none, .q (.mv (.t 3))⟩,
      ⟨(some 60), none, .q (.bd [(.int .i64 0), (.string (mk [])), (.int .i64 0), (.int .i64 0)] [(0, 1, (.k (.int .i64 1))), (1, 1, (.t 58)), (3, 1, (.t 59))])⟩,
      ⟨none, none, .e (.st 4 (.t 2) (.t 60))⟩])
            (.ret))))))
def rs47 : List RV := [.ld (.ldn 4 (.t 2))]
theorem ok47 : trFn Try.prog true ⟨fun r k => if r = 2 ∧ k = 1 then .own [0] else if r = 4 ∧ k = 1 then .own [0] else if r = 7 ∧ k = 2 then .own [0] else if r = 8 ∧ k = 1 then .own [0] else if r = 9 ∧ k = 5 then .own [0] else .own [], fun _ => false⟩ Try.f47 = some (pc47, rs47) := by kernel_rfl
/- (*robotics/lexer.scanner).number -/
def pc48_15 : PC :=
  .seq (.seq (.gh (.reg /- 15 -/ [⟨(some 79), none, .q (.mv (.t 0))⟩,
      ⟨(some 80), none, .cl 46 [(.t 79)] [0]⟩,
      ⟨(some 9), none, .q (.mv (.t 80))⟩]))
  (.seq (.reg /- 16 -/ [⟨(some 81), none, .q (.mv (.t 9))⟩,
      ⟨(some 82), none, .q (.bin .eql true (.t 81) (.k (.int .i64 3)))⟩,
      ⟨(some 83), none, .q (.mv (.t 82))⟩,
      ⟨(some 84), (some (83, false)), .q (.mv (.t 9))⟩,
      ⟨(some 85), (some (83, false)), .q (.bin .eql true (.t 84) (.k (.int .i64 6)))⟩,
      ⟨(some 86), none, .pick (.t 83) (.k (.bool true)) (.t 85)⟩,
      ⟨(some 87), none, .q (.mv (.t 86))⟩,
      ⟨(some 88), (some (87, false)), .q (.mv (.t 9))⟩,
      ⟨(some 89), (some (87, false)), .q (.bin .eql true (.t 88) (.k (.int .i64 5)))⟩,
      ⟨(some 90), none, .pick (.t 87) (.k (.bool true)) (.t 89)⟩])
    (.cond (.t 90)
      (.reg /- 17 -/ [⟨(some 91), none, .q (.mv (.t 0))⟩,
      ⟨(some 92), none, .q (.mv (.t 0))⟩,
      ⟨(some 93), none, .q (.nc (.t 92))⟩,
      ⟨(some 94), none, .q (.fa 1 (.t 93))⟩,
      ⟨(some 95), none, .l (.ld1 (.t 94))⟩,
      ⟨(some 96), none, .cl 50 [(.t 91), (.k (.int .i64 2)), (.t 95)] [0]⟩])
      (.skip))))
  (.seq (.reg /- 18 -/ [⟨(some 97), none, .q (.mv (.t 7))⟩,
      ⟨(some 98), none, .q (.mv (.t 3))⟩,
      ⟨(some 99), none, .q (.bd [(.int .i64 0), (.string (mk [])), (.int .i64 0), (.int .i64 0)] [(0, 1, (.k (.int .i64 2))), (2, 1, (.t 97)), (3, 1, (.t 98))])⟩,
      ⟨none, none, .e (.st 4 (.t 2) (.t 99))⟩])
    (.ret))
@[go_sem ↓] theorem fold48_15 (Γ : Env) (k0 : Nat) (fr : Fr) (H : Hp) (K : Ex → Fr → Hp → Prop) : vc Γ k0 pc48_15 fr H K = vcn Γ k0 pc48_15 fr H K ⟨⟩ := rfl
def pc48_5 : PC :=
  .seq (.gh (.reg /- 5 -/ [⟨(some 25), none, .q (.mv (.t 0))⟩,
      ⟨(some 26), none, .q (.nc (.t 25))⟩,
      ⟨(some 27), none, .q (.fa 1 (.t 26))⟩,
      ⟨(some 28), none, .l (.ld1 (.t 27))⟩,
      ⟨(some 5), none, .q (.mv (.t 28))⟩]))
  (.seq (.block 0 (.loop (.seq (.seq (.reg /- 6 -/ [⟨(some 29), none, .q (.mv (.t 0))⟩,
      ⟨(some 30), none, .cl 46 [(.t 29)] [0]⟩,
      ⟨(some 31), none, .q (.bin .eql true (.t 30) (.k (.int .i64 4)))⟩])
        (.cond (.t 31)
          (.skip)
          (.exit 0)))
        (.block 1 (.reg /- 7 -/ [⟨(some 32), none, .q (.mv (.t 0))⟩,
      ⟨(some 33), none, .q (.nc (.t 32))⟩,
      ⟨(some 34), none, .q (.fa 1 (.t 33))⟩,
      ⟨(some 35), none, .l (.ld1 (.t 34))⟩,
      ⟨(some 36), none, .q (.bin .add true (.t 35) (.k (.int .i64 1)))⟩,
      ⟨(some 37), none, .q (.nc (.t 32))⟩,
      ⟨(some 38), none, .q (.fa 1 (.t 37))⟩,
      ⟨none, none, .e (.st 1 (.t 38) (.t 36))⟩])))))
    (.seq (.reg /- 8 -/ [⟨(some 39), none, .q (.mv (.t 0))⟩,
      ⟨(some 40), none, .q (.nc (.t 39))⟩,
      ⟨(some 41), none, .q (.fa 0 (.t 40))⟩,
      ⟨(some 42), none, .l (.ld1 (.t 41))⟩,
      ⟨(some 43), none, .q (.mv (.t 5))⟩,
      ⟨(some 44), none, .q (.mv (.t 0))⟩,
      ⟨(some 45), none, .q (.nc (.t 44))⟩,
      ⟨(some 46), none, .q (.fa 1 (.t 45))⟩,
      ⟨(some 47), none, .l (.ld1 (.t 46))⟩,
      ⟨(some 48), none, .q (.ss (.t 42) (some (.t 43)) (some (.t 47)))⟩,
      ⟨(some 6), none, .q (.mv (.t 48))⟩])
      (.seq (.seq (.reg /- 9 -/ [⟨(some 49), none, .q (.mv (.t 6))⟩,
      ⟨(some 50), none, .q (.bin .eql true (.t 49) (.k (.string (mk []))))⟩,
      ⟨(some 51), none, .q (.mv (.t 50))⟩,
      ⟨(some 52), (some (51, false)), .q (.mv (.t 6))⟩,
      ⟨(some 53), (some (51, false)), .ix (.t 52) (.k (.int .i64 0))⟩,
      ⟨(some 54), (some (51, false)), .q (.bin .eql true (.t 53) (.k (.int .u8 48)))⟩,
      ⟨(some 55), (some (51, false)), .q (.mv (.t 54))⟩,
      ⟨(some 56), (some (55, true)), .q (.mv (.t 6))⟩,
      ⟨(some 57), (some (55, true)), .q (.lnS (.t 56))⟩,
      ⟨(some 58), (some (55, true)), .q (.bin .gtr true (.t 57) (.k (.int .i64 1)))⟩,
      ⟨(some 59), (some (55, true)), .q (.mv (.t 58))⟩,
      ⟨(some 60), (some (59, false)), .q (.mv (.t 4))⟩,
      ⟨(some 61), (some (55, true)), .pick (.t 59) (.k (.bool true)) (.t 60)⟩,
      ⟨(some 62), (some (51, false)), .pick (.t 55) (.t 61) (.k (.bool false))⟩,
      ⟨(some 63), none, .pick (.t 51) (.k (.bool true)) (.t 62)⟩])
        (.cond (.t 63)
          (.seq (.reg /- 10 -/ [⟨(some 64), none, .q (.mv (.t 0))⟩,
      ⟨(some 65), none, .q (.mv (.t 3))⟩,
      ⟨(some 66), none, .cl 50 [(.t 64), (.k (.int .i64 2)), (.t 65)] [0]⟩])
            (.seq (.reg /- 11 -/ [⟨(some 67), none, .q (.bd [(.int .i64 0), (.string (mk [])), (.int .i64 0), (.int .i64 0)] [])⟩,
      ⟨none, none, .e (.st 4 (.t 2) (.t 67))⟩])
              (.ret)))
          (.skip)))
        (.seq (.reg /- 12 -/ [⟨(some 69), none, .q (.mv (.t 4))⟩,
      ⟨(some 70), none, .q (.mv (.t 6))⟩,
      ⟨(some 71), none, .cl 56 [(.t 69), (.t 70)] []⟩,
      ⟨(some 68), none, .q (.mv (.t 71))⟩,
      ⟨(some 72), none, .q (.ex (.t 68) 0)⟩,
      ⟨(some 73), none, .q (.ex (.t 68) 1)⟩,
      ⟨(some 7), none, .q (.mv (.t 72))⟩,
      ⟨(some 8), none, .q (.mv (.t 73))⟩])
          (.seq (.seq (.reg /- 13 -/ [⟨(some 74), none, .q (.mv (.t 8))⟩,
      ⟨(some 75), none, .q (.not (.t 74))⟩])
            (.cond (.t 75)
              (.reg /- 14 -/ [⟨(some 76), none, .q (.mv (.t 0))⟩,
      ⟨(some 77), none, .q (.mv (.t 3))⟩,
      ⟨(some 78), none, .cl 50 [(.t 76), (.k (.int .i64 4)), (.t 77)] [0]⟩])
              (.skip)))
            (pc48_15))))))
@[go_sem ↓] theorem fold48_5 (Γ : Env) (k0 : Nat) (fr : Fr) (H : Hp) (K : Ex → Fr → Hp → Prop) : vc Γ k0 pc48_5 fr H K = vcn Γ k0 pc48_5 fr H K ⟨⟩ := rfl
def pc48 : PC :=
  .seq (.reg /- 0 -/ [⟨(some 2), none, .e (.al (.agg #[(.int .i64 0), (.string (mk [])), (.int .i64 0), (.int .i64 0)]) 30)⟩])
  (.seq (.reg /- 1 -/ [⟨(some 10), none, .q (.mv (.t 0))⟩,
      ⟨(some 11), none, .q (.nc (.t 10))⟩,
      ⟨(some 12), none, .q (.fa 1 (.t 11))⟩,
      ⟨(some 13), none, .l (.ld1 (.t 12))⟩,
      ⟨(some 3), none, .q (.mv (.t 13))⟩])
    (.seq (.reg /- 2 -/ [⟨(some 14), none, .q (.mv (.t 0))⟩,
      ⟨(some 15), none, .cl 46 [(.t 14)] [0]⟩,
      ⟨(some 16), none, .q (.bin .eql true (.t 15) (.k (.int .i64 5)))⟩,
      ⟨(some 4), none, .q (.mv (.t 16))⟩])
      (.seq (.seq (.reg /- 3 -/ [⟨(some 17), none, .q (.mv (.t 4))⟩])
        (.cond (.t 17)
          (.reg /- 4 -/ [⟨(some 18), none, .q (.mv (.t 0))⟩,
      ⟨(some 19), none, .q (.nc (.t 18))⟩,
      ⟨(some 20), none, .q (.fa 1 (.t 19))⟩,
      ⟨(some 21), none, .l (.ld1 (.t 20))⟩,
      ⟨(some 22), none, .q (.bin .add true (.t 21) (.k (.int .i64 1)))⟩,
      ⟨(some 23), none, .q (.nc (.t 18))⟩,
      ⟨(some 24), none, .q (.fa 1 (.t 23))⟩,
      ⟨none, none, .e (.st 1 (.t 24) (.t 22))⟩])
          (.skip)))
        (pc48_5))))
def rs48 : List RV := [.ld (.ldn 4 (.t 2))]
theorem ok48 : trFn Try.prog true ⟨fun r k => if r = 2 ∧ k = 1 then .own [0] else if r = 6 ∧ k = 1 then .own [0] else if r = 10 ∧ k = 2 then .own [0] else if r = 14 ∧ k = 2 then .own [0] else if r = 15 ∧ k = 1 then .own [0] else if r = 17 ∧ k = 5 then .own [0] else .own [], fun r => [5, 15].contains r⟩ Try.f48 = some (pc48, rs48) := by kernel_rfl
/-- (*robotics/lexer.scanner).text -/
def pc49 : PC :=
  .seq (.reg /- 0 -/ [⟨(some 2), none, .e (.al (.agg #[(.int .i64 0), (.string (mk [])), (.int .i64 0), (.int .i64 0)]) 30)⟩])
  (.seq (.reg /- 1 -/ [⟨(some 6), none, .q (.mv (.t 0))⟩,
      ⟨(some 7), none, .q (.nc (.t 6))⟩,
      ⟨(some 8), none, .q (.fa 1 (.t 7))⟩,
      ⟨(some 9), none, .l (.ld1 (.t 8))⟩,
      ⟨(some 3), none, .q (.mv (.t 9))⟩])
    (.seq (.reg /- 2 -/ [⟨(some 4), none, .e (.al (.agg #[(.pointer none), (.slice none 0 0)]) 62)⟩])
      (.seq (.seq (.reg /- 3 -/ [⟨(some 10), none, .q (.mv (.t 0))⟩,
      ⟨(some 11), none, .q (.nc (.t 10))⟩,
      ⟨(some 12), none, .q (.fa 1 (.t 11))⟩,
      ⟨(some 13), none, .l (.ld1 (.t 12))⟩,
      ⟨(some 14), none, .q (.bin .add true (.t 13) (.k (.int .i64 1)))⟩,
      ⟨(some 15), none, .q (.nc (.t 10))⟩,
      ⟨(some 16), none, .q (.fa 1 (.t 15))⟩,
      ⟨none, none, .e (.st 1 (.t 16) (.t 14))⟩])
        (.block 0 (.loop (.seq (.block 1 (.seq (.seq (.reg /- 5 -/ [⟨(some 24), none, .q (.mv (.t 0))⟩,
      ⟨(some 25), none, .q (.nc (.t 24))⟩,
      ⟨(some 26), none, .q (.fa 1 (.t 25))⟩,
      ⟨(some 27), none, .l (.ld1 (.t 26))⟩,
      ⟨(some 28), none, .q (.mv (.t 0))⟩,
      ⟨(some 29), none, .q (.nc (.t 28))⟩,
      ⟨(some 30), none, .q (.fa 0 (.t 29))⟩,
      ⟨(some 31), none, .l (.ld1 (.t 30))⟩,
      ⟨(some 32), none, .q (.lnS (.t 31))⟩,
      ⟨(some 33), none, .q (.bin .geq true (.t 27) (.t 32))⟩,
      ⟨(some 34), none, .q (.mv (.t 33))⟩,
      ⟨(some 35), (some (34, false)), .q (.mv (.t 0))⟩,
      ⟨(some 36), (some (34, false)), .q (.nc (.t 35))⟩,
      ⟨(some 37), (some (34, false)), .q (.fa 0 (.t 36))⟩,
      ⟨(some 38), (some (34, false)), .l (.ld1 (.t 37))⟩,
      ⟨(some 39), (some (34, false)), .q (.mv (.t 0))⟩,
      ⟨(some 40), (some (34, false)), .q (.nc (.t 39))⟩,
      ⟨(some 41), (some (34, false)), .q (.fa 1 (.t 40))⟩,
      ⟨(some 42), (some (34, false)), .l (.ld1 (.t 41))⟩,
      ⟨(some 43), (some (34, false)), .ix (.t 38) (.t 42)⟩,
      ⟨(some 44), (some (34, false)), .q (.bin .lss true (.t 43) (.k (.int .u8 32)))⟩,
      ⟨(some 45), none, .pick (.t 34) (.k (.bool true)) (.t 44)⟩,
      ⟨(some 46), none, .q (.mv (.t 45))⟩,
      ⟨(some 47), (some (46, false)), .q (.mv (.t 0))⟩,
      ⟨(some 48), (some (46, false)), .q (.nc (.t 47))⟩,
      ⟨(some 49), (some (46, false)), .q (.fa 0 (.t 48))⟩,
      ⟨(some 50), (some (46, false)), .l (.ld1 (.t 49))⟩,
      ⟨(some 51), (some (46, false)), .q (.mv (.t 0))⟩,
      ⟨(some 52), (some (46, false)), .q (.nc (.t 51))⟩,
      ⟨(some 53), (some (46, false)), .q (.fa 1 (.t 52))⟩,
      ⟨(some 54), (some (46, false)), .l (.ld1 (.t 53))⟩,
      ⟨(some 55), (some (46, false)), .ix (.t 50) (.t 54)⟩,
      ⟨(some 56), (some (46, false)), .q (.bin .gtr true (.t 55) (.k (.int .u8 126)))⟩,
      ⟨(some 57), none, .pick (.t 46) (.k (.bool true)) (.t 56)⟩])
                (.cond (.t 57)
                  (.seq (.reg /- 6 -/ [⟨(some 58), none, .q (.mv (.t 0))⟩,
      ⟨(some 59), none, .q (.mv (.t 0))⟩,
      ⟨(some 60), none, .q (.nc (.t 59))⟩,
      ⟨(some 61), none, .q (.fa 1 (.t 60))⟩,
      ⟨(some 62), none, .l (.ld1 (.t 61))⟩,
      ⟨(some 63), none, .cl 50 [(.t 58), (.k (.int .i64 2)), (.t 62)] [0]⟩])
                    (.seq (.reg /- 7 -/ [⟨(some 64), none, .q (.bd [(.int .i64 0), (.string (mk [])), (.int .i64 0), (.int .i64 0)] [])⟩,
      ⟨none, none, .e (.st 4 (.t 2) (.t 64))⟩])
                      (.ret)))
                  (.skip)))
                (.seq (.reg /- 8 -/ [⟨(some 65), none, .q (.mv (.t 0))⟩,
      ⟨(some 66), none, .q (.nc (.t 65))⟩,
      ⟨(some 67), none, .q (.fa 0 (.t 66))⟩,
      ⟨(some 68), none, .l (.ld1 (.t 67))⟩,
      ⟨(some 69), none, .q (.mv (.t 0))⟩,
      ⟨(some 70), none, .q (.nc (.t 69))⟩,
      ⟨(some 71), none, .q (.fa 1 (.t 70))⟩,
      ⟨(some 72), none, .l (.ld1 (.t 71))⟩,
      ⟨(some 73), none, .ix (.t 68) (.t 72)⟩,
      ⟨(some 5), none, .q (.mv (.t 73))⟩])
                  (.seq (.seq (.reg /- 9 -/ [⟨(some 74), none, .q (.mv (.t 5))⟩,
      ⟨(some 75), none, .q (.bin .eql true (.t 74) (.k (.int .u8 34)))⟩])
                    (.cond (.t 75)
                      (.seq (.reg /- 10 -/ [⟨(some 76), none, .q (.mv (.t 0))⟩,
      ⟨(some 77), none, .q (.nc (.t 76))⟩,
      ⟨(some 78), none, .q (.fa 1 (.t 77))⟩,
      ⟨(some 79), none, .l (.ld1 (.t 78))⟩,
      ⟨(some 80), none, .q (.bin .add true (.t 79) (.k (.int .i64 1)))⟩,
      ⟨(some 81), none, .q (.nc (.t 76))⟩,
      ⟨(some 82), none, .q (.fa 1 (.t 81))⟩,
      ⟨none, none, .e (.st 1 (.t 82) (.t 80))⟩])
                        (.exit 0))
                      (.skip)))
                    (.seq (.seq (.reg /- 11 -/ [⟨(some 83), none, .q (.mv (.t 5))⟩,
      ⟨(some 84), none, .q (.bin .eql true (.t 83) (.k (.int .u8 92)))⟩])
                      (.cond (.t 84)
                        (.seq (.seq (.reg /- 12 -/ [⟨(some 85), none, .q (.mv (.t 0))⟩,
      ⟨(some 86), none, .q (.nc (.t 85))⟩,
      ⟨(some 87), none, .q (.fa 1 (.t 86))⟩,
      ⟨(some 88), none, .l (.ld1 (.t 87))⟩,
      ⟨(some 89), none, .q (.bin .add true (.t 88) (.k (.int .i64 1)))⟩,
      ⟨(some 90), none, .q (.mv (.t 0))⟩,
      ⟨(some 91), none, .q (.nc (.t 90))⟩,
      ⟨(some 92), none, .q (.fa 0 (.t 91))⟩,
      ⟨(some 93), none, .l (.ld1 (.t 92))⟩,
      ⟨(some 94), none, .q (.lnS (.t 93))⟩,
      ⟨(some 95), none, .q (.bin .geq true (.t 89) (.t 94))⟩,
      ⟨(some 96), none, .q (.mv (.t 95))⟩,
      ⟨(some 97), (some (96, false)), .q (.mv (.t 0))⟩,
      ⟨(some 98), (some (96, false)), .q (.nc (.t 97))⟩,
      ⟨(some 99), (some (96, false)), .q (.fa 0 (.t 98))⟩,
      ⟨(some 100), (some (96, false)), .l (.ld1 (.t 99))⟩,
      ⟨(some 101), (some (96, false)), .q (.mv (.t 0))⟩,
      ⟨(some 102), (some (96, false)), .q (.nc (.t 101))⟩,
      ⟨(some 103), (some (96, false)), .q (.fa 1 (.t 102))⟩,
      ⟨(some 104), (some (96, false)), .l (.ld1 (.t 103))⟩,
      ⟨(some 105), (some (96, false)), .q (.bin .add true (.t 104) (.k (.int .i64 1)))⟩,
      ⟨(some 106), (some (96, false)), .ix (.t 100) (.t 105)⟩,
      ⟨(some 107), (some (96, false)), .q (.bin .neq true (.t 106) (.k (.int .u8 34)))⟩,
      ⟨(some 108), (some (96, false)), .q (.mv (.t 107))⟩,
      ⟨(some 109), (some (108, true)), .q (.mv (.t 0))⟩,
      ⟨(some 110), (some (108, true)), .q (.nc (.t 109))⟩,
      ⟨(some 111), (some (108, true)), .q (.fa 0 (.t 110))⟩,
      ⟨(some 112), (some (108, true)), .l (.ld1 (.t 111))⟩,
      ⟨(some 113), (some (108, true)), .q (.mv (.t 0))⟩,
      ⟨(some 114), (some (108, true)), .q (.nc (.t 113))⟩,
      ⟨(some 115), (some (108, true)), .q (.fa 1 (.t 114))⟩,
      ⟨(some 116), (some (108, true)), .l (.ld1 (.t 115))⟩,
      ⟨(some 117), (some (108, true)), .q (.bin .add true (.t 116) (.k (.int .i64 1)))⟩,
      ⟨(some 118), (some (108, true)), .ix (.t 112) (.t 117)⟩,
      ⟨(some 119), (some (108, true)), .q (.bin .neq true (.t 118) (.k (.int .u8 92)))⟩,
      ⟨(some 120), (some (96, false)), .pick (.t 108) (.t 119) (.k (.bool false))⟩,
      ⟨(some 121), none, .pick (.t 96) (.k (.bool true)) (.t 120)⟩])
                          (.cond (.t 121)
                            (.seq (.reg /- 13 -/ [⟨(some 122), none, .q (.mv (.t 0))⟩,
      ⟨(some 123), none, .q (.mv (.t 0))⟩,
      ⟨(some 124), none, .q (.nc (.t 123))⟩,
      ⟨(some 125), none, .q (.fa 1 (.t 124))⟩,
      ⟨(some 126), none, .l (.ld1 (.t 125))⟩,
      ⟨(some 127), none, .cl 50 [(.t 122), (.k (.int .i64 2)), (.t 126)] [0]⟩])
                              (.seq (.reg /- 14 -/ [⟨(some 128), none, .q (.bd [(.int .i64 0), (.string (mk [])), (.int .i64 0), (.int .i64 0)] [])⟩,
      ⟨none, none, .e (.st 4 (.t 2) (.t 128))⟩])
                                (.ret)))
                            (.skip)))
                          (.seq (.reg /- 15 -/ [⟨(some 129), none, .q (.mv (.t 0))⟩,
      ⟨(some 130), none, .q (.nc (.t 129))⟩,
      ⟨(some 131), none, .q (.fa 1 (.t 130))⟩,
      ⟨(some 132), none, .l (.ld1 (.t 131))⟩,
      ⟨(some 133), none, .q (.bin .add true (.t 132) (.k (.int .i64 1)))⟩,
      ⟨(some 134), none, .q (.nc (.t 129))⟩,
      ⟨(some 135), none, .q (.fa 1 (.t 134))⟩,
      ⟨none, none, .e (.st 1 (.t 135) (.t 133))⟩])
                            (.reg /- 16 -/ [⟨(some 136), none, .q (.mv (.t 0))⟩,
      ⟨(some 137), none, .q (.nc (.t 136))⟩,
      ⟨(some 138), none, .q (.fa 0 (.t 137))⟩,
      ⟨(some 139), none, .l (.ld1 (.t 138))⟩,
      ⟨(some 140), none, .q (.mv (.t 0))⟩,
      ⟨(some 141), none, .q (.nc (.t 140))⟩,
      ⟨(some 142), none, .q (.fa 1 (.t 141))⟩,
      ⟨(some 143), none, .l (.ld1 (.t 142))⟩,
      ⟨(some 144), none, .ix (.t 139) (.t 143)⟩,
      ⟨(some 5), none, .q (.mv (.t 144))⟩])))
                        (.skip)))
                      (.reg /- 17 -/ [⟨(some 145), none, .q (.mv (.t 5))⟩,
      ⟨(some 146), none, .cl 40 [(.t 4), (.t 145)] [2, 3]⟩]))))))
              (.reg /- 4 -/ [⟨(some 17), none, .q (.mv (.t 0))⟩,
      ⟨(some 18), none, .q (.nc (.t 17))⟩,
      ⟨(some 19), none, .q (.fa 1 (.t 18))⟩,
      ⟨(some 20), none, .l (.ld1 (.t 19))⟩,
      ⟨(some 21), none, .q (.bin .add true (.t 20) (.k (.int .i64 1)))⟩,
      ⟨(some 22), none, .q (.nc (.t 17))⟩,
      ⟨(some 23), none, .q (.fa 1 (.t 22))⟩,
      ⟨none, none, .e (.st 1 (.t 23) (.t 21))⟩])))))
        (.seq (.seq (.reg /- 18 -/ [⟨(some 147), none, .cl 39 [(.t 4)] [2, 3]⟩,
      ⟨(some 148), none, .q (.bin .gtr true (.t 147) (.k (.int .i64 200)))⟩])
          (.cond (.t 148)
            (.reg /- 19 -/ [⟨(some 149), none, .q (.mv (.t 0))⟩,
      ⟨(some 150), none, .q (.mv (.t 3))⟩,
      ⟨(some 151), none, .cl 50 [(.t 149), (.k (.int .i64 3)), (.t 150)] [0]⟩])
            (.skip)))
          (.seq (.reg /- 20 -/ [⟨(some 152), none, .cl 42 [(.t 4)] [2, 3]⟩,
      ⟨(some 153), none, .q (.mv (.t 3))⟩,
      ⟨(some 154), none, .q (.bd [(.int .i64 0), (.string (mk [])), (.int .i64 0), (.int .i64 0)] [(0, 1, (.k (.int .i64 3))), (1, 1, (.t 152)), (3, 1, (.t 153))])⟩,
      ⟨none, none, .e (.st 4 (.t 2) (.t 154))⟩])
            (.ret))))))
def rs49 : List RV := [.ld (.ldn 4 (.t 2))]
theorem ok49 : trFn Try.prog true ⟨fun r k => if r = 6 ∧ k = 5 then .own [0] else if r = 13 ∧ k = 5 then .own [0] else if r = 17 ∧ k = 1 then .own [2, 3] else if r = 18 ∧ k = 0 then .own [2, 3] else if r = 19 ∧ k = 2 then .own [0] else if r = 20 ∧ k = 0 then .own [2, 3] else .own [], fun _ => false⟩ Try.f49 = some (pc49, rs49) := by kernel_rfl
/-- (*robotics/lexer.scanner).fail -/
def pc50 : PC :=
  .seq (.reg /- 0 -/ [⟨(some 6), none, .q (.mv (.t 0))⟩,
      ⟨(some 7), none, .q (.nc (.t 6))⟩,
      ⟨(some 8), none, .q (.fa 2 (.t 7))⟩,
      ⟨(some 9), none, .l (.ld1 (.t 8))⟩,
      ⟨(some 10), none, .q (.bin .eql true (.t 9) (.k (.int .i64 0)))⟩])
  (.cond (.t 10)
    (.reg /- 1 -/ [⟨(some 11), none, .q (.mv (.t 0))⟩,
      ⟨(some 12), none, .q (.mv (.t 0))⟩,
      ⟨(some 13), none, .q (.mv (.t 1))⟩,
      ⟨(some 14), none, .q (.mv (.t 2))⟩,
      ⟨(some 15), none, .q (.nc (.t 11))⟩,
      ⟨(some 16), none, .q (.fa 2 (.t 15))⟩,
      ⟨none, none, .e (.st 1 (.t 16) (.t 13))⟩,
      ⟨(some 17), none, .q (.nc (.t 12))⟩,
      ⟨(some 18), none, .q (.fa 3 (.t 17))⟩,
      ⟨none, none, .e (.st 1 (.t 18) (.t 14))⟩])
    (.skip))
def rs50 : List RV := []
theorem ok50 : trFn Try.prog true ⟨fun _ _ => .own [], fun _ => false⟩ Try.f50 = some (pc50, rs50) := by kernel_rfl
/-- strings.IndexByte -/
def pc52 : PC :=
  .seq (.reg /- 0 -/ [⟨(some 4), none, .q (.mv (.k (.int .i64 0)))⟩])
  (.seq (.reg /- 1 -/ [⟨(some 5), none, .q (.mv (.t 0))⟩,
      ⟨(some 6), none, .q (.mv (.t 1))⟩,
      ⟨(some 7), none, .cq 57 [(.t 5), (.t 6)]⟩,
      ⟨(some 4), none, .q (.mv (.t 7))⟩])
    (.ret))
def rs52 : List RV := [.mv (.t 4)]
theorem ok52 : trFn Try.prog true ⟨fun r k => if r = 1 ∧ k = 2 then .q else .own [], fun _ => false⟩ Try.f52 = some (pc52, rs52) := by kernel_rfl
/-- robotics/lexer.decimal -/
def pc53 : PC :=
  .seq (.reg /- 0 -/ [⟨(some 2), none, .q (.mv (.k (.string (mk []))))⟩])
  (.seq (.reg /- 1 -/ [⟨(some 6), none, .q (.mv (.t 0))⟩,
      ⟨(some 7), none, .q (.cvt .u64 (.t 6))⟩,
      ⟨(some 3), none, .q (.mv (.t 7))⟩])
    (.seq (.seq (.reg /- 2 -/ [⟨(some 8), none, .q (.mv (.t 0))⟩,
      ⟨(some 9), none, .q (.bin .lss true (.t 8) (.k (.int .i64 0)))⟩])
      (.cond (.t 9)
        (.reg /- 3 -/ [⟨(some 10), none, .q (.mv (.t 3))⟩,
      ⟨(some 11), none, .q (.neg false (.t 10))⟩,
      ⟨(some 3), none, .q (.mv (.t 11))⟩])
        (.skip)))
      (.seq (.reg /- 4 -/ [⟨(some 4), none, .q (.mv (.k (.string (mk []))))⟩])
        (.seq (.seq (.reg /- 5 -/ [⟨(some 5), none, .q (.mv (.k (.bool true)))⟩])
          (.block 0 (.loop (.seq (.seq (.reg /- 6 -/ [⟨(some 12), none, .q (.mv (.t 5))⟩,
      ⟨(some 13), none, .q (.mv (.t 12))⟩,
      ⟨(some 14), (some (13, false)), .q (.mv (.t 3))⟩,
      ⟨(some 15), (some (13, false)), .q (.bin .gtr true (.t 14) (.k (.int .u64 0)))⟩,
      ⟨(some 16), none, .pick (.t 13) (.k (.bool true)) (.t 15)⟩])
                (.cond (.t 16)
                  (.skip)
                  (.exit 0)))
                (.seq (.block 1 (.seq (.reg /- 8 -/ [⟨(some 17), none, .q (.mv (.t 3))⟩,
      ⟨(some 18), none, .q (.bin .rem true (.t 17) (.k (.int .u64 10)))⟩,
      ⟨(some 19), none, .q (.bin .add true (.k (.int .u64 48)) (.t 18))⟩,
      ⟨(some 20), none, .q (.cvt .u8 (.t 19))⟩,
      ⟨(some 21), none, .e (.bsl 5 1 [(.t 20)])⟩,
      ⟨(some 22), none, .q (.b2s (.t 21))⟩,
      ⟨(some 23), none, .q (.mv (.t 4))⟩,
      ⟨(some 24), none, .q (.bin .add true (.t 22) (.t 23))⟩,
      ⟨(some 4), none, .q (.mv (.t 24))⟩])
                    (.reg /- 9 -/ [⟨(some 25), none, .q (.mv (.t 3))⟩,
      ⟨(some 26), none, .q (.bin .quo true (.t 25) (.k (.int .u64 10)))⟩,
      ⟨(some 3), none, .q (.mv (.t 26))⟩])))
                  (.reg /- 7 -/ [⟨(some 5), none, .q (.mv (.k (.bool false)))⟩]))))))
          (.seq (.seq (.reg /- 10 -/ [⟨(some 27), none, .q (.mv (.t 0))⟩,
      ⟨(some 28), none, .q (.bin .lss true (.t 27) (.k (.int .i64 0)))⟩])
            (.cond (.t 28)
              (.seq (.reg /- 11 -/ [⟨(some 29), none, .q (.mv (.t 4))⟩,
      ⟨(some 30), none, .q (.bin .add true (.k (.string (mk [45]))) (.t 29))⟩,
      ⟨(some 2), none, .q (.mv (.t 30))⟩])
                (.ret))
              (.skip)))
            (.seq (.reg /- 12 -/ [⟨(some 31), none, .q (.mv (.t 4))⟩,
      ⟨(some 2), none, .q (.mv (.t 31))⟩])
              (.ret)))))))
def rs53 : List RV := [.mv (.t 2)]
theorem ok53 : trFn Try.prog true ⟨fun _ _ => .own [], fun _ => false⟩ Try.f53 = some (pc53, rs53) := by kernel_rfl
/-- robotics/lexer.quoted -/
def pc54 : PC :=
  .seq (.reg /- 0 -/ [⟨(some 2), none, .q (.mv (.k (.string (mk []))))⟩])
  (.seq (.reg /- 1 -/ [⟨(some 5), none, .e (.bsl 5 1 [(.k (.int .u8 34))])⟩,
      ⟨(some 3), none, .q (.mv (.t 5))⟩])
    (.seq (.seq (.reg /- 2 -/ [⟨(some 6), none, .q (.mv (.t 0))⟩,
      ⟨(some 7), none, .q (.lnS (.t 6))⟩,
      ⟨(some 8), none, .q (.mv (.k (.int .i64 0)))⟩])
      (.block 0 (.loop (.seq (.reg /- 3 -/ [⟨(some 9), none, .q (.bin .lss true (.t 8) (.t 7))⟩])
            (.seq (.cond (.t 9)
              (.skip)
              (.exit 0))
              (.seq (.block 1 (.seq (.reg /- 4 -/ [⟨(some 10), none, .q (.mv (.t 8))⟩,
      ⟨(some 4), none, .q (.mv (.t 10))⟩])
                  (.seq (.seq (.reg /- 5 -/ [⟨(some 11), none, .q (.mv (.t 0))⟩,
      ⟨(some 12), none, .q (.mv (.t 4))⟩,
      ⟨(some 13), none, .ix (.t 11) (.t 12)⟩,
      ⟨(some 14), none, .q (.bin .eql true (.t 13) (.k (.int .u8 34)))⟩,
      ⟨(some 15), none, .q (.mv (.t 14))⟩,
      ⟨(some 16), (some (15, false)), .q (.mv (.t 0))⟩,
      ⟨(some 17), (some (15, false)), .q (.mv (.t 4))⟩,
      ⟨(some 18), (some (15, false)), .ix (.t 16) (.t 17)⟩,
      ⟨(some 19), (some (15, false)), .q (.bin .eql true (.t 18) (.k (.int .u8 92)))⟩,
      ⟨(some 20), none, .pick (.t 15) (.k (.bool true)) (.t 19)⟩])
                    (.cond (.t 20)
                      (.reg /- 6 -/ [⟨(some 21), none, .q (.mv (.t 3))⟩,
      ⟨(some 22), none, .e (.bsl 5 1 [(.k (.int .u8 92))])⟩,
      ⟨(some 23), none, .e (.ap 5 1 1 (.t 21) (.t 22))⟩,
      ⟨(some 3), none, .q (.mv (.t 23))⟩])
                      (.skip)))
                    (.reg /- 7 -/ [⟨(some 24), none, .q (.mv (.t 3))⟩,
      ⟨(some 25), none, .q (.mv (.t 0))⟩,
      ⟨(some 26), none, .q (.mv (.t 4))⟩,
      ⟨(some 27), none, .ix (.t 25) (.t 26)⟩,
      ⟨(some 28), none, .e (.bsl 5 1 [(.t 27)])⟩,
      ⟨(some 29), none, .e (.ap 5 1 1 (.t 24) (.t 28))⟩,
      ⟨(some 3), none, .q (.mv (.t 29))⟩]))))
                (.reg /- 8 -/ [⟨(some 30), none, .q (.bin .add true (.t 8) (.k (.int .i64 1)))⟩,
      ⟨(some 8), none, .q (.mv (.t 30))⟩])))))))
      (.seq (.reg /- 9 -/ [⟨(some 31), none, .q (.mv (.t 3))⟩,
      ⟨(some 32), none, .e (.bsl 5 1 [(.k (.int .u8 34))])⟩,
      ⟨(some 33), none, .e (.ap 5 1 1 (.t 31) (.t 32))⟩,
      ⟨(some 34), none, .q (.b2s (.t 33))⟩,
      ⟨(some 2), none, .q (.mv (.t 34))⟩])
        (.ret))))
def rs54 : List RV := [.mv (.t 2)]
theorem ok54 : trFn Try.prog true ⟨fun _ _ => .own [], fun _ => false⟩ Try.f54 = some (pc54, rs54) := by kernel_rfl
/-- (*strings.Builder).copyCheck -/
def pc55 : PC :=
  .seq (.reg /- 0 -/ [⟨(some 2), none, .q (.mv (.t 0))⟩,
      ⟨(some 3), none, .q (.nc (.t 2))⟩,
      ⟨(some 4), none, .q (.fa 0 (.t 3))⟩,
      ⟨(some 5), none, .l (.ld1 (.t 4))⟩,
      ⟨(some 6), none, .q (.eqP false (.t 5) (.k (.pointer none)))⟩])
  (.cond (.t 6)
    (.reg /- 1 -/ [⟨(some 7), none, .q (.mv (.t 0))⟩,
      ⟨(some 8), none, .q (.mv (.t 0))⟩,
      ⟨(some 9), none, .q (.cu (.t 8))⟩,
      ⟨(some 10), none, .q (.mv (.t 9))⟩,
      ⟨(some 11), none, .q (.c4u 62 2 (.t 10))⟩,
      ⟨(some 12), none, .q (.nc (.t 7))⟩,
      ⟨(some 13), none, .q (.fa 0 (.t 12))⟩,
      ⟨none, none, .e (.st 1 (.t 13) (.t 11))⟩])
    (.seq (.reg /- 2 -/ [⟨(some 14), none, .q (.mv (.t 0))⟩,
      ⟨(some 15), none, .q (.nc (.t 14))⟩,
      ⟨(some 16), none, .q (.fa 0 (.t 15))⟩,
      ⟨(some 17), none, .l (.ld1 (.t 16))⟩,
      ⟨(some 18), none, .q (.mv (.t 0))⟩,
      ⟨(some 19), none, .q (.eqP true (.t 17) (.t 18))⟩])
      (.cond (.t 19)
        (.no)
        (.skip))))
def rs55 : List RV := []
theorem ok55 : trFn Try.prog true ⟨fun _ _ => .own [], fun _ => false⟩ Try.f55 = some (pc55, rs55) := by kernel_rfl
/- robotics/lexer.value -/
def pc56_4 : PC :=
  .seq (.gh (.reg /- 4 -/ [⟨(some 7), none, .q (.mv (.k (.int .u64 0)))⟩]))
  (.seq (.seq (.reg /- 5 -/ [⟨(some 11), none, .q (.mv (.t 1))⟩,
      ⟨(some 12), none, .q (.lnS (.t 11))⟩,
      ⟨(some 13), none, .q (.mv (.k (.int .i64 0)))⟩])
    (.block 0 (.loop (.seq (.reg /- 6 -/ [⟨(some 14), none, .q (.bin .lss true (.t 13) (.t 12))⟩])
          (.seq (.cond (.t 14)
            (.skip)
            (.exit 0))
            (.seq (.block 1 (.seq (.reg /- 7 -/ [⟨(some 15), none, .q (.mv (.t 13))⟩,
      ⟨(some 8), none, .q (.mv (.t 15))⟩])
                (.seq (.reg /- 8 -/ [⟨(some 16), none, .q (.mv (.t 1))⟩,
      ⟨(some 17), none, .q (.mv (.t 8))⟩,
      ⟨(some 18), none, .ix (.t 16) (.t 17)⟩,
      ⟨(some 19), none, .q (.bin .sub true (.t 18) (.k (.int .u8 48)))⟩,
      ⟨(some 20), none, .q (.cvt .u64 (.t 19))⟩,
      ⟨(some 9), none, .q (.mv (.t 20))⟩])
                  (.seq (.seq (.reg /- 9 -/ [⟨(some 21), none, .q (.mv (.t 7))⟩,
      ⟨(some 22), none, .q (.mv (.t 6))⟩,
      ⟨(some 23), none, .q (.mv (.t 9))⟩,
      ⟨(some 24), none, .q (.bin .sub true (.t 22) (.t 23))⟩,
      ⟨(some 25), none, .q (.bin .quo true (.t 24) (.k (.int .u64 10)))⟩,
      ⟨(some 26), none, .q (.bin .gtr true (.t 21) (.t 25))⟩])
                    (.cond (.t 26)
                      (.seq (.reg /- 10 -/ [⟨(some 4), none, .q (.mv (.k (.int .i64 0)))⟩,
      ⟨(some 5), none, .q (.mv (.k (.bool false)))⟩])
                        (.ret))
                      (.skip)))
                    (.reg /- 11 -/ [⟨(some 27), none, .q (.mv (.t 7))⟩,
      ⟨(some 28), none, .q (.bin .mul true (.k (.int .u64 10)) (.t 27))⟩,
      ⟨(some 29), none, .q (.mv (.t 9))⟩,
      ⟨(some 30), none, .q (.bin .add true (.t 28) (.t 29))⟩,
      ⟨(some 7), none, .q (.mv (.t 30))⟩])))))
              (.reg /- 12 -/ [⟨(some 31), none, .q (.bin .add true (.t 13) (.k (.int .i64 1)))⟩,
      ⟨(some 13), none, .q (.mv (.t 31))⟩])))))))
    (.seq (.seq (.reg /- 13 -/ [⟨(some 32), none, .q (.mv (.t 0))⟩])
      (.cond (.t 32)
        (.seq (.reg /- 14 -/ [⟨(some 33), none, .q (.mv (.t 7))⟩,
      ⟨(some 34), none, .q (.neg false (.t 33))⟩,
      ⟨(some 35), none, .q (.cvt .i64 (.t 34))⟩,
      ⟨(some 4), none, .q (.mv (.t 35))⟩,
      ⟨(some 5), none, .q (.mv (.k (.bool true)))⟩])
          (.ret))
        (.skip)))
      (.seq (.reg /- 15 -/ [⟨(some 36), none, .q (.mv (.t 7))⟩,
      ⟨(some 37), none, .q (.cvt .i64 (.t 36))⟩,
      ⟨(some 4), none, .q (.mv (.t 37))⟩,
      ⟨(some 5), none, .q (.mv (.k (.bool true)))⟩])
        (.ret))))
@[go_sem ↓] theorem fold56_4 (Γ : Env) (k0 : Nat) (fr : Fr) (H : Hp) (K : Ex → Fr → Hp → Prop) : vc Γ k0 pc56_4 fr H K = vcn Γ k0 pc56_4 fr H K ⟨⟩ := rfl
def pc56 : PC :=
  .seq (.reg /- 0 -/ [⟨(some 4), none, .q (.mv (.k (.int .i64 0)))⟩,
      ⟨(some 5), none, .q (.mv (.k (.bool false)))⟩])
  (.seq (.reg /- 1 -/ [⟨(some 6), none, .q (.mv (.k (.int .u64 9223372036854775807)))⟩])
    (.seq (.seq (.reg /- 2 -/ [⟨(some 10), none, .q (.mv (.t 0))⟩])
      (.cond (.t 10)
        (.reg /- 3 -/ [⟨(some 6), none, .q (.mv (.k (.int .u64 9223372036854775808)))⟩])
        (.skip)))
      (pc56_4)))
def rs56 : List RV := [.mv (.t 4), .mv (.t 5)]
theorem ok56 : trFn Try.prog true ⟨fun _ _ => .own [], fun r => [4].contains r⟩ Try.f56 = some (pc56, rs56) := by kernel_rfl
end Go.Proofs.Ytgophdhegdcekaa
