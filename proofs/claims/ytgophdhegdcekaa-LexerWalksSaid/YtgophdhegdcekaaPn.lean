import Derived.Test.YtgophdhegdcekaaProg
import Derived.Test.YtgophdhegdcekaaW15
namespace Go.Proofs.Ytgophdhegdcekaa.Nil
open Go.W Go.Proofs.Ytgophdhegdcekaa
/-- (*robotics/lexer.Scanner).Next -/
def pc16 : PC :=
  .seq (.reg /- 0 -/ [⟨(some 2), none, .e (.al (.agg #[(.int .i64 0), (.string (mk [])), (.int .i64 0), (.int .i64 0)]) 30)⟩])
  (.seq (.reg /- 1 -/ [⟨(some 4), none, .q (.mv (.t 0))⟩,
      ⟨(some 5), none, .cq 18 [(.t 4)]⟩,
      ⟨(some 3), none, .e (.al (.agg #[(.int .i64 0), (.string (mk [])), (.int .i64 0), (.int .i64 0)]) 30)⟩,
      ⟨none, none, .e (.st 4 (.t 3) (.t 5))⟩])
    (.seq (.seq (.reg /- 2 -/ [⟨(some 6), none, .q (.mv (.t 0))⟩,
      ⟨(some 7), none, .q (.eqP true (.t 6) (.k (.pointer none)))⟩,
      ⟨(some 8), none, .q (.mv (.t 7))⟩,
      ⟨(some 9), (some (8, true)), .q (.mv (.t 0))⟩,
      ⟨(some 10), (some (8, true)), .q (.nc (.t 9))⟩,
      ⟨(some 11), (some (8, true)), .q (.fa 1 (.t 10))⟩,
      ⟨(some 12), (some (8, true)), .l (.ld1 (.t 11))⟩,
      ⟨(some 13), (some (8, true)), .q (.mv (.t 0))⟩,
      ⟨(some 14), (some (8, true)), .q (.nc (.t 13))⟩,
      ⟨(some 15), (some (8, true)), .q (.fa 0 (.t 14))⟩,
      ⟨(some 16), (some (8, true)), .l (.ld1 (.t 15))⟩,
      ⟨(some 17), (some (8, true)), .q (.lnL (.t 16))⟩,
      ⟨(some 18), (some (8, true)), .q (.bin .sub true (.t 17) (.k (.int .i64 1)))⟩,
      ⟨(some 19), (some (8, true)), .q (.bin .lss true (.t 12) (.t 18))⟩,
      ⟨(some 20), none, .pick (.t 8) (.t 19) (.k (.bool false))⟩])
      (.cond (.t 20)
        (.reg /- 3 -/ [⟨(some 21), none, .q (.mv (.t 0))⟩,
      ⟨(some 22), none, .q (.nc (.t 21))⟩,
      ⟨(some 23), none, .q (.fa 1 (.t 22))⟩,
      ⟨(some 24), none, .l (.ld1 (.t 23))⟩,
      ⟨(some 25), none, .q (.bin .add true (.t 24) (.k (.int .i64 1)))⟩,
      ⟨(some 26), none, .q (.nc (.t 21))⟩,
      ⟨(some 27), none, .q (.fa 1 (.t 26))⟩,
      ⟨none, none, .e (.st 1 (.t 27) (.t 25))⟩])
        (.skip)))
      (.seq (.reg /- 4 -/ [⟨(some 28), none, .l (.ldn 4 (.t 3))⟩,
      ⟨none, none, .e (.st 4 (.t 2) (.t 28))⟩])
        (.ret))))
def rs16 : List RV := [.ld (.ldn 4 (.t 2))]
theorem ok16 : trFn Try.prog true ⟨fun r k => if r = 1 ∧ k = 1 then .q else .own [], fun _ => false⟩ Try.f16 = some (pc16, rs16) := by kernel_rfl
/-- (*robotics/lexer.Scanner).Peek -/
def pc18 : PC :=
  .seq (.reg /- 0 -/ [⟨(some 2), none, .e (.al (.agg #[(.int .i64 0), (.string (mk [])), (.int .i64 0), (.int .i64 0)]) 30)⟩])
  (.seq (.seq (.reg /- 1 -/ [⟨(some 3), none, .q (.mv (.t 0))⟩,
      ⟨(some 4), none, .q (.eqP false (.t 3) (.k (.pointer none)))⟩,
      ⟨(some 5), none, .q (.mv (.t 4))⟩,
      ⟨(some 6), (some (5, false)), .q (.mv (.t 0))⟩,
      ⟨(some 7), (some (5, false)), .q (.nc (.t 6))⟩,
      ⟨(some 8), (some (5, false)), .q (.fa 0 (.t 7))⟩,
      ⟨(some 9), (some (5, false)), .l (.ld1 (.t 8))⟩,
      ⟨(some 10), (some (5, false)), .q (.lnL (.t 9))⟩,
      ⟨(some 11), (some (5, false)), .q (.bin .eql true (.t 10) (.k (.int .i64 0)))⟩,
      ⟨(some 12), none, .pick (.t 5) (.k (.bool true)) (.t 11)⟩])
    (.cond (.t 12)
      (.seq (.reg /- 2 -/ [⟨(some 13), none, .q (.bd [(.int .i64 0), (.string (mk [])), (.int .i64 0), (.int .i64 0)] [])⟩,
      ⟨none, none, .e (.st 4 (.t 2) (.t 13))⟩])
        (.ret))
      (.skip)))
    (.seq (.reg /- 3 -/ [⟨(some 14), none, .q (.mv (.t 0))⟩,
      ⟨(some 15), none, .q (.nc (.t 14))⟩,
      ⟨(some 16), none, .q (.fa 0 (.t 15))⟩,
      ⟨(some 17), none, .l (.ld1 (.t 16))⟩,
      ⟨(some 18), none, .q (.mv (.t 0))⟩,
      ⟨(some 19), none, .q (.nc (.t 18))⟩,
      ⟨(some 20), none, .q (.fa 1 (.t 19))⟩,
      ⟨(some 21), none, .l (.ld1 (.t 20))⟩,
      ⟨(some 22), none, .l (.ia 4 (.t 17) (.t 21))⟩,
      ⟨(some 23), none, .l (.ldn 4 (.t 22))⟩,
      ⟨none, none, .e (.st 4 (.t 2) (.t 23))⟩])
      (.ret)))
def rs18 : List RV := [.ld (.ldn 4 (.t 2))]
theorem ok18 : trFn Try.prog true ⟨fun _ _ => .own [], fun _ => false⟩ Try.f18 = some (pc18, rs18) := by kernel_rfl
/-- (*robotics/lexer.Scanner).Mark -/
def pc20 : PC :=
  .seq (.reg /- 0 -/ [⟨(some 4), none, .q (.mv (.k (.bool false)))⟩])
  (.seq (.reg /- 1 -/ [⟨(some 5), none, .q (.mv (.t 0))⟩,
      ⟨(some 6), none, .q (.mv (.t 1))⟩,
      ⟨(some 7), none, .cq 37 [(.t 5), (.k (.int .i64 4)), (.t 6)]⟩,
      ⟨(some 4), none, .q (.mv (.t 7))⟩])
    (.ret))
def rs20 : List RV := [.mv (.t 4)]
theorem ok20 : trFn Try.prog true ⟨fun r k => if r = 1 ∧ k = 2 then .q else .own [], fun _ => false⟩ Try.f20 = some (pc20, rs20) := by kernel_rfl
/-- (*robotics/lexer.Scanner).Word -/
def pc22 : PC :=
  .seq (.reg /- 0 -/ [⟨(some 4), none, .q (.mv (.k (.bool false)))⟩])
  (.seq (.reg /- 1 -/ [⟨(some 5), none, .q (.mv (.t 0))⟩,
      ⟨(some 6), none, .q (.mv (.t 1))⟩,
      ⟨(some 7), none, .cq 37 [(.t 5), (.k (.int .i64 1)), (.t 6)]⟩,
      ⟨(some 4), none, .q (.mv (.t 7))⟩])
    (.ret))
def rs22 : List RV := [.mv (.t 4)]
theorem ok22 : trFn Try.prog true ⟨fun r k => if r = 1 ∧ k = 2 then .q else .own [], fun _ => false⟩ Try.f22 = some (pc22, rs22) := by kernel_rfl
/-- (*robotics/lexer.Scanner).take -/
def pc37 : PC :=
  .seq (.reg /- 0 -/ [⟨(some 6), none, .q (.mv (.k (.bool false)))⟩])
  (.seq (.seq (.reg /- 1 -/ [⟨(some 8), none, .q (.mv (.t 0))⟩,
      ⟨(some 9), none, .cq 18 [(.t 8)]⟩,
      ⟨(some 7), none, .e (.al (.agg #[(.int .i64 0), (.string (mk [])), (.int .i64 0), (.int .i64 0)]) 30)⟩,
      ⟨none, none, .e (.st 4 (.t 7) (.t 9))⟩])
    (.seq (.reg /- 2 -/ [⟨(some 10), none, .q (.fa 0 (.t 7))⟩,
      ⟨(some 11), none, .l (.ld1 (.t 10))⟩,
      ⟨(some 12), none, .q (.mv (.t 1))⟩,
      ⟨(some 13), none, .q (.bin .neq true (.t 11) (.t 12))⟩,
      ⟨(some 14), none, .q (.mv (.t 13))⟩,
      ⟨(some 15), (some (14, false)), .q (.fa 1 (.t 7))⟩,
      ⟨(some 16), (some (14, false)), .l (.ld1 (.t 15))⟩,
      ⟨(some 17), (some (14, false)), .q (.mv (.t 2))⟩,
      ⟨(some 18), (some (14, false)), .q (.bin .neq true (.t 16) (.t 17))⟩,
      ⟨(some 19), none, .pick (.t 14) (.k (.bool true)) (.t 18)⟩])
      (.cond (.t 19)
        (.seq (.reg /- 3 -/ [⟨(some 6), none, .q (.mv (.k (.bool false)))⟩])
          (.ret))
        (.skip))))
    (.seq (.reg /- 4 -/ [⟨(some 20), none, .q (.mv (.t 0))⟩,
      ⟨(some 21), none, .cq 16 [(.t 20)]⟩])
      (.seq (.reg /- 5 -/ [⟨(some 6), none, .q (.mv (.k (.bool true)))⟩])
        (.ret))))
def rs37 : List RV := [.mv (.t 6)]
theorem ok37 : trFn Try.prog true ⟨fun r k => if r = 1 ∧ k = 1 then .q else if r = 4 ∧ k = 1 then .q else .own [], fun _ => false⟩ Try.f37 = some (pc37, rs37) := by kernel_rfl
end Go.Proofs.Ytgophdhegdcekaa.Nil
