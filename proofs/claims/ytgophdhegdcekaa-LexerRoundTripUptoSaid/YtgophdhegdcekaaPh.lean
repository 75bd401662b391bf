import Derived.Test.YtgophdhegdcekaaProg
import Derived.Test.YtgophdhegdcekaaW15
namespace Go.Proofs.Ytgophdhegdcekaa.Pr
open Go.W
/-- robotics/lexer.Print -/
def pc24 : PC :=
  .seq (.reg /- 0 -/ [⟨(some 2), none, .q (.mv (.k (.string (mk []))))⟩])
  (.seq (.reg /- 1 -/ [⟨(some 3), none, .e (.al (.agg #[(.pointer none), (.slice none 0 0)]) 62)⟩])
    (.seq (.seq (.reg /- 2 -/ [⟨(some 8), none, .q (.mv (.t 0))⟩,
      ⟨(some 9), none, .q (.lnL (.t 8))⟩,
      ⟨(some 10), none, .q (.mv (.k (.int .i64 0)))⟩])
      (.block 0 (.loop (.seq (.reg /- 3 -/ [⟨(some 11), none, .q (.bin .lss true (.t 10) (.t 9))⟩])
            (.seq (.cond (.t 11)
              (.skip)
              (.exit 0))
              (.seq (.block 1 (.seq (.reg /- 4 -/ [⟨(some 12), none, .l (.ia 4 (.t 8) (.t 10))⟩,
      ⟨(some 13), none, .l (.ldn 4 (.t 12))⟩,
      ⟨(some 5), none, .e (.al (.agg #[(.int .i64 0), (.string (mk [])), (.int .i64 0), (.int .i64 0)]) 30)⟩,
      ⟨none, none, .e (.st 4 (.t 5) (.t 13))⟩])
                  (.seq (.reg /- 5 -/ [⟨(some 15), none, .l (.ldn 4 (.t 5))⟩,
      ⟨(some 16), none, .cl 38 [(.t 15)] []⟩,
      ⟨(some 14), none, .q (.mv (.t 16))⟩,
      ⟨(some 17), none, .q (.ex (.t 14) 0)⟩,
      ⟨(some 18), none, .q (.ex (.t 14) 1)⟩,
      ⟨(some 6), none, .q (.mv (.t 17))⟩,
      ⟨(some 7), none, .q (.mv (.t 18))⟩])
                    (.seq (.seq (.reg /- 6 -/ [⟨(some 19), none, .q (.mv (.t 7))⟩,
      ⟨(some 20), none, .q (.not (.t 19))⟩])
                      (.cond (.t 20)
                        (.exit 1)
                        (.skip)))
                      (.seq (.seq (.reg /- 7 -/ [⟨(some 21), none, .cl 39 [(.t 3)] [0, 1]⟩,
      ⟨(some 22), none, .q (.bin .gtr true (.t 21) (.k (.int .i64 0)))⟩])
                        (.cond (.t 22)
                          (.reg /- 8 -/ [⟨(some 23), none, .cl 40 [(.t 3), (.k (.int .u8 32))] [0, 1]⟩])
                          (.skip)))
                        (.reg /- 9 -/ [⟨(some 24), none, .q (.mv (.t 6))⟩,
      ⟨(some 25), none, .cl 41 [(.t 3), (.t 24)] [0, 1]⟩]))))))
                (.reg /- 10 -/ [⟨(some 26), none, .q (.bin .add true (.t 10) (.k (.int .i64 1)))⟩,
      ⟨(some 10), none, .q (.mv (.t 26))⟩])))))))
      (.seq (.reg /- 11 -/ [⟨(some 27), none, .cl 42 [(.t 3)] [0, 1]⟩,
      ⟨(some 2), none, .q (.mv (.t 27))⟩])
        (.ret))))
def rs24 : List RV := [.mv (.t 2)]
theorem ok24 : trFn Try.prog true ⟨fun r k => if r = 7 ∧ k = 0 then .own [0, 1] else if r = 8 ∧ k = 0 then .own [0, 1] else if r = 9 ∧ k = 1 then .own [0, 1] else if r = 11 ∧ k = 0 then .own [0, 1] else .own [], fun _ => false⟩ Try.f24 = some (pc24, rs24) := by kernel_rfl
/-- (*strings.Builder).WriteString -/
def pc41 : PC :=
  .seq (.reg /- 0 -/ [⟨(some 4), none, .q (.mv (.k (.int .i64 0)))⟩,
      ⟨(some 5), none, .q (.mv (.k .nilIface))⟩])
  (.seq (.reg /- 1 -/ [⟨(some 6), none, .q (.mv (.t 0))⟩,
      ⟨(some 7), none, .cl 55 [(.t 6)] [0, 1]⟩])
    (.seq (.reg /- 2 -/ [⟨(some 8), none, .q (.mv (.t 0))⟩,
      ⟨(some 9), none, .q (.mv (.t 0))⟩,
      ⟨(some 10), none, .q (.nc (.t 9))⟩,
      ⟨(some 11), none, .q (.fa 1 (.t 10))⟩,
      ⟨(some 12), none, .l (.ld1 (.t 11))⟩,
      ⟨(some 13), none, .q (.mv (.t 1))⟩,
      ⟨(some 14), none, .e (.aps 5 (.t 12) (.t 13))⟩,
      ⟨(some 15), none, .q (.nc (.t 8))⟩,
      ⟨(some 16), none, .q (.fa 1 (.t 15))⟩,
      ⟨none, none, .e (.st 1 (.t 16) (.t 14))⟩])
      (.seq (.reg /- 3 -/ [⟨(some 17), none, .q (.mv (.t 1))⟩,
      ⟨(some 18), none, .q (.lnS (.t 17))⟩,
      ⟨(some 4), none, .q (.mv (.t 18))⟩,
      ⟨(some 5), none, .q (.mv (.k .nilIface))⟩])
        (.ret))))
def rs41 : List RV := [.mv (.t 4), .mv (.t 5)]
theorem ok41 : trFn Try.prog true ⟨fun r k => if r = 1 ∧ k = 1 then .own [0, 1] else .own [], fun _ => false⟩ Try.f41 = some (pc41, rs41) := by kernel_rfl
/- robotics/lexer.decimal -/
def pc53_4 : PC :=
  .seq (.gh (.reg /- 4 -/ [⟨(some 4), none, .q (.mv (.k (.string (mk []))))⟩]))
  (.seq (.seq (.reg /- 5 -/ [⟨(some 5), none, .q (.mv (.k (.bool true)))⟩])
    (.block 0 (.loop (.seq (.seq (.reg /- 6 -/ [⟨(some 12), none, .q (.mv (.t 5))⟩,
      ⟨(some 13), none, .q (.mv (.t 12))⟩,
      ⟨(some 14), (some (13, false)), .q (.mv (.t 3))⟩,
      ⟨(some 15), (some (13, false)), .q (.bin .gtr true (.t 14) (.k (.int .u64 0)))⟩,
      ⟨(some 16), none, .pick (.t 13) (.k (.bool true)) (.t 15)⟩])
          (.cond (.t 16)
            (.skip)
            (.exit 0)))
          (.seq (.block 1 (.seq (.reg /- 8 -/ [⟨(some 17), none, .q (.mv (.t 3))⟩,
      ⟨(some 18), none, .q (.bin .rem true (.t 17) (.k (.int .u64 10)))⟩,
      ⟨(some 19), none, .q (.bin .add true (.k (.int .u64 48)) (.t 18))⟩,
      ⟨(some 20), none, .q (.cvt .u8 (.t 19))⟩,
      ⟨(some 21), none, .e (.bsl 5 1 [(.t 20)])⟩,
      ⟨(some 22), none, .q (.b2s (.t 21))⟩,
      ⟨(some 23), none, .q (.mv (.t 4))⟩,
      ⟨(some 24), none, .q (.bin .add true (.t 22) (.t 23))⟩,
      ⟨(some 4), none, .q (.mv (.t 24))⟩])
              (.reg /- 9 -/ [⟨(some 25), none, .q (.mv (.t 3))⟩,
      ⟨(some 26), none, .q (.bin .quo true (.t 25) (.k (.int .u64 10)))⟩,
      ⟨(some 3), none, .q (.mv (.t 26))⟩])))
            (.reg /- 7 -/ [⟨(some 5), none, .q (.mv (.k (.bool false)))⟩]))))))
    (.seq (.seq (.reg /- 10 -/ [⟨(some 27), none, .q (.mv (.t 0))⟩,
      ⟨(some 28), none, .q (.bin .lss true (.t 27) (.k (.int .i64 0)))⟩])
      (.cond (.t 28)
        (.seq (.reg /- 11 -/ [⟨(some 29), none, .q (.mv (.t 4))⟩,
      ⟨(some 30), none, .q (.bin .add true (.k (.string (mk [45]))) (.t 29))⟩,
      ⟨(some 2), none, .q (.mv (.t 30))⟩])
          (.ret))
        (.skip)))
      (.seq (.reg /- 12 -/ [⟨(some 31), none, .q (.mv (.t 4))⟩,
      ⟨(some 2), none, .q (.mv (.t 31))⟩])
        (.ret))))
@[go_sem ↓] theorem fold53_4 (Γ : Env) (k0 : Nat) (fr : Fr) (H : Hp) (K : Ex → Fr → Hp → Prop) : vc Γ k0 pc53_4 fr H K = vcn Γ k0 pc53_4 fr H K ⟨⟩ := rfl
def pc53 : PC :=
  .seq (.reg /- 0 -/ [⟨(some 2), none, .q (.mv (.k (.string (mk []))))⟩])
  (.seq (.reg /- 1 -/ [⟨(some 6), none, .q (.mv (.t 0))⟩,
      ⟨(some 7), none, .q (.cvt .u64 (.t 6))⟩,
      ⟨(some 3), none, .q (.mv (.t 7))⟩])
    (.seq (.seq (.reg /- 2 -/ [⟨(some 8), none, .q (.mv (.t 0))⟩,
      ⟨(some 9), none, .q (.bin .lss true (.t 8) (.k (.int .i64 0)))⟩])
      (.cond (.t 9)
        (.reg /- 3 -/ [⟨(some 10), none, .q (.mv (.t 3))⟩,
      ⟨(some 11), none, .q (.neg false (.t 10))⟩,
      ⟨(some 3), none, .q (.mv (.t 11))⟩])
        (.skip)))
      (pc53_4)))
def rs53 : List RV := [.mv (.t 2)]
theorem ok53 : trFn Try.prog true ⟨fun _ _ => .own [], fun r => [4].contains r⟩ Try.f53 = some (pc53, rs53) := by kernel_rfl
end Go.Proofs.Ytgophdhegdcekaa.Pr
