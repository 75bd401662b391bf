/- Lemmas and walks for the proof. -/
import Derived.Test.YtbolanmlngjdoaaGreatMd
import Derived.Test.YtbolanmlngjdoaaGreatProg
import Derived.Shelf.SlSortCmp.NoneTotal
import Derived.Shelf.Small.Strs
import Derived.Shelf.Slices.Clone
namespace Go.Proofs.YtbolanmlngjdoaaGreat
open Go.W
def pc8_13:PC:=.seq (.gh (.reg [⟨some 66,none,.l (.ldn 3 (.t 3))⟩,⟨some 67,none,.q (.mv (.t 9))⟩,⟨some 68,none,.cl 23 [(.t 66),(.t 67)] []⟩,⟨some 65,none,.q (.mv (.t 68))⟩,⟨some 69,none,.q (.ex (.t 65) 0)⟩,⟨some 70,none,.q (.ex (.t 65) 1)⟩,⟨some 14,none,.e (.al (.agg #[(.string (mk [])),(.slice none 0 0),(.slice none 0 0)]) 60)⟩,⟨none,none,.e (.st 3 (.t 14) (.t 69))⟩,⟨some 15,none,.q (.mv (.t 70))⟩])) (.seq (.reg [⟨some 72,none,.l (.ldn 3 (.t 4))⟩,⟨some 73,none,.q (.mv (.t 9))⟩,⟨some 74,none,.cl 23 [(.t 72),(.t 73)] []⟩,⟨some 71,none,.q (.mv (.t 74))⟩,⟨some 75,none,.q (.ex (.t 71) 0)⟩,⟨some 76,none,.q (.ex (.t 71) 1)⟩,⟨some 16,none,.e (.al (.agg #[(.string (mk [])),(.slice none 0 0),(.slice none 0 0)]) 60)⟩,⟨none,none,.e (.st 3 (.t 16) (.t 75))⟩,⟨some 17,none,.q (.mv (.t 76))⟩]) (.seq (.reg [⟨some 77,none,.q (.fa 2 (.t 14))⟩,⟨some 78,none,.l (.ld1 (.t 77))⟩,⟨some 79,none,.q (.lnL (.t 78))⟩,⟨some 80,none,.q (.mv (.k (.int .i64 0)))⟩]) (.block 3 (.loop (.seq (.reg [⟨some 81,none,.q (.bin .lss true (.t 80) (.t 79))⟩]) (.seq (.cond (.t 81) .skip (.exit 3)) (.seq (.block 4 (.seq (.reg [⟨some 82,none,.l (.ia 1 (.t 78) (.t 80))⟩,⟨some 83,none,.l (.ld1 (.t 82))⟩,⟨some 19,none,.q (.mv (.t 83))⟩]) (.seq (.reg [⟨some 84,none,.q (.mv (.t 15))⟩,⟨some 85,none,.q (.mv (.t 84))⟩,⟨some 86,(some (85,true)),.q (.mv (.t 17))⟩,⟨some 87,none,.pick (.t 85) (.t 86) (.k (.bool false))⟩,⟨some 88,none,.q (.mv (.t 87))⟩,⟨some 89,(some (88,true)),.q (.fa 2 (.t 16))⟩,⟨some 90,(some (88,true)),.l (.ld1 (.t 89))⟩,⟨some 91,(some (88,true)),.q (.mv (.t 19))⟩,⟨some 92,(some (88,true)),.cq 24 [(.t 90),(.t 91)]⟩,⟨some 93,(some (88,true)),.q (.not (.t 92))⟩,⟨some 94,none,.pick (.t 88) (.t 93) (.k (.bool false))⟩]) (.cond (.t 94) (.reg [⟨some 95,none,.q (.mv (.t 7))⟩,⟨some 96,none,.q (.mv (.t 19))⟩,⟨some 97,none,.q (.mv (.t 9))⟩,⟨some 98,none,.cl 21 [(.t 95),(.k (.int .i64 4)),(.t 96),(.t 97)] [2,3]⟩]) .skip)))) (.reg [⟨some 99,none,.q (.bin .add true (.t 80) (.k (.int .i64 1)))⟩,⟨some 80,none,.q (.mv (.t 99))⟩]))))))))
@[go_sem ↓] theorem fold8_13 (Γ:Env) (k0:Nat) (fr:Fr) (H:Hp) (K:Ex->Fr->Hp->Prop):vc Γ k0 pc8_13 fr H K=vcn Γ k0 pc8_13 fr H K ⟨⟩:=rfl
def pc8:PC:=.seq (.reg [⟨some 3,none,.e (.bx 25 (.t 0))⟩,⟨some 4,none,.e (.bx 25 (.t 1))⟩,⟨some 6,none,.q (.mv (.k (.slice none 0 0)))⟩]) (.seq (.seq (.reg [⟨some 20,none,.l (.ldn 3 (.t 3))⟩,⟨some 21,none,.cq 18 [(.t 20)]⟩,⟨some 22,none,.q (.bin .neq true (.t 21) (.k (.int .i64 0)))⟩,⟨some 23,none,.q (.mv (.t 22))⟩,⟨some 24,(some (23,false)),.l (.ldn 3 (.t 4))⟩,⟨some 25,(some (23,false)),.cq 18 [(.t 24)]⟩,⟨some 26,(some (23,false)),.q (.bin .neq true (.t 25) (.k (.int .i64 0)))⟩,⟨some 27,none,.pick (.t 23) (.k (.bool true)) (.t 26)⟩]) (.cond (.t 27) (.seq (.reg [⟨some 6,none,.q (.mv (.k (.slice none 0 0)))⟩]) .ret) .skip)) (.seq (.reg [⟨some 28,none,.q (.bd [(.slice none 0 0)] [])⟩,⟨some 29,none,.e (.bx 53 (.t 28))⟩,⟨some 7,none,.q (.mv (.t 29))⟩]) (.seq (.seq (.reg [⟨some 30,none,.l (.ldn 3 (.t 3))⟩,⟨some 31,none,.l (.ldn 3 (.t 4))⟩,⟨some 32,none,.q (.mv (.t 2))⟩,⟨some 33,none,.cl 19 [(.t 30),(.t 31),(.t 32)] []⟩,⟨some 34,none,.q (.lnL (.t 33))⟩,⟨some 35,none,.q (.mv (.k (.int .i64 0)))⟩]) (.block 0 (.loop (.seq (.reg [⟨some 36,none,.q (.bin .lss true (.t 35) (.t 34))⟩]) (.seq (.cond (.t 36) .skip (.exit 0)) (.seq (.block 1 (.seq (.reg [⟨some 37,none,.l (.ia 1 (.t 33) (.t 35))⟩,⟨some 38,none,.l (.ld1 (.t 37))⟩,⟨some 9,none,.q (.mv (.t 38))⟩]) (.seq (.reg [⟨some 40,none,.l (.ldn 3 (.t 3))⟩,⟨some 41,none,.q (.mv (.t 9))⟩,⟨some 42,none,.cl 20 [(.t 40),(.t 41)] []⟩,⟨some 39,none,.q (.mv (.t 42))⟩,⟨some 43,none,.q (.ex (.t 39) 0)⟩,⟨some 44,none,.q (.ex (.t 39) 1)⟩,⟨some 10,none,.e (.al (.agg #[(.string (mk [])),(.slice none 0 0)]) 37)⟩,⟨none,none,.e (.st 2 (.t 10) (.t 43))⟩,⟨some 11,none,.q (.mv (.t 44))⟩]) (.seq (.reg [⟨some 46,none,.l (.ldn 3 (.t 4))⟩,⟨some 47,none,.q (.mv (.t 9))⟩,⟨some 48,none,.cl 20 [(.t 46),(.t 47)] []⟩,⟨some 45,none,.q (.mv (.t 48))⟩,⟨some 49,none,.q (.ex (.t 45) 0)⟩,⟨some 50,none,.q (.ex (.t 45) 1)⟩,⟨some 12,none,.e (.al (.agg #[(.string (mk [])),(.slice none 0 0)]) 37)⟩,⟨none,none,.e (.st 2 (.t 12) (.t 49))⟩,⟨some 13,none,.q (.mv (.t 50))⟩]) (.seq (.block 2 (.seq (.reg [⟨some 52,none,.q (.mv (.t 11))⟩,⟨some 53,none,.q (.mv (.t 13))⟩,⟨some 54,none,.q (.eqB true (.t 52) (.t 53))⟩,⟨some 51,none,.q (.mv (.t 54))⟩]) (.cond (.t 51) (.seq (.reg [⟨some 55,none,.q (.mv (.t 7))⟩,⟨some 56,none,.q (.mv (.t 9))⟩,⟨some 57,none,.cl 21 [(.t 55),(.k (.int .i64 5)),(.k (.int .i64 0)),(.t 56)] [2,3]⟩]) (.exit 1)) (.seq (.reg [⟨some 59,none,.q (.mv (.t 11))⟩,⟨some 58,none,.q (.mv (.t 59))⟩]) (.cond (.t 58) (.reg [⟨some 60,none,.q (.mv (.t 7))⟩,⟨some 61,none,.q (.mv (.t 9))⟩,⟨some 62,none,.l (.ldn 2 (.t 10))⟩,⟨some 63,none,.l (.ldn 2 (.t 12))⟩,⟨some 64,none,.cl 22 [(.t 60),(.t 61),(.t 62),(.t 63)] [2,3]⟩]) .skip))))) (pc8_13)))))) (.reg [⟨some 100,none,.q (.bin .add true (.t 35) (.k (.int .i64 1)))⟩,⟨some 35,none,.q (.mv (.t 100))⟩]))))))) (.seq (.reg [⟨some 101,none,.q (.mv (.t 7))⟩,⟨some 102,none,.q (.nc (.t 101))⟩,⟨some 103,none,.q (.fa 0 (.t 102))⟩,⟨some 104,none,.l (.ld1 (.t 103))⟩,⟨some 105,none,.cl 25 [(.t 104),(.f 26)] [3]⟩]) (.seq (.reg [⟨some 106,none,.q (.mv (.t 7))⟩,⟨some 107,none,.q (.nc (.t 106))⟩,⟨some 108,none,.q (.fa 0 (.t 107))⟩,⟨some 109,none,.l (.ld1 (.t 108))⟩,⟨some 6,none,.q (.mv (.t 109))⟩]) .ret)))))
def rs8:List RV:=[.mv (.t 6)]
theorem ok8:trFn Tryz.prog true ⟨fun r k=>if r=1/\k=1 then .q else if r=1/\k=5 then .q else if r=10/\k=2 then .own [2,3] else if r=12/\k=4 then .own [2,3] else if r=18/\k=8 then .q else if r=19/\k=3 then .own [2,3] else if r=22/\k=4 then .own [3] else .own [],fun r=>[13].contains r⟩ Tryz.f8=some (pc8,rs8):=by kernel_rfl
def pc12_5:PC:=.seq (.gh (.reg [⟨some 31,none,.q (.mv (.t 8))⟩,⟨some 32,none,.q (.mv (.t 31))⟩,⟨some 33,(some (32,true)),.q (.mv (.t 10))⟩,⟨some 34,none,.pick (.t 32) (.t 33) (.k (.bool false))⟩,⟨some 35,none,.q (.mv (.t 34))⟩,⟨some 36,(some (35,true)),.l (.ldn 3 (.t 3))⟩,⟨some 37,(some (35,true)),.l (.ldn 3 (.t 4))⟩,⟨some 38,(some (35,true)),.q (.mv (.t 2))⟩,⟨some 39,(some (35,true)),.cl 8 [(.t 36),(.t 37),(.t 38)] []⟩,⟨some 40,(some (35,true)),.q (.lnL (.t 39))⟩,⟨some 41,(some (35,true)),.q (.bin .eql true (.t 40) (.k (.int .i64 0)))⟩,⟨some 42,none,.pick (.t 35) (.t 41) (.k (.bool false))⟩,⟨some 6,none,.q (.mv (.t 42))⟩])) .ret
@[go_sem ↓] theorem fold12_5 (Γ:Env) (k0:Nat) (fr:Fr) (H:Hp) (K:Ex->Fr->Hp->Prop):vc Γ k0 pc12_5 fr H K=vcn Γ k0 pc12_5 fr H K ⟨⟩:=rfl
def pc12_4:PC:=.seq (.gh (.reg [⟨some 26,none,.l (.ldn 3 (.t 4))⟩,⟨some 27,none,.q (.mv (.t 2))⟩,⟨some 28,none,.cl 20 [(.t 26),(.t 27)] []⟩,⟨some 25,none,.q (.mv (.t 28))⟩,⟨some 29,none,.q (.ex (.t 25) 0)⟩,⟨some 30,none,.q (.ex (.t 25) 1)⟩,⟨some 9,none,.e (.al (.agg #[(.string (mk [])),(.slice none 0 0)]) 37)⟩,⟨none,none,.e (.st 2 (.t 9) (.t 29))⟩,⟨some 10,none,.q (.mv (.t 30))⟩])) (pc12_5)
@[go_sem ↓] theorem fold12_4 (Γ:Env) (k0:Nat) (fr:Fr) (H:Hp) (K:Ex->Fr->Hp->Prop):vc Γ k0 pc12_4 fr H K=vcn Γ k0 pc12_4 fr H K ⟨⟩:=rfl
def pc12:PC:=.seq (.reg [⟨some 3,none,.e (.bx 25 (.t 0))⟩,⟨some 4,none,.e (.bx 25 (.t 1))⟩,⟨some 6,none,.q (.mv (.k (.bool false)))⟩]) (.seq (.seq (.reg [⟨some 11,none,.l (.ldn 3 (.t 3))⟩,⟨some 12,none,.cq 18 [(.t 11)]⟩,⟨some 13,none,.q (.bin .neq true (.t 12) (.k (.int .i64 0)))⟩,⟨some 14,none,.q (.mv (.t 13))⟩,⟨some 15,(some (14,false)),.l (.ldn 3 (.t 4))⟩,⟨some 16,(some (14,false)),.cq 18 [(.t 15)]⟩,⟨some 17,(some (14,false)),.q (.bin .neq true (.t 16) (.k (.int .i64 0)))⟩,⟨some 18,none,.pick (.t 14) (.k (.bool true)) (.t 17)⟩]) (.cond (.t 18) (.seq (.reg [⟨some 6,none,.q (.mv (.k (.bool false)))⟩]) .ret) .skip)) (.seq (.reg [⟨some 20,none,.l (.ldn 3 (.t 3))⟩,⟨some 21,none,.q (.mv (.t 2))⟩,⟨some 22,none,.cl 20 [(.t 20),(.t 21)] []⟩,⟨some 19,none,.q (.mv (.t 22))⟩,⟨some 23,none,.q (.ex (.t 19) 0)⟩,⟨some 24,none,.q (.ex (.t 19) 1)⟩,⟨some 7,none,.e (.al (.agg #[(.string (mk [])),(.slice none 0 0)]) 37)⟩,⟨none,none,.e (.st 2 (.t 7) (.t 23))⟩,⟨some 8,none,.q (.mv (.t 24))⟩]) (pc12_4)))
def rs12:List RV:=[.mv (.t 6)]
theorem ok12:trFn Tryz.prog true ⟨fun r k=>if r=1/\k=1 then .q else if r=1/\k=5 then .q else .own [],fun r=>[4,5].contains r⟩ Tryz.f12=some (pc12,rs12):=by kernel_rfl
def pc19:PC:=.seq (.reg [⟨some 3,none,.e (.bx 25 (.t 0))⟩,⟨some 4,none,.e (.bx 25 (.t 1))⟩,⟨some 6,none,.q (.mv (.k (.slice none 0 0)))⟩]) (.seq (.reg [⟨some 11,none,.q (.mv (.t 2))⟩,⟨some 12,none,.e (.bsl 9 1 [(.t 11)])⟩,⟨some 7,none,.q (.mv (.t 12))⟩]) (.seq (.reg [⟨some 13,none,.l (.ldn 3 (.t 4))⟩,⟨some 14,none,.q (.mv (.t 2))⟩,⟨some 15,none,.cl 57 [(.t 13),(.t 14)] []⟩,⟨some 8,none,.q (.mv (.t 15))⟩]) (.seq (.seq (.reg [⟨some 16,none,.l (.ldn 3 (.t 3))⟩,⟨some 17,none,.q (.mv (.t 2))⟩,⟨some 18,none,.cl 57 [(.t 16),(.t 17)] []⟩,⟨some 19,none,.q (.lnL (.t 18))⟩,⟨some 20,none,.q (.mv (.k (.int .i64 0)))⟩]) (.block 0 (.loop (.seq (.reg [⟨some 21,none,.q (.bin .lss true (.t 20) (.t 19))⟩]) (.seq (.cond (.t 21) .skip (.exit 0)) (.seq (.block 1 (.seq (.reg [⟨some 22,none,.l (.ia 1 (.t 18) (.t 20))⟩,⟨some 23,none,.l (.ld1 (.t 22))⟩,⟨some 10,none,.q (.mv (.t 23))⟩]) (.seq (.reg [⟨some 24,none,.q (.mv (.t 8))⟩,⟨some 25,none,.q (.mv (.t 10))⟩,⟨some 26,none,.cq 58 [(.t 24),(.t 25)]⟩]) (.cond (.t 26) (.reg [⟨some 27,none,.q (.mv (.t 7))⟩,⟨some 28,none,.q (.mv (.t 10))⟩,⟨some 29,none,.e (.bsl 9 1 [(.t 28)])⟩,⟨some 30,none,.e (.ap 9 1 16 (.t 27) (.t 29))⟩,⟨some 7,none,.q (.mv (.t 30))⟩]) .skip)))) (.reg [⟨some 31,none,.q (.bin .add true (.t 20) (.k (.int .i64 1)))⟩,⟨some 20,none,.q (.mv (.t 31))⟩]))))))) (.seq (.reg [⟨some 32,none,.q (.mv (.t 7))⟩,⟨some 6,none,.q (.mv (.t 32))⟩]) .ret))))
def rs19:List RV:=[.mv (.t 6)]
theorem ok19:trFn Tryz.prog true ⟨fun r k=>if r=6/\k=2 then .q else .own [],fun _=>false⟩ Tryz.f19=some (pc19,rs19):=by kernel_rfl
def pc21:PC:=.seq (.reg [⟨some 11,none,.q (.mv (.t 1))⟩,⟨some 12,none,.q (.mv (.t 2))⟩,⟨some 13,none,.q (.mv (.t 3))⟩,⟨some 14,none,.q (.bd [(.int .i64 0),(.int .i64 0),(.string (mk []))] [(0,1,(.t 11)),(1,1,(.t 12)),(2,1,(.t 13))])⟩,⟨some 8,none,.e (.al (.agg #[(.int .i64 0),(.int .i64 0),(.string (mk []))]) 33)⟩,⟨none,none,.e (.st 3 (.t 8) (.t 14))⟩]) (.seq (.seq (.reg [⟨some 15,none,.q (.mv (.t 0))⟩,⟨some 16,none,.q (.nc (.t 15))⟩,⟨some 17,none,.q (.fa 0 (.t 16))⟩,⟨some 18,none,.l (.ld1 (.t 17))⟩,⟨some 19,none,.q (.lnL (.t 18))⟩,⟨some 20,none,.q (.mv (.k (.int .i64 0)))⟩]) (.block 0 (.loop (.seq (.reg [⟨some 21,none,.q (.bin .lss true (.t 20) (.t 19))⟩]) (.seq (.cond (.t 21) .skip (.exit 0)) (.seq (.block 1 (.seq (.reg [⟨some 22,none,.l (.ia 3 (.t 18) (.t 20))⟩,⟨some 23,none,.l (.ldn 3 (.t 22))⟩,⟨some 10,none,.e (.al (.agg #[(.int .i64 0),(.int .i64 0),(.string (mk []))]) 33)⟩,⟨none,none,.e (.st 3 (.t 10) (.t 23))⟩]) (.seq (.reg [⟨some 24,none,.l (.ldn 3 (.t 8))⟩,⟨some 25,none,.l (.ldn 3 (.t 10))⟩,⟨some 26,none,.q (.eqT false [(0,.int .i64),(1,.int .i64),(2,.str)] (.t 24) (.t 25))⟩]) (.cond (.t 26) .ret .skip)))) (.reg [⟨some 27,none,.q (.bin .add true (.t 20) (.k (.int .i64 1)))⟩,⟨some 20,none,.q (.mv (.t 27))⟩]))))))) (.ord  [.q ⟨some 28,none,.q (.mv (.t 0))⟩,.q ⟨some 29,none,.q (.mv (.t 0))⟩,.q ⟨some 30,none,.q (.nc (.t 29))⟩,.q ⟨some 31,none,.q (.fa 0 (.t 30))⟩,.q ⟨some 32,none,.l (.ld1 (.t 31))⟩,.q ⟨some 33,none,.l (.ldn 3 (.t 8))⟩,.m ⟨some 34,none,.e (.bsl 33 3 [(.t 33)])⟩,.rc ⟨some 28,none,.q (.mv (.t 0))⟩,.rc ⟨some 29,none,.q (.mv (.t 0))⟩,.rc ⟨some 30,none,.q (.nc (.t 29))⟩,.rc ⟨some 31,none,.q (.fa 0 (.t 30))⟩,.rc ⟨some 32,none,.l (.ld1 (.t 31))⟩,.m ⟨some 35,none,.e (.ap 33 3 32 (.t 32) (.t 34))⟩,.rc ⟨some 28,none,.q (.mv (.t 0))⟩,.q ⟨some 36,none,.q (.nc (.t 28))⟩,.q ⟨some 37,none,.q (.fa 0 (.t 36))⟩,.m ⟨none,none,.e (.st 1 (.t 37) (.t 35))⟩]))
def rs21:List RV:=[]
theorem ok21:trFn Tryz.prog true ⟨fun _ _=>.own [],fun _=>false⟩ Tryz.f21=some (pc21,rs21):=by kernel_rfl
def pc22:PC:=.seq (.reg [⟨some 6,none,.e (.bx 37 (.t 2))⟩,⟨some 7,none,.e (.bx 37 (.t 3))⟩]) (.seq (.seq (.reg [⟨some 16,none,.q (.fa 1 (.t 6))⟩,⟨some 17,none,.l (.ld1 (.t 16))⟩,⟨some 18,none,.q (.lnL (.t 17))⟩,⟨some 19,none,.q (.mv (.k (.int .i64 0)))⟩]) (.block 0 (.loop (.seq (.reg [⟨some 20,none,.q (.bin .lss true (.t 19) (.t 18))⟩]) (.seq (.cond (.t 20) .skip (.exit 0)) (.seq (.block 1 (.seq (.reg [⟨some 21,none,.l (.ia 7 (.t 17) (.t 19))⟩,⟨some 22,none,.l (.ldn 7 (.t 21))⟩,⟨some 9,none,.e (.al (.agg #[(.int .i64 0),(.string (mk [])),(.int .i64 0),(.int .i64 0),(.string (mk [])),(.slice none 0 0),(.bool false)]) 50)⟩,⟨none,none,.e (.st 7 (.t 9) (.t 22))⟩]) (.seq (.reg [⟨some 24,none,.l (.ldn 2 (.t 7))⟩,⟨some 25,none,.q (.fa 0 (.t 9))⟩,⟨some 26,none,.l (.ld1 (.t 25))⟩,⟨some 27,none,.cl 60 [(.t 24),(.t 26)] []⟩,⟨some 23,none,.q (.mv (.t 27))⟩,⟨some 28,none,.q (.ex (.t 23) 0)⟩,⟨some 29,none,.q (.ex (.t 23) 1)⟩,⟨some 10,none,.e (.al (.agg #[(.int .i64 0),(.string (mk [])),(.int .i64 0),(.int .i64 0),(.string (mk [])),(.slice none 0 0),(.bool false)]) 50)⟩,⟨none,none,.e (.st 7 (.t 10) (.t 28))⟩,⟨some 11,none,.q (.mv (.t 29))⟩]) (.seq (.seq (.reg [⟨some 30,none,.q (.mv (.t 11))⟩,⟨some 31,none,.q (.not (.t 30))⟩]) (.cond (.t 31) (.seq (.seq (.reg [⟨some 32,none,.q (.fa 6 (.t 9))⟩,⟨some 33,none,.l (.ld1 (.t 32))⟩,⟨some 34,none,.q (.not (.t 33))⟩]) (.cond (.t 34) (.reg [⟨some 35,none,.q (.mv (.t 0))⟩,⟨some 36,none,.q (.fa 0 (.t 9))⟩,⟨some 37,none,.l (.ld1 (.t 36))⟩,⟨some 38,none,.q (.mv (.t 1))⟩,⟨some 39,none,.cl 21 [(.t 35),(.k (.int .i64 2)),(.t 37),(.t 38)] [0,1]⟩]) .skip)) (.exit 1)) .skip)) (.seq (.seq (.reg [⟨some 40,none,.q (.fa 2 (.t 9))⟩,⟨some 41,none,.l (.ldn 4 (.t 40))⟩,⟨some 42,none,.q (.fa 2 (.t 10))⟩,⟨some 43,none,.l (.ldn 4 (.t 42))⟩,⟨some 44,none,.cq 61 [(.t 41),(.t 43)]⟩,⟨some 45,none,.q (.not (.t 44))⟩]) (.cond (.t 45) (.reg [⟨some 46,none,.q (.mv (.t 0))⟩,⟨some 47,none,.q (.fa 0 (.t 9))⟩,⟨some 48,none,.l (.ld1 (.t 47))⟩,⟨some 49,none,.q (.mv (.t 1))⟩,⟨some 50,none,.cl 21 [(.t 46),(.k (.int .i64 1)),(.t 48),(.t 49)] [0,1]⟩]) .skip)) (.seq (.reg [⟨some 51,none,.q (.fa 6 (.t 9))⟩,⟨some 52,none,.l (.ld1 (.t 51))⟩,⟨some 53,none,.q (.fa 6 (.t 10))⟩,⟨some 54,none,.l (.ld1 (.t 53))⟩,⟨some 55,none,.q (.eqB true (.t 52) (.t 54))⟩]) (.cond (.t 55) (.reg [⟨some 56,none,.q (.mv (.t 0))⟩,⟨some 57,none,.q (.fa 0 (.t 9))⟩,⟨some 58,none,.l (.ld1 (.t 57))⟩,⟨some 59,none,.q (.mv (.t 1))⟩,⟨some 60,none,.cl 21 [(.t 56),(.k (.int .i64 3)),(.t 58),(.t 59)] [0,1]⟩]) .skip))))))) (.reg [⟨some 61,none,.q (.bin .add true (.t 19) (.k (.int .i64 1)))⟩,⟨some 19,none,.q (.mv (.t 61))⟩]))))))) (.seq (.reg [⟨some 62,none,.q (.fa 1 (.t 7))⟩,⟨some 63,none,.l (.ld1 (.t 62))⟩,⟨some 64,none,.q (.lnL (.t 63))⟩,⟨some 65,none,.q (.mv (.k (.int .i64 0)))⟩]) (.block 2 (.loop (.seq (.reg [⟨some 66,none,.q (.bin .lss true (.t 65) (.t 64))⟩]) (.seq (.cond (.t 66) .skip (.exit 2)) (.seq (.block 3 (.seq (.reg [⟨some 67,none,.l (.ia 7 (.t 63) (.t 65))⟩,⟨some 68,none,.l (.ldn 7 (.t 67))⟩,⟨some 13,none,.e (.al (.agg #[(.int .i64 0),(.string (mk [])),(.int .i64 0),(.int .i64 0),(.string (mk [])),(.slice none 0 0),(.bool false)]) 50)⟩,⟨none,none,.e (.st 7 (.t 13) (.t 68))⟩]) (.seq (.reg [⟨some 70,none,.l (.ldn 2 (.t 6))⟩,⟨some 71,none,.q (.fa 0 (.t 13))⟩,⟨some 72,none,.l (.ld1 (.t 71))⟩,⟨some 73,none,.cl 60 [(.t 70),(.t 72)] []⟩,⟨some 69,none,.q (.mv (.t 73))⟩,⟨some 74,none,.q (.ex (.t 69) 0)⟩,⟨some 75,none,.q (.ex (.t 69) 1)⟩,⟨some 14,none,.e (.al (.agg #[(.int .i64 0),(.string (mk [])),(.int .i64 0),(.int .i64 0),(.string (mk [])),(.slice none 0 0),(.bool false)]) 50)⟩,⟨none,none,.e (.st 7 (.t 14) (.t 74))⟩,⟨some 15,none,.q (.mv (.t 75))⟩]) (.seq (.reg [⟨some 76,none,.q (.mv (.t 15))⟩,⟨some 77,none,.q (.not (.t 76))⟩,⟨some 78,none,.q (.mv (.t 77))⟩,⟨some 79,(some (78,true)),.q (.fa 6 (.t 13))⟩,⟨some 80,(some (78,true)),.l (.ld1 (.t 79))⟩,⟨some 81,(some (78,true)),.q (.not (.t 80))⟩,⟨some 82,none,.pick (.t 78) (.t 81) (.k (.bool false))⟩]) (.cond (.t 82) (.reg [⟨some 83,none,.q (.mv (.t 0))⟩,⟨some 84,none,.q (.fa 0 (.t 13))⟩,⟨some 85,none,.l (.ld1 (.t 84))⟩,⟨some 86,none,.q (.mv (.t 1))⟩,⟨some 87,none,.cl 21 [(.t 83),(.k (.int .i64 2)),(.t 85),(.t 86)] [0,1]⟩]) .skip))))) (.reg [⟨some 88,none,.q (.bin .add true (.t 65) (.k (.int .i64 1)))⟩,⟨some 65,none,.q (.mv (.t 88))⟩]))))))))
def rs22:List RV:=[]
theorem ok22:trFn Tryz.prog true ⟨fun r k=>if r=7/\k=4 then .own [0,1] else if r=8/\k=4 then .q else if r=9/\k=4 then .own [0,1] else if r=11/\k=4 then .own [0,1] else if r=18/\k=4 then .own [0,1] else .own [],fun _=>false⟩ Tryz.f22=some (pc22,rs22):=by kernel_rfl
def pc61:PC:=.seq (.reg [⟨some 2,none,.e (.bx 48 (.t 0))⟩,⟨some 3,none,.e (.bx 48 (.t 1))⟩,⟨some 4,none,.q (.mv (.k (.bool false)))⟩]) (.seq (.seq (.reg [⟨some 7,none,.l (.ldn 4 (.t 2))⟩,⟨some 8,none,.l (.ldn 4 (.t 3))⟩,⟨some 9,none,.cq 95 [(.t 7),(.t 8)]⟩]) (.cond (.t 9) (.seq (.reg [⟨some 4,none,.q (.mv (.k (.bool true)))⟩]) .ret) .skip)) (.seq (.seq (.reg [⟨some 10,none,.q (.fa 0 (.t 2))⟩,⟨some 11,none,.l (.ld1 (.t 10))⟩,⟨some 12,none,.q (.fa 0 (.t 3))⟩,⟨some 13,none,.l (.ld1 (.t 12))⟩,⟨some 14,none,.q (.bin .neq true (.t 11) (.t 13))⟩,⟨some 15,none,.q (.mv (.t 14))⟩,⟨some 16,(some (15,false)),.q (.fa 2 (.t 2))⟩,⟨some 17,(some (15,false)),.l (.ld1 (.t 16))⟩,⟨some 18,(some (15,false)),.q (.fa 2 (.t 3))⟩,⟨some 19,(some (15,false)),.l (.ld1 (.t 18))⟩,⟨some 20,(some (15,false)),.q (.bin .neq true (.t 17) (.t 19))⟩,⟨some 21,none,.pick (.t 15) (.k (.bool true)) (.t 20)⟩]) (.cond (.t 21) (.seq (.reg [⟨some 4,none,.q (.mv (.k (.bool false)))⟩]) .ret) .skip)) (.seq (.seq (.reg [⟨some 22,none,.q (.fa 0 (.t 2))⟩,⟨some 23,none,.l (.ld1 (.t 22))⟩,⟨some 24,none,.q (.bin .eql true (.t 23) (.k (.int .i64 5)))⟩]) (.cond (.t 24) (.seq (.reg [⟨some 25,none,.q (.fa 3 (.t 2))⟩,⟨some 26,none,.l (.ld1 (.t 25))⟩,⟨some 27,none,.q (.lnL (.t 26))⟩,⟨some 28,none,.q (.bin .eql true (.t 27) (.k (.int .i64 1)))⟩,⟨some 29,none,.q (.mv (.t 28))⟩,⟨some 30,(some (29,true)),.q (.fa 3 (.t 3))⟩,⟨some 31,(some (29,true)),.l (.ld1 (.t 30))⟩,⟨some 32,(some (29,true)),.q (.lnL (.t 31))⟩,⟨some 33,(some (29,true)),.q (.bin .eql true (.t 32) (.k (.int .i64 1)))⟩,⟨some 34,none,.pick (.t 29) (.t 33) (.k (.bool false))⟩,⟨some 35,none,.q (.mv (.t 34))⟩,⟨some 36,(some (35,true)),.q (.fa 1 (.t 3))⟩,⟨some 37,(some (35,true)),.l (.ld1 (.t 36))⟩,⟨some 38,(some (35,true)),.q (.fa 1 (.t 2))⟩,⟨some 39,(some (35,true)),.l (.ld1 (.t 38))⟩,⟨some 40,(some (35,true)),.q (.bin .geq true (.t 37) (.t 39))⟩,⟨some 41,none,.pick (.t 35) (.t 40) (.k (.bool false))⟩,⟨some 42,none,.q (.mv (.t 41))⟩,⟨some 43,(some (42,true)),.q (.fa 3 (.t 2))⟩,⟨some 44,(some (42,true)),.l (.ld1 (.t 43))⟩,⟨some 45,(some (42,true)),.l (.ia 4 (.t 44) (.k (.int .i64 0)))⟩,⟨some 46,(some (42,true)),.l (.ldn 4 (.t 45))⟩,⟨some 47,(some (42,true)),.q (.fa 3 (.t 3))⟩,⟨some 48,(some (42,true)),.l (.ld1 (.t 47))⟩,⟨some 49,(some (42,true)),.l (.ia 4 (.t 48) (.k (.int .i64 0)))⟩,⟨some 50,(some (42,true)),.l (.ldn 4 (.t 49))⟩,⟨some 51,(some (42,true)),.cq 61 [(.t 46),(.t 50)]⟩,⟨some 52,none,.pick (.t 42) (.t 51) (.k (.bool false))⟩,⟨some 4,none,.q (.mv (.t 52))⟩]) .ret) .skip)) (.seq (.reg [⟨some 53,none,.l (.ldn 4 (.t 3))⟩,⟨some 5,none,.e (.al (.agg #[(.int .i64 0),(.int .i64 0),(.string (mk [])),(.slice none 0 0)]) 48)⟩,⟨none,none,.e (.st 4 (.t 5) (.t 53))⟩]) (.seq (.reg [⟨some 54,none,.q (.fa 1 (.t 2))⟩,⟨some 55,none,.l (.ld1 (.t 54))⟩,⟨some 56,none,.q (.fa 1 (.t 5))⟩,⟨none,none,.e (.st 1 (.t 56) (.t 55))⟩]) (.seq (.reg [⟨some 57,none,.q (.fa 0 (.t 2))⟩,⟨some 58,none,.l (.ld1 (.t 57))⟩,⟨some 59,none,.q (.bin .eql true (.t 58) (.k (.int .i64 2)))⟩,⟨some 60,none,.q (.mv (.t 59))⟩,⟨some 61,(some (60,false)),.q (.fa 0 (.t 2))⟩,⟨some 62,(some (60,false)),.l (.ld1 (.t 61))⟩,⟨some 63,(some (60,false)),.q (.bin .eql true (.t 62) (.k (.int .i64 3)))⟩,⟨some 64,none,.pick (.t 60) (.k (.bool true)) (.t 63)⟩,⟨some 6,none,.q (.mv (.t 64))⟩]) (.seq (.reg [⟨some 65,none,.q (.mv (.t 6))⟩,⟨some 66,none,.q (.mv (.t 65))⟩,⟨some 67,(some (66,false)),.q (.fa 0 (.t 2))⟩,⟨some 68,(some (66,false)),.l (.ld1 (.t 67))⟩,⟨some 69,(some (66,false)),.q (.bin .eql true (.t 68) (.k (.int .i64 4)))⟩,⟨some 70,none,.pick (.t 66) (.k (.bool true)) (.t 69)⟩,⟨some 71,none,.q (.mv (.t 70))⟩,⟨some 72,(some (71,true)),.q (.fa 1 (.t 3))⟩,⟨some 73,(some (71,true)),.l (.ld1 (.t 72))⟩,⟨some 74,(some (71,true)),.q (.fa 1 (.t 2))⟩,⟨some 75,(some (71,true)),.l (.ld1 (.t 74))⟩,⟨some 76,(some (71,true)),.q (.bin .gtr true (.t 73) (.t 75))⟩,⟨some 77,none,.pick (.t 71) (.t 76) (.k (.bool false))⟩,⟨some 78,none,.q (.mv (.t 77))⟩,⟨some 79,(some (78,true)),.l (.ldn 4 (.t 2))⟩,⟨some 80,(some (78,true)),.l (.ldn 4 (.t 5))⟩,⟨some 81,(some (78,true)),.cq 95 [(.t 79),(.t 80)]⟩,⟨some 82,none,.pick (.t 78) (.t 81) (.k (.bool false))⟩,⟨some 4,none,.q (.mv (.t 82))⟩]) .ret)))))))
def rs61:List RV:=[.mv (.t 4)]
theorem ok61:trFn Tryz.prog true ⟨fun r k=>if r=1/\k=2 then .q else if r=6/\k=26 then .q else if r=10/\k=16 then .q else .own [],fun _=>false⟩ Tryz.f61=some (pc61,rs61):=by kernel_rfl
end Go.Proofs.YtbolanmlngjdoaaGreat
namespace Go.Proofs.YtbolanmlngjdoaaGreat
open Go.W
noncomputable def wdVal:List S->A:=fun av=>match av with
  | [.va (.gs r),.va (.gs q)]=>bA (widF (C.ty r) (C.ty q))
  | _=>.gs []
noncomputable def wdFn (N:Nat):Fun:=⟨saPre N,wdVal,fun av h=>by obtain ⟨a,b,rfl,_⟩:=saPre_open h; trivial⟩
attribute [go_sem] wdFn wdVal
theorem wdFn_len {N:Nat}:∀ av H K,(wdFn N).sp av H K->av.length=2:=fun av H K h=>by obtain ⟨a,b,rfl,_⟩:=saPre_open h.1.1; rfl
set_option maxRecDepth 100000 in
set_option maxHeartbeats 1000000 in
theorem mWidens':∀ N,Meets Tryz.prog 61 (wdFn N).sp
  | 0=>⟨by kernel_rfl,by rintro xs vs E ro w K _ _ _ ⟨⟨h,_⟩,_⟩; obtain ⟨a,_,_,_,_,h⟩:=saPre_open h; have:=a.h_pos; omega⟩
  | N + 1=>by
    refine meets_fn Tryz.func61 ok61 2 (by rw [Tryz.ntmps61]; decide) (meetsAll_f (mWidens' N) (meetsAll_f mSameS (meetsAll_nil _))) wdFn_len ?_
    rintro av H K ⟨⟨h,rfl⟩,hK⟩
    obtain ⟨a,b,rfl,ha,hb,hh⟩:=saPre_open h
    have hK:K (bS (widF a b)) []:=by
      have:(wdFn (N + 1)).val [.va (.gs (tyC a)),.va (.gs (tyC b))]=bA (widF a b):=by simp -dsimp only [go_sem]
      rw [this] at hK; exact hK
    clear h
    have fin:∀ (x:Bool) (R:Hp),widF a b=x->W.Fin 0 K (bS x) R:=fun x R h=>by
      rw [h] at hK
      exact .sel [] (by simp) (by simp) rfl (.done (by simpa [go_sem] using hK))
    obtain ⟨k,s,n,e⟩:=a
    obtain ⟨k',s',n',e'⟩:=b
    have hua:isTy (tyC (.mk k s n e)):=isTy_mk ha
    have hub:isTy (tyC (.mk k' s' n' e')):=isTy_mk hb
    have hax:TyOk (.mk k' s n' e'):=by cases hb; exact .mk (by assumption) ha.s (by assumption) (by assumption) (by assumption)
    have hux:isTy (tyC (.mk k' s n' e')):=isTy_mk hax
    have dua:=ty_dec (.mk k s n e)
    have dub:=ty_dec (.mk k' s' n' e')
    have dux:=ty_dec (.mk k' s n' e')
    have hla:=ha.len
    have hlb:=hb.len
    have hoa:=ha.e
    have hob:=hb.e
    simp only [Ty.e] at hla hlb hoa hob
    have hst:widF (.mk k s n e) (.mk k' s' n' e')=(tyB (.mk k s n e) (.mk k' s' n' e') || (decide (k=k') && decide (n=n') && (bif decide (k=5) then decide (e.length=1) && decide (e'.length=1) && decide (s<=s') && widF (e.headD default) (e'.headD default)
      else (decide (k=2) || decide (k=3) || decide (k=4)) && decide (s < s') && tyB (.mk k s n e) (.mk k' s n' e')))):=widF_step _ _
    simp only [tyC,tysC_map] at hua hub hux dua dub dux
    cases c1:tyB (.mk k s n e) (.mk k' s' n' e') with
    | true=>
      rw [c1,Bool.true_or] at hst
      simp (maxSteps:=1000000) -dsimp only [go_sem,tyC,tysC_map,pc61,rs61,hua,hub,dua,dub,c1]
      exact fin _ _ hst
    | false=>
    rw [c1,Bool.false_or] at hst
    simp (maxSteps:=1000000) -dsimp only [go_sem,tyC,tysC_map,pc61,rs61,bl_beq,hua,hub,hux,dua,dub,dux,c1]
    have e5:(k == (5:Int))=decide (k=5):=rfl
    have e2:(k == (2:Int))=decide (k=2):=rfl
    have e3:(k == (3:Int))=decide (k=3):=rfl
    have e4:(k == (4:Int))=decide (k=4):=rfl
    refine ⟨fun h1=>fin _ _ ?_,fun h1=>?_⟩
    · rw [hst]
      by_cases hk:k=k'
      · by_cases hn:n=n'
        · rw [hk,hn] at h1; simp at h1
        · rw [decide_eq_false hn,Bool.and_false,Bool.false_and]
      · rw [decide_eq_false hk,Bool.false_and,Bool.false_and]
    have hkn:(decide (k=k') && decide (n=n'))=true:=by
      simp only [Bool.or_eq_false_iff,bne_eq_false_iff_eq,Bool.not_eq_false'] at h1
      rw [h1.2,decide_eq_true h1.1]; rfl
    rw [hkn,Bool.true_and] at hst
    refine ⟨fun h5=>?_,fun h5=>fin _ _ ?_⟩
    · rw [e5] at h5
      rw [h5,Bool.cond_true] at hst
      refine ⟨fun h2=>?_,fun h2=>fin _ _ ?_⟩
      · have h2':=h2
        simp only [Bool.and_eq_true,beq_iff_eq,decide_eq_true_eq] at h2'
        obtain ⟨⟨l1,l2⟩,l3⟩:=h2'
        obtain ⟨u,rfl⟩:∃ u,e=[u]:=List.length_eq_one_iff.1 (by omega)
        obtain ⟨v,rfl⟩:∃ v,e'=[v]:=List.length_eq_one_iff.1 (by omega)
        have hu:isTy (tyC u):=isTy_mk (hoa u (by simp))
        have hv:isTy (tyC v):=isTy_mk (hob v (by simp))
        have huh:u.h<=N:=by rw [Ty.h,Ty.hs] at hh; omega
        have hfin:widF (.mk k s n [u]) (.mk k' s' n' [v])=widF u v:=by
          rw [hst]; simp [l3]
        simp (maxSteps:=1000000) -dsimp only [go_sem,tyC_len,hu,hv,List.getElem?_cons_zero,Option.some.injEq,forall_eq']
        refine ⟨by simp,by simp,huh,fin _ _ hfin⟩
      · rw [hst]
        cases hc:(decide (e.length=1) && decide (e'.length=1) && decide (s<=s')) with
        | false=>rfl
        | true=>
          simp only [Bool.and_eq_true,decide_eq_true_eq] at hc
          simp [hc] at h2
    · rw [e5] at h5
      rw [hst,h5,Bool.cond_false,e2,e3,e4]
end Go.Proofs.YtbolanmlngjdoaaGreat
namespace Go.Proofs.YtbolanmlngjdoaaGreat
open Go.W
abbrev isH (l:List Is):Hp:=[.cells [.sl 1 l.length] 53,.row (l.map isC) 33 3]
def adSp:W.Spec:=fun av H K=>∃ (k n:Int) (t:ByteArray) (l:List Is),av=[.va (.c1 (.pt 0 0)),iS .i64 k,iS .i64 n,tS t]/\H=isH l/\l.length<=1000000/\K (.tu []) (isH (addF l ⟨k,n,t⟩))
theorem ad_use {k n:Int} {t:ByteArray} {l:List Is} {K:S->Hp->Prop} (h:l.length<=1000000) (hK:K (.tu []) (isH (addF l ⟨k,n,t⟩))):adSp [.va (.c1 (.pt 0 0)),iS .i64 k,iS .i64 n,tS t] (isH l) K:=⟨k,n,t,l,rfl,rfl,h,hK⟩
set_option maxRecDepth 100000 in
set_option maxHeartbeats 1000000 in
theorem mAdd:Meets Tryz.prog 21 adSp:=by
  refine meets_fn Tryz.func21 ok21 4 (by rw [Tryz.ntmps21]; decide) (meetsAll_nil _) (fun av H K h=>by obtain ⟨_,_,_,_,rfl,_⟩:=h; rfl) ?_
  rintro av H K ⟨k,n,t,l,rfl,rfl,hl,hK⟩
  unfold addF at hK
  simp (maxSteps:=1000000) -dsimp only [go_sem,pc21,rs21]
  refine vc_loop (α:=Nat) (fun i=>[(0,.va (.c1 (.pt 0 0))),(8,.va (.c1 (.pt 2 0))),(18,.va (.c1 (.sl 1 l.length))),(19,iS .i64 l.length),(20,iS .i64 i)]) (fun _=>[.cells [.sl 1 l.length] 53,.row (l.map isC) 33 3,.cells (isC ⟨k,n,t⟩) 33])
    (fun i=>i<=l.length/\(l.drop i).any (fun y=>decide ((⟨k,n,t⟩:Is)=y))=l.any (fun y=>decide ((⟨k,n,t⟩:Is)=y))) (fun i=>l.length - i) 0 3 ⟨Nat.zero_le _,rfl⟩ ?_ ?_ ?_
  · simp -dsimp only [go_sem]<;>simp
  · simp -dsimp only [go_sem,isC]<;>simp
  rintro i ⟨hi,ho⟩
  rcases Nat.lt_or_ge i l.length with hlt | hge
  · have hg:decide ((i:Int) < (l.length:Int))=true:=by simp; omega
    obtain ⟨y,hx⟩:∃ t,l[i]? = some t:=⟨_,List.getElem?_eq_getElem hlt⟩
    have q1:=row_rg' (row:=isC) hx
    have hdr:l.drop i=y :: l.drop (i + 1):=by
      obtain ⟨h,rfl⟩:=List.getElem?_eq_some_iff.1 hx
      exact List.drop_eq_getElem_cons h
    rw [hdr,List.any_cons] at ho
    simp (maxSteps:=1000000) -dsimp only [go_sem,hg,isC]
    have hcc:(k == y.k && (n == y.n && bl t == bl y.t))=decide ((⟨k,n,t⟩:Is)=y):=by
      rw [bl_beq,Bool.eq_iff_iff,decide_eq_true_eq,is_eq]
      simp
    refine ⟨by omega,hlt,fun z hz=>?_⟩
    rw [hx,Option.some.injEq] at hz
    subst hz
    rw [hcc]
    refine ⟨fun h1=>?_,fun h1=>⟨by omega,loop_next (i + 1) 3 ⟨by omega,?_⟩ (by omega) ?_ ?_⟩⟩
    · rw [h1,Bool.true_or] at ho
      rw [<-ho,Bool.cond_true] at hK
      refine .sel [0,1] (by simp) (by simp) rfl (.done ?_)
      simpa -dsimp [go_sem,isC,isH] using hK
    · rw [h1,Bool.false_or] at ho; exact ho
    · simp -dsimp only [go_sem]<;>simp
    · simp -dsimp only [go_sem,isC]<;>simp
  · have hg:decide ((i:Int) < (l.length:Int))=false:=by simp; omega
    obtain rfl:i=l.length:=by omega
    rw [List.drop_length,List.any_nil] at ho
    rw [<-ho,Bool.cond_false] at hK
    simp (maxSteps:=1000000) -dsimp only [go_sem,hg,isC]
    refine ⟨by omega,.sel [0,1] (by simp) (by simp) rfl (.done ?_)⟩
    simpa -dsimp [go_sem,isC,isH] using hK
end Go.Proofs.YtbolanmlngjdoaaGreat
namespace Go.Proofs.YtbolanmlngjdoaaGreat
open Go.W
noncomputable def wFn:Fun:=⟨sPre,wdVal,fun av h=>by obtain ⟨a,b,rfl,_⟩:=sPre_open h; trivial⟩
attribute [go_sem] wFn
theorem mWidens:Meets Tryz.prog 61 wFn.sp:=meets_all 0 mWidens' fun av H K ⟨⟨h,e⟩,hK⟩=>by
  obtain ⟨a,b,rfl,ha,hb⟩:=sPre_open h
  exact ⟨a.h,⟨⟨⟨isTy_mk ha,isTy_mk hb,by rw [ty_dec]; exact Nat.le_refl _⟩,e⟩,hK⟩⟩
structure StG (a:St):Prop where
  ok:a.ok
  len:a.fs.length<=1000
  sm:∀ f ∈ a.fs,TySm f.ty
def iuSpS:W.Spec:=fun av H K=>∃ (nm:ByteArray) (a b:St) (l:List Is),av=[.va (.c1 (.pt 0 0)),tS nm,.va (.gs (stC a)),.va (.gs (stC b))]/\H=isH l/\StG a/\StG b/\l.length<=900000/\K (.tu []) (isH (addA l (cmpS nm a b)))
theorem ius_use {nm:ByteArray} {a b:St} {l:List Is} {K:S->Hp->Prop} (h1:StG a) (h2:StG b) (h3:l.length<=900000) (hK:K (.tu []) (isH (addA l (cmpS nm a b)))):iuSpS [.va (.c1 (.pt 0 0)),tS nm,.va (.gs (stC a)),.va (.gs (stC b))] (isH l) K:=⟨nm,a,b,l,rfl,rfl,h1,h2,h3,hK⟩
theorem fm_next {α β:Type} {l:List α} {i:Nat} {x:α} (h:l[i]? = some x) (f:α->List β):(l.take (i + 1)).flatMap f=(l.take i).flatMap f ++ f x:=by rw [take_next h]; simp
theorem fm_take_le {α β:Type} {f:α->List β} {k:Nat} (h:∀ a,(f a).length<=k) (l:List α) (i:Nat):((l.take i).flatMap f).length<=l.length * k:=Nat.le_trans (fm_le fun a _=>h a) (Nat.mul_le_mul_right k (by rw [List.length_take]; omega))
theorem flC_isTy {f:Fl} (h:f.ok):isTy [.vl (.int .i64 f.ty.k),.vl (.int .i64 f.ty.s),.vl (.string f.ty.n),.fz (f.ty.e.map tyC)]:=by rw [<-tyC_eq]; exact isTy_mk h.ty
theorem flC_dTy (f:Fl):C.ty [.vl (.int .i64 f.ty.k),.vl (.int .i64 f.ty.s),.vl (.string f.ty.n),.fz (f.ty.e.map tyC)]=f.ty:=by rw [<-tyC_eq,ty_dec]
set_option maxRecDepth 100000 in
set_option maxHeartbeats 4000000 in
theorem mStructs:Meets Tryz.prog 22 iuSpS:=by
  refine meets_fn Tryz.func22 ok22 4 (by rw [Tryz.ntmps22]; decide) (meetsAll_s mAdd (meetsAll_s mFieldOfP (meetsAll_f mWidens (meetsAll_nil _)))) (fun av H K h=>by obtain ⟨_,_,_,_,rfl,_⟩:=h; rfl) ?_
  rintro av H K ⟨nm,a,b,l,rfl,rfl,ga,gb,hl,hK⟩
  have hla:=ga.len
  have hlb:=gb.len
  simp (maxSteps:=1000000) -dsimp only [go_sem,stC,pc22,rs22]
  have hbd:∀ i,(addA l ((a.fs.take i).flatMap (isA nm b))).length<=910000:=fun i=>by
    have h1:=addA_len ((a.fs.take i).flatMap (isA nm b)) l
    have h2:=fm_take_le (isA_len nm b) a.fs i
    omega
  refine vc_loop (α:=Nat) (fun i=>[(0,.va (.c1 (.pt 0 0))),(1,tS nm),(6,.va (.c1 (.pt 2 0))),(7,.va (.c1 (.pt 3 0))),(17,.va (.c1 (.fz (a.fs.map flC)))),(18,iS .i64 a.fs.length),(19,iS .i64 i)]) (fun i=>[.cells [.sl 1 (addA l ((a.fs.take i).flatMap (isA nm b))).length] 53,.row ((addA l ((a.fs.take i).flatMap (isA nm b))).map isC) 33 3,.cells (stC a) 37,.cells (stC b) 37])
    (fun i=>i<=a.fs.length) (fun i=>a.fs.length - i) 0 4 (Nat.zero_le _) ?_ ?_ ?_
  · simp -dsimp only [go_sem]<;>simp
  · simp -dsimp only [go_sem,stC]<;>simp [addA]
  intro i hi
  have hbi:=hbd i
  rcases Nat.lt_or_ge i a.fs.length with hlt | hge
  · have hg:decide ((i:Int) < (a.fs.length:Int))=true:=by simp; omega
    obtain ⟨f,hx⟩:∃ t,a.fs[i]? = some t:=⟨_,List.getElem?_eq_getElem hlt⟩
    have q1:=row_rg' (row:=flC) hx
    have hfm:=List.mem_of_getElem? hx
    have hnx:addA l ((a.fs.take (i + 1)).flatMap (isA nm b))=addA (addA l ((a.fs.take i).flatMap (isA nm b))) (isA nm b f):=by rw [fm_next hx,addA_app]
    generalize hL:addA l ((a.fs.take i).flatMap (isA nm b))=L at *
    have hft:=flC_isTy (ga.ok.fs f hfm)
    have hfd:=flC_dTy f
    simp (maxSteps:=1000000) -dsimp only [go_sem,hg,↓q1,stC,flC]
    refine ⟨by omega,fop_use (t:=b) gb.ok gb.sm ?_⟩
    cases hfo:fF b.fs f.num with
    | none=>
      cases ho:f.opt with
      | true=>
        have hv:isA nm b f=[]:=by unfold isA; rw [hfo]; simp [ho]
        rw [hv,addA_nil] at hnx
        simp (maxSteps:=1000000) -dsimp only [go_sem,Option.getD_none,Option.isSome_none,flC_def]
        refine ⟨by omega,loop_next (i + 1) 4 (by omega) (by omega) ?_ ?_⟩
        · simp -dsimp only [go_sem]<;>simp
        · simp -dsimp only [go_sem,stC,hnx]<;>simp
      | false=>
        have hv:isA nm b f=[⟨2,f.num,nm⟩]:=by unfold isA; rw [hfo]; simp [ho]
        rw [hv,addA_one] at hnx
        simp (maxSteps:=1000000) -dsimp only [go_sem,Option.getD_none,Option.isSome_none,flC_def]
        refine ad_use (l:=L) (by omega) ?_
        simp (maxSteps:=1000000) -dsimp only [go_sem]
        refine ⟨by omega,loop_next (i + 1) 4 (by omega) (by omega) ?_ ?_⟩
        · simp -dsimp only [go_sem]<;>simp
        · simp -dsimp only [go_sem,stC,hnx]<;>simp
    | some g=>
      have hgm:=(fF_some hfo).1
      have hgt:=flC_isTy (gb.ok.fs g hgm)
      have hgd:=flC_dTy g
      have hv:isA nm b f=(bif widF f.ty g.ty then [] else [⟨1,f.num,nm⟩]) ++ (bif f.opt == g.opt then [] else [⟨3,f.num,nm⟩]):=by unfold isA; rw [hfo]
      rw [hv] at hnx
      have eo:(f.opt != g.opt)=!(f.opt == g.opt):=rfl
      have hl1:=addF_len L ⟨1,f.num,nm⟩
      cases hw:widF f.ty g.ty with
      | true=>
        cases he:f.opt == g.opt with
        | true=>
          rw [hw,he] at hnx
          simp only [Bool.cond_true,List.append_nil,addA_nil] at hnx
          simp (maxSteps:=1000000) -dsimp only [go_sem,Option.getD_some,Option.isSome_some,flC,hft,hfd,hgt,hgd,hw,he,Bool.not_true]
          refine ⟨by omega,loop_next (i + 1) 4 (by omega) (by omega) ?_ ?_⟩
          · simp -dsimp only [go_sem]<;>simp
          · simp -dsimp only [go_sem,stC,hnx]<;>simp
        | false=>
          rw [hw,he] at hnx
          simp only [Bool.cond_true,Bool.cond_false,List.nil_append,addA_one] at hnx
          simp (maxSteps:=1000000) -dsimp only [go_sem,Option.getD_some,Option.isSome_some,flC,hft,hfd,hgt,hgd,hw,he,Bool.not_true,Bool.not_false]
          refine ad_use (l:=L) (by omega) ?_
          simp (maxSteps:=1000000) -dsimp only [go_sem]
          refine ⟨by omega,loop_next (i + 1) 4 (by omega) (by omega) ?_ ?_⟩
          · simp -dsimp only [go_sem]<;>simp
          · simp -dsimp only [go_sem,stC,hnx]<;>simp
      | false=>
        cases he:f.opt == g.opt with
        | true=>
          rw [hw,he] at hnx
          simp only [Bool.cond_true,Bool.cond_false,List.append_nil,addA_one] at hnx
          simp (maxSteps:=1000000) -dsimp only [go_sem,Option.getD_some,Option.isSome_some,flC,hft,hfd,hgt,hgd,hw,he,Bool.not_true,Bool.not_false]
          refine ad_use (l:=L) (by omega) ?_
          simp (maxSteps:=1000000) -dsimp only [go_sem]
          refine ⟨by omega,loop_next (i + 1) 4 (by omega) (by omega) ?_ ?_⟩
          · simp -dsimp only [go_sem]<;>simp
          · simp -dsimp only [go_sem,stC,hnx]<;>simp
        | false=>
          rw [hw,he] at hnx
          simp only [Bool.cond_false,List.singleton_append] at hnx
          rw [show addA L [⟨1,f.num,nm⟩,⟨3,f.num,nm⟩]=addF (addF L ⟨1,f.num,nm⟩) ⟨3,f.num,nm⟩ from rfl] at hnx
          simp (maxSteps:=1000000) -dsimp only [go_sem,Option.getD_some,Option.isSome_some,flC,hft,hfd,hgt,hgd,hw,he,Bool.not_true,Bool.not_false]
          refine ad_use (l:=L) (by omega) ?_
          simp (maxSteps:=1000000) -dsimp only [go_sem]
          refine ad_use (l:=addF L ⟨1,f.num,nm⟩) (by omega) ?_
          simp (maxSteps:=1000000) -dsimp only [go_sem]
          refine ⟨by omega,loop_next (i + 1) 4 (by omega) (by omega) ?_ ?_⟩
          · simp -dsimp only [go_sem]<;>simp
          · simp -dsimp only [go_sem,stC,hnx]<;>simp
  · have hg:decide ((i:Int) < (a.fs.length:Int))=false:=by simp; omega
    obtain rfl:i=a.fs.length:=by omega
    rw [List.take_length] at hbi ⊢
    have hcs:addA l (cmpS nm a b)=addA (addA l (a.fs.flatMap (isA nm b))) (b.fs.flatMap (isB nm a)):=by rw [cmpS,addA_app]
    rw [hcs] at hK
    clear hcs hbd
    generalize addA l (a.fs.flatMap (isA nm b))=L at *
    simp (maxSteps:=1000000) -dsimp only [go_sem,hg,stC]
    have hbd:∀ i,(addA L ((b.fs.take i).flatMap (isB nm a))).length<=920000:=fun i=>by
      have h1:=addA_len ((b.fs.take i).flatMap (isB nm a)) L
      have h2:=fm_take_le (isB_len nm a) b.fs i
      omega
    refine vc_loop (α:=Nat) (fun i=>[(0,.va (.c1 (.pt 0 0))),(1,tS nm),(6,.va (.c1 (.pt 2 0))),(7,.va (.c1 (.pt 3 0))),(63,.va (.c1 (.fz (b.fs.map flC)))),(64,iS .i64 b.fs.length),(65,iS .i64 i)]) (fun i=>[.cells [.sl 1 (addA L ((b.fs.take i).flatMap (isB nm a))).length] 53,.row ((addA L ((b.fs.take i).flatMap (isB nm a))).map isC) 33 3,.cells (stC a) 37,.cells (stC b) 37])
      (fun i=>i<=b.fs.length) (fun i=>b.fs.length - i) 0 4 (Nat.zero_le _) ?_ ?_ ?_
    · simp -dsimp only [go_sem]<;>simp
    · simp -dsimp only [go_sem,stC]<;>simp [addA]
    intro i hi
    have hbi:=hbd i
    rcases Nat.lt_or_ge i b.fs.length with hlt | hge
    · have hg:decide ((i:Int) < (b.fs.length:Int))=true:=by simp; omega
      obtain ⟨f,hx⟩:∃ t,b.fs[i]? = some t:=⟨_,List.getElem?_eq_getElem hlt⟩
      have q1:=row_rg' (row:=flC) hx
      have hnx:addA L ((b.fs.take (i + 1)).flatMap (isB nm a))=addA (addA L ((b.fs.take i).flatMap (isB nm a))) (isB nm a f):=by rw [fm_next hx,addA_app]
      generalize hL:addA L ((b.fs.take i).flatMap (isB nm a))=M at *
      simp (maxSteps:=1000000) -dsimp only [go_sem,hg,↓q1,stC,flC]
      refine ⟨by omega,fop_use (t:=a) ga.ok ga.sm ?_⟩
      cases hfo:fF a.fs f.num with
      | none=>
        cases ho:f.opt with
        | true=>
          have hv:isB nm a f=[]:=by unfold isB; rw [hfo]; simp [ho]
          rw [hv,addA_nil] at hnx
          simp (maxSteps:=1000000) -dsimp only [go_sem,Option.getD_none,Option.isSome_none,flC_def]
          refine ⟨by omega,loop_next (i + 1) 4 (by omega) (by omega) ?_ ?_⟩
          · simp -dsimp only [go_sem]<;>simp
          · simp -dsimp only [go_sem,stC,hnx]<;>simp
        | false=>
          have hv:isB nm a f=[⟨2,f.num,nm⟩]:=by unfold isB; rw [hfo]; simp [ho]
          rw [hv,addA_one] at hnx
          simp (maxSteps:=1000000) -dsimp only [go_sem,Option.getD_none,Option.isSome_none,flC_def]
          refine ad_use (l:=M) (by omega) ?_
          simp (maxSteps:=1000000) -dsimp only [go_sem]
          refine ⟨by omega,loop_next (i + 1) 4 (by omega) (by omega) ?_ ?_⟩
          · simp -dsimp only [go_sem]<;>simp
          · simp -dsimp only [go_sem,stC,hnx]<;>simp
      | some g=>
        have hv:isB nm a f=[]:=by unfold isB; rw [hfo]; simp
        rw [hv,addA_nil] at hnx
        simp (maxSteps:=1000000) -dsimp only [go_sem,Option.getD_some,Option.isSome_some,flC]
        refine ⟨by omega,loop_next (i + 1) 4 (by omega) (by omega) ?_ ?_⟩
        · simp -dsimp only [go_sem]<;>simp
        · simp -dsimp only [go_sem,stC,hnx]<;>simp
    · have hg:decide ((i:Int) < (b.fs.length:Int))=false:=by simp; omega
      obtain rfl:i=b.fs.length:=by omega
      rw [List.take_length]
      simp (maxSteps:=1000000) -dsimp only [go_sem,hg,stC]
      refine .sel [0,1] (by simp) (by simp) rfl (.done ?_)
      simpa -dsimp [go_sem,isH] using hK
end Go.Proofs.YtbolanmlngjdoaaGreat
namespace Go.Proofs.YtbolanmlngjdoaaGreat
open Go.W
def nmSp:W.Spec:=fun av H K=>∃ (o n:Sc) (x:ByteArray),av=[.va (.gs (scC o)),.va (.gs (scC n)),tS x]/\H=[]/\o.fit/\n.fit/\K (.va (.c1 (.fz ((nmsF o n x).map stR)))) []
theorem nm_use {o n:Sc} {x:ByteArray} {K:S->Hp->Prop} (h1:o.fit) (h2:n.fit) (hK:K (.va (.c1 (.fz ((nmsF o n x).map stR)))) []):nmSp [.va (.gs (scC o)),.va (.gs (scC n)),tS x] [] K:=⟨o,n,x,rfl,rfl,h1,h2,hK⟩
set_option maxRecDepth 100000 in
set_option maxHeartbeats 1000000 in
theorem mNamesE:Meets Tryz.prog 19 nmSp:=by
  refine meets_fn Tryz.func19 ok19 3 (by rw [Tryz.ntmps19]; decide) (meetsAll_s mUsesP (meetsAll_f mContainsS (meetsAll_nil _))) (fun av H K h=>by obtain ⟨_,_,_,rfl,_⟩:=h; rfl) ?_
  rintro av H K ⟨o,n,x,rfl,rfl,ho,hn,hK⟩
  have ub:=usL_bs hn x
  have ul:=usL_len ho x
  have dbs:=bs_map (usL n x)
  unfold nmsF at hK
  simp (maxSteps:=1000000) -dsimp only [go_sem,scC,pc19,rs19]
  refine usp_use hn ?_
  generalize usL n x=O at *
  simp (maxSteps:=1000000) -dsimp only [go_sem]
  refine usp_use ho ?_
  generalize usL o x=l at *
  simp (maxSteps:=1000000) -dsimp only [go_sem]
  refine vc_loop (α:=Nat) (fun i=>[(7,.va (.c1 (.sl 2 (x :: (l.take i).filter (inB O)).length))),(8,.va (.c1 (.fz (O.map stR)))),(18,.va (.c1 (.fz (l.map stR)))),(19,iS .i64 l.length),(20,iS .i64 i)]) (fun i=>[.cells (scC o) 25,.cells (scC n) 25,.row ((x :: (l.take i).filter (inB O)).map stR) 9 1])
    (fun i=>i<=l.length) (fun i=>l.length - i) 0 3 (Nat.zero_le _) ?_ ?_ ?_
  · simp -dsimp only [go_sem]<;>simp
  · simp -dsimp only [go_sem,scC]<;>simp
  intro i hi
  have hlen:((l.take i).filter (inB O)).length<=32:=by have:=List.length_filter_le (inB O) (l.take i); rw [List.length_take] at this; omega
  rcases Nat.lt_or_ge i l.length with hlt | hge
  · have hg:decide ((i:Int) < (l.length:Int))=true:=by simp; omega
    obtain ⟨y,hx⟩:∃ t,l[i]? = some t:=⟨_,List.getElem?_eq_getElem hlt⟩
    have q1:=row_rg' (row:=stR) hx
    cases c:inB O y with
    | true=>
      have hnx:(l.take (i + 1)).filter (inB O)=(l.take i).filter (inB O) ++ [y]:=by rw [take_next hx]; simp [c]
      simp (maxSteps:=1000000) -dsimp only [go_sem,hg,↓q1,ub,dbs,c]
      and_intros
      all_goals first
        | omega
        | skip
      refine loop_next (i + 1) 3 (by omega) (by omega) ?_ ?_
      · simp -dsimp only [go_sem,hnx]<;>simp
      · simp -dsimp only [go_sem,hnx,scC]<;>simp
    | false=>
      have hnx:(l.take (i + 1)).filter (inB O)=(l.take i).filter (inB O):=by rw [take_next hx]; simp [c]
      simp (maxSteps:=1000000) -dsimp only [go_sem,hg,↓q1,ub,dbs,c]
      and_intros
      all_goals first
        | omega
        | skip
      refine loop_next (i + 1) 3 (by omega) (by omega) ?_ ?_
      · simp -dsimp only [go_sem,hnx]<;>simp
      · simp -dsimp only [go_sem,hnx,scC]<;>simp
  · have hg:decide ((i:Int) < (l.length:Int))=false:=by simp; omega
    obtain rfl:i=l.length:=by omega
    rw [List.take_length]
    simp (maxSteps:=1000000) -dsimp only [go_sem,hg]
    rw [show (l.filter (inB O)).length + 1=((x :: l.filter (inB O)).map stR).length by simp]
    refine .pub 2 _ _ _ rfl (.sel [] (by simp) (by simp [pubH]) rfl (.done ?_))
    simp -dsimp only [go_sem,pubH]
    simpa using hK
end Go.Proofs.YtbolanmlngjdoaaGreat
namespace Go.Proofs
open Go.Shelf
def Tryz.sortIs_ren:Go.Shelf.Ren:=⟨fun | 6=>25 | 15=>64 | 14=>63 | 28=>104 | 29=>105 | 20=>96 | 21=>97 | 22=>98 | 23=>99 | 24=>100 | 25=>101 | 26=>102 | 27=>103 | 46=>120 | 47=>121 | 48=>122 | 49=>123 | 50=>124 | 57=>143 | n=>n,fun | 22=>28 | 24=>33 | 25=>67 | 3=>3 | 39=>100 | 0=>0 | 53=>138 | 55=>140 | 4=>4 | 46=>131 | 45=>130 | 50=>135 | 5=>5 | 9=>9 | 66=>154 | 70=>158 | 76=>172 | 77=>173 | n=>n,fun | n=>n⟩
theorem Tryz.sortIs:Go.Proofs.SlLaysF0.n6 Tryz.prog Tryz.sortIs_ren:={
  mixed:=by kernel_rfl
  f6:=⟨"slices.SortFunc[[]robotics/evolve.Issue,robotics/evolve.Issue]",by decide,Tryz.func25.trans (congrArg some (by kernel_rfl))⟩
  f14:=⟨"slices.pdqsortCmpFunc[robotics/evolve.Issue]",by decide,Tryz.func63.trans (congrArg some (by kernel_rfl))⟩
  f15:=Tryz.func64.trans (congrArg some (by kernel_rfl))
  f20:=⟨"slices.insertionSortCmpFunc[robotics/evolve.Issue]",by decide,Tryz.func96.trans (congrArg some (by kernel_rfl))⟩
  f21:=⟨"slices.heapSortCmpFunc[robotics/evolve.Issue]",by decide,Tryz.func97.trans (congrArg some (by kernel_rfl))⟩
  f22:=⟨"slices.breakPatternsCmpFunc[robotics/evolve.Issue]",by decide,Tryz.func98.trans (congrArg some (by kernel_rfl))⟩
  f23:=⟨"slices.choosePivotCmpFunc[robotics/evolve.Issue]",by decide,Tryz.func99.trans (congrArg some (by kernel_rfl))⟩
  f24:=⟨"slices.reverseRangeCmpFunc[robotics/evolve.Issue]",by decide,Tryz.func100.trans (congrArg some (by kernel_rfl))⟩
  f25:=⟨"slices.partialInsertionSortCmpFunc[robotics/evolve.Issue]",by decide,Tryz.func101.trans (congrArg some (by kernel_rfl))⟩
  f26:=⟨"slices.partitionEqualCmpFunc[robotics/evolve.Issue]",by decide,Tryz.func102.trans (congrArg some (by kernel_rfl))⟩
  f27:=⟨"slices.partitionCmpFunc[robotics/evolve.Issue]",by decide,Tryz.func103.trans (congrArg some (by kernel_rfl))⟩
  f28:=Tryz.func104.trans (congrArg some (by kernel_rfl))
  f29:=Tryz.func105.trans (congrArg some (by kernel_rfl))
  f46:=⟨"slices.siftDownCmpFunc[robotics/evolve.Issue]",by decide,Tryz.func120.trans (congrArg some (by kernel_rfl))⟩
  f47:=Tryz.func121.trans (congrArg some (by kernel_rfl))
  f48:=Tryz.func122.trans (congrArg some (by kernel_rfl))
  f49:=⟨"slices.medianAdjacentCmpFunc[robotics/evolve.Issue]",by decide,Tryz.func123.trans (congrArg some (by kernel_rfl))⟩
  f50:=⟨"slices.medianCmpFunc[robotics/evolve.Issue]",by decide,Tryz.func124.trans (congrArg some (by kernel_rfl))⟩
  f57:=⟨"slices.order2CmpFunc[robotics/evolve.Issue]",by decide,Tryz.func143.trans (congrArg some (by kernel_rfl))⟩
  t0:=Tryz.underlying0
  a0:=Tryz.isAgg0
  z0:=Tryz.sizeOf0
  v0:=Tryz.zeroValue0
  t3:=Tryz.underlying3
  a3:=Tryz.isAgg3
  z3:=Tryz.sizeOf3
  v3:=Tryz.zeroValue3
  t4:=Tryz.underlying4
  a4:=Tryz.isAgg4
  z4:=Tryz.sizeOf4
  v4:=Tryz.zeroValue4
  t5:=Tryz.underlying5
  a5:=Tryz.isAgg5
  z5:=Tryz.sizeOf5
  v5:=Tryz.zeroValue5
  t9:=Tryz.underlying9
  a9:=Tryz.isAgg9
  z9:=Tryz.sizeOf9
  v9:=Tryz.zeroValue9
  t22:=Tryz.underlying28
  a22:=Tryz.isAgg28
  z22:=Tryz.sizeOf28
  v22:=Tryz.zeroValue28
  t25:=Tryz.underlying67
  a25:=Tryz.isAgg67
  z25:=Tryz.sizeOf67
  v25:=Tryz.zeroValue67
  t39:=Tryz.underlying100
  a39:=Tryz.isAgg100
  z39:=Tryz.sizeOf100
  v39:=Tryz.zeroValue100
  t45:=Tryz.underlying130
  a45:=Tryz.isAgg130
  z45:=Tryz.sizeOf130
  v45:=Tryz.zeroValue130
  t46:=Tryz.underlying131
  a46:=Tryz.isAgg131
  z46:=Tryz.sizeOf131
  v46:=Tryz.zeroValue131
  t50:=Tryz.underlying135
  a50:=Tryz.isAgg135
  z50:=Tryz.sizeOf135
  v50:=Tryz.zeroValue135
  t53:=Tryz.underlying138
  a53:=Tryz.isAgg138
  z53:=Tryz.sizeOf138
  v53:=Tryz.zeroValue138
  t55:=Tryz.underlying140
  a55:=Tryz.isAgg140
  z55:=Tryz.sizeOf140
  v55:=Tryz.zeroValue140
  t66:=Tryz.underlying154
  a66:=Tryz.isAgg154
  z66:=Tryz.sizeOf154
  v66:=Tryz.zeroValue154
  t70:=Tryz.underlying158
  a70:=Tryz.isAgg158
  z70:=Tryz.sizeOf158
  v70:=Tryz.zeroValue158
  t76:=Tryz.underlying172
  a76:=Tryz.isAgg172
  z76:=Tryz.sizeOf172
  v76:=Tryz.zeroValue172
  t77:=Tryz.underlying173
  a77:=Tryz.isAgg173
  z77:=Tryz.sizeOf173
  v77:=Tryz.zeroValue173 }
def Tryz.lays106_ren:Go.Shelf.Ren:=⟨fun | 106=>28 | 213=>65 | 265=>106 | n=>n,fun | 9=>9 | 3=>3 | n=>n,fun | n=>n⟩
theorem Tryz.lays106:Go.Proofs.Lays.n106 Tryz.prog Tryz.lays106_ren:={
  mixed:=by kernel_rfl
  f106:=Tryz.func28.trans (congrArg some (by kernel_rfl))
  f213:=Tryz.func65.trans (congrArg some (by kernel_rfl))
  f265:=Tryz.func106.trans (congrArg some (by kernel_rfl))
  t3:=Tryz.underlying3
  a3:=Tryz.isAgg3
  z3:=Tryz.sizeOf3
  v3:=Tryz.zeroValue3
  t9:=Tryz.underlying9
  a9:=Tryz.isAgg9
  z9:=Tryz.sizeOf9
  v9:=Tryz.zeroValue9 }
end Go.Proofs
namespace Go.Proofs.YtbolanmlngjdoaaGreat
open Go.W Go.Sort Go.RowKit
structure BI (x:Is):Prop where
  k:-1000<=x.k/\x.k<=1000
  n:-1000<=x.n/\x.n<=1000
abbrev IsB:={x:Is // BI x}
instance:Inhabited IsB:=⟨⟨⟨0,0,ByteArray.empty⟩,⟨by decide,by decide⟩⟩⟩
def encI (x:IsB):List Value:=[.int .i64 x.1.k,.int .i64 x.1.n,.string x.1.t]
def cfI (x y:IsB):Int:=orI (Lib.compareBytes (bl x.1.t) (bl y.1.t)) (x.1.k - y.1.k) (x.1.n - y.1.n)
theorem cmpB_facts:∀ a b:List UInt8,(Lib.compareBytes a b < 0 ↔ Op.bytesLess a b=true)/\(Lib.compareBytes a b=0 ↔ a=b)
  | [],[]=>by simp [Lib.compareBytes,Op.bytesLess]
  | [],_ :: _=>by simp [Lib.compareBytes,Op.bytesLess]
  | _ :: _,[]=>by simp [Lib.compareBytes,Op.bytesLess]
  | x :: a,y :: b=>by
    have ih:=cmpB_facts a b
    unfold Lib.compareBytes Op.bytesLess
    by_cases h1:x < y
    · have:x ≠ y:=fun e=>by subst e; exact UInt8.lt_irrefl _ h1
      simp [h1,this]
    · by_cases h2:y < x
      · have:x ≠ y:=fun e=>by subst e; exact h1 h2
        simp [h1,h2,this]
      · have:x=y:=UInt8.le_antisymm (UInt8.not_lt.1 h2) (UInt8.not_lt.1 h1)
        subst this
        simp [h1,ih.1,ih.2]
theorem ltI_of (x y:IsB):ltOf cfI x y=ltIB x.1 y.1:=by
  obtain ⟨h1,h2⟩:=cmpB_facts (bl x.1.t) (bl y.1.t)
  rw [Bool.eq_iff_iff,ltIB_iff]
  have hb:Op.bytesLess (bl x.1.t) (bl y.1.t)=true ↔ ltS x.1.t y.1.t:=by rw [bless,decide_eq_true_eq]
  have h3:=h1.trans hb
  unfold ltOf cfI orI ltI
  rw [decide_eq_true_eq,<-h3]
  by_cases c:Lib.compareBytes (bl x.1.t) (bl y.1.t)=0
  · have e:x.1.t=y.1.t:=bl_inj (h2.1 c)
    rw [c,if_neg (by simp)]
    by_cases d:x.1.k - y.1.k=0
    · rw [d,if_neg (by simp)]; simp only [e,true_and]; omega
    · rw [if_pos d]; simp only [e,true_and]; omega
  · have e:x.1.t ≠ y.1.t:=fun e=>c (h2.2 (by rw [e]))
    rw [if_pos c]
    simp [e]
theorem swoI:SWO (ltOf cfI) where
  irrefl x:=by
    rw [ltI_of]
    cases h:ltIB x.1 x.1 with
    | false=>rfl
    | true=>exact absurd (ltIB_iff.1 h) (ltI_irrefl _)
  trans x y z h1 h2:=by
    rw [ltI_of] at *
    exact ltIB_iff.2 (ltI_trans (ltIB_iff.1 h1) (ltIB_iff.1 h2))
  ntrans x y z h1 h2:=by
    rw [ltI_of] at *
    cases h:ltIB x.1 z.1 with
    | false=>rfl
    | true=>
      have h:=ltIB_iff.1 h
      have h1:¬ ltI x.1 y.1:=fun e=>by rw [ltIB_iff.2 e] at h1; cases h1
      have h2:¬ ltI y.1 z.1:=fun e=>by rw [ltIB_iff.2 e] at h2; cases h2
      by_cases e:x.1=y.1
      · rw [e] at h; exact absurd h h2
      · exact absurd (ltI_trans (ltI_total h1 e) h) h2
noncomputable def C.is:=unC isC
theorem is_dec (x:Is):C.is (isC x)=x:=unC_eq isC_inj x
def rowI (r:List C):Prop:=∃ x:Is,r=isC x/\BI x
noncomputable def ltR (r s:List C):Bool:=ltIB (C.is r) (C.is s)
theorem strCmp (a b:ByteArray) (w:World):Calls Tryz.prog 28 #[.string a,.string b] w fun e w'=>e=.returned (.int .i64 (Lib.compareBytes a.data.toList b.data.toList))/\w'=w:=Any.strings_Compare Tryz.lays106 a b w
theorem mSortI:Meets Tryz.prog 25 (srSp 26 33 3 rowI ltR):=by
  refine meets_srt (α:=IsB) (enc:=encI) (cf:=cfI) (R:=fun a r=>r=isC a.1) (by decide) (by kernel_rfl) (fun _=>rfl) ?_ ?_ ?_ ?_
  · rintro ro r vs ⟨x,rfl,hx⟩ h
    unfold isC at h
    obtain ⟨v0,vs0,rfl,h0,r0⟩:=All2.cons_inv h
    obtain ⟨v1,vs1,rfl,h1,r1⟩:=All2.cons_inv r0
    obtain ⟨v2,vs2,rfl,h2,r2⟩:=All2.cons_inv r1
    obtain rfl:=All2.nil_inv r2
    cases h0; cases h1; cases h2
    exact ⟨⟨x,hx⟩,rfl,rfl⟩
  · rintro a r b s rfl rfl
    rw [ltI_of]; unfold ltR; rw [is_dec,is_dec]
  · intro blk cap d w hH hblk hsz
    have eg:∀ args w,(callFunc 26 args).run Tryz.prog w=.ok (.enter 26 args) w:=enters_of Tryz.func26 (by kernel_rfl) rfl
    exact AnyQ.slices_SortFunc Tryz.sortIs 3 Tryz.isAgg33 Tryz.sizeOf33 encI (fun _=>rfl) (fun x v hv=>by simp [encI] at hv; rcases hv with rfl | rfl | rfl<;>rfl) cfI swoI 26 #[] blk 0 cap d w eg
      (fun m os dk _ x y=>walkCmp strCmp _ _ _ _ _ _ x.2.k x.2.n y.2.k y.2.n _) hH hblk hsz
  · exact fun w=>AnyF.slices_SortFunc_none { Tryz.sortIs with } none 0 _ w
theorem sr_use {l:List Is} {K:S->Hp->Prop} (hl:l.length<=1000000000) (hb:∀ x ∈ l,BI x) (hK:∀ l':List Is,l'.Perm l->l'.Pairwise (fun a b=>ltIB b a=false)->K (.tu []) [.row (l'.map isC) 33 3]) :
    srSp 26 33 3 rowI ltR [.va (.c1 (.sl 0 l.length)),.va (.c1 (.fn 26 []))] [.row (l.map isC) 33 3] K:=by
  refine ⟨l.map isC,by simp,rfl,fun r hr=>?_,by simpa using hl,fun xs' hp hs=>?_⟩
  · obtain ⟨x,hx,rfl⟩:=List.mem_map.1 hr
    exact ⟨x,rfl,hb x hx⟩
  · obtain ⟨l',rfl,h2⟩:=perm_lift hp rfl
    refine hK l' h2 ?_
    rw [List.pairwise_map] at hs
    refine hs.imp fun {a b} h=>?_
    unfold ltR at h
    rwa [is_dec,is_dec] at h
end Go.Proofs.YtbolanmlngjdoaaGreat
namespace Go.Proofs
open Go.Shelf
def Tryz.lays16_ren:Go.Shelf.Ren:=⟨fun | 16=>40 | n=>n,fun | 24=>54 | n=>n,fun | n=>n⟩
theorem Tryz.lays16:Go.Proofs.Lays2.n16 Tryz.prog Tryz.lays16_ren:={
  mixed:=by kernel_rfl
  f16:=Tryz.func40.trans (congrArg some (by kernel_rfl))
  t4:=Tryz.underlying4
  a4:=Tryz.isAgg4
  z4:=Tryz.sizeOf4
  v4:=Tryz.zeroValue4
  t9:=Tryz.underlying9
  a9:=Tryz.isAgg9
  z9:=Tryz.sizeOf9
  v9:=Tryz.zeroValue9
  t24:=Tryz.underlying54
  a24:=Tryz.isAgg54
  z24:=Tryz.sizeOf54
  v24:=Tryz.zeroValue54
  i9:=by kernel_rfl }
def Tryz.lays15_ren:Go.Shelf.Ren:=⟨fun | 15=>41 | n=>n,fun | 22=>58 | n=>n,fun | n=>n⟩
theorem Tryz.lays15:Go.Proofs.Lays2.n15 Tryz.prog Tryz.lays15_ren:={
  mixed:=by kernel_rfl
  f15:=Tryz.func41.trans (congrArg some (by kernel_rfl))
  t3:=Tryz.underlying3
  a3:=Tryz.isAgg3
  z3:=Tryz.sizeOf3
  v3:=Tryz.zeroValue3
  t4:=Tryz.underlying4
  a4:=Tryz.isAgg4
  z4:=Tryz.sizeOf4
  v4:=Tryz.zeroValue4
  t22:=Tryz.underlying58
  a22:=Tryz.isAgg58
  z22:=Tryz.sizeOf58
  v22:=Tryz.zeroValue58
  i3:=by kernel_rfl }
end Go.Proofs
namespace Go.Proofs.YtbolanmlngjdoaaGreat
open Go.W Go.RowKit
theorem new_any {X:Ctx} {E:Es} {ro:RO} {w w':World} (h:Rel X E ro w) {blk:B} {g:Gb} (hb:∀ k,k < w.heap.size->w'.heap[k]? = w.heap[k]?) (hsz:w.heap.size<=w'.heap.size)
    (h1:w'.os=w.os) (h2:w'.tape=w.tape) (h3:w'.output=w.output) (hob:∀ b,g.ob=some b->w.heap.size<=b) (hon:blk.On (gm (E ++ [(g,blk)])) ro w' g):Rel X (E ++ [(g,blk)]) ro w':=by
  have hext:GExt (gm E) (gm (E ++ [(g,blk)])):=gext_app _
  have hget:∀ (n:Nat) (y:Gb × B),(E ++ [(g,blk)])[n]? = some y->(n=E.length/\y=(g,blk))\/(n < E.length/\E[n]? = some y):=by
    intro n y hy
    rw [List.getElem?_append] at hy
    split at hy
    · exact .inr ⟨by assumption,hy⟩
    · have:n - E.length=0:=by
        rcases Nat.eq_zero_or_pos (n - E.length) with h0 | h0
        · exact h0
        · rw [List.getElem?_eq_none (by simp; omega)] at hy; cases hy
      rw [this] at hy
      exact .inl ⟨by omega,by simpa using hy.symm⟩
  have old:∀ (n k:Nat) (gn:Gb) (bk:B),E[n]? = some (gn,bk)->gn.ob=some k->bk.live=true->k < w.heap.size:=fun n k gn bk hy hk hl=>(h.own n _ bk hy).lt hl hk
  refine ⟨fun n g' bk hy=>?_,fun n m gn gm bn bm k hy hz en em ln lm=>?_,fun k off c hc n gn bk hy en=>?_,fun k off c hc=>?_,h.ro0,h.rob,fun n k gn bk hy en ln=>?_,h.gx.trans hext,Nat.le_trans h.sz hsz,fun k hk hp=>?_,by rw [h1]; exact h.os,by rw [h2]; exact h.tape,by rw [h3]; exact h.output⟩
  · rcases hget n _ hy with ⟨rfl,he⟩ | ⟨hlt,hy'⟩
    · simp only [Prod.mk.injEq] at he; obtain ⟨rfl,rfl⟩:=he; exact hon
    · by_cases hlv:bk.live=true
      · exact (h.own n g' bk hy').same hext (Ext.refl _) fun k hk=>hb k (old n k g' bk hy' hk hlv)
      · cases bk<;>simp [B.live] at hlv; trivial
  · rcases hget n _ hy with ⟨rfl,he⟩ | ⟨hlt,hy'⟩<;>rcases hget m _ hz with ⟨rfl,he2⟩ | ⟨hlt2,hz'⟩
    · rfl
    · simp only [Prod.mk.injEq] at he; obtain ⟨rfl,rfl⟩:=he; have:=old m k gm bm hz' em lm; have:=hob k en; omega
    · simp only [Prod.mk.injEq] at he2; obtain ⟨rfl,rfl⟩:=he2; have:=old n k gn bn hy' en ln; have:=hob k em; omega
    · exact h.inj n m gn gm bn bm k hy' hz' en em ln lm
  · rcases hget n _ hy with ⟨rfl,he⟩ | ⟨hlt,hy'⟩
    · simp only [Prod.mk.injEq] at he; obtain ⟨rfl,rfl⟩:=he; have:=h.cell_lt hc; have:=hob k en; omega
    · exact h.apart k off c hc n gn bk hy' en
  · have:=h.rd k off c hc
    rw [<-this]
    simp only [World.cell?,hb k (h.cell_lt hc)]
  · rcases hget n _ hy with ⟨rfl,he⟩ | ⟨hlt,hy'⟩
    · simp only [Prod.mk.injEq] at he; obtain ⟨rfl,rfl⟩:=he; have:=hob k en; have:=h.sz; exact .inl (by omega)
    · exact h.par n k gn bk hy' en ln
  · rw [hb k (by have:=h.sz; omega)]
    exact h.keep k hk hp
theorem row_any {X:Ctx} {ro:RO} {w w':World} (h:Rel X [] ro w) (hX:X.g0.length=0) {T:TypeId} {v:Value} {cs:List Value} (hne:cs ≠ []) (_hone:∀ u ∈ cs,u.oneCell'=true) (ho:w'.ownsRow w.heap.size T 1 v cs.length cs) (hb:Below w.heap.size w w') {K:S->Hp->Prop} (hK:K (.va (.c1 (.fz (cs.map fun u=>[C.vl u])))) []) :
    ∃ r' E' ro',K r' (hp E')/\r'.rel (gm E') ro' v/\Rel X E' ro' w':=by
  have hlen:0 < cs.length:=List.length_pos_iff.2 hne
  obtain ⟨h1,h2⟩:=ho
  rcases h2 with ⟨_,h0⟩ | ⟨b,cap,cur,rfl,hbb,hcell,hcap,hmax,hcs,htk⟩
  · omega
  have hfl:(cs.map fun u=>[C.vl u]).flatten=cs.map C.vl:=by
    clear h1 hlen hcap htk hK hne _hone
    induction cs with
    | nil=>rfl
    | cons x l ih=>rw [List.map_cons,List.flatten_cons,ih]; rfl
  let g:Gb:=⟨some b,true,cs.length,cap,T,cs⟩
  have hR:Rel X ([] ++ [(g,.row (cs.map fun u=>[C.vl u]) T 1)]) ro w':=by
    refine new_any h (fun k hk=>hb.block k hk) hb.size hb.os hb.tape hb.output (fun b' hb'=>by cases hb'; exact hbb) ⟨rfl,by simp [g],fun x hx=>?_,fun c hc=>?_,⟨by simp [g],.inr ⟨b,cap,cur,?_,Nat.zero_le _,hcell,by simp; exact hcap,hmax,hcs,?_⟩⟩,?_,fun b' _=>(by show 0 < cap; omega)⟩
    · obtain ⟨y,_,rfl⟩:=List.mem_map.1 hx; rfl
    · rw [hfl] at hc; obtain ⟨y,_,rfl⟩:=List.mem_map.1 hc; rfl
    · simp [obA,g]
    · rw [List.length_map]; exact htk
    · rw [hfl]
      refine ⟨by simp [g],fun i x y hx hy=>?_⟩
      rw [List.getElem?_map] at hx
      have hy:cs[i]? = some y:=hy
      rw [hy] at hx
      cases hx; rfl
  refine fin_sound (X:=X) (k0:=0) hX (r:=.va (.c1 (.sl 0 (cs.map fun u=>[C.vl u]).length))) (.pub 0 _ T 1 (by rfl) (.sel [] (by simp) (by simp [pubH]) rfl (.done ?_))) rfl ?_ hR
  · simp -dsimp only [go_sem,pubH]; simpa using hK
  · refine ⟨g,rfl,rfl,by simp [g],⟨_,_,_,rfl⟩,fun _=>?_⟩
    simp [g,obA]
theorem empty_any {X:Ctx} {ro:RO} {w w':World} (h:Rel X [] ro w) {o:Option Addr} {c:Nat} (hb:Below w.heap.size w w') {K:S->Hp->Prop} (hK:K (.va (.c1 (.fz []))) []) :
    ∃ r' E' ro',K r' (hp E')/\r'.rel (gm E') ro' (.slice o 0 c)/\Rel X E' ro' w':=
  ⟨.va (.c1 (.fz [])),[],ro,hK,FzR.mk (ro:=ro) [] 1 none o (fun h=>absurd rfl h) c (fun _=>undef) (by simp) (Nat.zero_le _) (by simp) (by simp) (by simp) (by simp) (by simp),h.aside (fun k hk=>hb.block k hk) hb.size hb.os hb.tape hb.output⟩
def clSSp:W.Spec:=fun av H K=>∃ l:List ByteArray,av=[.va (.c1 (.fz (l.map stR)))]/\H=[]/\l.length<=1000000000/\K (.va (.c1 (.fz (l.map stR)))) []
theorem clS_use {l:List ByteArray} {K:S->Hp->Prop} (h:l.length<=1000000000) (hK:K (.va (.c1 (.fz (l.map stR)))) []):clSSp [.va (.c1 (.fz (l.map stR)))] [] K:=⟨l,rfl,rfl,h,hK⟩
theorem clS_flat (l:List ByteArray):(l.map stR).flatten=(l.map Value.string).map C.vl:=by
  induction l with
  | nil=>rfl
  | cons x l ih=>rw [List.map_cons,List.flatten_cons,ih]; rfl
theorem clS_rows (l:List ByteArray):(l.map Value.string).map (fun u=>[C.vl u])=l.map stR:=by rw [List.map_map]; rfl
theorem mclS:Meets Tryz.prog 40 clSSp:=by
  refine ⟨by kernel_rfl,fun av vs E ro w K hlen hrel hR hs=>?_⟩
  obtain ⟨l,rfl,hH,hl,hK⟩:=hs
  match E,hH with
  | [],_=>
    match vs,hlen with
    | [v0],_=>
      have r0:FzR ro (l.map stR) v0:=hrel 0 _ _ rfl rfl
      cases hl0:l with
      | nil=>
        subst hl0
        generalize hx:([]:List ByteArray).map stR=xs at r0
        cases r0 with
        | mk xs sz o oa hoa cap us hz hc ho h1 h2 h3 h4=>
          subst hx
          have hK:K (.va (.c1 (.fz []))) []:=hK
          cases oa with
          | none=>
            refine (Any.slices_Clone_string_nil Tryz.lays16 0 cap w).mono ?_
            rintro e w' ⟨rfl,rfl⟩
            obtain ⟨r',E',ro',a1,a2,a3⟩:=empty_any (o:=none) (c:=0) hR (Below.refl _ _) hK
            exact ⟨r',_,E',ro',rfl,a2,a1,a3⟩
          | some a=>
            refine (Any.slices_Clone_string_zero Tryz.lays16 a cap w).mono ?_
            rintro e w' ⟨v',rfl,hown,_,hb⟩
            obtain ⟨o',c',rfl⟩:∃ o' c',v'=.slice o' 0 c':=by
              rcases hown.2 with ⟨rfl,_⟩ | ⟨b,c',cur,rfl,_⟩
              · exact ⟨none,0,rfl⟩
              · exact ⟨_,c',rfl⟩
            obtain ⟨r',E',ro',a1,a2,a3⟩:=empty_any (o:=o') (c:=c') hR hb hK
            exact ⟨r',_,E',ro',rfl,a2,a1,a3⟩
      | cons x0 lt=>
        have hne:l ≠ []:=by rw [hl0]; exact List.cons_ne_nil _ _
        clear hl0
        generalize hx:l.map stR=xs at r0
        cases r0 with
        | mk xs sz o oa hoa cap us hz hc ho h1 h2 h3 h4=>
          subst hx
          have hne2:l.map stR ≠ []:=by simpa using hne
          obtain ⟨⟨b,off⟩,rfl⟩:=Option.isSome_iff_exists.1 (ho hne2)
          obtain rfl:=hoa hne2
          have hcell:∀ j,j < l.length->w.cell? ⟨b,off + j,none⟩=some (Value.string (l.getD j ByteArray.empty)):=fun j hj=>by
            have hf:(l.map stR).flatten[j]? = some (.vl (Value.string (l.getD j ByteArray.empty))):=by
              rw [clS_flat,List.getElem?_map,List.getElem?_map,List.getElem?_eq_getElem hj]
              simp [hj]
            have e1:=h1 j _ hf
            have e2:=h2 j _ hf
            rw [e2] at e1
            exact hR.rd b (off + j) _ e1
          have key:=Any.slices_Clone_string Tryz.lays16 b off l.length cap l w (Nat.le_refl _) (by omega) hcell
          rw [List.take_length] at key
          rw [List.length_map]
          refine key.mono ?_
          rintro e w' ⟨v',rfl,hown,_,hb⟩
          rw [<-List.length_map (f:=Value.string)] at hown
          obtain ⟨r',E',ro',a1,a2,a3⟩:=row_any hR rfl (cs:=l.map Value.string) (by simpa using hne) (fun u hu=>by obtain ⟨y,_,rfl⟩:=List.mem_map.1 hu; rfl) hown hb (by rw [clS_rows]; exact hK)
          exact ⟨r',_,E',ro',rfl,a2,a1,a3⟩
def clISp:W.Spec:=fun av H K=>∃ l:List Int,av=[.va (.c1 (.fz (l.map inR)))]/\H=[]/\l.length<=1000000000/\K (.va (.c1 (.fz (l.map inR)))) []
theorem clI_use {l:List Int} {K:S->Hp->Prop} (h:l.length<=1000000000) (hK:K (.va (.c1 (.fz (l.map inR)))) []):clISp [.va (.c1 (.fz (l.map inR)))] [] K:=⟨l,rfl,rfl,h,hK⟩
theorem clI_flat (l:List Int):(l.map inR).flatten=(l.map (Value.int .i64)).map C.vl:=by
  induction l with
  | nil=>rfl
  | cons x l ih=>rw [List.map_cons,List.flatten_cons,ih]; rfl
theorem clI_rows (l:List Int):(l.map (Value.int .i64)).map (fun u=>[C.vl u])=l.map inR:=by rw [List.map_map]; rfl
theorem mclI:Meets Tryz.prog 41 clISp:=by
  refine ⟨by kernel_rfl,fun av vs E ro w K hlen hrel hR hs=>?_⟩
  obtain ⟨l,rfl,hH,hl,hK⟩:=hs
  match E,hH with
  | [],_=>
    match vs,hlen with
    | [v0],_=>
      have r0:FzR ro (l.map inR) v0:=hrel 0 _ _ rfl rfl
      cases hl0:l with
      | nil=>
        subst hl0
        generalize hx:([]:List Int).map inR=xs at r0
        cases r0 with
        | mk xs sz o oa hoa cap us hz hc ho h1 h2 h3 h4=>
          subst hx
          have hK:K (.va (.c1 (.fz []))) []:=hK
          cases oa with
          | none=>
            refine (Any.slices_Clone_int_nil Tryz.lays15 0 cap w).mono ?_
            rintro e w' ⟨rfl,rfl⟩
            obtain ⟨r',E',ro',a1,a2,a3⟩:=empty_any (o:=none) (c:=0) hR (Below.refl _ _) hK
            exact ⟨r',_,E',ro',rfl,a2,a1,a3⟩
          | some a=>
            refine (Any.slices_Clone_int_zero Tryz.lays15 a cap w).mono ?_
            rintro e w' ⟨v',rfl,hown,_,hb⟩
            obtain ⟨o',c',rfl⟩:∃ o' c',v'=.slice o' 0 c':=by
              rcases hown.2 with ⟨rfl,_⟩ | ⟨b,c',cur,rfl,_⟩
              · exact ⟨none,0,rfl⟩
              · exact ⟨_,c',rfl⟩
            obtain ⟨r',E',ro',a1,a2,a3⟩:=empty_any (o:=o') (c:=c') hR hb hK
            exact ⟨r',_,E',ro',rfl,a2,a1,a3⟩
      | cons x0 lt=>
        have hne:l ≠ []:=by rw [hl0]; exact List.cons_ne_nil _ _
        clear hl0
        generalize hx:l.map inR=xs at r0
        cases r0 with
        | mk xs sz o oa hoa cap us hz hc ho h1 h2 h3 h4=>
          subst hx
          have hne2:l.map inR ≠ []:=by simpa using hne
          obtain ⟨⟨b,off⟩,rfl⟩:=Option.isSome_iff_exists.1 (ho hne2)
          obtain rfl:=hoa hne2
          have hcell:∀ j,j < l.length->w.cell? ⟨b,off + j,none⟩=some (Value.int .i64 (l.getD j 0)):=fun j hj=>by
            have hf:(l.map inR).flatten[j]? = some (.vl (Value.int .i64 (l.getD j 0))):=by
              rw [clI_flat,List.getElem?_map,List.getElem?_map,List.getElem?_eq_getElem hj]
              simp [hj]
            have e1:=h1 j _ hf
            have e2:=h2 j _ hf
            rw [e2] at e1
            exact hR.rd b (off + j) _ e1
          have key:=Any.slices_Clone_int Tryz.lays15 b off l.length cap l w (Nat.le_refl _) (by omega) hcell
          rw [List.take_length] at key
          rw [List.length_map]
          refine key.mono ?_
          rintro e w' ⟨v',rfl,hown,_,hb⟩
          rw [<-List.length_map (f:=(Value.int .i64))] at hown
          obtain ⟨r',E',ro',a1,a2,a3⟩:=row_any hR rfl (cs:=l.map (Value.int .i64)) (by simpa using hne) (fun u hu=>by obtain ⟨y,_,rfl⟩:=List.mem_map.1 hu; rfl) hown hb (by rw [clI_rows]; exact hK)
          exact ⟨r',_,E',ro',rfl,a2,a1,a3⟩
end Go.Proofs.YtbolanmlngjdoaaGreat
namespace Go.Proofs.YtbolanmlngjdoaaGreat
open Go.W
set_option maxRecDepth 100000 in
theorem mEnumP:Meets Tryz.prog 23 enSpP:=by
  refine meets_fn Tryz.func23 ok23 2 (by rw [Tryz.ntmps23]; decide) (meetsAll_s mclS (meetsAll_s mclI (meetsAll_nil _))) (fun av H K h=>by obtain ⟨_,_,rfl,_⟩:=h; rfl) ?_
  rintro av H K ⟨s,n,rfl,rfl,hs,hK⟩
  rw [<-fEn_has] at hK
  have hl:=hs.ok.le
  simp -dsimp only [go_sem,scC,pc23,rs23]
  refine vc_loop (α:=Nat) (fun i=>[(1,tS n),(2,.va (.c1 (.pt 0 0))),(4,.va (.c1 (.pt 1 0))),(9,.va (.c1 (.fz (s.es.map enC)))),(10,iS .i64 s.es.length),(11,iS .i64 i)]) (fun _=>[.cells (scC s) 25,.cells [.vl (.string (mk [])),.vl (.slice none 0 0),.vl (.slice none 0 0)] 60])
    (fun i=>i<=s.es.length/\fEn (s.es.drop i) n=fEn s.es n) (fun i=>s.es.length - i) 0 2 ⟨Nat.zero_le _,rfl⟩ ?_ ?_ ?_
  · simp [go_sem]
  · simp [go_sem,scC]
  rintro i ⟨hi,ho⟩
  rcases Nat.lt_or_ge i s.es.length with hlt | hge
  · have hg:decide ((i:Int) < (s.es.length:Int))=true:=by simp; omega
    obtain ⟨t,hx⟩:∃ e,s.es[i]? = some e:=⟨_,List.getElem?_eq_getElem hlt⟩
    have q2:=row_rg' (row:=enC) hx
    have htm:=List.mem_of_getElem? hx
    rw [fEn,fnd_step hx] at ho
    cases hc:decide (t.nm=n) with
    | true=>
      rw [hc,Bool.cond_true] at ho
      rw [<-ho] at hK
      simp (maxSteps:=1000000) -dsimp only [go_sem,hg,↓q2,enC,scC,bl_beq,hc]
      refine ⟨by omega,clS_use (hs.en t htm).1 ?_⟩
      simp (maxSteps:=1000000) -dsimp only [go_sem]
      refine clI_use (hs.en t htm).2 ?_
      simp (maxSteps:=1000000) -dsimp only [go_sem]
      exact .sel [] (by simp) (by simp) rfl (.done (by simpa [go_sem,enC] using hK))
    | false=>
      rw [hc,Bool.cond_false] at ho
      simp (maxSteps:=1000000) -dsimp only [go_sem,hg,↓q2,enC,scC,bl_beq,hc]
      refine ⟨by omega,by omega,loop_next (i + 1) 2 ⟨by omega,ho⟩ (by omega) ?_ ?_⟩
      · simp [go_sem]
      · simp [go_sem,scC]
  · have hg:decide ((i:Int) < (s.es.length:Int))=false:=by simp; omega
    obtain rfl:i=s.es.length:=by omega
    rw [List.drop_length] at ho
    rw [<-ho] at hK
    simp -dsimp only [go_sem,hg,scC]
    exact .sel [] (by simp) (by simp) rfl (.done (by simpa [go_sem,fEn,enC_def] using hK))
end Go.Proofs.YtbolanmlngjdoaaGreat
namespace Go.Proofs.YtbolanmlngjdoaaGreat
open Go.W
theorem raw_BI {o n:Sc} (ho:o.fit) (hn:n.fit) (c1:checkF o=0) (c2:checkF n=0) (x:ByteArray):∀ z ∈ rawI o n x,BI z:=by
  intro z hz
  unfold rawI at hz
  obtain ⟨y,_,hy⟩:=List.mem_flatMap.1 hz
  unfold cmpN at hy
  cases h1:hasS o.ss y != hasS n.ss y with
  | true=>
    rw [h1] at hy
    obtain rfl:z=⟨5,0,y⟩:=by simpa using hy
    exact ⟨by dsimp only; omega,by dsimp only; omega⟩
  | false=>
    rw [h1,Bool.cond_false,List.mem_append] at hy
    rcases hy with hy | hy
    · cases h2:hasS o.ss y with
      | false=>rw [h2] at hy; cases hy
      | true=>
        have h3:hasS n.ss y=true:=by rw [h2] at h1; simpa using h1
        obtain ⟨t,e1,_,_,_,e3⟩:=str_good ho c1 h2
        obtain ⟨u,e4,_,_,_,e5⟩:=str_good hn c2 h3
        rw [h2,e1,e4] at hy
        simp only [Bool.cond_true,Option.getD_some,cmpS,List.mem_append,List.mem_flatMap] at hy
        rcases hy with ⟨f,hf,hy⟩ | ⟨f,hf,hy⟩
        · have hb:=(e3 f hf).1
          have:z.n=f.num/\1<=z.k/\z.k<=3:=by
            unfold isA at hy
            split at hy
            · cases ho':f.opt<;>rw [ho'] at hy
              · obtain rfl:=List.mem_singleton.1 hy; exact ⟨rfl,by dsimp only; omega,by dsimp only; omega⟩
              · cases hy
            · rename_i g _
              rcases List.mem_append.1 hy with hy | hy
              · cases hw:widF f.ty g.ty<;>rw [hw] at hy
                · obtain rfl:=List.mem_singleton.1 hy; exact ⟨rfl,by dsimp only; omega,by dsimp only; omega⟩
                · cases hy
              · cases hw:f.opt == g.opt<;>rw [hw] at hy
                · obtain rfl:=List.mem_singleton.1 hy; exact ⟨rfl,by dsimp only; omega,by dsimp only; omega⟩
                · cases hy
          exact ⟨by omega,by omega⟩
        · have hb:=(e5 f hf).1
          unfold isB at hy
          cases hw:(fF t.fs f.num).isNone && !f.opt<;>rw [hw] at hy
          · cases hy
          · obtain rfl:=List.mem_singleton.1 hy
            exact ⟨by dsimp only; omega,by show -1000<=f.num/\f.num<=1000; omega⟩
    · cases h2:hasE o.es y && hasE n.es y with
      | false=>rw [h2] at hy; cases hy
      | true=>
        rw [h2,Bool.cond_true,cmpE,cmpV,List.mem_map] at hy
        obtain ⟨v,hv,rfl⟩:=hy
        have hv:=(List.mem_filter.1 hv).1
        refine ⟨by show -1000<=(4:Int)/\(4:Int)<=1000; omega,?_⟩
        show -1000<=v/\v<=1000
        cases hf:fEn o.es y with
        | none=>rw [hf] at hv; cases hv
        | some e=>
          rw [hf] at hv
          have:=enu_vs ho c1 hf v hv
          omega
theorem stG_of {s:Sc} (hf:s.fit) (h:checkF s=0) (n:ByteArray):StG ((fS s.ss n).getD default):=by
  cases hs:fS s.ss n with
  | none=>exact ⟨⟨by decide,by decide,fun _ h=>(List.not_mem_nil h).elim⟩,by decide,fun _ h=>(List.not_mem_nil h).elim⟩
  | some t=>
    have hh:hasS s.ss n=true:=by rw [<-fS_has,hs]; rfl
    obtain ⟨u,e1,e2,_,e3,_⟩:=str_good hf h hh
    rw [e1] at hs
    cases hs
    exact ⟨hf.ok.ss t e2,by show t.fs.length<=1000; omega,(hf.sm t e2).2⟩
theorem enL_of {s:Sc} (hf:s.fit) (h:checkF s=0) (n:ByteArray):((fEn s.es n).getD default).vs.length<=16:=by
  cases hs:fEn s.es n with
  | none=>exact Nat.zero_le _
  | some e=>have:=enu_good hf h hs; show e.vs.length<=16; omega
theorem cmpV_len (nm:ByteArray) (vs:List Int) (e:En):(cmpV nm vs e).length<=vs.length:=by
  unfold cmpV; rw [List.length_map]; exact List.length_filter_le _ _
theorem cmpN_len {o n:Sc} (ho:o.fit) (hn:n.fit) (c1:checkF o=0) (c2:checkF n=0) (y:ByteArray):(cmpN o n y).length<=4000:=by
  unfold cmpN
  cases hasS o.ss y != hasS n.ss y with
  | true=>simp
  | false=>
    have g1:=(stG_of ho c1 y).len
    have g2:=(stG_of hn c2 y).len
    have h1:=fm_le (f:=isA y ((fS n.ss y).getD default)) (l:=((fS o.ss y).getD default).fs) fun a _=>isA_len y _ a
    have h2:=fm_le (f:=isB y ((fS o.ss y).getD default)) (l:=((fS n.ss y).getD default).fs) fun a _=>isB_len y _ a
    have h3:=enL_of ho c1 y
    have h4:=cmpV_len y ((fEn o.es y).getD default).vs ((fEn n.es y).getD default)
    rw [Bool.cond_false,List.length_append]
    cases hasS o.ss y<;>cases (hasE o.es y && hasE n.es y)<;>simp only [Bool.cond_true,Bool.cond_false,cmpS,cmpE,List.length_append,List.length_nil]<;>omega
theorem cmpV_next {vs:List Int} {j:Nat} {v:Int} (h:vs[j]? = some v) (nm:ByteArray) (e:En):cmpV nm (vs.take (j + 1)) e=cmpV nm (vs.take j) e ++ (bif inI e.vs v then [] else [⟨4,v,nm⟩]):=by
  have hI:inI e.vs v=e.vs.any (fun w=>decide (v=w)):=rfl
  unfold cmpV
  rw [take_next h,List.filter_append,List.map_append,hI]
  cases hh:e.vs.any (fun w=>decide (v=w)) with
  | true=>rw [List.filter_cons_of_neg (by rw [hh]; simp)]; rfl
  | false=>rw [List.filter_cons_of_pos (by rw [hh]; rfl)]; rfl
theorem cmpV_nil (nm:ByteArray) (e:En):cmpV nm [] e=[]:=rfl
theorem bif_nil {b:Bool}:(bif b then ([]:List Is) else [])=[]:=by cases b<;>rfl
def iuSp:W.Spec:=fun av H K=>∃ (o n:Sc) (x:ByteArray),av=[.va (.gs (scC o)),.va (.gs (scC n)),tS x]/\H=[]/\o.fit/\n.fit/\K (.va (.c1 (.fz ((issF o n x).map isC)))) []
theorem iu_use {o n:Sc} {x:ByteArray} {K:S->Hp->Prop} (h1:o.fit) (h2:n.fit) (hK:K (.va (.c1 (.fz ((issF o n x).map isC)))) []):iuSp [.va (.gs (scC o)),.va (.gs (scC n)),tS x] [] K:=⟨o,n,x,rfl,rfl,h1,h2,hK⟩
end Go.Proofs.YtbolanmlngjdoaaGreat
namespace Go.Proofs.YtbolanmlngjdoaaGreat
open Go.W
def sortBy {α:Type} (g:α->Int) (l:List α):List α:=l.mergeSort fun x y=>decide (g x<=g y)
theorem asc_of {α:Type} {g:α->Int} {l' l:List α} (hp:l'.Perm l) (hs:l'.Pairwise fun a b=>¬ g b < g a) (hn:(l.map g).Nodup):l'.Pairwise fun a b=>g a < g b:=by
  have hn':(l'.map g).Nodup:=(hp.map g).nodup_iff.2 hn
  unfold List.Nodup at hn'
  rw [List.pairwise_map] at hn'
  exact List.Pairwise.imp₂ (fun a b h1 h2=>by omega) hs hn'
theorem sortBy_perm {α:Type} (g:α->Int) (l:List α):(sortBy g l).Perm l:=List.mergeSort_perm _ _
theorem sortBy_sorted {α:Type} (g:α->Int) (l:List α):(sortBy g l).Pairwise fun a b=>¬ g b < g a:=by
  have h:=List.pairwise_mergeSort (le:=fun x y:α=>decide (g x<=g y)) (fun a b c h1 h2=>by simp at *; omega) (fun a b=>by simp; omega) l
  refine h.imp fun {a b} h=>?_
  simp at h; omega
theorem sort_unique {α:Type} {g:α->Int} {l' l:List α} (hp:l'.Perm l) (hs:l'.Pairwise fun a b=>¬ g b < g a) (hn:(l.map g).Nodup):l'=sortBy g l:=by
  have h1:=asc_of hp hs hn
  have h2:=asc_of (sortBy_perm g l) (sortBy_sorted g l) hn
  exact List.Perm.eq_of_pairwise (le:=fun a b=>g a < g b) (fun a b _ _ h3 h4=>by omega) h1 h2 (hp.trans (sortBy_perm g l).symm)
structure EnG (e:En):Prop where
  ok:e.ok
  len:e.vs.length=e.ns.length
  le:e.ns.length<=100
  vs:∀ v ∈ e.vs,0<=v/\v<=127
  nd:e.vs.Nodup
def nds (e:En):List Nd:=List.zipWith (fun n nm=>⟨n,nm⟩) e.vs e.ns
theorem nds_len {e:En} (h:EnG e):(nds e).length=e.vs.length:=by
  unfold nds; rw [List.length_zipWith,h.len]; simp
theorem nds_at {e:En} {i:Nat} {v:Int} {nm:ByteArray} (h1:e.vs[i]? = some v) (h2:e.ns[i]? = some nm):(nds e)[i]? = some ⟨v,nm⟩:=by
  unfold nds; rw [List.getElem?_zipWith,h1,h2]
theorem nds_n {e:En} (h:EnG e):(nds e).map Nd.n=e.vs:=by
  unfold nds
  refine List.ext_getElem? fun i=>?_
  rw [List.getElem?_map,List.getElem?_zipWith]
  cases h1:e.vs[i]? with
  | none=>rfl
  | some v=>
    have hi:=(List.getElem?_eq_some_iff.1 h1).1
    rw [List.getElem?_eq_getElem (show i < e.ns.length by have:=h.len; omega)]; rfl
def meL:List Nd->List Nd->Option (List Nd)
  | l,[]=>some l
  | l,x :: r=>bif l.any (isN x) then meL l r else bif l.any (clN x) then none else meL (l ++ [x]) r
def enOf (nm:ByteArray) (l:List Nd):En:=⟨nm,(sortBy Nd.n l).map Nd.nm,(sortBy Nd.n l).map Nd.n⟩
def meK (K:S->Hp->Prop) (nm:ByteArray):Option (List Nd)->Prop
  | some l=>K (.tu [.gs (enC (enOf nm l)),bA true]) []
  | none=>K (.tu [.gs (enC default),bA false]) []
def meSp:W.Spec:=fun av H K=>∃ a b:En,av=[.va (.gs (enC a)),.va (.gs (enC b))]/\H=[]/\EnG a/\EnG b/\meK K a.nm (meL (nds a) (nds b))
theorem me_use {a b:En} {K:S->Hp->Prop} (h1:EnG a) (h2:EnG b) (hK:meK K a.nm (meL (nds a) (nds b))):meSp [.va (.gs (enC a)),.va (.gs (enC b))] [] K:=⟨a,b,rfl,rfl,h1,h2,hK⟩
theorem enC_default:enC default=[.vl (.string (mk [])),.fz [],.fz []]:=rfl
theorem map_take_next {α β:Type} {l:List α} {i:Nat} {x:α} (h:l[i]? = some x) (f:α->β):(l.take (i + 1)).map f=(l.take i).map f ++ [f x]:=by rw [take_next h]; simp
set_option maxRecDepth 100000 in
set_option maxHeartbeats 4000000 in
theorem mMergeEnum:Meets Tryz.prog 39 meSp:=by
  refine meets_fn Tryz.func39 okM39 2 (by rw [Tryz.ntmps39]; decide) (meetsAll_s mContainsN (meetsAll_s mContainsF (meetsAll_s mSortN (meetsAll_nil _)))) (fun av H K h=>by obtain ⟨_,_,rfl,_⟩:=h; rfl) ?_
  rintro av H K ⟨a,b,rfl,rfl,ga,gb,hK⟩
  have hla:=ga.len
  have hlb:=gb.len
  have hla2:=ga.le
  have hlb2:=gb.le
  simp (maxSteps:=1000000) -dsimp only [go_sem,enC,pcM39,rsM39]
  refine vc_loop_gh (α:=Nat) (fun i=>[(2,.va (.c1 (.pt 0 0))),(3,.va (.c1 (.pt 1 0))),(4,.va (.c1 (.pt 2 0))),(6,.va (.c1 (.sl 3 ((nds a).take i).length))),(16,.va (.c1 (.fz (a.vs.map inR)))),(17,iS .i64 a.vs.length),(18,iS .i64 i)])
    (fun i=>[.cells (enC a) 60,.cells (enC b) 60,.cells [.vl (.string (mk [])),.vl (.slice none 0 0),.vl (.slice none 0 0)] 60,.row (((nds a).take i).map ndC) 111 2])
    (fun i=>i<=a.vs.length) (fun i=>a.vs.length - i) (.nil 6 111 2 rfl (gh_at 0 4 (Nat.zero_le _) ?_ ?_)) ?_
  · simp -dsimp only [go_sem]<;>simp
  · simp -dsimp only [go_sem,enC]<;>simp
  intro i hi
  have hti:((nds a).take i).length=i:=by rw [List.length_take,nds_len ga]; omega
  rcases Nat.lt_or_ge i a.vs.length with hlt | hge
  · have hg:decide ((i:Int) < (a.vs.length:Int))=true:=by simp; omega
    obtain ⟨v,hv⟩:∃ t,a.vs[i]? = some t:=⟨_,List.getElem?_eq_getElem hlt⟩
    obtain ⟨nm,hm⟩:∃ t,a.ns[i]? = some t:=⟨_,List.getElem?_eq_getElem (by omega)⟩
    have q1:=row_rg' (row:=inR) hv
    have q2:=row_rg' (row:=stR) hm
    have hnx:=map_take_next (nds_at hv hm) ndC
    have hln:((nds a).take (i + 1)).length=((nds a).take i).length + 1:=by rw [hti,List.length_take,nds_len ga]; omega
    simp (maxSteps:=1000000) -dsimp only [go_sem,hg,↓q1,↓q2,enC]
    refine ⟨by omega,by omega,by rw [hti]; omega,by omega,loop_next (i + 1) 4 (by omega) (by omega) ?_ ?_⟩
    · simp -dsimp only [go_sem,hln]<;>simp
    · simp -dsimp only [go_sem,enC,hnx]<;>simp [ndC]
  · have hg:decide ((i:Int) < (a.vs.length:Int))=false:=by simp; omega
    obtain rfl:i=a.vs.length:=by omega
    have htk:(nds a).take a.vs.length=nds a:=by rw [<-nds_len ga,List.take_length]
    rw [htk]
    simp (maxSteps:=1000000) -dsimp only [go_sem,hg,enC]
    refine vc_loop (α:=Nat × List Nd) (fun z=>[(2,.va (.c1 (.pt 0 0))),(3,.va (.c1 (.pt 1 0))),(4,.va (.c1 (.pt 2 0))),(6,.va (.c1 (.sl 3 z.2.length))),(35,.va (.c1 (.fz (b.vs.map inR)))),(36,iS .i64 b.vs.length),(37,iS .i64 z.1)])
      (fun z=>[.cells (enC a) 60,.cells (enC b) 60,.cells [.vl (.string (mk [])),.vl (.slice none 0 0),.vl (.slice none 0 0)] 60,.row (z.2.map ndC) 111 2])
      (fun z=>z.1<=b.vs.length/\meL z.2 ((nds b).drop z.1)=meL (nds a) (nds b)/\(z.2.map Nd.n).Nodup/\z.2.length<=100 + z.1/\∀ x ∈ z.2,0<=x.n/\x.n<=127) (fun z=>b.vs.length - z.1) (0,nds a) 4 ⟨Nat.zero_le _,rfl,by rw [nds_n ga]; exact ga.nd,by rw [nds_len ga]; omega,fun x hx=>ga.vs _ (by rw [<-nds_n ga]; exact List.mem_map_of_mem hx)⟩ ?_ ?_ ?_
    · simp -dsimp only [go_sem]<;>simp
    · simp -dsimp only [go_sem,enC]<;>simp
    rintro ⟨j,L⟩ ⟨hj,hm,hnd,hll,hbv⟩
    simp only at hj hm hnd hll hbv ⊢
    rcases Nat.lt_or_ge j b.vs.length with hltj | hgej
    · have hgj:decide ((j:Int) < (b.vs.length:Int))=true:=by simp; omega
      obtain ⟨v,hv⟩:∃ t,b.vs[j]? = some t:=⟨_,List.getElem?_eq_getElem hltj⟩
      obtain ⟨nm,hnm⟩:∃ t,b.ns[j]? = some t:=⟨_,List.getElem?_eq_getElem (by omega)⟩
      have q1:=row_rg' (row:=inR) hv
      have q2:=row_rg' (row:=stR) hnm
      have hdr:(nds b).drop j=⟨v,nm⟩ :: (nds b).drop (j + 1):=by
        obtain ⟨h,h'⟩:=List.getElem?_eq_some_iff.1 (nds_at hv hnm)
        rw [List.drop_eq_getElem_cons h,h']
      rw [hdr,meL] at hm
      simp (maxSteps:=1000000) -dsimp only [go_sem,hgj,↓q1,↓q2,enC]
      refine ⟨by omega,by omega,conn_use (x:=⟨v,nm⟩) (by omega) ?_⟩
      cases hc:L.any (isN ⟨v,nm⟩) with
      | true=>
        rw [hc,Bool.cond_true] at hm
        simp (maxSteps:=1000000) -dsimp only [go_sem]
        refine ⟨by omega,loop_next (j + 1,L) 4 ⟨by simp only; omega,hm,hnd,by simp only; omega,hbv⟩ (by simp only; omega) ?_ ?_⟩
        · simp -dsimp only [go_sem]<;>simp
        · simp -dsimp only [go_sem,enC]<;>simp
      | false=>
        rw [hc,Bool.cond_false] at hm
        simp (maxSteps:=1000000) -dsimp only [go_sem]
        refine cof_use (x:=⟨v,nm⟩) (by omega) ?_
        cases hcl:L.any (clN ⟨v,nm⟩) with
        | true=>
          rw [hcl,Bool.cond_true] at hm
          rw [<-hm] at hK
          have hK:K (.tu [.gs (enC default),bA false]) []:=hK
          simp (maxSteps:=1000000) -dsimp only [go_sem,ndC]
          exact .sel [] (by simp) (by simp) rfl (.done (by simpa [go_sem,enC_default] using hK))
        | false=>
          rw [hcl,Bool.cond_false] at hm
          have hbx:=gb.vs v (List.mem_of_getElem? hv)
          simp (maxSteps:=1000000) -dsimp only [go_sem,ndC]
          refine ⟨by omega,by omega,loop_next (j + 1,L ++ [⟨v,nm⟩]) 4 ⟨by simp only; omega,hm,?_,by simp only [List.length_append,List.length_singleton]; omega,fun x hx=>?_⟩ (by simp only; omega) ?_ ?_⟩
          · simp only [List.map_append,List.map_cons,List.map_nil]
            rw [List.nodup_append]
            refine ⟨hnd,by simp,fun m hm' k hk e=>?_⟩
            obtain ⟨y,hy,rfl⟩:=List.mem_map.1 hm'
            obtain rfl:=List.mem_singleton.1 hk
            have:=any_false hcl y hy
            unfold clN at this
            simp at this
            exact this.1 e
          · rcases List.mem_append.1 hx with hx | hx
            · exact hbv x hx
            · obtain rfl:=List.mem_singleton.1 hx; exact hbx
          · simp -dsimp only [go_sem]<;>simp
          · simp -dsimp only [go_sem,enC]<;>simp [ndC]
    · have hgj:decide ((j:Int) < (b.vs.length:Int))=false:=by simp; omega
      obtain rfl:j=b.vs.length:=by omega
      rw [List.drop_eq_nil_of_le (by rw [nds_len gb]; exact Nat.le_refl _),meL] at hm
      rw [<-hm] at hK
      have hK:K (.tu [.gs (enC (enOf a.nm L)),bA true]) []:=hK
      simp (maxSteps:=1000000) -dsimp only [go_sem,hgj,enC]
      refine srn_use (l:=L) (by omega) (fun x hx=>by have:=hbv x hx; omega) fun l' hp hs=>?_
      obtain rfl:=sort_unique hp hs hnd
      have hML:(sortBy Nd.n L).length=L.length:=hp.length_eq
      have hK:K (.tu [.gs [.vl (.string a.nm),.fz (((sortBy Nd.n L).map Nd.nm).map stR),.fz (((sortBy Nd.n L).map Nd.n).map inR)],bA true]) []:=hK
      generalize sortBy Nd.n L=M at *
      have e0:(L.length:Int)=(M.length:Int):=by rw [hML]
      rw [<-hML]
      simp (maxSteps:=1000000) -dsimp only [go_sem]
      refine vc_loop_gh (α:=Nat) (fun i=>[(4,.va (.c1 (.pt 2 0))),(12,.va (.c1 (.pt 4 0))),(66,.va (.c1 (.sl 3 M.length))),(67,iS .i64 M.length),(68,iS .i64 i)])
        (fun i=>[.cells (enC a) 60,.cells (enC b) 60,.cells [.vl (.string (mk [])),.vl (.slice none 0 0),.vl (.slice none 0 0)] 60,.row (M.map ndC) 111 2,.cells [.vl (.string a.nm),.sl 5 i,.sl 6 i] 60,.row (((M.take i).map Nd.nm).map stR) 9 1,.row (((M.take i).map Nd.n).map inR) 3 1])
        (fun i=>i<=M.length) (fun i=>M.length - i) (.nilc 4 1 9 1 [.vl (.string a.nm),.vl (.slice none 0 0),.vl (.slice none 0 0)] 60 rfl rfl (.nilc 4 2 3 1 [.vl (.string a.nm),.sl 5 0,.vl (.slice none 0 0)] 60 rfl rfl (gh_at 0 7 (Nat.zero_le _) ?_ ?_))) ?_
      · simp -dsimp only [go_sem]<;>simp
      · simp -dsimp only [go_sem,enC]<;>simp
      intro i hi
      have hz:(M.take i).length=i:=by rw [List.length_take]; omega
      rcases Nat.lt_or_ge i M.length with hlt | hge
      · have hg:decide ((i:Int) < (M.length:Int))=true:=by simp; omega
        obtain ⟨u,hx⟩:∃ t,M[i]? = some t:=⟨_,List.getElem?_eq_getElem hlt⟩
        have q1:=row_rg' (row:=ndC) hx
        have hu:ndC u=[.vl (.int .i64 u.n),.vl (.string u.nm)]:=rfl
        simp (maxSteps:=1000000) -dsimp only [go_sem,hg,hx,hu,Option.some.injEq,forall_eq',hz]
        refine ⟨by omega,by omega,by omega,by omega,by omega,loop_next (i + 1) 7 (by omega) (by omega) ?_ ?_⟩
        · simp -dsimp only [go_sem]<;>simp
        · simp -dsimp only [go_sem,enC,take_next hx]<;>simp
      · have hg:decide ((i:Int) < (M.length:Int))=false:=by simp; omega
        obtain rfl:i=M.length:=by omega
        rw [List.take_length]
        simp (maxSteps:=1000000) -dsimp only [go_sem,hg]
        refine .pub 5 _ _ _ rfl (.pub 6 _ _ _ rfl (.sel [] (by simp) (by simp [pubH]) rfl (.done ?_)))
        simp -dsimp only [go_sem,pubH]
        simpa using hK
end Go.Proofs.YtbolanmlngjdoaaGreat
namespace Go.W
section
variable {P:Program} {f:FuncId} {s t:Spec}
def C.pl:C->C->Prop
  | .vl v,c'=>c'=.vl v
  | c,c'=>∃ u,c'=.vl u/\(c.one->u.oneCell'=true)
def A.pl:A->A->Prop
  | .c1 c,.c1 c'=>C.pl c c'
  | .gs cs,.gs cs'=>All2 C.pl cs cs'
  | _,_=>False
def S.pl:S->S->Prop
  | .va a,s=>∃ b,s=.va b/\A.pl a b
  | .tu l,s=>∃ m,s=.tu m/\All2 A.pl l m
  | _,s=>s=.un
theorem C.pl_of {γ γ':List Gb} {ro ro':RO} {c:C} {v:Value} (h:c.rel γ ro v):∃ c',C.pl c c'/\c'.rel γ' ro' v:=by
  cases c with
  | vl u=>exact ⟨.vl u,rfl,h⟩
  | _=>exact ⟨.vl v,⟨v,rfl,fun ho=>C.one_rel ho h⟩,rfl⟩
theorem all2_ex {α β δ:Type} {R:α->β->Prop} {Q:α->δ->Prop} {T:δ->β->Prop} (h:∀ x y,R x y->∃ z,Q x z/\T z y):∀ {l:List α} {m:List β},All2 R l m->∃ k,All2 Q l k/\All2 T k m
  | [],m,hl=>by obtain rfl:=All2.nil_inv hl; exact ⟨[],.nil,.nil⟩
  | x :: l,m,hl=>by
    obtain ⟨y,m',rfl,h1,h2⟩:=All2.cons_inv hl
    obtain ⟨z,q,r⟩:=h x y h1
    obtain ⟨k,q',r'⟩:=all2_ex h h2
    exact ⟨z :: k,.cons q q',.cons r r'⟩
theorem A.pl_of {γ γ':List Gb} {ro ro':RO} {a:A} {v:Value} (h:a.rel γ ro v):∃ a',A.pl a a'/\a'.rel γ' ro' v:=by
  cases a with
  | c1 c=>obtain ⟨c',h1,h2⟩:=C.pl_of (γ':=γ') (ro':=ro') h; exact ⟨.c1 c',h1,h2⟩
  | gs cs=>
    obtain ⟨vs,rfl,h2⟩:=h
    obtain ⟨k,h3,h4⟩:=all2_ex (fun c v hc=>C.pl_of (γ':=γ') (ro':=ro') hc) h2
    exact ⟨.gs k,h3,vs,rfl,h4⟩
theorem S.pl_of {γ γ':List Gb} {ro ro':RO} {r:S} {v:Value} (h:r.rel γ ro v):∃ r',S.pl r r'/\r'.rel γ' ro' v:=by
  cases r with
  | va a=>obtain ⟨a',h1,h2⟩:=A.pl_of (γ':=γ') (ro':=ro') h; exact ⟨.va a',⟨a',rfl,h1⟩,h2⟩
  | tu l=>
    obtain ⟨vs,rfl,h2⟩:=h
    obtain ⟨k,h3,h4⟩:=all2_ex (fun a v ha=>A.pl_of (γ':=γ') (ro':=ro') ha) h2
    exact ⟨.tu k,⟨k,rfl,h3⟩,vs,rfl,h4⟩
  | cn g a=>exact ⟨.un,rfl,trivial⟩
  | un=>exact ⟨.un,rfl,trivial⟩
def borS (s:Spec):Spec:=fun ar H K=>s (ar.map fun a=>(a.bor H).nf) [] fun r _=>∀ r',S.pl r r'->K r' H
theorem Meets.borS (h:Meets P f s):Meets P f (borS s):=by
  refine ⟨h.1,fun ar vs E ro w K hl hrel hr hs=>?_⟩
  obtain ⟨_,_,hrd⟩:=roB_spec hr
  have hloc:Rel ⟨w,blks [],roB E ro,gm []⟩ [] (roB E ro) w:=⟨fun n g blk hn=>by simp at hn,fun n m gn gm bn bm b hn=>by simp at hn,fun b off v hc n g blk hn=>by simp at hn,hrd,Ext.refl _,fun _ _ _ h=>.inl h,
    fun n b g blk hn=>by simp at hn,GExt.refl _,Nat.le_refl _,fun _ _ _=>rfl,rfl,rfl,rfl⟩
  refine (h.2 (ar.map fun a:S=>(a.bor (hp E)).nf) vs [] (roB E ro) w (fun r _=>∀ r',S.pl r r'->K r' (hp E)) (by simpa using hl) ?_ hloc hs).mono ?_
  · intro i x v hx hv
    rw [List.getElem?_map] at hx
    cases hi:ar[i]? with
    | none=>rw [hi] at hx; cases hx
    | some y=>
      rw [hi] at hx
      simp only [Option.map_some,Option.some.injEq] at hx
      subst hx
      exact S.rel_nf (S.rel_bor hr (hrel i y v hi hv))
  · rintro e w' ⟨r,v,E',ro',rfl,hrv,hK,hrel'⟩
    obtain ⟨r',h1,h2⟩:=S.pl_of (γ':=gm E) (ro':=ro) hrv
    exact ⟨r',v,E,ro,rfl,h2,hK r' h1,hr.grown (fun k hk=>hrel'.keep k hk (by simp [blks])) hrel'.sz hrel'.os hrel'.tape hrel'.output⟩
def orS (s t:Spec):Spec:=fun ar H K=>s ar H K\/t ar H K
theorem Meets.orS (h:Meets P f s) (k:Meets P f t):Meets P f (orS s t):=
  ⟨h.1,fun ar vs E ro w K hl hrel hr hs=>hs.elim (h.2 ar vs E ro w K hl hrel hr) (k.2 ar vs E ro w K hl hrel hr)⟩
end
end Go.W
namespace Go.Proofs.YtbolanmlngjdoaaGreat
open Go.W
def crF (a b:Sc):Bool:=a.ss.any fun x=>hasE b.es x.nm
def crPre:List S->Prop:=fun av=>match av with
  | [.va (.gs r),.va (.gs q)]=>isScF r/\isScF q
  | _=>False
theorem crPre_open {av:List S} (h:crPre av):∃ o n:Sc,av=[.va (.gs (scC o)),.va (.gs (scC n))]/\o.fit/\n.fit:=by
  unfold crPre at h
  split at h
  · obtain ⟨⟨o,rfl,ho⟩,⟨n,rfl,hn⟩⟩:=h; exact ⟨o,n,rfl,ho,hn⟩
  · exact h.elim
noncomputable def crVal:List S->A:=fun av=>match av with
  | [.va (.gs r),.va (.gs q)]=>bA (crF (C.sc r) (C.sc q))
  | _=>.gs []
noncomputable def crFn:Fun:=⟨crPre,crVal,fun av h=>by obtain ⟨o,n,rfl,_⟩:=crPre_open h; trivial⟩
theorem crFn_len:∀ av H K,crFn.sp av H K->av.length=2:=fun av H K h=>by obtain ⟨o,n,rfl,_⟩:=crPre_open h.1.1; rfl
attribute [go_sem] crFn crPre crVal
set_option maxRecDepth 100000 in
set_option maxHeartbeats 2000000 in
theorem mCrossed:Meets Tryz.prog 38 crFn.sp:=by
  refine meets_fn Tryz.func38 okM38 2 (by rw [Tryz.ntmps38]; decide) (meetsAll_s mEnumP (meetsAll_nil _)) crFn_len ?_
  rintro av H K ⟨⟨h,rfl⟩,hK⟩
  obtain ⟨a,b,rfl,ha,hb⟩:=crPre_open h
  replace hK:K (bS (crF a b)) []:=by
    have:crFn.val [.va (.gs (scC a)),.va (.gs (scC b))]=bA (crF a b):=by simp -dsimp only [go_sem]
    rw [this] at hK; exact hK
  clear h
  have hl:=ha.ok.ls
  simp (maxSteps:=1000000) -dsimp only [go_sem,scC,pcM38,rsM38]
  refine vc_loop (α:=Nat) (fun i=>[(3,.va (.c1 (.pt 1 0))),(10,.va (.c1 (.fz (a.ss.map stC)))),(11,iS .i64 a.ss.length),(12,iS .i64 i)]) (fun _=>[.cells (scC a) 25,.cells (scC b) 25])
    (fun i=>i<=a.ss.length/\(a.ss.drop i).any (fun x=>hasE b.es x.nm)=crF a b) (fun i=>a.ss.length - i) 0 2 ⟨Nat.zero_le _,rfl⟩ ?_ ?_ ?_
  · simp -dsimp only [go_sem]<;>simp
  · simp -dsimp only [go_sem,scC]<;>simp
  rintro i ⟨hi,ho⟩
  rcases Nat.lt_or_ge i a.ss.length with hlt | hge
  · have hg:decide ((i:Int) < (a.ss.length:Int))=true:=by simp; omega
    obtain ⟨x,hx⟩:∃ t,a.ss[i]? = some t:=⟨_,List.getElem?_eq_getElem hlt⟩
    have q1:=row_rg' (row:=stC) hx
    have hdr:a.ss.drop i=x :: a.ss.drop (i + 1):=by
      obtain ⟨h,rfl⟩:=List.getElem?_eq_some_iff.1 hx
      exact List.drop_eq_getElem_cons h
    rw [hdr,List.any_cons] at ho
    simp (maxSteps:=1000000) -dsimp only [go_sem,hg,↓q1,stC,scC]
    refine ⟨by omega,enp_use (s:=b) hb ?_⟩
    cases hc:hasE b.es x.nm with
    | true=>
      rw [hc,Bool.true_or] at ho
      rw [<-ho] at hK
      simp (maxSteps:=1000000) -dsimp only [go_sem,enC]
      exact .sel [] (by simp) (by simp) rfl (.done (by simpa [go_sem] using hK))
    | false=>
      rw [hc,Bool.false_or] at ho
      simp (maxSteps:=1000000) -dsimp only [go_sem,enC]
      refine ⟨by omega,loop_next (i + 1) 2 ⟨by omega,ho⟩ (by omega) ?_ ?_⟩
      · simp -dsimp only [go_sem]<;>simp
      · simp -dsimp only [go_sem,scC]<;>simp
  · have hg:decide ((i:Int) < (a.ss.length:Int))=false:=by simp; omega
    obtain rfl:i=a.ss.length:=by omega
    rw [List.drop_length,List.any_nil] at ho
    rw [<-ho] at hK
    simp (maxSteps:=1000000) -dsimp only [go_sem,hg,scC]
    exact .sel [] (by simp) (by simp) rfl (.done (by simpa [go_sem] using hK))
set_option maxRecDepth 100000 in
theorem mCopiedN:∀ N,Meets Tryz.prog 43 (ctSp N)
  | 0=>⟨by kernel_rfl,by rintro xs vs E ro w K _ _ _ ⟨t,_,_,_,_,h,_⟩; have:=t.h_pos; omega⟩
  | N + 1=>by
    refine meets_fn Tryz.func43 okM43 1 (by rw [Tryz.ntmps43]; decide) (meetsAll_s (mCopiedN N) (meetsAll_nil _)) (fun av H K h=>by obtain ⟨_,rfl,_⟩:=h; rfl) ?_
    rintro av H K ⟨⟨k,s,n,e⟩,rfl,rfl,h1,h2,h3,hK⟩
    have hle:=h1.len
    have hoe:=h1.e
    obtain ⟨hl,hse⟩:e.length<=1000000000/\∀ t ∈ e,TySm t:=by cases h2; exact ⟨by assumption,by assumption⟩
    simp only [Ty.e] at hle hoe
    simp (maxSteps:=1000000) -dsimp only [go_sem,tyC,tysC_map,pcM43,rsM43]
    refine vc_loop_gh (α:=Nat) (fun i=>[(1,.va (.c1 (.pt 0 0))),(2,.va (.c1 (.pt 1 0))),(9,.va (.c1 (.fz (e.map tyC)))),(10,iS .i64 e.length),(11,iS .i64 i)]) (fun i=>[.cells [.vl (.int .i64 k),.vl (.int .i64 s),.vl (.string n),.sl 2 i] 48,.cells [.vl (.int .i64 0),.vl (.int .i64 0),.vl (.string (mk [])),.vl (.slice none 0 0)] 48,.row ((e.take i).map tyC) 48 4])
      (fun i=>i<=e.length) (fun i=>e.length - i) (.nilc 0 3 48 4 [.vl (.int .i64 k),.vl (.int .i64 s),.vl (.string n),.vl (.slice none 0 0)] 48 rfl rfl (gh_at 0 3 (Nat.zero_le _) ?_ ?_)) ?_
    · simp -dsimp only [go_sem]<;>simp
    · simp -dsimp only [go_sem]<;>simp
    intro i hi
    have hz:(e.take i).length=i:=by rw [List.length_take]; omega
    rcases Nat.lt_or_ge i e.length with hlt | hge
    · have hg:decide ((i:Int) < (e.length:Int))=true:=by simp; omega
      obtain ⟨u,hx⟩:∃ t,e[i]? = some t:=⟨_,List.getElem?_eq_getElem hlt⟩
      have q1:=row_rg' (row:=tyC) hx
      have hu:=List.mem_of_getElem? hx
      simp (maxSteps:=1000000) -dsimp only [go_sem,hg,↓q1,tyC_len]
      refine ⟨by omega,tyC_one u,ct_use (hoe u hu) (hse u hu) ?_ ?_⟩
      · have:=Ty.hs_mem hu; rw [Ty.h] at h3; omega
      simp (maxSteps:=1000000) -dsimp only [go_sem,tyC_len]
      refine ⟨tyC_ss u,tyC_ss u,hz,by omega,by omega,loop_next (i + 1) 3 (by omega) (by omega) ?_ ?_⟩
      · simp -dsimp only [go_sem]<;>simp
      · simp -dsimp only [go_sem,take_next hx]<;>simp
    · have hg:decide ((i:Int) < (e.length:Int))=false:=by simp; omega
      obtain rfl:i=e.length:=by omega
      rw [List.take_length]
      simp (maxSteps:=1000000) -dsimp only [go_sem,hg]
      refine .pub 2 _ _ _ rfl (.sel [] (by simp) (by simp [pubH]) rfl (.done ?_))
      simp -dsimp only [go_sem,pubH]
      simpa [tyC,tysC_map] using hK
def ctS:W.Spec:=fun av H K=>∃ t:Ty,av=[.va (.gs (tyC t))]/\H=[]/\TyOk t/\TySm t/\K (.va (.gs (tyC t))) []
theorem ctS_use {t:Ty} {K:S->Hp->Prop} (h1:TyOk t) (h2:TySm t) (hK:K (.va (.gs (tyC t))) []):ctS [.va (.gs (tyC t))] [] K:=⟨t,rfl,rfl,h1,h2,hK⟩
theorem mCopied:Meets Tryz.prog 43 ctS:=meets_all 0 mCopiedN fun _av _H _K ⟨t,e1,e2,h1,h2,hK⟩=>⟨t.h,t,e1,e2,h1,h2,Nat.le_refl _,hK⟩
structure FlW (f:Fl):Prop where
  ok:f.ok
  sm:TySm f.ty
  lv:(lvT f.ty).1<=1000000000
  num:1<=f.num/\f.num<=127
noncomputable def mfF (f g:Fl):Fl × Bool:=bif f.opt != g.opt then (f,false) else bif widF f.ty g.ty then (⟨f.num,f.nm,g.ty,f.opt⟩,true) else (f,widF g.ty f.ty)
theorem mfF_W {f g:Fl} (hf:FlW f) (hg:FlW g):FlW (mfF f g).1:=by
  unfold mfF
  cases f.opt != g.opt with
  | true=>exact hf
  | false=>
    cases widF f.ty g.ty with
    | true=>exact ⟨⟨hf.ok.num,hf.ok.nm,hg.ok.ty⟩,hg.sm,hg.lv,hf.num⟩
    | false=>exact hf
theorem mfF_num (f g:Fl):(mfF f g).1.num=f.num:=by
  unfold mfF
  cases f.opt != g.opt with
  | true=>rfl
  | false=>cases widF f.ty g.ty<;>rfl
def mfSp:W.Spec:=fun av H K=>∃ f g:Fl,av=[.va (.gs (flC f)),.va (.gs (flC g))]/\H=[]/\f.ok/\g.ok/\K (.tu [.gs (flC (mfF f g).1),bA (mfF f g).2]) []
theorem mf_use {f g:Fl} {K:S->Hp->Prop} (h1:f.ok) (h2:g.ok) (hK:K (.tu [.gs (flC (mfF f g).1),bA (mfF f g).2]) []):mfSp [.va (.gs (flC f)),.va (.gs (flC g))] [] K:=⟨f,g,rfl,rfl,h1,h2,hK⟩
set_option maxRecDepth 100000 in
set_option maxHeartbeats 1000000 in
theorem mMergeField:Meets Tryz.prog 81 mfSp:=by
  refine meets_fn Tryz.func81 okM81 2 (by rw [Tryz.ntmps81]; decide) (meetsAll_f mWidens (meetsAll_nil _)) (fun av H K h=>by obtain ⟨_,_,rfl,_⟩:=h; rfl) ?_
  rintro av H K ⟨f,g,rfl,rfl,hf,hg,hK⟩
  have h1:=flC_isTy hf
  have h2:=flC_isTy hg
  have h3:=flC_dTy f
  have h4:=flC_dTy g
  have e1:(f.opt != g.opt)=!(f.opt == g.opt):=rfl
  unfold mfF at hK
  cases c1:f.opt == g.opt with
  | false=>
    rw [e1,c1,Bool.not_false,Bool.cond_true] at hK
    simp (maxSteps:=1000000) -dsimp only [go_sem,flC,pcM81,rsM81,c1]
    exact .sel [] (by simp) (by simp) rfl (.done (by simpa [go_sem,flC] using hK))
  | true=>
    rw [e1,c1,Bool.not_true,Bool.cond_false] at hK
    cases c2:widF f.ty g.ty with
    | true=>
      rw [c2,Bool.cond_true] at hK
      simp (maxSteps:=1000000) -dsimp only [go_sem,flC,pcM81,rsM81,c1,h1,h2,h3,h4,c2]
      exact .sel [] (by simp) (by simp) rfl (.done (by simpa [go_sem,flC] using hK))
    | false=>
      rw [c2,Bool.cond_false] at hK
      simp (maxSteps:=1000000) -dsimp only [go_sem,flC,pcM81,rsM81,c1,h1,h2,h3,h4,c2]
      exact .sel [] (by simp) (by simp) rfl (.done (by simpa [go_sem,flC] using hK))
end Go.Proofs.YtbolanmlngjdoaaGreat
namespace Go.Proofs.YtbolanmlngjdoaaGreat
open Go.W
structure StM (t:St):Prop where
  nm:t.nm.size<=9223372036854775807
  len:t.fs.length<=1000
  fs:∀ f ∈ t.fs,FlW f
theorem StM.ok {t:St} (h:StM t):t.ok:=⟨h.nm,by have:=h.len; omega,fun f hf=>(h.fs f hf).ok⟩
theorem StM.sm {t:St} (h:StM t):∀ f ∈ t.fs,TySm f.ty:=fun f hf=>(h.fs f hf).sm
noncomputable def msA (b:List Fl):List Fl->List Fl->Option (List Fl)
  | l,[]=>some l
  | l,f :: r=>match fF b f.num with
    | some g=>bif (mfF f g).2 then msA b (l ++ [(mfF f g).1]) r else none
    | none=>bif f.opt then msA b (l ++ [f]) r else none
def msB (a:List Fl):List Fl->List Fl->Option (List Fl)
  | l,[]=>some l
  | l,g :: r=>bif (fF a g.num).isSome then msB a l r else bif g.opt then msB a (l ++ [g]) r else none
noncomputable def msL (a b:List Fl):Option (List Fl):=(msA b [] a).bind fun l=>msB a l b
theorem msA_nums {b:List Fl}:∀ {r l o:List Fl},msA b l r=some o->o.map Fl.num=l.map Fl.num ++ r.map Fl.num
  | [],l,o,h=>by rw [msA,Option.some.injEq] at h; rw [<-h]; simp
  | f :: r,l,o,h=>by
    rw [msA] at h
    split at h
    · rename_i g _
      cases hc:(mfF f g).2 with
      | true=>rw [hc] at h; rw [msA_nums h]; simp [mfF_num]
      | false=>rw [hc] at h; cases h
    · cases hc:f.opt with
      | true=>rw [hc] at h; rw [msA_nums h]; simp
      | false=>rw [hc] at h; cases h
theorem msB_nums {a:List Fl}:∀ {r l o:List Fl},msB a l r=some o->o.map Fl.num=l.map Fl.num ++ (r.filter fun g=>!(fF a g.num).isSome).map Fl.num
  | [],l,o,h=>by rw [msB,Option.some.injEq] at h; rw [<-h]; simp
  | g :: r,l,o,h=>by
    rw [msB] at h
    cases hs:(fF a g.num).isSome with
    | true=>rw [hs] at h; rw [msB_nums h,List.filter_cons_of_neg (by rw [hs]; simp)]
    | false=>
      rw [hs,Bool.cond_false] at h
      cases hc:g.opt with
      | true=>rw [hc] at h; rw [msB_nums h,List.filter_cons_of_pos (by rw [hs]; rfl)]; simp
      | false=>rw [hc] at h; cases h
theorem fF_none {l:List Fl} {k:Int} (h:(fF l k).isSome=false):k ∉ l.map Fl.num:=by
  intro hm
  obtain ⟨f,hf,rfl⟩:=List.mem_map.1 hm
  unfold fF at h
  rw [Option.isSome_eq_false_iff,Option.isNone_iff_eq_none,List.find?_eq_none] at h
  have:=h f hf
  simp at this
theorem msL_nums {a b l:List Fl} (h:msL a b=some l):l.map Fl.num=a.map Fl.num ++ (b.filter fun g=>!(fF a g.num).isSome).map Fl.num:=by
  unfold msL at h
  obtain ⟨m,h1,h2⟩:=Option.bind_eq_some_iff.1 h
  rw [msB_nums h2,msA_nums h1]; simp
theorem msL_nodup {a b l:List Fl} (h:msL a b=some l) (ha:(a.map Fl.num).Nodup) (hb:(b.map Fl.num).Nodup):(l.map Fl.num).Nodup:=by
  rw [msL_nums h,List.nodup_append]
  refine ⟨ha,hb.sublist ((List.filter_sublist (l:=b)).map Fl.num),fun x hx y hy e=>?_⟩
  obtain ⟨g,hg,rfl⟩:=List.mem_map.1 hy
  have:=(List.mem_filter.1 hg).2
  exact fF_none (by simpa using this) (e ▸ hx)
def msK (K:S->Hp->Prop) (nm:ByteArray):Option (List Fl)->Prop
  | some l=>K (.tu [.gs (stC ⟨nm,sortBy Fl.num l⟩),bA true]) []
  | none=>∀ t:St,StM t->K (.tu [.gs (stC t),bA false]) []
def msSp:W.Spec:=fun av H K=>∃ a b:St,av=[.va (.gs (stC a)),.va (.gs (stC b))]/\H=[]/\(StM a/\a.fs.length<=100/\(a.fs.map Fl.num).Nodup)/\(StM b/\b.fs.length<=100/\(b.fs.map Fl.num).Nodup)/\msK K a.nm (msL a.fs b.fs)
theorem ms_use {a b:St} {K:S->Hp->Prop} (h1:StM a/\a.fs.length<=100/\(a.fs.map Fl.num).Nodup) (h2:StM b/\b.fs.length<=100/\(b.fs.map Fl.num).Nodup) (hK:msK K a.nm (msL a.fs b.fs)):msSp [.va (.gs (stC a)),.va (.gs (stC b))] [] K:=⟨a,b,rfl,rfl,h1,h2,hK⟩
set_option maxRecDepth 100000 in
set_option maxHeartbeats 4000000 in
theorem mMergeStruct:Meets Tryz.prog 42 msSp:=by
  refine meets_fn Tryz.func42 okM42 2 (by rw [Tryz.ntmps42]; decide) (meetsAll_s mFieldOfP (meetsAll_s mMergeField (meetsAll_s mSortV (meetsAll_nil _)))) (fun av H K h=>by obtain ⟨_,_,rfl,_⟩:=h; rfl) ?_
  rintro av H K ⟨a,b,rfl,rfl,⟨ga,hla,na⟩,⟨gb,hlb,nb⟩,hK⟩
  simp (maxSteps:=1000000) -dsimp only [go_sem,stC,pcM42,rsM42]
  have bad:∀ (L:List Fl),L.length<=1000->(∀ f ∈ L,FlW f)->msL a.fs b.fs=none->K (.tu [.gs [.vl (.string a.nm),.fz (L.map flC)],bA false]) []:=fun L h1 h2 h3=>by
    rw [h3] at hK
    exact hK ⟨a.nm,L⟩ ⟨ga.nm,h1,h2⟩
  refine vc_loop_gh (α:=Nat × List Fl) (fun z=>[(2,.va (.c1 (.pt 0 0))),(3,.va (.c1 (.pt 1 0))),(4,.va (.c1 (.pt 2 0))),(6,.va (.c1 (.pt 3 0))),(20,.va (.c1 (.fz (a.fs.map flC)))),(21,iS .i64 a.fs.length),(22,iS .i64 z.1)])
    (fun z=>[.cells (stC a) 37,.cells (stC b) 37,.cells [.vl (.string (mk [])),.vl (.slice none 0 0)] 37,.cells [.vl (.string a.nm),.sl 4 z.2.length] 37,.row (z.2.map flC) 50 7])
    (fun z=>z.1<=a.fs.length/\msA b.fs z.2 (a.fs.drop z.1)=msA b.fs [] a.fs/\z.2.length<=z.1/\∀ f ∈ z.2,FlW f) (fun z=>a.fs.length - z.1)
    (.nilc 3 1 50 7 [.vl (.string a.nm),.vl (.slice none 0 0)] 37 rfl rfl (gh_at (0,[]) 5 ⟨Nat.zero_le _,rfl,Nat.le_refl _,fun f hf=>by cases hf⟩ ?_ ?_)) ?_
  · simp -dsimp only [go_sem]<;>simp
  · simp -dsimp only [go_sem,stC]<;>simp
  rintro ⟨i,L⟩ ⟨hi,hm,hll,hw⟩
  simp only at hi hm hll hw ⊢
  rcases Nat.lt_or_ge i a.fs.length with hlt | hge
  · have hg:decide ((i:Int) < (a.fs.length:Int))=true:=by simp; omega
    obtain ⟨f,hx⟩:∃ t,a.fs[i]? = some t:=⟨_,List.getElem?_eq_getElem hlt⟩
    have q1:=row_rg' (row:=flC) hx
    have hfm:=List.mem_of_getElem? hx
    have hfw:=ga.fs f hfm
    have hdr:a.fs.drop i=f :: a.fs.drop (i + 1):=by
      obtain ⟨h,rfl⟩:=List.getElem?_eq_some_iff.1 hx
      exact List.drop_eq_getElem_cons h
    rw [hdr,msA] at hm
    have nxt:∀ f':Fl,FlW f'->∀ x ∈ L ++ [f'],FlW x:=fun f' h x hx=>by
      rcases List.mem_append.1 hx with hx | hx
      · exact hw x hx
      · obtain rfl:=List.mem_singleton.1 hx; exact h
    simp (maxSteps:=1000000) -dsimp only [go_sem,hg,↓q1,stC,flC]
    refine ⟨by omega,fop_use (t:=b) gb.ok gb.sm ?_⟩
    cases hfo:fF b.fs f.num with
    | none=>
      rw [hfo] at hm
      simp only at hm
      cases ho:f.opt with
      | true=>
        rw [ho,Bool.cond_true] at hm
        simp (maxSteps:=1000000) -dsimp only [go_sem,Option.getD_none,Option.isSome_none,flC_def]
        refine ⟨by omega,by omega,loop_next (i + 1,L ++ [f]) 5 ⟨by simp only; omega,hm,by simp only [List.length_append,List.length_singleton]; omega,nxt f hfw⟩ (by simp only; omega) ?_ ?_⟩
        · simp -dsimp only [go_sem]<;>simp
        · simp -dsimp only [go_sem,stC]<;>simp [flC,ho]
      | false=>
        rw [ho,Bool.cond_false] at hm
        simp (maxSteps:=1000000) -dsimp only [go_sem,Option.getD_none,Option.isSome_none,flC_def]
        refine .pub 4 _ _ _ rfl (.sel [] (by simp) (by simp [pubH]) rfl (.done ?_))
        simp -dsimp only [go_sem,pubH]
        simpa using bad L (by omega) hw (by unfold msL; rw [<-hm]; rfl)
    | some g=>
      rw [hfo] at hm
      simp only at hm
      have hgm:=(fF_some hfo).1
      have hgw:=gb.fs g hgm
      have hmw:=mfF_W hfw hgw
      simp (maxSteps:=1000000) -dsimp only [go_sem,Option.getD_some,Option.isSome_some,flC]
      refine mf_use (f:=f) (g:=g) hfw.ok hgw.ok ?_
      generalize mfF f g=M at *
      obtain ⟨f',ok⟩:=M
      simp only at hm hmw
      cases ok with
      | true=>
        rw [Bool.cond_true] at hm
        simp (maxSteps:=1000000) -dsimp only [go_sem,flC]
        refine ⟨by omega,by omega,loop_next (i + 1,L ++ [f']) 5 ⟨by simp only; omega,hm,by simp only [List.length_append,List.length_singleton]; omega,nxt f' hmw⟩ (by simp only; omega) ?_ ?_⟩
        · simp -dsimp only [go_sem]<;>simp
        · simp -dsimp only [go_sem,stC]<;>simp [flC]
      | false=>
        rw [Bool.cond_false] at hm
        simp (maxSteps:=1000000) -dsimp only [go_sem,flC]
        refine .pub 4 _ _ _ rfl (.sel [] (by simp) (by simp [pubH]) rfl (.done ?_))
        simp -dsimp only [go_sem,pubH]
        simpa using bad L (by omega) hw (by unfold msL; rw [<-hm]; rfl)
  · have hg:decide ((i:Int) < (a.fs.length:Int))=false:=by simp; omega
    obtain rfl:i=a.fs.length:=by omega
    rw [List.drop_length,msA] at hm
    simp (maxSteps:=1000000) -dsimp only [go_sem,hg,stC]
    have hL0:msL a.fs b.fs=msB a.fs L b.fs:=by unfold msL; rw [<-hm]; rfl
    refine vc_loop (α:=Nat × List Fl) (fun z=>[(2,.va (.c1 (.pt 0 0))),(4,.va (.c1 (.pt 2 0))),(6,.va (.c1 (.pt 3 0))),(53,.va (.c1 (.fz (b.fs.map flC)))),(54,iS .i64 b.fs.length),(55,iS .i64 z.1)])
      (fun z=>[.cells (stC a) 37,.cells (stC b) 37,.cells [.vl (.string (mk [])),.vl (.slice none 0 0)] 37,.cells [.vl (.string a.nm),.sl 4 z.2.length] 37,.row (z.2.map flC) 50 7])
      (fun z=>z.1<=b.fs.length/\msB a.fs z.2 (b.fs.drop z.1)=msL a.fs b.fs/\z.2.length<=100 + z.1/\∀ f ∈ z.2,FlW f) (fun z=>b.fs.length - z.1) (0,L) 5 ⟨Nat.zero_le _,hL0.symm,by simp only; omega,hw⟩ ?_ ?_ ?_
    · simp -dsimp only [go_sem]<;>simp
    · simp -dsimp only [go_sem,stC]<;>simp
    clear hw hL0
    rintro ⟨j,M⟩ ⟨hj,hn,hml,hw⟩
    simp only at hj hn hml hw ⊢
    rcases Nat.lt_or_ge j b.fs.length with hltj | hgej
    · have hgj:decide ((j:Int) < (b.fs.length:Int))=true:=by simp; omega
      obtain ⟨g,hx⟩:∃ t,b.fs[j]? = some t:=⟨_,List.getElem?_eq_getElem hltj⟩
      have q1:=row_rg' (row:=flC) hx
      have hgm:=List.mem_of_getElem? hx
      have hgw:=gb.fs g hgm
      have hdr:b.fs.drop j=g :: b.fs.drop (j + 1):=by
        obtain ⟨h,rfl⟩:=List.getElem?_eq_some_iff.1 hx
        exact List.drop_eq_getElem_cons h
      rw [hdr,msB] at hn
      have nxt:∀ x ∈ M ++ [g],FlW x:=fun x hx=>by
        rcases List.mem_append.1 hx with hx | hx
        · exact hw x hx
        · obtain rfl:=List.mem_singleton.1 hx; exact hgw
      simp (maxSteps:=1000000) -dsimp only [go_sem,hgj,↓q1,stC,flC]
      refine ⟨by omega,fop_use (t:=a) ga.ok ga.sm ?_⟩
      cases hfo:(fF a.fs g.num).isSome with
      | true=>
        rw [hfo,Bool.cond_true] at hn
        simp (maxSteps:=1000000) -dsimp only [go_sem,flC]
        refine ⟨by omega,loop_next (j + 1,M) 5 ⟨by simp only; omega,hn,by simp only; omega,hw⟩ (by simp only; omega) ?_ ?_⟩
        · simp -dsimp only [go_sem]<;>simp
        · simp -dsimp only [go_sem,stC]<;>simp
      | false=>
        rw [hfo,Bool.cond_false] at hn
        simp (maxSteps:=1000000) -dsimp only [go_sem,flC]
        refine ⟨fun ho=>?_,fun ho=>?_⟩
        · rw [ho,Bool.cond_false] at hn
          refine .pub 4 _ _ _ rfl (.sel [] (by simp) (by simp [pubH]) rfl (.done ?_))
          simp -dsimp only [go_sem,pubH]
          simpa using bad M (by omega) hw hn.symm
        · replace ho:g.opt=true:=by simpa using ho
          rw [ho,Bool.cond_true] at hn
          refine ⟨by omega,by omega,loop_next (j + 1,M ++ [g]) 5 ⟨by simp only; omega,hn,by simp only [List.length_append,List.length_singleton]; omega,nxt⟩ (by simp only; omega) ?_ ?_⟩
          · simp -dsimp only [go_sem]<;>simp
          · simp -dsimp only [go_sem,stC,ho]<;>simp [flC,ho]
    · have hgj:decide ((j:Int) < (b.fs.length:Int))=false:=by simp; omega
      obtain rfl:j=b.fs.length:=by omega
      rw [List.drop_length,msB] at hn
      rw [<-hn] at hK
      simp (maxSteps:=1000000) -dsimp only [go_sem,hgj,stC]
      refine srv_use (l:=M) (by omega) (fun x hx=>by have:=(hw x hx).num; omega) fun l' hp hs=>?_
      obtain rfl:=sort_unique hp hs (msL_nodup hn.symm na nb)
      have hK:K (.tu [.gs [.vl (.string a.nm),.fz ((sortBy Fl.num M).map flC)],bA true]) []:=hK
      have hML:=hp.length_eq
      generalize sortBy Fl.num M=M' at *
      rw [<-hML]
      simp (maxSteps:=1000000) -dsimp only [go_sem]
      refine .pub 4 _ _ _ rfl (.sel [] (by simp) (by simp [pubH]) rfl (.done ?_))
      simp -dsimp only [go_sem,pubH]
      simpa using hK
end Go.Proofs.YtbolanmlngjdoaaGreat
namespace Go.Proofs.YtbolanmlngjdoaaGreat
open Go.W
def pcM14_21:PC:=.gh (.ord  [.q ⟨some 102,none,.q (.fa 1 (.t 9))⟩,.q ⟨some 103,none,.l (.ld1 (.t 102))⟩,.q ⟨some 104,none,.q (.fa 0 (.t 13))⟩,.q ⟨some 105,none,.l (.ld1 (.t 104))⟩,.q ⟨some 106,none,.q (.fa 1 (.t 13))⟩,.q ⟨some 107,none,.l (.ld1 (.t 106))⟩,.q ⟨some 109,none,.q (.fa 2 (.t 13))⟩,.q ⟨some 110,none,.l (.ld1 (.t 109))⟩,.m ⟨some 108,none,.cl 40 [(.t 107)] []⟩,.rc ⟨some 102,none,.q (.fa 1 (.t 9))⟩,.rc ⟨some 103,none,.l (.ld1 (.t 102))⟩,.rc ⟨some 104,none,.q (.fa 0 (.t 13))⟩,.rc ⟨some 105,none,.l (.ld1 (.t 104))⟩,.rc ⟨some 109,none,.q (.fa 2 (.t 13))⟩,.rc ⟨some 110,none,.l (.ld1 (.t 109))⟩,.m ⟨some 111,none,.cl 41 [(.t 110)] []⟩,.rc ⟨some 102,none,.q (.fa 1 (.t 9))⟩,.rc ⟨some 103,none,.l (.ld1 (.t 102))⟩,.rc ⟨some 104,none,.q (.fa 0 (.t 13))⟩,.rc ⟨some 105,none,.l (.ld1 (.t 104))⟩,.q ⟨some 112,none,.q (.bd [(.string (mk [])),(.slice none 0 0),(.slice none 0 0)] [(0,1,(.t 105)),(1,1,(.t 108)),(2,1,(.t 111))])⟩,.m ⟨some 113,none,.e (.bsl 60 3 [(.t 112)])⟩,.rc ⟨some 102,none,.q (.fa 1 (.t 9))⟩,.rc ⟨some 103,none,.l (.ld1 (.t 102))⟩,.m ⟨some 114,none,.e (.ap 60 3 64 (.t 103) (.t 113))⟩,.q ⟨some 115,none,.q (.fa 1 (.t 9))⟩,.m ⟨none,none,.e (.st 1 (.t 115) (.t 114))⟩])
@[go_sem ↓] theorem foldM14_21 (Γ:Env) (k0:Nat) (fr:Fr) (H:Hp) (K:Ex->Fr->Hp->Prop):vc Γ k0 pcM14_21 fr H K=vcn Γ k0 pcM14_21 fr H K ⟨⟩:=rfl
def pcM14_39:PC:=.gh (.reg [⟨some 172,none,.q (.fa 2 (.t 9))⟩,⟨some 173,none,.l (.ld1 (.t 172))⟩,⟨some 174,none,.l (.ldn 2 (.t 28))⟩,⟨some 175,none,.e (.bsl 37 2 [(.t 174)])⟩,⟨some 176,none,.e (.ap 37 2 40 (.t 173) (.t 175))⟩,⟨some 177,none,.q (.fa 2 (.t 9))⟩,⟨none,none,.e (.st 1 (.t 177) (.t 176))⟩])
@[go_sem ↓] theorem foldM14_39 (Γ:Env) (k0:Nat) (fr:Fr) (H:Hp) (K:Ex->Fr->Hp->Prop):vc Γ k0 pcM14_39 fr H K=vcn Γ k0 pcM14_39 fr H K ⟨⟩:=rfl
def pcM14_32:PC:=.seq (.gh (.reg [⟨some 151,none,.q (.fa 0 (.t 21))⟩,⟨some 152,none,.l (.ld1 (.t 151))⟩,⟨some 153,none,.q (.bd [(.string (mk [])),(.slice none 0 0)] [(0,1,(.t 152))])⟩,⟨some 28,none,.e (.al (.agg #[(.string (mk [])),(.slice none 0 0)]) 37)⟩,⟨none,none,.e (.st 2 (.t 28) (.t 153))⟩])) (.seq (.seq (.reg [⟨some 154,none,.q (.fa 1 (.t 21))⟩,⟨some 155,none,.l (.ld1 (.t 154))⟩,⟨some 156,none,.q (.lnL (.t 155))⟩,⟨some 157,none,.q (.mv (.k (.int .i64 0)))⟩]) (.block 6 (.loop (.seq (.reg [⟨some 158,none,.q (.bin .lss true (.t 157) (.t 156))⟩]) (.seq (.cond (.t 158) .skip (.exit 6)) (.seq (.block 7 (.seq (.reg [⟨some 159,none,.l (.ia 7 (.t 155) (.t 157))⟩,⟨some 160,none,.l (.ldn 7 (.t 159))⟩,⟨some 30,none,.e (.al (.agg #[(.int .i64 0),(.string (mk [])),(.int .i64 0),(.int .i64 0),(.string (mk [])),(.slice none 0 0),(.bool false)]) 50)⟩,⟨none,none,.e (.st 7 (.t 30) (.t 160))⟩]) (.seq (.reg [⟨some 161,none,.q (.fa 2 (.t 30))⟩,⟨some 162,none,.l (.ldn 4 (.t 161))⟩,⟨some 163,none,.cl 43 [(.t 162)] []⟩,⟨some 164,none,.q (.fa 2 (.t 30))⟩,⟨none,none,.e (.st 4 (.t 164) (.t 163))⟩]) (.reg [⟨some 165,none,.q (.fa 1 (.t 28))⟩,⟨some 166,none,.l (.ld1 (.t 165))⟩,⟨some 167,none,.l (.ldn 7 (.t 30))⟩,⟨some 168,none,.e (.bsl 50 7 [(.t 167)])⟩,⟨some 169,none,.e (.ap 50 7 88 (.t 166) (.t 168))⟩,⟨some 170,none,.q (.fa 1 (.t 28))⟩,⟨none,none,.e (.st 1 (.t 170) (.t 169))⟩])))) (.reg [⟨some 171,none,.q (.bin .add true (.t 157) (.k (.int .i64 1)))⟩,⟨some 157,none,.q (.mv (.t 171))⟩]))))))) (pcM14_39))
@[go_sem ↓] theorem foldM14_32 (Γ:Env) (k0:Nat) (fr:Fr) (H:Hp) (K:Ex->Fr->Hp->Prop):vc Γ k0 pcM14_32 fr H K=vcn Γ k0 pcM14_32 fr H K ⟨⟩:=rfl
def pcM14:PC:=.seq (.reg [⟨some 2,none,.e (.bx 25 (.t 0))⟩,⟨some 3,none,.e (.bx 25 (.t 1))⟩,⟨some 4,none,.e (.al (.agg #[(.int .i64 0),(.slice none 0 0),(.slice none 0 0)]) 25)⟩,⟨some 5,none,.q (.mv (.k (.int .i64 0)))⟩]) (.seq (.seq (.reg [⟨some 32,none,.l (.ldn 3 (.t 2))⟩,⟨some 33,none,.cq 18 [(.t 32)]⟩,⟨some 6,none,.q (.mv (.t 33))⟩]) (.seq (.reg [⟨some 34,none,.q (.mv (.t 6))⟩,⟨some 35,none,.q (.bin .neq true (.t 34) (.k (.int .i64 0)))⟩]) (.cond (.t 35) (.seq (.reg [⟨some 36,none,.q (.bd [(.int .i64 0),(.slice none 0 0),(.slice none 0 0)] [])⟩,⟨some 37,none,.q (.mv (.t 6))⟩,⟨none,none,.e (.st 3 (.t 4) (.t 36))⟩,⟨some 5,none,.q (.mv (.t 37))⟩]) .ret) .skip))) (.seq (.seq (.reg [⟨some 38,none,.l (.ldn 3 (.t 3))⟩,⟨some 39,none,.cq 18 [(.t 38)]⟩,⟨some 7,none,.q (.mv (.t 39))⟩]) (.seq (.reg [⟨some 40,none,.q (.mv (.t 7))⟩,⟨some 41,none,.q (.bin .neq true (.t 40) (.k (.int .i64 0)))⟩]) (.cond (.t 41) (.seq (.reg [⟨some 42,none,.q (.bd [(.int .i64 0),(.slice none 0 0),(.slice none 0 0)] [])⟩,⟨some 43,none,.q (.mv (.t 7))⟩,⟨none,none,.e (.st 3 (.t 4) (.t 42))⟩,⟨some 5,none,.q (.mv (.t 43))⟩]) .ret) .skip))) (.seq (.reg [⟨some 44,none,.l (.ldn 3 (.t 2))⟩,⟨some 45,none,.l (.ldn 3 (.t 3))⟩,⟨some 46,none,.cq 38 [(.t 44),(.t 45)]⟩,⟨some 47,none,.q (.not (.t 46))⟩,⟨some 48,none,.q (.mv (.t 47))⟩,⟨some 49,(some (48,true)),.l (.ldn 3 (.t 3))⟩,⟨some 50,(some (48,true)),.l (.ldn 3 (.t 2))⟩,⟨some 51,(some (48,true)),.cq 38 [(.t 49),(.t 50)]⟩,⟨some 52,(some (48,true)),.q (.not (.t 51))⟩,⟨some 53,none,.pick (.t 48) (.t 52) (.k (.bool false))⟩,⟨some 8,none,.q (.mv (.t 53))⟩]) (.seq (.reg [⟨some 54,none,.q (.fa 0 (.t 2))⟩,⟨some 55,none,.l (.ld1 (.t 54))⟩,⟨some 56,none,.q (.fa 0 (.t 3))⟩,⟨some 57,none,.l (.ld1 (.t 56))⟩,⟨some 58,none,.q (.mx true (.t 55) (.t 57))⟩,⟨some 59,none,.q (.bd [(.int .i64 0),(.slice none 0 0),(.slice none 0 0)] [(0,1,(.t 58))])⟩,⟨some 9,none,.e (.al (.agg #[(.int .i64 0),(.slice none 0 0),(.slice none 0 0)]) 25)⟩,⟨none,none,.e (.st 3 (.t 9) (.t 59))⟩]) (.seq (.seq (.reg [⟨some 60,none,.l (.ldn 3 (.t 2))⟩,⟨some 61,none,.l (.ldn 3 (.t 3))⟩,⟨some 62,none,.e (.bsl 25 3 [(.t 60),(.t 61)])⟩,⟨some 63,none,.q (.lnL (.t 62))⟩,⟨some 64,none,.q (.mv (.k (.int .i64 0)))⟩]) (.block 0 (.loop (.seq (.reg [⟨some 65,none,.q (.bin .lss true (.t 64) (.t 63))⟩]) (.seq (.cond (.t 65) .skip (.exit 0)) (.seq (.block 1 (.seq (.reg [⟨some 66,none,.l (.ia 3 (.t 62) (.t 64))⟩,⟨some 67,none,.l (.ldn 3 (.t 66))⟩,⟨some 11,none,.e (.al (.agg #[(.int .i64 0),(.slice none 0 0),(.slice none 0 0)]) 25)⟩,⟨none,none,.e (.st 3 (.t 11) (.t 67))⟩]) (.seq (.seq (.reg [⟨some 68,none,.q (.fa 1 (.t 11))⟩,⟨some 69,none,.l (.ld1 (.t 68))⟩,⟨some 70,none,.q (.lnL (.t 69))⟩,⟨some 71,none,.q (.mv (.k (.int .i64 0)))⟩]) (.block 2 (.loop (.seq (.reg [⟨some 72,none,.q (.bin .lss true (.t 71) (.t 70))⟩]) (.seq (.cond (.t 72) .skip (.exit 2)) (.seq (.block 3 (.seq (.reg [⟨some 73,none,.l (.ia 3 (.t 69) (.t 71))⟩,⟨some 74,none,.l (.ldn 3 (.t 73))⟩,⟨some 13,none,.e (.al (.agg #[(.string (mk [])),(.slice none 0 0),(.slice none 0 0)]) 60)⟩,⟨none,none,.e (.st 3 (.t 13) (.t 74))⟩]) (.seq (.seq (.reg [⟨some 76,none,.l (.ldn 3 (.t 9))⟩,⟨some 77,none,.q (.fa 0 (.t 13))⟩,⟨some 78,none,.l (.ld1 (.t 77))⟩,⟨some 79,none,.cl 23 [(.t 76),(.t 78)] [5,6]⟩,⟨some 75,none,.q (.mv (.t 79))⟩,⟨some 80,none,.q (.ex (.t 75) 0)⟩,⟨some 81,none,.q (.ex (.t 75) 1)⟩,⟨some 14,none,.e (.al (.agg #[(.string (mk [])),(.slice none 0 0),(.slice none 0 0)]) 60)⟩,⟨none,none,.e (.st 3 (.t 14) (.t 80))⟩,⟨some 15,none,.q (.mv (.t 81))⟩]) (.seq (.reg [⟨some 82,none,.q (.mv (.t 15))⟩]) (.cond (.t 82) (.exit 3) .skip))) (.seq (.seq (.reg [⟨some 84,none,.l (.ldn 3 (.t 3))⟩,⟨some 85,none,.q (.fa 0 (.t 13))⟩,⟨some 86,none,.l (.ld1 (.t 85))⟩,⟨some 87,none,.cl 23 [(.t 84),(.t 86)] []⟩,⟨some 83,none,.q (.mv (.t 87))⟩,⟨some 88,none,.q (.ex (.t 83) 0)⟩,⟨some 89,none,.q (.ex (.t 83) 1)⟩,⟨some 16,none,.e (.al (.agg #[(.string (mk [])),(.slice none 0 0),(.slice none 0 0)]) 60)⟩,⟨none,none,.e (.st 3 (.t 16) (.t 88))⟩,⟨some 17,none,.q (.mv (.t 89))⟩]) (.seq (.reg [⟨some 90,none,.q (.mv (.t 17))⟩]) (.cond (.t 90) (.seq (.reg [⟨some 92,none,.l (.ldn 3 (.t 13))⟩,⟨some 93,none,.l (.ldn 3 (.t 16))⟩,⟨some 94,none,.cl 39 [(.t 92),(.t 93)] []⟩,⟨some 91,none,.q (.mv (.t 94))⟩,⟨some 95,none,.q (.ex (.t 91) 0)⟩,⟨some 96,none,.q (.ex (.t 91) 1)⟩,⟨some 18,none,.e (.al (.agg #[(.string (mk [])),(.slice none 0 0),(.slice none 0 0)]) 60)⟩,⟨none,none,.e (.st 3 (.t 18) (.t 95))⟩,⟨some 19,none,.q (.mv (.t 96))⟩]) (.reg [⟨some 97,none,.l (.ldn 3 (.t 18))⟩,⟨some 98,none,.q (.mv (.t 8))⟩,⟨some 99,none,.q (.mv (.t 98))⟩,⟨some 100,(some (99,true)),.q (.mv (.t 19))⟩,⟨some 101,none,.pick (.t 99) (.t 100) (.k (.bool false))⟩,⟨none,none,.e (.st 3 (.t 13) (.t 97))⟩,⟨some 8,none,.q (.mv (.t 101))⟩])) .skip))) (pcM14_21))))) (.reg [⟨some 116,none,.q (.bin .add true (.t 71) (.k (.int .i64 1)))⟩,⟨some 71,none,.q (.mv (.t 116))⟩]))))))) (.seq (.reg [⟨some 117,none,.q (.fa 2 (.t 11))⟩,⟨some 118,none,.l (.ld1 (.t 117))⟩,⟨some 119,none,.q (.lnL (.t 118))⟩,⟨some 120,none,.q (.mv (.k (.int .i64 0)))⟩]) (.block 4 (.loop (.seq (.reg [⟨some 121,none,.q (.bin .lss true (.t 120) (.t 119))⟩]) (.seq (.cond (.t 121) .skip (.exit 4)) (.seq (.block 5 (.seq (.reg [⟨some 122,none,.l (.ia 2 (.t 118) (.t 120))⟩,⟨some 123,none,.l (.ldn 2 (.t 122))⟩,⟨some 21,none,.e (.al (.agg #[(.string (mk [])),(.slice none 0 0)]) 37)⟩,⟨none,none,.e (.st 2 (.t 21) (.t 123))⟩]) (.seq (.seq (.reg [⟨some 125,none,.l (.ldn 3 (.t 9))⟩,⟨some 126,none,.q (.fa 0 (.t 21))⟩,⟨some 127,none,.l (.ld1 (.t 126))⟩,⟨some 128,none,.cl 20 [(.t 125),(.t 127)] [5,6]⟩,⟨some 124,none,.q (.mv (.t 128))⟩,⟨some 129,none,.q (.ex (.t 124) 0)⟩,⟨some 130,none,.q (.ex (.t 124) 1)⟩,⟨some 22,none,.e (.al (.agg #[(.string (mk [])),(.slice none 0 0)]) 37)⟩,⟨none,none,.e (.st 2 (.t 22) (.t 129))⟩,⟨some 23,none,.q (.mv (.t 130))⟩]) (.seq (.reg [⟨some 131,none,.q (.mv (.t 23))⟩]) (.cond (.t 131) (.exit 5) .skip))) (.seq (.seq (.reg [⟨some 133,none,.l (.ldn 3 (.t 3))⟩,⟨some 134,none,.q (.fa 0 (.t 21))⟩,⟨some 135,none,.l (.ld1 (.t 134))⟩,⟨some 136,none,.cl 20 [(.t 133),(.t 135)] []⟩,⟨some 132,none,.q (.mv (.t 136))⟩,⟨some 137,none,.q (.ex (.t 132) 0)⟩,⟨some 138,none,.q (.ex (.t 132) 1)⟩,⟨some 24,none,.e (.al (.agg #[(.string (mk [])),(.slice none 0 0)]) 37)⟩,⟨none,none,.e (.st 2 (.t 24) (.t 137))⟩,⟨some 25,none,.q (.mv (.t 138))⟩]) (.seq (.reg [⟨some 139,none,.q (.mv (.t 25))⟩]) (.cond (.t 139) (.seq (.reg [⟨some 141,none,.l (.ldn 2 (.t 21))⟩,⟨some 142,none,.l (.ldn 2 (.t 24))⟩,⟨some 143,none,.cl 42 [(.t 141),(.t 142)] []⟩,⟨some 140,none,.q (.mv (.t 143))⟩,⟨some 144,none,.q (.ex (.t 140) 0)⟩,⟨some 145,none,.q (.ex (.t 140) 1)⟩,⟨some 26,none,.e (.al (.agg #[(.string (mk [])),(.slice none 0 0)]) 37)⟩,⟨none,none,.e (.st 2 (.t 26) (.t 144))⟩,⟨some 27,none,.q (.mv (.t 145))⟩]) (.reg [⟨some 146,none,.l (.ldn 2 (.t 26))⟩,⟨some 147,none,.q (.mv (.t 8))⟩,⟨some 148,none,.q (.mv (.t 147))⟩,⟨some 149,(some (148,true)),.q (.mv (.t 27))⟩,⟨some 150,none,.pick (.t 148) (.t 149) (.k (.bool false))⟩,⟨none,none,.e (.st 2 (.t 21) (.t 146))⟩,⟨some 8,none,.q (.mv (.t 150))⟩])) .skip))) (pcM14_32))))) (.reg [⟨some 178,none,.q (.bin .add true (.t 120) (.k (.int .i64 1)))⟩,⟨some 120,none,.q (.mv (.t 178))⟩])))))))))) (.reg [⟨some 179,none,.q (.bin .add true (.t 64) (.k (.int .i64 1)))⟩,⟨some 64,none,.q (.mv (.t 179))⟩]))))))) (.seq (.seq (.reg [⟨some 180,none,.q (.mv (.t 8))⟩,⟨some 181,none,.q (.not (.t 180))⟩]) (.cond (.t 181) (.seq (.reg [⟨some 182,none,.q (.bd [(.int .i64 0),(.slice none 0 0),(.slice none 0 0)] [])⟩,⟨none,none,.e (.st 3 (.t 4) (.t 182))⟩,⟨some 5,none,.q (.mv (.k (.int .i64 14)))⟩]) .ret) .skip)) (.seq (.seq (.reg [⟨some 183,none,.l (.ldn 3 (.t 9))⟩,⟨some 184,none,.cq 18 [(.t 183)]⟩,⟨some 31,none,.q (.mv (.t 184))⟩]) (.seq (.reg [⟨some 185,none,.q (.mv (.t 31))⟩,⟨some 186,none,.q (.bin .neq true (.t 185) (.k (.int .i64 0)))⟩]) (.cond (.t 186) (.seq (.reg [⟨some 187,none,.q (.bd [(.int .i64 0),(.slice none 0 0),(.slice none 0 0)] [])⟩,⟨some 188,none,.q (.mv (.t 31))⟩,⟨none,none,.e (.st 3 (.t 4) (.t 187))⟩,⟨some 5,none,.q (.mv (.t 188))⟩]) .ret) .skip))) (.seq (.reg [⟨some 189,none,.l (.ldn 3 (.t 9))⟩,⟨none,none,.e (.st 3 (.t 4) (.t 189))⟩,⟨some 5,none,.q (.mv (.k (.int .i64 0)))⟩]) .ret))))))))
def rsM14:List RV:=[.ld (.ldn 3 (.t 4)),.mv (.t 5)]
theorem okM14:trFn Tryz.prog true ⟨fun r k=>if r=1/\k=1 then .q else if r=4/\k=1 then .q else if r=7/\k=2 then .q else if r=7/\k=7 then .q else if r=15/\k=3 then .own [5,6] else if r=26/\k=3 then .own [5,6] else if r=44/\k=1 then .q else .own [],fun r=>[32,21,39].contains r⟩ Tryz.f14=some (pcM14,rsM14):=by kernel_rfl
end Go.Proofs.YtbolanmlngjdoaaGreat
namespace Go.Proofs.YtbolanmlngjdoaaGreat
open Go.W
theorem pl_tu {cs:List C} {b:Bool} {r:S} (h:S.pl (.tu [.gs cs,bA b]) r):∃ ds,All2 C.pl cs ds/\r=.tu [.gs ds,bA b]:=by
  obtain ⟨m,rfl,h⟩:=h
  obtain ⟨x,m1,rfl,h1,h2⟩:=All2.cons_inv h
  obtain ⟨y,m2,rfl,h3,h4⟩:=All2.cons_inv h2
  obtain rfl:=All2.nil_inv h4
  cases x with
  | c1 c=>exact h1.elim
  | gs ds=>
    cases y with
    | gs _=>exact h3.elim
    | c1 c=>exact ⟨ds,h1,by rw [show c=.vl (.bool b) from h3]⟩
theorem pl_vl {v:Value} {c:C} (h:C.pl (.vl v) c):c=.vl v:=h
theorem pl_fz {xs:List (List C)} {c:C} (h:C.pl (.fz xs) c):∃ u,c=.vl u/\u.oneCell'=true:=by
  obtain ⟨u,h1,h2⟩:=h; exact ⟨u,h1,h2 trivial⟩
theorem enb_use {ver:Int} {E:List En} {T:List St} {n:ByteArray} {K:S->Hp->Prop} (h:Sc.fit ⟨ver,E,T⟩)
    (hK:∀ (nm:ByteArray) (u v:Value),u.oneCell'=true->v.oneCell'=true->K (.tu [.gs [.vl (.string nm),.vl u,.vl v],bA (hasE E n)]) [.row (E.map enC) 60 3,.row (T.map stC) 37 2]) :
    orS enSpP (borS enSpP) [.va (.gs [.vl (.int .i64 ver),.sl 0 E.length,.sl 1 T.length]),tS n] [.row (E.map enC) 60 3,.row (T.map stC) 37 2] K:=by
  refine .inr ?_
  unfold borS
  have e:([.va (.gs [.vl (.int .i64 ver),.sl 0 E.length,.sl 1 T.length]),tS n]:List S).map (fun a=>(a.bor [.row (E.map enC) 60 3,.row (T.map stC) 37 2]).nf)=[.va (.gs (scC ⟨ver,E,T⟩)),tS n]:=by
    simp -dsimp [go_sem,scC]
  rw [e]
  refine enp_use h fun r' hr=>?_
  obtain ⟨ds,h1,rfl⟩:=pl_tu hr
  unfold enC at h1
  obtain ⟨c1,d1,rfl,q1,h1⟩:=All2.cons_inv h1
  obtain ⟨c2,d2,rfl,q2,h1⟩:=All2.cons_inv h1
  obtain ⟨c3,d3,rfl,q3,h1⟩:=All2.cons_inv h1
  obtain rfl:=All2.nil_inv h1
  obtain rfl:=pl_vl q1
  obtain ⟨u,rfl,hu⟩:=pl_fz q2
  obtain ⟨v,rfl,hv⟩:=pl_fz q3
  exact hK _ u v hu hv
theorem stb_use {ver:Int} {E:List En} {T:List St} {n:ByteArray} {K:S->Hp->Prop} (h:Sc.fit ⟨ver,E,T⟩)
    (hK:∀ (nm:ByteArray) (u:Value),u.oneCell'=true->K (.tu [.gs [.vl (.string nm),.vl u],bA (hasS T n)]) [.row (E.map enC) 60 3,.row (T.map stC) 37 2]) :
    orS stSpP (borS stSpP) [.va (.gs [.vl (.int .i64 ver),.sl 0 E.length,.sl 1 T.length]),tS n] [.row (E.map enC) 60 3,.row (T.map stC) 37 2] K:=by
  refine .inr ?_
  unfold borS
  have e:([.va (.gs [.vl (.int .i64 ver),.sl 0 E.length,.sl 1 T.length]),tS n]:List S).map (fun a=>(a.bor [.row (E.map enC) 60 3,.row (T.map stC) 37 2]).nf)=[.va (.gs (scC ⟨ver,E,T⟩)),tS n]:=by
    simp -dsimp [go_sem,scC]
  rw [e]
  refine stp_use h fun r' hr=>?_
  obtain ⟨ds,h1,rfl⟩:=pl_tu hr
  unfold stC at h1
  obtain ⟨c1,d1,rfl,q1,h1⟩:=All2.cons_inv h1
  obtain ⟨c2,d2,rfl,q2,h1⟩:=All2.cons_inv h1
  obtain rfl:=All2.nil_inv h1
  obtain rfl:=pl_vl q1
  obtain ⟨u,rfl,hu⟩:=pl_fz q2
  exact hK _ u hu
structure EnW (e:En):Prop where
  ok:e.ok
  ln:e.ns.length<=1000
  lv:e.vs.length<=1000
theorem EnG.w {e:En} (h:EnG e):EnW e:=⟨h.ok,by have:=h.le; omega,by have:=h.le; have:=h.len; omega⟩
abbrev MSt:=Option (List En × List St)
def enStep (b:Sc):MSt->En->MSt
  | none,_=>none
  | some (E,T),x=>bif hasE E x.nm then some (E,T) else match fEn b.es x.nm with
    | some y=>(meL (nds x) (nds y)).map fun l=>(E ++ [enOf x.nm l],T)
    | none=>some (E ++ [x],T)
noncomputable def stStep (b:Sc):MSt->St->MSt
  | none,_=>none
  | some (E,T),x=>bif hasS T x.nm then some (E,T) else match fS b.ss x.nm with
    | some y=>(msL x.fs y.fs).map fun l=>(E,T ++ [⟨x.nm,sortBy Fl.num l⟩])
    | none=>some (E,T ++ [x])
noncomputable def scRun (b:Sc) (st:MSt) (s:Sc):MSt:=s.ss.foldl (stStep b) (s.es.foldl (enStep b) st)
def mg0 (a b:Sc):MSt:=bif !(crF a b) && !(crF b a) then some ([],[]) else none
noncomputable def mgT (a b:Sc):MSt:=[a,b].foldl (scRun b) (mg0 a b)
noncomputable def mgF (a b:Sc):Sc × Int:=bif checkF a != 0 then (default,checkF a) else bif checkF b != 0 then (default,checkF b) else match mgT a b with
  | none=>(default,14)
  | some (E,T)=>bif checkF ⟨max a.ver b.ver,E,T⟩ != 0 then (default,checkF ⟨max a.ver b.ver,E,T⟩) else (⟨max a.ver b.ver,E,T⟩,0)
def mOf (E:List En) (T:List St) (ok:Bool):MSt:=bif ok then some (E,T) else none
theorem fit_of {ver:Int} {E:List En} {T:List St} (h0:in64 ver) (h1:E.length<=1000) (h2:T.length<=1000) (h3:∀ e ∈ E,EnW e) (h4:∀ t ∈ T,StM t):Sc.fit ⟨ver,E,T⟩ where
  ok:=⟨h0,by show E.length<=_; omega,by show T.length<=_; omega,fun e he=>(h3 e he).ok,fun t ht=>(h4 t ht).ok⟩
  lv t ht f hf:=((h4 t ht).fs f hf).lv
  sm t ht:=⟨by have:=(h4 t ht).len; omega,(h4 t ht).sm⟩
  en e he:=⟨by have:=(h3 e he).ln; omega,by have:=(h3 e he).lv; omega⟩
noncomputable abbrev mgE:Env:=[(18,.f ckFn),(38,.f crFn),(23,.s (orS enSpP (borS enSpP))),(20,.s (orS stSpP (borS stSpP))),(39,.s meSp),(42,.s msSp),(40,.s clSSp),(41,.s clISp),(43,.s ctS)]
theorem mgMeets:MeetsAll Tryz.prog mgE:=meetsAll_f mCheck (meetsAll_f mCrossed (meetsAll_s (mEnumP.orS mEnumP.borS) (meetsAll_s (mStructP.orS mStructP.borS) (meetsAll_s mMergeEnum (meetsAll_s mMergeStruct (meetsAll_s mclS (meetsAll_s mclI (meetsAll_s mCopied (meetsAll_nil _)))))))))
abbrev mgB (a b s:Sc) (ver:Int) (E:List En) (T:List St):Hp:=[.cells (scC a) 25,.cells (scC b) 25,.cells [.vl (.int .i64 0),.vl (.slice none 0 0),.vl (.slice none 0 0)] 25,
  .cells [.vl (.int .i64 ver),.sl 5 E.length,.sl 6 T.length] 25,.row [scC a,scC b] 25 3,.row (E.map enC) 60 3,.row (T.map stC) 37 2,.cells (scC s) 25]
abbrev meU (s:Sc) (i j:Nat) (ok:Bool):List (Nat × S):=[(3,.va (.c1 (.pt 1 0))),(4,.va (.c1 (.pt 2 0))),(8,bS ok),(9,.va (.c1 (.pt 3 0))),(11,.va (.c1 (.pt 7 0))),(62,.va (.c1 (.sl 4 2))),(63,iS .i64 2),(64,iS .i64 i),(69,.va (.c1 (.fz (s.es.map enC)))),(70,iS .i64 s.es.length),(71,iS .i64 j)]
abbrev msU (s:Sc) (i j:Nat) (ok:Bool):List (Nat × S):=[(3,.va (.c1 (.pt 1 0))),(4,.va (.c1 (.pt 2 0))),(8,bS ok),(9,.va (.c1 (.pt 3 0))),(62,.va (.c1 (.sl 4 2))),(63,iS .i64 2),(64,iS .i64 i),(118,.va (.c1 (.fz (s.ss.map stC)))),(119,iS .i64 s.ss.length),(120,iS .i64 j)]
theorem ctS_use' {t:Ty} {K:S->Hp->Prop} (h1:TyOk t) (h2:TySm t) (hK:K (.va (.gs [.vl (.int .i64 t.k),.vl (.int .i64 t.s),.vl (.string t.n),.fz (t.e.map tyC)])) []) :
    ctS [.va (.gs [.vl (.int .i64 t.k),.vl (.int .i64 t.s),.vl (.string t.n),.fz (t.e.map tyC)])] [] K:=by
  have:=ctS_use (K:=K) h1 h2 (by rw [tyC_eq]; exact hK)
  rw [tyC_eq] at this; exact this
def isFr (fr:Fr):List (Nat × S)->Prop
  | []=>True
  | (i,s) :: r=>fr i=s/\isFr fr r
attribute [go_sem ↓] isFr
set_option maxRecDepth 100000 in
theorem enTail {a b s:Sc} {ver:Int} {E:List En} {T:List St} {i j:Nat} {ok:Bool} {y:En} (hy:EnW y) (hE:E.length<=1000) {K:Ex->Fr->Hp->Prop}
    (hK:∀ fr' R,isFr fr' (meU s i j ok)->K .n fr' (mgB a b s ver (E ++ [y]) T ++ R)) :
    vc mgE 0 pcM14_21.ungh (puts ((13,.va (.c1 (.pt 8 0))) :: meU s i j ok)) (mgB a b s ver E T ++ [.cells (enC y) 60]) K:=by
  have h1:=hy.ln
  have h2:=hy.lv
  have key:∀ fr' H',isFr fr' (meU s i j ok)->H'=mgB a b s ver (E ++ [y]) T ++ [.cells (enC y) 60,.row [enC y] 60 3]->K .n fr' H':=fun fr' H' h e=>e ▸ hK fr' _ h
  simp (maxSteps:=1000000) -dsimp only [go_sem,pcM14_21,enC]
  refine clS_use (by omega) ?_
  simp (maxSteps:=1000000) -dsimp only [go_sem]
  refine clI_use (by omega) ?_
  simp (maxSteps:=1000000) -dsimp only [go_sem]
  exact ⟨by omega,key _ _ (by simp -dsimp only [go_sem]<;>simp) (by simp [enC])⟩
set_option maxRecDepth 100000 in
theorem stTail {a b s:Sc} {ver:Int} {E:List En} {T:List St} {i j:Nat} {ok:Bool} {y:St} (hy:StM y) (hT:T.length<=1000) {K:Ex->Fr->Hp->Prop}
    (hK:∀ fr' R,isFr fr' (msU s i j ok)->K .n fr' (mgB a b s ver E (T ++ [y]) ++ R)) :
    vc mgE 0 pcM14_32.ungh (puts ((21,.va (.c1 (.pt 8 0))) :: msU s i j ok)) (mgB a b s ver E T ++ [.cells (stC y) 37]) K:=by
  have hl:=hy.len
  have key:∀ fr' H' R,isFr fr' (msU s i j ok)->H'=mgB a b s ver E (T ++ [y]) ++ R->K .n fr' H':=fun fr' H' R h e=>e ▸ hK fr' R h
  simp (maxSteps:=1000000) -dsimp only [go_sem,pcM14_32,stC]
  refine vc_loop_gh (α:=Nat) (fun k=>(21,.va (.c1 (.pt 8 0))) :: (28,.va (.c1 (.pt 9 0))) :: (155,.va (.c1 (.fz (y.fs.map flC)))) :: (156,iS .i64 y.fs.length) :: (157,iS .i64 k) :: msU s i j ok)
    (fun k=>mgB a b s ver E T ++ [.cells (stC y) 37,.cells [.vl (.string y.nm),.sl 10 k] 37,.row ((y.fs.take k).map flC) 50 7])
    (fun k=>k<=y.fs.length) (fun k=>y.fs.length - k) (.nilc 9 1 50 7 [.vl (.string y.nm),.vl (.slice none 0 0)] 37 rfl rfl (gh_at 0 11 (Nat.zero_le _) ?_ ?_)) ?_
  · simp -dsimp only [go_sem]<;>simp
  · simp -dsimp only [go_sem,scC,stC]<;>simp [scC]
  intro k hk
  have hz:(y.fs.take k).length=k:=by rw [List.length_take]; omega
  rcases Nat.lt_or_ge k y.fs.length with hlt | hge
  · have hg:decide ((k:Int) < (y.fs.length:Int))=true:=by simp; omega
    obtain ⟨f,hx⟩:∃ t,y.fs[k]? = some t:=⟨_,List.getElem?_eq_getElem hlt⟩
    have q1:=row_rg' (row:=flC) hx
    have hf:=hy.fs f (List.mem_of_getElem? hx)
    simp (maxSteps:=1000000) -dsimp only [go_sem,hg,↓q1,flC]
    refine ⟨by omega,ctS_use' hf.ok.ty hf.sm ?_⟩
    simp (maxSteps:=1000000) -dsimp only [go_sem]
    refine ⟨hz,by omega,by omega,loop_next (k + 1) 11 (by omega) (by omega) ?_ ?_⟩
    · simp -dsimp only [go_sem]<;>simp
    · simp -dsimp only [go_sem,scC,stC,take_next hx]<;>simp [flC]
  · have hg:decide ((k:Int) < (y.fs.length:Int))=false:=by simp; omega
    obtain rfl:k=y.fs.length:=by omega
    rw [List.take_length]
    simp (maxSteps:=1000000) -dsimp only [go_sem,hg]
    refine vc_head rfl (.pub 10 _ _ _ rfl (.done ?_))
    simp (maxSteps:=1000000) -dsimp only [go_sem,pubH,pcM14_39]
    refine ⟨by omega,key _ _ [.cells (stC y) 37,.cells (stC y) 37,.dead,.row [stC y] 37 2] ?_ ?_⟩
    · simp -dsimp only [go_sem]<;>simp
    · simp -dsimp [go_sem,scC,stC]
end Go.Proofs.YtbolanmlngjdoaaGreat
namespace Go.Proofs.YtbolanmlngjdoaaGreat
open Go.W
structure MgI (s:Sc):Prop where
  es:∀ e ∈ s.es,EnG e
  ss:∀ t ∈ s.ss,StM t/\t.fs.length<=100/\(t.fs.map Fl.num).Nodup
  le:s.es.length<=100
  ls:s.ss.length<=100
def mgSp:W.Spec:=fun av H K=>∃ a b:Sc,av=[.va (.gs (scC a)),.va (.gs (scC b))]/\H=[]/\a.fit/\b.fit/\K (.tu [.gs (scC (mgF a b).1),.c1 (.vl (.int .i64 (mgF a b).2))]) []
theorem mg_use {a b:Sc} {K:S->Hp->Prop} (h1:a.fit) (h2:b.fit) (hK:K (.tu [.gs (scC (mgF a b).1),.c1 (.vl (.int .i64 (mgF a b).2))]) []):mgSp [.va (.gs (scC a)),.va (.gs (scC b))] [] K:=⟨a,b,rfl,rfl,h1,h2,hK⟩
theorem en_at {s:Sc} (hf:s.fit) (h:checkF s=0) {e:En} (he:e ∈ s.es):fEn s.es e.nm=some e/\ceF e=0/\tnB (bl e.nm)=true:=by
  obtain ⟨_,_,h1,_,_,_⟩:=check_good hf h
  obtain ⟨i,hi⟩:=List.mem_iff_getElem?.1 he
  have hc:=en_zero hi (fE_zero h1 i (List.getElem?_eq_some_iff.1 hi).1)
  exact ⟨fEn_first hi hc.2.1,hc.2.2,hc.1⟩
theorem st_at {s:Sc} (hf:s.fit) (h:checkF s=0) {t:St} (ht:t ∈ s.ss):fS s.ss t.nm=some t/\cfF s.ss s.es t=0/\hasE s.es t.nm=false/\tnB (bl t.nm)=true:=by
  obtain ⟨_,_,_,h2,_,_⟩:=check_good hf h
  obtain ⟨i,hi⟩:=List.mem_iff_getElem?.1 ht
  have hc:=st_zero hi (fE_zero h2 i (List.getElem?_eq_some_iff.1 hi).1)
  have hn:=cn_zero hc.1
  exact ⟨fS_first hi hn.2.2,hc.2,hn.2.1,hn.1⟩
structure EnV (e:En):Prop where
  len:e.vs.length=e.ns.length
  le:e.ns.length<=16
  vs:∀ v ∈ e.vs,0<=v/\v<=127
  asc:e.vs.Pairwise (· < ·)
  nd:e.ns.Nodup
  nm:∀ n ∈ e.ns,isNm (bl n)=true
theorem asc_of_next {l:List Int} (h:∀ i a b,l[i]? = some a->l[i + 1]? = some b->a < b):l.Pairwise (· < ·):=by
  rw [List.pairwise_iff_getElem]
  have key:∀ d i (hi:i < l.length) (hj:i + d + 1 < l.length),l[i] < l[i + d + 1]:=by
    intro d
    induction d with
    | zero=>intro i hi hj; exact h i _ _ (List.getElem?_eq_getElem hi) (List.getElem?_eq_getElem hj)
    | succ d ih=>
      intro i hi hj
      have h1:=ih i hi (by omega)
      have h2:=h (i + d + 1) _ _ (List.getElem?_eq_getElem (show i + d + 1 < l.length by omega)) (List.getElem?_eq_getElem (show i + d + 1 + 1 < l.length by omega))
      have:i + (d + 1) + 1=i + d + 1 + 1:=by omega
      simp only [this]
      omega
  intro i j hi hj hij
  obtain ⟨d,rfl⟩:∃ d,j=i + d + 1:=⟨j - i - 1,by omega⟩
  exact key d i hi hj
theorem inB_false {l:List ByteArray} {n:ByteArray} (h:inB l n=false):n ∉ l:=by
  intro hm
  unfold inB at h
  have:=any_false h n hm
  simp at this
theorem nodup_of_take {l:List ByteArray} (h:∀ i n,l[i]? = some n->n ∉ l.take i):l.Nodup:=by
  unfold List.Nodup
  rw [List.pairwise_iff_getElem]
  intro i j hi hj hij e
  refine h j _ (List.getElem?_eq_getElem hj) ?_
  rw [<-e]
  exact List.mem_take_iff_getElem.2 ⟨i,by omega,rfl⟩
theorem enV_of {s:Sc} (hf:s.fit) (h:checkF s=0) {e:En} (he:e ∈ s.es):EnV e:=by
  obtain ⟨h1,hc,_⟩:=en_at hf h he
  have hl:=enu_good hf h h1
  have hv:=enu_vs hf h h1
  unfold ceF at hc
  cases c:decide (e.ns.length=0) || decide (e.ns.length ≠ e.vs.length) with
  | true=>rw [c] at hc; simp at hc
  | false=>
  rw [c,Bool.cond_false] at hc
  have at_:∀ k nm n,e.ns[k]? = some nm->e.vs[k]? = some n->isNm (bl nm)=true/\inB (e.ns.take k) nm=false/\∀ m,e.vs[k - 1]? = some m->0 < k->m < n:=by
    intro k nm n h2 h3
    have hz:=fE_zero (f:=ceAt e) (m:=e.ns.length) hc k (List.getElem?_eq_some_iff.1 h2).1
    unfold ceAt at hz
    rw [h2,h3] at hz
    simp only at hz
    cases d1:isNm (bl nm) with
    | false=>rw [d1] at hz; simp at hz
    | true=>
    rw [d1] at hz
    cases d2:inB (e.ns.take k) nm with
    | true=>rw [d2] at hz; simp at hz
    | false=>
    rw [d2] at hz
    cases d3:decide (n < 0) || decide (127 < n) with
    | true=>rw [d3] at hz; simp at hz
    | false=>
    rw [d3] at hz
    refine ⟨rfl,rfl,fun m hm hk=>?_⟩
    simp only [Bool.not_true,Bool.cond_false,hm] at hz
    by_cases hnm:n<=m
    · rw [decide_eq_true hnm,decide_eq_true (show (0:Int) < (k:Int) by omega)] at hz; simp at hz
    · omega
  refine ⟨hl.1,hl.2,hv,asc_of_next fun i x y hx hy=>?_,nodup_of_take fun i n hn=>?_,fun n hn=>?_⟩
  · have hi:=(List.getElem?_eq_some_iff.1 hy).1
    exact (at_ (i + 1) _ y (List.getElem?_eq_getElem (show i + 1 < e.ns.length by omega)) hy).2.2 x hx (by omega)
  · have hi:=(List.getElem?_eq_some_iff.1 hn).1
    exact inB_false (at_ i n _ hn (List.getElem?_eq_getElem (show i < e.vs.length by omega))).2.1
  · obtain ⟨i,hi⟩:=List.mem_iff_getElem?.1 hn
    have hi':=(List.getElem?_eq_some_iff.1 hi).1
    exact (at_ i n _ hi (List.getElem?_eq_getElem (show i < e.vs.length by omega))).1
theorem EnV.g {e:En} (h:EnV e) (ho:e.ok):EnG e:=⟨ho,h.len,by have:=h.le; omega,h.vs,by
  unfold List.Nodup
  exact h.asc.imp fun h e=>by omega⟩
theorem mgI_of {s:Sc} (hf:s.fit) (h:checkF s=0):MgI s:=by
  obtain ⟨_,_,_,_,hl,_⟩:=check_good hf h
  have hl':=large_false hl
  refine ⟨fun e he=>(enV_of hf h he).g (hf.ok.es e he),fun t ht=>?_,by have:=hl'.1; omega,by have:=hl'.2.1; omega⟩
  obtain ⟨_,hc,_⟩:=st_at hf h ht
  have hlen:=hl'.2.2.2 t ht
  refine ⟨⟨(hf.ok.ss t ht).nm,by omega,fun f hm=>⟨(hf.ok.ss t ht).fs f hm,(hf.sm t ht).2 f hm,hf.lv t ht f hm,(cf_zero hc f hm).1⟩⟩,by omega,?_⟩
  unfold List.Nodup
  rw [List.pairwise_map]
  exact (cf_asc hc).imp fun h e=>by omega
theorem enOf_w {x y:En} {l:List Nd} (hx:EnG x) (hy:EnG y) (h:meL (nds x) (nds y)=some l):EnW (enOf x.nm l):=by
  have key:∀ {r l o:List Nd},meL l r=some o->o.length<=l.length + r.length/\∀ z ∈ o,z ∈ l\/z ∈ r:=by
    intro r
    induction r with
    | nil=>intro l o h; rw [meL,Option.some.injEq] at h; subst h; exact ⟨by simp,fun z hz=>.inl hz⟩
    | cons x r ih=>
      intro l o h
      rw [meL] at h
      cases c1:l.any (isN x) with
      | true=>
        rw [c1] at h
        obtain ⟨h1,h2⟩:=ih h
        exact ⟨by simp only [List.length_cons]; omega,fun z hz=>(h2 z hz).imp id fun h=>List.mem_cons_of_mem _ h⟩
      | false=>
        rw [c1,Bool.cond_false] at h
        cases c2:l.any (clN x) with
        | true=>rw [c2] at h; cases h
        | false=>
          rw [c2] at h
          obtain ⟨h1,h2⟩:=ih h
          refine ⟨by simp only [List.length_append,List.length_cons,List.length_nil] at *; omega,fun z hz=>?_⟩
          rcases h2 z hz with h | h
          · rcases List.mem_append.1 h with h | h
            · exact .inl h
            · obtain rfl:=List.mem_singleton.1 h; exact .inr (by simp)
          · exact .inr (List.mem_cons_of_mem _ h)
  obtain ⟨h1,h2⟩:=key h
  have hp:=(sortBy_perm Nd.n l)
  have hlx:=nds_len hx
  have hly:=nds_len hy
  have:=hx.le; have:=hy.le; have:=hx.len; have:=hy.len
  have hlen:(sortBy Nd.n l).length<=200:=by rw [hp.length_eq]; omega
  have hm:∀ z ∈ sortBy Nd.n l,z.nm.size<=9223372036854775807/\in64 z.n:=fun z hz=>by
    have hz:=h2 z (hp.mem_iff.1 hz)
    have q:∀ {e:En},EnG e->z ∈ nds e->z.nm.size<=9223372036854775807/\in64 z.n:=fun {e} he hz=>by
      unfold nds at hz
      obtain ⟨i,hi⟩:=List.mem_iff_getElem?.1 hz
      rw [List.getElem?_zipWith] at hi
      cases e1:e.vs[i]? with
      | none=>rw [e1] at hi; simp at hi
      | some v=>
        cases e2:e.ns[i]? with
        | none=>rw [e1,e2] at hi; simp at hi
        | some n=>
          rw [e1,e2] at hi
          simp only [Option.some.injEq] at hi
          subst hi
          exact ⟨he.ok.ns n (List.mem_of_getElem? e2),he.ok.vs v (List.mem_of_getElem? e1)⟩
    rcases hz with hz | hz
    · exact q hx hz
    · exact q hy hz
  refine ⟨⟨hx.ok.nm,?_,?_,fun n hn=>?_,fun v hv=>?_⟩,?_,?_⟩
  · show ((sortBy Nd.n l).map Nd.nm).length<=_; rw [List.length_map]; omega
  · show ((sortBy Nd.n l).map Nd.n).length<=_; rw [List.length_map]; omega
  · obtain ⟨z,hz,rfl⟩:=List.mem_map.1 hn; exact (hm z hz).1
  · obtain ⟨z,hz,rfl⟩:=List.mem_map.1 hv; exact (hm z hz).2
  · show ((sortBy Nd.n l).map Nd.nm).length<=_; rw [List.length_map]; omega
  · show ((sortBy Nd.n l).map Nd.n).length<=_; rw [List.length_map]; omega
theorem msL_w {x y:St} {l:List Fl} (hx:StM x/\x.fs.length<=100) (hy:StM y/\y.fs.length<=100) (h:msL x.fs y.fs=some l):StM ⟨x.nm,sortBy Fl.num l⟩:=by
  have kA:∀ {r l o:List Fl},(∀ f ∈ r,FlW f)->(∀ f ∈ l,FlW f)->msA y.fs l r=some o->∀ f ∈ o,FlW f:=by
    intro r
    induction r with
    | nil=>intro l o _ h2 h; rw [msA,Option.some.injEq] at h; subst h; exact h2
    | cons f r ih=>
      intro l o h1 h2 h
      have app:∀ f',FlW f'->∀ g ∈ l ++ [f'],FlW g:=fun f' hf' g hg=>by
        rcases List.mem_append.1 hg with hg | hg
        · exact h2 g hg
        · obtain rfl:=List.mem_singleton.1 hg; exact hf'
      rw [msA] at h
      split at h
      · rename_i g hg
        cases hc:(mfF f g).2 with
        | true=>rw [hc] at h; exact ih (fun z hz=>h1 z (List.mem_cons_of_mem _ hz)) (app _ (mfF_W (h1 f (by simp)) (hy.1.fs g (fF_some hg).1))) h
        | false=>rw [hc] at h; cases h
      · cases hc:f.opt with
        | true=>rw [hc] at h; exact ih (fun z hz=>h1 z (List.mem_cons_of_mem _ hz)) (app _ (h1 f (by simp))) h
        | false=>rw [hc] at h; cases h
  have kB:∀ {r l o:List Fl},(∀ f ∈ r,FlW f)->(∀ f ∈ l,FlW f)->msB x.fs l r=some o->∀ f ∈ o,FlW f:=by
    intro r
    induction r with
    | nil=>intro l o _ h2 h; rw [msB,Option.some.injEq] at h; subst h; exact h2
    | cons f r ih=>
      intro l o h1 h2 h
      rw [msB] at h
      cases c1:(fF x.fs f.num).isSome with
      | true=>rw [c1] at h; exact ih (fun z hz=>h1 z (List.mem_cons_of_mem _ hz)) h2 h
      | false=>
        rw [c1,Bool.cond_false] at h
        cases hc:f.opt with
        | true=>
          rw [hc] at h
          refine ih (fun z hz=>h1 z (List.mem_cons_of_mem _ hz)) (fun g hg=>?_) h
          rcases List.mem_append.1 hg with hg | hg
          · exact h2 g hg
          · obtain rfl:=List.mem_singleton.1 hg; exact h1 _ (by simp)
        | false=>rw [hc] at h; cases h
  have hn:=congrArg List.length (msL_nums h)
  rw [List.length_map,List.length_append,List.length_map,List.length_map] at hn
  have hfl:=List.length_filter_le (fun g:Fl=>!(fF x.fs g.num).isSome) y.fs
  have hp:=sortBy_perm Fl.num l
  have hpl:=hp.length_eq
  unfold msL at h
  obtain ⟨m,h1,h2⟩:=Option.bind_eq_some_iff.1 h
  have hw:=kB hy.1.fs (kA hx.1.fs (fun f hf=>by cases hf) h1) h2
  exact ⟨hx.1.nm,by show (sortBy Fl.num l).length<=1000; omega,fun f hf=>hw f (hp.mem_iff.1 hf)⟩
theorem scC_def:scC default=[.vl (.int .i64 0),.fz [],.fz []]:=rfl
theorem foldl_none {α β:Type} {f:Option α->β->Option α} (h:∀ x,f none x=none):∀ l:List β,l.foldl f none=none
  | []=>rfl
  | x :: l=>by rw [List.foldl_cons,h,foldl_none h l]
end Go.Proofs.YtbolanmlngjdoaaGreat
namespace Go.Proofs.YtbolanmlngjdoaaGreat
open Go.W
def pc7_4:PC:=.seq (.gh (.reg [⟨some 19,none,.l (.ldn 3 (.t 1))⟩,⟨some 20,none,.l (.ldn 3 (.t 2))⟩,⟨some 21,none,.cq 12 [(.t 19),(.t 20),(.k (.string (mk [84,111,112])))]⟩,⟨some 22,none,.q (.mv (.t 21))⟩,⟨some 23,(some (22,true)),.q (.mv (.t 3))⟩,⟨some 24,(some (22,true)),.q (.lnL (.t 23))⟩,⟨some 25,(some (22,true)),.q (.bin .eql true (.t 24) (.k (.int .i64 1)))⟩,⟨some 26,none,.pick (.t 22) (.t 25) (.k (.bool false))⟩,⟨some 27,none,.q (.mv (.t 26))⟩,⟨some 28,(some (27,true)),.q (.mv (.t 3))⟩,⟨some 29,(some (27,true)),.l (.ia 3 (.t 28) (.k (.int .i64 0)))⟩,⟨some 30,(some (27,true)),.l (.ldn 3 (.t 29))⟩,⟨some 31,(some (27,true)),.q (.bd [(.int .i64 0),(.int .i64 0),(.string (mk []))] [(0,1,(.k (.int .i64 1))),(1,1,(.k (.int .i64 2))),(2,1,(.k (.string (mk [84,111,112]))))])⟩,⟨some 32,(some (27,true)),.q (.eqT false [(0,.int .i64),(1,.int .i64),(2,.str)] (.t 30) (.t 31))⟩,⟨some 33,none,.pick (.t 27) (.t 32) (.k (.bool false))⟩,⟨some 0,none,.q (.mv (.t 33))⟩])) .ret
@[go_sem ↓] theorem fold7_4 (Γ:Env) (k0:Nat) (fr:Fr) (H:Hp) (K:Ex->Fr->Hp->Prop):vc Γ k0 pc7_4 fr H K=vcn Γ k0 pc7_4 fr H K ⟨⟩:=rfl
def pc7_3:PC:=.seq (.gh (.reg [⟨some 16,none,.l (.ldn 3 (.t 2))⟩,⟨some 17,none,.l (.ldn 3 (.t 1))⟩,⟨some 18,none,.cl 8 [(.t 16),(.t 17),(.k (.string (mk [84,111,112])))] []⟩,⟨some 3,none,.q (.mv (.t 18))⟩])) (pc7_4)
@[go_sem ↓] theorem fold7_3 (Γ:Env) (k0:Nat) (fr:Fr) (H:Hp) (K:Ex->Fr->Hp->Prop):vc Γ k0 pc7_3 fr H K=vcn Γ k0 pc7_3 fr H K ⟨⟩:=rfl
def pc7:PC:=.seq (.reg [⟨some 0,none,.q (.mv (.k (.bool false)))⟩]) (.seq (.reg [⟨some 4,none,.q (.bd [(.int .i64 0),(.int .i64 0),(.string (mk [])),(.slice none 0 0)] [(0,1,(.k (.int .i64 2))),(1,1,(.k (.int .i64 8)))])⟩,⟨some 5,none,.q (.bd [(.int .i64 0),(.string (mk [])),(.int .i64 0),(.int .i64 0),(.string (mk [])),(.slice none 0 0),(.bool false)] [(0,1,(.k (.int .i64 2))),(1,1,(.k (.string (mk [120])))),(2,4,(.t 4))])⟩,⟨some 6,none,.e (.bsl 50 7 [(.t 5)])⟩,⟨some 7,none,.q (.bd [(.string (mk [])),(.slice none 0 0)] [(0,1,(.k (.string (mk [84,111,112])))),(1,1,(.t 6))])⟩,⟨some 8,none,.e (.bslx 37 2 [(.t 7)])⟩,⟨some 9,none,.q (.bd [(.int .i64 0),(.slice none 0 0),(.slice none 0 0)] [(0,1,(.k (.int .i64 1))),(2,1,(.t 8))])⟩,⟨some 1,none,.e (.al (.agg #[(.int .i64 0),(.slice none 0 0),(.slice none 0 0)]) 25)⟩,⟨none,none,.e (.st 3 (.t 1) (.t 9))⟩]) (.seq (.reg [⟨some 10,none,.q (.bd [(.int .i64 0),(.int .i64 0),(.string (mk [])),(.slice none 0 0)] [(0,1,(.k (.int .i64 2))),(1,1,(.k (.int .i64 16)))])⟩,⟨some 11,none,.q (.bd [(.int .i64 0),(.string (mk [])),(.int .i64 0),(.int .i64 0),(.string (mk [])),(.slice none 0 0),(.bool false)] [(0,1,(.k (.int .i64 2))),(1,1,(.k (.string (mk [120])))),(2,4,(.t 10))])⟩,⟨some 12,none,.e (.bsl 50 7 [(.t 11)])⟩,⟨some 13,none,.q (.bd [(.string (mk [])),(.slice none 0 0)] [(0,1,(.k (.string (mk [84,111,112])))),(1,1,(.t 12))])⟩,⟨some 14,none,.e (.bslx 37 2 [(.t 13)])⟩,⟨some 15,none,.q (.bd [(.int .i64 0),(.slice none 0 0),(.slice none 0 0)] [(0,1,(.k (.int .i64 2))),(2,1,(.t 14))])⟩,⟨some 2,none,.e (.al (.agg #[(.int .i64 0),(.slice none 0 0),(.slice none 0 0)]) 25)⟩,⟨none,none,.e (.st 3 (.t 2) (.t 15))⟩]) (pc7_3)))
def rs7:List RV:=[.mv (.t 0)]
theorem ok7:trFn Tryz.prog true ⟨fun r k=>if r=1/\k=4 then .q else if r=2/\k=4 then .q else if r=4/\k=2 then .q else .own [],fun r=>[3,4].contains r⟩ Tryz.f7=some (pc7,rs7):=by kernel_rfl
def pc31:PC:=.seq (.reg [⟨some 4,none,.q (.mv (.k (.bool false)))⟩]) (.seq (.seq (.reg [⟨some 5,none,.q (.mv (.k (.int .i64 0)))⟩]) (.block 0 (.loop (.seq (.seq (.reg [⟨some 6,none,.q (.mv (.t 5))⟩,⟨some 7,none,.q (.mv (.t 0))⟩,⟨some 8,none,.q (.lnL (.t 7))⟩,⟨some 9,none,.q (.bin .lss true (.t 6) (.t 8))⟩]) (.cond (.t 9) .skip (.exit 0))) (.seq (.block 1 (.seq (.reg [⟨some 12,none,.q (.mv (.t 0))⟩,⟨some 13,none,.q (.mv (.t 5))⟩,⟨some 14,none,.l (.ia 1 (.t 12) (.t 13))⟩,⟨some 15,none,.l (.ld1 (.t 14))⟩,⟨some 16,none,.q (.mv (.t 1))⟩,⟨some 17,none,.q (.bin .eql true (.t 15) (.t 16))⟩]) (.cond (.t 17) (.seq (.reg [⟨some 4,none,.q (.mv (.k (.bool true)))⟩]) .ret) .skip))) (.reg [⟨some 10,none,.q (.mv (.t 5))⟩,⟨some 11,none,.q (.bin .add true (.t 10) (.k (.int .i64 1)))⟩,⟨some 5,none,.q (.mv (.t 11))⟩])))))) (.seq (.reg [⟨some 4,none,.q (.mv (.k (.bool false)))⟩]) .ret))
def rs31:List RV:=[.mv (.t 4)]
theorem ok31:trFn Tryz.prog true ⟨fun _ _=>.own [],fun _=>false⟩ Tryz.f31=some (pc31,rs31):=by kernel_rfl
def pc85:PC:=.seq (.reg [⟨some 2,none,.e (.bx 48 (.t 0))⟩,⟨some 3,none,.e (.bx 48 (.t 1))⟩,⟨some 4,none,.q (.mv (.k (.bool false)))⟩]) (.seq (.seq (.reg [⟨some 5,none,.l (.ldn 4 (.t 2))⟩,⟨some 6,none,.l (.ldn 4 (.t 3))⟩,⟨some 7,none,.cq 112 [(.t 5),(.t 6)]⟩]) (.cond (.t 7) (.seq (.reg [⟨some 4,none,.q (.mv (.k (.bool true)))⟩]) .ret) .skip)) (.seq (.seq (.reg [⟨some 8,none,.q (.fa 0 (.t 2))⟩,⟨some 9,none,.l (.ld1 (.t 8))⟩,⟨some 10,none,.q (.fa 0 (.t 3))⟩,⟨some 11,none,.l (.ld1 (.t 10))⟩,⟨some 12,none,.q (.bin .neq true (.t 9) (.t 11))⟩,⟨some 13,none,.q (.mv (.t 12))⟩,⟨some 14,(some (13,false)),.q (.fa 2 (.t 2))⟩,⟨some 15,(some (13,false)),.l (.ld1 (.t 14))⟩,⟨some 16,(some (13,false)),.q (.fa 2 (.t 3))⟩,⟨some 17,(some (13,false)),.l (.ld1 (.t 16))⟩,⟨some 18,(some (13,false)),.q (.bin .neq true (.t 15) (.t 17))⟩,⟨some 19,none,.pick (.t 13) (.k (.bool true)) (.t 18)⟩,⟨some 20,none,.q (.mv (.t 19))⟩,⟨some 21,(some (20,false)),.q (.fa 3 (.t 2))⟩,⟨some 22,(some (20,false)),.l (.ld1 (.t 21))⟩,⟨some 23,(some (20,false)),.q (.lnL (.t 22))⟩,⟨some 24,(some (20,false)),.q (.fa 3 (.t 3))⟩,⟨some 25,(some (20,false)),.l (.ld1 (.t 24))⟩,⟨some 26,(some (20,false)),.q (.lnL (.t 25))⟩,⟨some 27,(some (20,false)),.q (.bin .neq true (.t 23) (.t 26))⟩,⟨some 28,none,.pick (.t 20) (.k (.bool true)) (.t 27)⟩]) (.cond (.t 28) (.seq (.reg [⟨some 4,none,.q (.mv (.k (.bool false)))⟩]) .ret) .skip)) (.seq (.seq (.reg [⟨some 29,none,.q (.fa 0 (.t 2))⟩,⟨some 30,none,.l (.ld1 (.t 29))⟩]) (.block 0 (.seq (.seq (.reg [⟨some 32,none,.q (.bin .eql true (.t 30) (.k (.int .i64 2)))⟩,⟨some 31,none,.q (.mv (.t 32))⟩]) (.cond (.t 31) .skip (.reg [⟨some 33,none,.q (.bin .eql true (.t 30) (.k (.int .i64 3)))⟩,⟨some 31,none,.q (.mv (.t 33))⟩]))) (.cond (.t 31) (.seq (.reg [⟨some 34,none,.q (.fa 1 (.t 3))⟩,⟨some 35,none,.l (.ld1 (.t 34))⟩,⟨some 36,none,.q (.fa 1 (.t 2))⟩,⟨some 37,none,.l (.ld1 (.t 36))⟩,⟨some 38,none,.q (.bin .gtr true (.t 35) (.t 37))⟩,⟨some 39,none,.q (.mv (.t 38))⟩,⟨some 40,(some (39,true)),.q (.fa 3 (.t 2))⟩,⟨some 41,(some (39,true)),.l (.ld1 (.t 40))⟩,⟨some 42,(some (39,true)),.q (.fa 3 (.t 3))⟩,⟨some 43,(some (39,true)),.l (.ld1 (.t 42))⟩,⟨some 44,(some (39,true)),.cq 113 [(.t 41),(.t 43)]⟩,⟨some 45,none,.pick (.t 39) (.t 44) (.k (.bool false))⟩,⟨some 4,none,.q (.mv (.t 45))⟩]) .ret) (.seq (.reg [⟨some 47,none,.q (.bin .eql true (.t 30) (.k (.int .i64 4)))⟩,⟨some 46,none,.q (.mv (.t 47))⟩]) (.cond (.t 46) (.seq (.reg [⟨some 48,none,.q (.fa 1 (.t 3))⟩,⟨some 49,none,.l (.ld1 (.t 48))⟩,⟨some 50,none,.q (.fa 1 (.t 2))⟩,⟨some 51,none,.l (.ld1 (.t 50))⟩,⟨some 52,none,.q (.bin .geq true (.t 49) (.t 51))⟩,⟨some 53,none,.q (.mv (.t 52))⟩,⟨some 54,(some (53,true)),.q (.fa 3 (.t 2))⟩,⟨some 55,(some (53,true)),.l (.ld1 (.t 54))⟩,⟨some 56,(some (53,true)),.q (.fa 3 (.t 3))⟩,⟨some 57,(some (53,true)),.l (.ld1 (.t 56))⟩,⟨some 58,(some (53,true)),.cq 113 [(.t 55),(.t 57)]⟩,⟨some 59,none,.pick (.t 53) (.t 58) (.k (.bool false))⟩,⟨some 4,none,.q (.mv (.t 59))⟩]) .ret) (.seq (.reg [⟨some 61,none,.q (.bin .eql true (.t 30) (.k (.int .i64 5)))⟩,⟨some 60,none,.q (.mv (.t 61))⟩]) (.cond (.t 60) (.seq (.reg [⟨some 62,none,.q (.fa 1 (.t 3))⟩,⟨some 63,none,.l (.ld1 (.t 62))⟩,⟨some 64,none,.q (.fa 1 (.t 2))⟩,⟨some 65,none,.l (.ld1 (.t 64))⟩,⟨some 66,none,.q (.bin .geq true (.t 63) (.t 65))⟩,⟨some 67,none,.q (.mv (.t 66))⟩,⟨some 68,(some (67,true)),.q (.fa 3 (.t 2))⟩,⟨some 69,(some (67,true)),.l (.ld1 (.t 68))⟩,⟨some 70,(some (67,true)),.q (.lnL (.t 69))⟩,⟨some 71,(some (67,true)),.q (.bin .eql true (.t 70) (.k (.int .i64 1)))⟩,⟨some 72,none,.pick (.t 67) (.t 71) (.k (.bool false))⟩,⟨some 73,none,.q (.mv (.t 72))⟩,⟨some 74,(some (73,true)),.q (.fa 3 (.t 2))⟩,⟨some 75,(some (73,true)),.l (.ld1 (.t 74))⟩,⟨some 76,(some (73,true)),.l (.ia 4 (.t 75) (.k (.int .i64 0)))⟩,⟨some 77,(some (73,true)),.l (.ldn 4 (.t 76))⟩,⟨some 78,(some (73,true)),.q (.fa 3 (.t 3))⟩,⟨some 79,(some (73,true)),.l (.ld1 (.t 78))⟩,⟨some 80,(some (73,true)),.l (.ia 4 (.t 79) (.k (.int .i64 0)))⟩,⟨some 81,(some (73,true)),.l (.ldn 4 (.t 80))⟩,⟨some 82,(some (73,true)),.cq 85 [(.t 77),(.t 81)]⟩,⟨some 83,none,.pick (.t 73) (.t 82) (.k (.bool false))⟩,⟨some 4,none,.q (.mv (.t 83))⟩]) .ret) .skip)))))))) (.seq (.reg [⟨some 4,none,.q (.mv (.k (.bool false)))⟩]) .ret))))
def rs85:List RV:=[.mv (.t 4)]
theorem ok85:trFn Tryz.prog true ⟨fun r k=>if r=1/\k=2 then .q else if r=8/\k=10 then .q else if r=10/\k=10 then .q else if r=12/\k=20 then .q else .own [],fun _=>false⟩ Tryz.f85=some (pc85,rs85):=by kernel_rfl
def pc113:PC:=.seq (.reg [⟨some 4,none,.q (.mv (.k (.bool false)))⟩]) (.seq (.seq (.reg [⟨some 5,none,.q (.mv (.k (.int .i64 0)))⟩]) (.block 0 (.loop (.seq (.seq (.reg [⟨some 6,none,.q (.mv (.t 5))⟩,⟨some 7,none,.q (.mv (.t 0))⟩,⟨some 8,none,.q (.lnL (.t 7))⟩,⟨some 9,none,.q (.bin .lss true (.t 6) (.t 8))⟩]) (.cond (.t 9) .skip (.exit 0))) (.seq (.block 1 (.seq (.reg [⟨some 12,none,.q (.mv (.t 0))⟩,⟨some 13,none,.q (.mv (.t 5))⟩,⟨some 14,none,.l (.ia 4 (.t 12) (.t 13))⟩,⟨some 15,none,.l (.ldn 4 (.t 14))⟩,⟨some 16,none,.q (.mv (.t 1))⟩,⟨some 17,none,.q (.mv (.t 5))⟩,⟨some 18,none,.l (.ia 4 (.t 16) (.t 17))⟩,⟨some 19,none,.l (.ldn 4 (.t 18))⟩,⟨some 20,none,.cq 112 [(.t 15),(.t 19)]⟩,⟨some 21,none,.q (.not (.t 20))⟩]) (.cond (.t 21) (.seq (.reg [⟨some 4,none,.q (.mv (.k (.bool false)))⟩]) .ret) .skip))) (.reg [⟨some 10,none,.q (.mv (.t 5))⟩,⟨some 11,none,.q (.bin .add true (.t 10) (.k (.int .i64 1)))⟩,⟨some 5,none,.q (.mv (.t 11))⟩])))))) (.seq (.reg [⟨some 4,none,.q (.mv (.k (.bool true)))⟩]) .ret))
def rs113:List RV:=[.mv (.t 4)]
theorem ok113:trFn Tryz.prog true ⟨fun r k=>if r=4/\k=8 then .q else .own [],fun _=>false⟩ Tryz.f113=some (pc113,rs113):=by kernel_rfl
end Go.Proofs.YtbolanmlngjdoaaGreat
namespace Go.Proofs.YtbolanmlngjdoaaGreat
open Go.W
def isTs (rs:List (List C)):Prop:=∃ l:List Ty,rs=l.map tyC/\l.length<=9223372036854775807/\∀ t ∈ l,TyOk t
theorem isTs_mk {l:List Ty} (h:l.length<=9223372036854775807) (h2:∀ t ∈ l,TyOk t):isTs (l.map tyC):=⟨l,rfl,h,h2⟩
def tsPre:List S->Prop:=fun av=>match av with
  | [.va (.c1 (.fz ra)),.va (.c1 (.fz rb))]=>isTs ra/\isTs rb/\ra.length=rb.length
  | _=>False
theorem tsPre_open {av:List S} (h:tsPre av):∃ a b:List Ty,av=[.va (.c1 (.fz (a.map tyC))),.va (.c1 (.fz (b.map tyC)))]/\a.length<=9223372036854775807/\(∀ t ∈ a,TyOk t)/\(∀ t ∈ b,TyOk t)/\a.length=b.length:=by
  unfold tsPre at h
  split at h
  · obtain ⟨⟨a,rfl,h1,h2⟩,⟨b,rfl,_,h3⟩,h4⟩:=h
    exact ⟨a,b,rfl,h1,h2,h3,by simpa using h4⟩
  · exact h.elim
noncomputable def tsVal:List S->A:=fun av=>match av with
  | [.va (.c1 (.fz ra)),.va (.c1 (.fz rb))]=>bA (tlB (ra.map C.ty) (rb.map C.ty))
  | _=>.gs []
noncomputable def tsFn:Fun:=⟨tsPre,tsVal,fun av h=>by obtain ⟨a,b,rfl,_⟩:=tsPre_open h; trivial⟩
theorem tsFn_len:∀ av H K,tsFn.sp av H K->av.length=2:=fun av H K h=>by obtain ⟨a,b,rfl,_⟩:=tsPre_open h.1.1; rfl
attribute [go_sem] tsFn tsPre tsVal
theorem tlB_eq {a b:List Ty} (h:a=b):tlB a b=true:=tlB_iff.2 h
theorem tlB_ne {a b:List Ty} (h:a ≠ b):tlB a b=false:=by
  cases c:tlB a b with
  | false=>rfl
  | true=>exact absurd (tlB_iff.1 c) h
set_option maxRecDepth 100000 in
theorem mSameL:Meets Tryz.prog 113 tsFn.sp:=by
  refine meets_fn Tryz.func113 ok113 2 (by rw [Tryz.ntmps113]; decide) (meetsAll_f mRSame (meetsAll_nil _)) tsFn_len ?_
  rintro av H K ⟨⟨h,rfl⟩,hK⟩
  obtain ⟨a,b,rfl,hla,hoa,hob,hl⟩:=tsPre_open h
  replace hK:K (bS (tlB a b)) []:=by
    have:tsFn.val [.va (.c1 (.fz (a.map tyC))),.va (.c1 (.fz (b.map tyC)))]=bA (tlB a b):=by simp -dsimp only [go_sem]
    rw [this] at hK; exact hK
  clear h
  have fin:∀ (x:Bool),tlB a b=x->K (bS x) []:=fun x h=>by rw [h] at hK; exact hK
  simp (maxSteps:=1000000) -dsimp only [go_sem,pc113,rs113]
  refine vc_loop (α:=Nat) (fun i=>[(0,.va (.c1 (.fz (a.map tyC)))),(1,.va (.c1 (.fz (b.map tyC)))),(5,iS .i64 i)]) (fun _=>[])
    (fun i=>i<=a.length/\∀ j,j < i->a[j]? = b[j]?) (fun i=>a.length - i) 0 0 ⟨Nat.zero_le _,fun j hj=>by omega⟩ ?_ ?_ ?_
  · simp -dsimp only [go_sem]<;>simp
  · simp -dsimp only [go_sem]<;>simp
  rintro i ⟨hi,ho⟩
  rcases Nat.lt_or_ge i a.length with hlt | hge
  · have hg:decide ((i:Int) < (a.length:Int))=true:=by simp; omega
    obtain ⟨u,hx⟩:∃ t,a[i]? = some t:=⟨_,List.getElem?_eq_getElem hlt⟩
    obtain ⟨v,hy⟩:∃ t,b[i]? = some t:=⟨_,List.getElem?_eq_getElem (by omega)⟩
    have hu:isTy (tyC u):=isTy_mk (hoa u (List.mem_of_getElem? hx))
    have hv:isTy (tyC v):=isTy_mk (hob v (List.mem_of_getElem? hy))
    simp (maxSteps:=1000000) -dsimp only [go_sem,hg]
    simp (maxSteps:=1000000) -dsimp only [go_sem,tyC_len,hu,hv,hx,hy,Option.some.injEq,forall_eq']
    refine ⟨by omega,by omega,fun h1=>.done (fin false (tlB_ne fun he=>?_)),fun h1=>?_⟩
    · subst he
      rw [hx] at hy
      rw [tyB_eq (Option.some.inj hy)] at h1
      simp at h1
    · have h1:u=v:=tyB_iff.1 (by simpa using h1)
      subst h1
      refine ⟨by omega,loop_next (i + 1) 0 ⟨by omega,fun j hj=>?_⟩ (by omega) ?_ ?_⟩
      · rcases Nat.lt_or_ge j i with h4 | h4
        · exact ho j h4
        · obtain rfl:j=i:=by omega
          rw [hx,hy]
      · simp -dsimp only [go_sem]<;>simp
      · simp -dsimp only [go_sem]<;>simp
  · have hg:decide ((i:Int) < (a.length:Int))=false:=by simp; omega
    obtain rfl:i=a.length:=by omega
    simp (maxSteps:=1000000) -dsimp only [go_sem,hg]
    refine .done (fin true (tlB_eq (List.ext_getElem? fun j=>?_)))
    rcases Nat.lt_or_ge j a.length with h4 | h4
    · exact ho j h4
    · rw [List.getElem?_eq_none h4,List.getElem?_eq_none (by omega)]
set_option maxRecDepth 100000 in
set_option maxHeartbeats 2000000 in
theorem mRWidens':∀ N,Meets Tryz.prog 85 (wdFn N).sp
  | 0=>⟨by kernel_rfl,by rintro xs vs E ro w K _ _ _ ⟨⟨h,_⟩,_⟩; obtain ⟨a,_,_,_,_,h⟩:=saPre_open h; have:=a.h_pos; omega⟩
  | N + 1=>by
    refine meets_fn Tryz.func85 ok85 2 (by rw [Tryz.ntmps85]; decide) (meetsAll_f (mRWidens' N) (meetsAll_f mRSame (meetsAll_f mSameL (meetsAll_nil _)))) wdFn_len ?_
    rintro av H K ⟨⟨h,rfl⟩,hK⟩
    obtain ⟨a,b,rfl,ha,hb,hh⟩:=saPre_open h
    have hK:K (bS (widF a b)) []:=by
      have:(wdFn (N + 1)).val [.va (.gs (tyC a)),.va (.gs (tyC b))]=bA (widF a b):=by simp -dsimp only [go_sem]
      rw [this] at hK; exact hK
    clear h
    have fin:∀ (x:Bool) (R:Hp),widF a b=x->W.Fin 0 K (bS x) R:=fun x R h=>by
      rw [h] at hK
      exact .sel [] (by simp) (by simp) rfl (.done (by simpa [go_sem] using hK))
    obtain ⟨k,s,n,e⟩:=a
    obtain ⟨k',s',n',e'⟩:=b
    have hua:isTy (tyC (.mk k s n e)):=isTy_mk ha
    have hub:isTy (tyC (.mk k' s' n' e')):=isTy_mk hb
    have dua:=ty_dec (.mk k s n e)
    have dub:=ty_dec (.mk k' s' n' e')
    have hla:=ha.len
    have hlb:=hb.len
    have hoa:=ha.e
    have hob:=hb.e
    simp only [Ty.e] at hla hlb hoa hob
    have hst:widF (.mk k s n e) (.mk k' s' n' e')=(tyB (.mk k s n e) (.mk k' s' n' e') || (decide (k=k') && decide (n=n') && decide (e.length=e'.length) &&
      (bif decide (k=2) || decide (k=3) then decide (s < s') && tlB e e' else bif decide (k=4) then decide (s<=s') && tlB e e' else bif decide (k=5) then decide (s<=s') && decide (e.length=1) && widF (e.headD default) (e'.headD default) else false))):=widF_ref _ _
    have htsa:=isTs_mk hla hoa
    have htsb:=isTs_mk hlb hob
    have dta:=ty_map e
    have dtb:=ty_map e'
    simp only [tyC,tysC_map] at hua hub dua dub
    cases c1:tyB (.mk k s n e) (.mk k' s' n' e') with
    | true=>
      rw [c1,Bool.true_or] at hst
      simp (maxSteps:=1000000) -dsimp only [go_sem,tyC,tysC_map,pc85,rs85,hua,hub,dua,dub,c1]
      exact fin _ _ hst
    | false=>
    rw [c1,Bool.false_or] at hst
    simp (maxSteps:=1000000) -dsimp only [go_sem,tyC,tysC_map,pc85,rs85,bl_beq,hua,hub,dua,dub,c1,htsa,htsb,dta,dtb]
    have e5:(k == (5:Int))=decide (k=5):=rfl
    have e2:(k == (2:Int))=decide (k=2):=rfl
    have e3:(k == (3:Int))=decide (k=3):=rfl
    have e4:(k == (4:Int))=decide (k=4):=rfl
    refine ⟨fun h1=>fin _ _ ?_,fun h1=>?_⟩
    · rw [hst]
      by_cases hk:k=k'
      · by_cases hn:n=n'
        · by_cases hl:e.length=e'.length
          · rw [hk,hn,hl] at h1; simp at h1
          · rw [decide_eq_false hl,Bool.and_false,Bool.false_and]
        · rw [decide_eq_false hn,Bool.and_false,Bool.false_and,Bool.false_and]
      · rw [decide_eq_false hk,Bool.false_and,Bool.false_and,Bool.false_and]
    have h1':=h1
    simp only [Bool.or_eq_false_iff,bne_eq_false_iff_eq,Bool.not_eq_false'] at h1'
    obtain ⟨⟨hk,hn⟩,hl⟩:=h1'
    have hl:e.length=e'.length:=by omega
    rw [hn,decide_eq_true hk,decide_eq_true hl,Bool.true_and,Bool.true_and,Bool.true_and] at hst
    refine ⟨fun k2=>⟨fun _=>⟨fun _=>hl,fin _ _ ?_⟩,fun h=>absurd (k2.symm.trans h) (by simp)⟩,fun k2=>⟨fun k3=>⟨fun _=>hl,fin _ _ ?_⟩,fun k3=>⟨fun k4=>⟨fun _=>hl,fin _ _ ?_⟩,fun k4=>⟨fun k5=>?_,fun k5=>fin _ _ ?_⟩⟩⟩⟩
    · rw [e2] at k2; rw [hst,k2]; rfl
    · rw [e2] at k2; rw [e3] at k3; rw [hst,k2,k3]; rfl
    · rw [e2] at k2; rw [e3] at k3; rw [e4] at k4; rw [hst,k2,k3,k4]; rfl
    · rw [e2] at k2; rw [e3] at k3; rw [e4] at k4; rw [e5] at k5
      rw [k2,k3,k4,k5] at hst
      simp only [Bool.or_self,Bool.cond_false,Bool.cond_true] at hst
      refine ⟨fun h2=>?_,fun h2=>fin _ _ ?_⟩
      · have h2':=h2
        simp only [Bool.and_eq_true,beq_iff_eq,decide_eq_true_eq] at h2'
        obtain ⟨l3,l1⟩:=h2'
        obtain ⟨u,rfl⟩:∃ u,e=[u]:=List.length_eq_one_iff.1 (by omega)
        obtain ⟨v,rfl⟩:∃ v,e'=[v]:=List.length_eq_one_iff.1 (by simpa using hl.symm)
        have hu:isTy (tyC u):=isTy_mk (hoa u (by simp))
        have hv:isTy (tyC v):=isTy_mk (hob v (by simp))
        have huh:u.h<=N:=by rw [Ty.h,Ty.hs] at hh; omega
        have hfin:widF (.mk k s n [u]) (.mk k' s' n' [v])=widF u v:=by
          rw [hst]; simp [l3]
        simp (maxSteps:=1000000) -dsimp only [go_sem,tyC_len,hu,hv,List.getElem?_cons_zero,Option.some.injEq,forall_eq']
        refine ⟨by simp,by simp,huh,fin _ _ hfin⟩
      · rw [hst]
        cases hc:(decide (s<=s') && decide (e.length=1)) with
        | false=>rfl
        | true=>
          simp only [Bool.and_eq_true,decide_eq_true_eq] at hc
          simp [hc] at h2
    · rw [e2] at k2; rw [e3] at k3; rw [e4] at k4; rw [e5] at k5; rw [hst,k2,k3,k4,k5]; rfl
theorem mRWidens:Meets Tryz.prog 85 wFn.sp:=meets_all 0 mRWidens' fun av H K ⟨⟨h,e⟩,hK⟩=>by
  obtain ⟨a,b,rfl,ha,hb⟩:=sPre_open h
  exact ⟨a.h,⟨⟨⟨isTy_mk ha,isTy_mk hb,by rw [ty_dec]; exact Nat.le_refl _⟩,e⟩,hK⟩⟩
end Go.Proofs.YtbolanmlngjdoaaGreat
namespace Go.Proofs.YtbolanmlngjdoaaGreat
open Go.W
set_option maxRecDepth 100000 in
theorem mIn12:Meets Tryz.prog 31 (csFn fun l x=>.bool (inB l x)).sp:=by
  refine meets_fn Tryz.func31 ok31 2 (by rw [Tryz.ntmps31]; decide) (meetsAll_nil _) csFn_len ?_
  rintro av H K ⟨⟨h,rfl⟩,hK⟩
  obtain ⟨l,x,rfl,hl⟩:=csPre_open h
  replace hK:K (bS (inB l x)) []:=by
    have:(csFn fun l x=>.bool (inB l x)).val [.va (.c1 (.fz (l.map stR))),tS x]=bA (inB l x):=by simp -dsimp only [go_sem]
    rw [this] at hK; exact hK
  clear h
  simp (maxSteps:=1000000) -dsimp only [go_sem,pc31,rs31]
  refine vc_loop (α:=Nat) (fun i=>[(0,.va (.c1 (.fz (l.map stR)))),(1,tS x),(5,iS .i64 i)]) (fun _=>[])
    (fun i=>i<=l.length/\inB (l.drop i) x=inB l x) (fun i=>l.length - i) 0 0 ⟨Nat.zero_le _,rfl⟩ ?_ ?_ ?_
  · simp -dsimp only [go_sem]<;>simp
  · simp -dsimp only [go_sem]<;>simp
  rintro i ⟨hi,ho⟩
  rcases Nat.lt_or_ge i l.length with hlt | hge
  · have hg:decide ((i:Int) < (l.length:Int))=true:=by simp; omega
    obtain ⟨y,hx⟩:∃ t,l[i]? = some t:=⟨_,List.getElem?_eq_getElem hlt⟩
    have q2:=row_rg' (row:=stR) hx
    have hdr:l.drop i=y :: l.drop (i + 1):=by
      obtain ⟨h,rfl⟩:=List.getElem?_eq_some_iff.1 hx
      exact List.drop_eq_getElem_cons h
    rw [hdr] at ho
    have ho:(decide (x=y) || inB (l.drop (i + 1)) x)=inB l x:=ho
    have hq:decide (y=x)=decide (x=y):=by rw [decide_eq_decide]; exact eq_comm
    cases hc:decide (x=y) with
    | true=>
      rw [hc,Bool.true_or] at ho
      rw [hc] at hq
      simp (maxSteps:=1000000) -dsimp only [go_sem,hg,↓q2,bl_beq,hq]
      exact ⟨by omega,.done (by rw [ho]; exact hK)⟩
    | false=>
      rw [hc,Bool.false_or] at ho
      rw [hc] at hq
      simp (maxSteps:=1000000) -dsimp only [go_sem,hg,↓q2,bl_beq,hq]
      refine ⟨by omega,by omega,loop_next (i + 1) 0 ⟨by omega,ho⟩ (by omega) ?_ ?_⟩
      · simp -dsimp only [go_sem]<;>simp
      · simp -dsimp only [go_sem]<;>simp
  · have hg:decide ((i:Int) < (l.length:Int))=false:=by simp; omega
    obtain rfl:i=l.length:=by omega
    rw [List.drop_length] at ho
    have ho:false=inB l x:=ho
    simp (maxSteps:=1000000) -dsimp only [go_sem,hg]
    exact .done (by rw [ho]; exact hK)
end Go.Proofs.YtbolanmlngjdoaaGreat
namespace Go.Proofs.YtbolanmlngjdoaaGreat
open Go.W
def pc4_5:PC:=.seq (.gh (.reg [⟨some 28,none,.q (.mv (.t 6))⟩,⟨some 29,none,.q (.mv (.t 8))⟩,⟨some 30,none,.q (.bin .eql true (.t 28) (.t 29))⟩,⟨some 31,none,.q (.mv (.t 30))⟩,⟨some 32,(some (31,true)),.l (.ldn 3 (.t 5))⟩,⟨some 33,(some (31,true)),.l (.ldn 3 (.t 7))⟩,⟨some 34,(some (31,true)),.cq 16 [(.t 32),(.t 33)]⟩,⟨some 35,none,.pick (.t 31) (.t 34) (.k (.bool false))⟩,⟨some 36,none,.q (.mv (.t 35))⟩,⟨some 37,(some (36,true)),.cq 7 []⟩,⟨some 38,none,.pick (.t 36) (.t 37) (.k (.bool false))⟩,⟨some 4,none,.q (.mv (.t 38))⟩])) .ret
@[go_sem ↓] theorem fold4_5 (Γ:Env) (k0:Nat) (fr:Fr) (H:Hp) (K:Ex->Fr->Hp->Prop):vc Γ k0 pc4_5 fr H K=vcn Γ k0 pc4_5 fr H K ⟨⟩:=rfl
def pc4_4:PC:=.seq (.gh (.reg [⟨some 23,none,.l (.ldn 3 (.t 2))⟩,⟨some 24,none,.l (.ldn 3 (.t 3))⟩,⟨some 25,none,.cl 15 [(.t 23),(.t 24)] []⟩,⟨some 22,none,.q (.mv (.t 25))⟩,⟨some 26,none,.q (.ex (.t 22) 0)⟩,⟨some 27,none,.q (.ex (.t 22) 1)⟩,⟨some 7,none,.e (.al (.agg #[(.int .i64 0),(.slice none 0 0),(.slice none 0 0)]) 25)⟩,⟨none,none,.e (.st 3 (.t 7) (.t 26))⟩,⟨some 8,none,.q (.mv (.t 27))⟩])) (pc4_5)
@[go_sem ↓] theorem fold4_4 (Γ:Env) (k0:Nat) (fr:Fr) (H:Hp) (K:Ex->Fr->Hp->Prop):vc Γ k0 pc4_4 fr H K=vcn Γ k0 pc4_4 fr H K ⟨⟩:=rfl
def pc4:PC:=.seq (.reg [⟨some 2,none,.e (.bx 25 (.t 0))⟩,⟨some 3,none,.e (.bx 25 (.t 1))⟩,⟨some 4,none,.q (.mv (.k (.bool false)))⟩]) (.seq (.seq (.reg [⟨some 9,none,.l (.ldn 3 (.t 2))⟩,⟨some 10,none,.cq 6 [(.t 9)]⟩,⟨some 11,none,.q (.mv (.t 10))⟩,⟨some 12,(some (11,false)),.l (.ldn 3 (.t 3))⟩,⟨some 13,(some (11,false)),.cq 6 [(.t 12)]⟩,⟨some 14,none,.pick (.t 11) (.k (.bool true)) (.t 13)⟩]) (.cond (.t 14) (.seq (.reg [⟨some 15,none,.cq 7 []⟩,⟨some 4,none,.q (.mv (.t 15))⟩]) .ret) .skip)) (.seq (.reg [⟨some 17,none,.l (.ldn 3 (.t 2))⟩,⟨some 18,none,.l (.ldn 3 (.t 3))⟩,⟨some 19,none,.cl 14 [(.t 17),(.t 18)] []⟩,⟨some 16,none,.q (.mv (.t 19))⟩,⟨some 20,none,.q (.ex (.t 16) 0)⟩,⟨some 21,none,.q (.ex (.t 16) 1)⟩,⟨some 5,none,.e (.al (.agg #[(.int .i64 0),(.slice none 0 0),(.slice none 0 0)]) 25)⟩,⟨none,none,.e (.st 3 (.t 5) (.t 20))⟩,⟨some 6,none,.q (.mv (.t 21))⟩]) (pc4_4)))
def rs4:List RV:=[.mv (.t 4)]
theorem ok4:trFn Tryz.prog true ⟨fun r k=>if r=1/\k=1 then .q else if r=1/\k=4 then .q else if r=2/\k=0 then .q else if r=5/\k=6 then .q else if r=5/\k=9 then .q else .own [],fun r=>[4,5].contains r⟩ Tryz.f4=some (pc4,rs4):=by kernel_rfl
def pc15_20:PC:=.seq (.gh (.reg [⟨some 88,none,.l (.ldn 3 (.t 3))⟩,⟨some 89,none,.q (.fa 0 (.t 11))⟩,⟨some 90,none,.l (.ld1 (.t 89))⟩,⟨some 91,none,.cl 10 [(.t 88),(.t 90)] []⟩,⟨some 87,none,.q (.mv (.t 91))⟩,⟨some 92,none,.q (.ex (.t 87) 0)⟩,⟨some 93,none,.q (.ex (.t 87) 1)⟩,⟨some 16,none,.e (.al (.agg #[(.string (mk [])),(.slice none 0 0)]) 37)⟩,⟨none,none,.e (.st 2 (.t 16) (.t 92))⟩,⟨some 17,none,.q (.mv (.t 93))⟩])) (.seq (.reg [⟨some 94,none,.q (.mv (.t 9))⟩,⟨some 95,none,.q (.mv (.t 94))⟩,⟨some 96,(some (95,true)),.q (.mv (.t 17))⟩,⟨some 97,(some (95,true)),.q (.not (.t 96))⟩,⟨some 98,none,.pick (.t 95) (.t 97) (.k (.bool false))⟩,⟨some 9,none,.q (.mv (.t 98))⟩]) (.reg [⟨some 99,none,.q (.fa 1 (.t 8))⟩,⟨some 100,none,.l (.ld1 (.t 99))⟩,⟨some 101,none,.l (.ldn 3 (.t 11))⟩,⟨some 102,none,.e (.bsl 60 3 [(.t 101)])⟩,⟨some 103,none,.e (.ap 60 3 64 (.t 100) (.t 102))⟩,⟨some 104,none,.q (.fa 1 (.t 8))⟩,⟨none,none,.e (.st 1 (.t 104) (.t 103))⟩]))
@[go_sem ↓] theorem fold15_20 (Γ:Env) (k0:Nat) (fr:Fr) (H:Hp) (K:Ex->Fr->Hp->Prop):vc Γ k0 pc15_20 fr H K=vcn Γ k0 pc15_20 fr H K ⟨⟩:=rfl
def pc15_38:PC:=.seq (.gh (.reg [⟨some 167,none,.l (.ldn 3 (.t 3))⟩,⟨some 168,none,.q (.fa 0 (.t 22))⟩,⟨some 169,none,.l (.ld1 (.t 168))⟩,⟨some 170,none,.cl 44 [(.t 167),(.t 169)] []⟩,⟨some 166,none,.q (.mv (.t 170))⟩,⟨some 171,none,.q (.ex (.t 166) 0)⟩,⟨some 172,none,.q (.ex (.t 166) 1)⟩,⟨some 27,none,.e (.al (.agg #[(.string (mk [])),(.slice none 0 0),(.slice none 0 0)]) 60)⟩,⟨none,none,.e (.st 3 (.t 27) (.t 171))⟩,⟨some 28,none,.q (.mv (.t 172))⟩])) (.seq (.reg [⟨some 173,none,.q (.mv (.t 9))⟩,⟨some 174,none,.q (.mv (.t 173))⟩,⟨some 175,(some (174,true)),.q (.mv (.t 28))⟩,⟨some 176,(some (174,true)),.q (.not (.t 175))⟩,⟨some 177,none,.pick (.t 174) (.t 176) (.k (.bool false))⟩,⟨some 9,none,.q (.mv (.t 177))⟩]) (.reg [⟨some 178,none,.q (.fa 2 (.t 8))⟩,⟨some 179,none,.l (.ld1 (.t 178))⟩,⟨some 180,none,.l (.ldn 2 (.t 22))⟩,⟨some 181,none,.e (.bsl 37 2 [(.t 180)])⟩,⟨some 182,none,.e (.ap 37 2 40 (.t 179) (.t 181))⟩,⟨some 183,none,.q (.fa 2 (.t 8))⟩,⟨none,none,.e (.st 1 (.t 183) (.t 182))⟩]))
@[go_sem ↓] theorem fold15_38 (Γ:Env) (k0:Nat) (fr:Fr) (H:Hp) (K:Ex->Fr->Hp->Prop):vc Γ k0 pc15_38 fr H K=vcn Γ k0 pc15_38 fr H K ⟨⟩:=rfl
def pc15_10:PC:=.seq (.gh (.reg [⟨some 9,none,.q (.mv (.k (.bool true)))⟩])) (.seq (.seq (.reg [⟨some 10,none,.q (.mv (.k (.int .i64 0)))⟩]) (.block 0 (.loop (.seq (.seq (.reg [⟨some 56,none,.q (.mv (.t 10))⟩,⟨some 57,none,.q (.fa 1 (.t 2))⟩,⟨some 58,none,.l (.ld1 (.t 57))⟩,⟨some 59,none,.q (.lnL (.t 58))⟩,⟨some 60,none,.q (.bin .lss true (.t 56) (.t 59))⟩]) (.cond (.t 60) .skip (.exit 0))) (.seq (.block 1 (.seq (.reg [⟨some 63,none,.q (.fa 1 (.t 2))⟩,⟨some 64,none,.l (.ld1 (.t 63))⟩,⟨some 65,none,.q (.mv (.t 10))⟩,⟨some 66,none,.l (.ia 3 (.t 64) (.t 65))⟩,⟨some 67,none,.l (.ldn 3 (.t 66))⟩,⟨some 11,none,.e (.al (.agg #[(.string (mk [])),(.slice none 0 0),(.slice none 0 0)]) 60)⟩,⟨none,none,.e (.st 3 (.t 11) (.t 67))⟩]) (.seq (.seq (.reg [⟨some 69,none,.l (.ldn 3 (.t 3))⟩,⟨some 70,none,.q (.fa 0 (.t 11))⟩,⟨some 71,none,.l (.ld1 (.t 70))⟩,⟨some 72,none,.cl 44 [(.t 69),(.t 71)] []⟩,⟨some 68,none,.q (.mv (.t 72))⟩,⟨some 73,none,.q (.ex (.t 68) 0)⟩,⟨some 74,none,.q (.ex (.t 68) 1)⟩,⟨some 12,none,.e (.al (.agg #[(.string (mk [])),(.slice none 0 0),(.slice none 0 0)]) 60)⟩,⟨none,none,.e (.st 3 (.t 12) (.t 73))⟩,⟨some 13,none,.q (.mv (.t 74))⟩]) (.seq (.reg [⟨some 75,none,.q (.mv (.t 13))⟩]) (.cond (.t 75) (.seq (.reg [⟨some 77,none,.l (.ldn 3 (.t 11))⟩,⟨some 78,none,.l (.ldn 3 (.t 12))⟩,⟨some 79,none,.cl 45 [(.t 77),(.t 78)] []⟩,⟨some 76,none,.q (.mv (.t 79))⟩,⟨some 80,none,.q (.ex (.t 76) 0)⟩,⟨some 81,none,.q (.ex (.t 76) 1)⟩,⟨some 14,none,.e (.al (.agg #[(.string (mk [])),(.slice none 0 0),(.slice none 0 0)]) 60)⟩,⟨none,none,.e (.st 3 (.t 14) (.t 80))⟩,⟨some 15,none,.q (.mv (.t 81))⟩]) (.seq (.reg [⟨some 82,none,.q (.mv (.t 9))⟩,⟨some 83,none,.q (.mv (.t 82))⟩,⟨some 84,(some (83,true)),.q (.mv (.t 15))⟩,⟨some 85,none,.pick (.t 83) (.t 84) (.k (.bool false))⟩,⟨some 9,none,.q (.mv (.t 85))⟩]) (.reg [⟨some 86,none,.l (.ldn 3 (.t 14))⟩,⟨none,none,.e (.st 3 (.t 11) (.t 86))⟩]))) .skip))) (pc15_20)))) (.reg [⟨some 61,none,.q (.mv (.t 10))⟩,⟨some 62,none,.q (.bin .add true (.t 61) (.k (.int .i64 1)))⟩,⟨some 10,none,.q (.mv (.t 62))⟩])))))) (.seq (.seq (.reg [⟨some 18,none,.q (.mv (.k (.int .i64 0)))⟩]) (.block 2 (.loop (.seq (.seq (.reg [⟨some 105,none,.q (.mv (.t 18))⟩,⟨some 106,none,.q (.fa 1 (.t 3))⟩,⟨some 107,none,.l (.ld1 (.t 106))⟩,⟨some 108,none,.q (.lnL (.t 107))⟩,⟨some 109,none,.q (.bin .lss true (.t 105) (.t 108))⟩]) (.cond (.t 109) .skip (.exit 2))) (.seq (.block 3 (.seq (.ord  [.q ⟨some 113,none,.l (.ldn 3 (.t 2))⟩,.q ⟨some 114,none,.q (.fa 1 (.t 3))⟩,.q ⟨some 115,none,.l (.ld1 (.t 114))⟩,.q ⟨some 116,none,.q (.mv (.t 18))⟩,.q ⟨some 117,none,.l (.ia 3 (.t 115) (.t 116))⟩,.q ⟨some 118,none,.q (.fa 0 (.t 117))⟩,.q ⟨some 119,none,.l (.ld1 (.t 118))⟩,.m ⟨some 120,none,.cl 44 [(.t 113),(.t 119)] []⟩,.q ⟨some 112,none,.q (.mv (.t 120))⟩,.q ⟨some 121,none,.q (.ex (.t 112) 0)⟩,.q ⟨some 122,none,.q (.ex (.t 112) 1)⟩,.m ⟨some 19,none,.e (.al (.agg #[(.string (mk [])),(.slice none 0 0),(.slice none 0 0)]) 60)⟩,.rc ⟨some 112,none,.q (.mv (.t 120))⟩,.rc ⟨some 121,none,.q (.ex (.t 112) 0)⟩,.rc ⟨some 122,none,.q (.ex (.t 112) 1)⟩,.m ⟨none,none,.e (.st 3 (.t 19) (.t 121))⟩,.rc ⟨some 122,none,.q (.ex (.t 112) 1)⟩,.m ⟨some 20,none,.q (.mv (.t 122))⟩]) (.seq (.reg [⟨some 123,none,.q (.mv (.t 20))⟩,⟨some 124,none,.q (.not (.t 123))⟩]) (.cond (.t 124) (.reg [⟨some 125,none,.q (.fa 1 (.t 8))⟩,⟨some 126,none,.l (.ld1 (.t 125))⟩,⟨some 127,none,.q (.fa 1 (.t 3))⟩,⟨some 128,none,.l (.ld1 (.t 127))⟩,⟨some 129,none,.q (.mv (.t 18))⟩,⟨some 130,none,.l (.ia 3 (.t 128) (.t 129))⟩,⟨some 131,none,.l (.ldn 3 (.t 130))⟩,⟨some 132,none,.e (.bsl 60 3 [(.t 131)])⟩,⟨some 133,none,.e (.ap 60 3 64 (.t 126) (.t 132))⟩,⟨some 134,none,.q (.fa 1 (.t 8))⟩,⟨none,none,.e (.st 1 (.t 134) (.t 133))⟩]) .skip)))) (.reg [⟨some 110,none,.q (.mv (.t 18))⟩,⟨some 111,none,.q (.bin .add true (.t 110) (.k (.int .i64 1)))⟩,⟨some 18,none,.q (.mv (.t 111))⟩])))))) (.seq (.seq (.reg [⟨some 21,none,.q (.mv (.k (.int .i64 0)))⟩]) (.block 4 (.loop (.seq (.seq (.reg [⟨some 135,none,.q (.mv (.t 21))⟩,⟨some 136,none,.q (.fa 2 (.t 2))⟩,⟨some 137,none,.l (.ld1 (.t 136))⟩,⟨some 138,none,.q (.lnL (.t 137))⟩,⟨some 139,none,.q (.bin .lss true (.t 135) (.t 138))⟩]) (.cond (.t 139) .skip (.exit 4))) (.seq (.block 5 (.seq (.reg [⟨some 142,none,.q (.fa 2 (.t 2))⟩,⟨some 143,none,.l (.ld1 (.t 142))⟩,⟨some 144,none,.q (.mv (.t 21))⟩,⟨some 145,none,.l (.ia 2 (.t 143) (.t 144))⟩,⟨some 146,none,.l (.ldn 2 (.t 145))⟩,⟨some 22,none,.e (.al (.agg #[(.string (mk [])),(.slice none 0 0)]) 37)⟩,⟨none,none,.e (.st 2 (.t 22) (.t 146))⟩]) (.seq (.seq (.reg [⟨some 148,none,.l (.ldn 3 (.t 3))⟩,⟨some 149,none,.q (.fa 0 (.t 22))⟩,⟨some 150,none,.l (.ld1 (.t 149))⟩,⟨some 151,none,.cl 10 [(.t 148),(.t 150)] []⟩,⟨some 147,none,.q (.mv (.t 151))⟩,⟨some 152,none,.q (.ex (.t 147) 0)⟩,⟨some 153,none,.q (.ex (.t 147) 1)⟩,⟨some 23,none,.e (.al (.agg #[(.string (mk [])),(.slice none 0 0)]) 37)⟩,⟨none,none,.e (.st 2 (.t 23) (.t 152))⟩,⟨some 24,none,.q (.mv (.t 153))⟩]) (.seq (.reg [⟨some 154,none,.q (.mv (.t 24))⟩]) (.cond (.t 154) (.seq (.reg [⟨some 156,none,.l (.ldn 2 (.t 22))⟩,⟨some 157,none,.l (.ldn 2 (.t 23))⟩,⟨some 158,none,.cl 46 [(.t 156),(.t 157)] []⟩,⟨some 155,none,.q (.mv (.t 158))⟩,⟨some 159,none,.q (.ex (.t 155) 0)⟩,⟨some 160,none,.q (.ex (.t 155) 1)⟩,⟨some 25,none,.e (.al (.agg #[(.string (mk [])),(.slice none 0 0)]) 37)⟩,⟨none,none,.e (.st 2 (.t 25) (.t 159))⟩,⟨some 26,none,.q (.mv (.t 160))⟩]) (.seq (.reg [⟨some 161,none,.q (.mv (.t 9))⟩,⟨some 162,none,.q (.mv (.t 161))⟩,⟨some 163,(some (162,true)),.q (.mv (.t 26))⟩,⟨some 164,none,.pick (.t 162) (.t 163) (.k (.bool false))⟩,⟨some 9,none,.q (.mv (.t 164))⟩]) (.reg [⟨some 165,none,.l (.ldn 2 (.t 25))⟩,⟨none,none,.e (.st 2 (.t 22) (.t 165))⟩]))) .skip))) (pc15_38)))) (.reg [⟨some 140,none,.q (.mv (.t 21))⟩,⟨some 141,none,.q (.bin .add true (.t 140) (.k (.int .i64 1)))⟩,⟨some 21,none,.q (.mv (.t 141))⟩])))))) (.seq (.seq (.reg [⟨some 29,none,.q (.mv (.k (.int .i64 0)))⟩]) (.block 6 (.loop (.seq (.seq (.reg [⟨some 184,none,.q (.mv (.t 29))⟩,⟨some 185,none,.q (.fa 2 (.t 3))⟩,⟨some 186,none,.l (.ld1 (.t 185))⟩,⟨some 187,none,.q (.lnL (.t 186))⟩,⟨some 188,none,.q (.bin .lss true (.t 184) (.t 187))⟩]) (.cond (.t 188) .skip (.exit 6))) (.seq (.block 7 (.seq (.ord  [.q ⟨some 192,none,.l (.ldn 3 (.t 2))⟩,.q ⟨some 193,none,.q (.fa 2 (.t 3))⟩,.q ⟨some 194,none,.l (.ld1 (.t 193))⟩,.q ⟨some 195,none,.q (.mv (.t 29))⟩,.q ⟨some 196,none,.l (.ia 2 (.t 194) (.t 195))⟩,.q ⟨some 197,none,.q (.fa 0 (.t 196))⟩,.q ⟨some 198,none,.l (.ld1 (.t 197))⟩,.m ⟨some 199,none,.cl 10 [(.t 192),(.t 198)] []⟩,.q ⟨some 191,none,.q (.mv (.t 199))⟩,.q ⟨some 200,none,.q (.ex (.t 191) 0)⟩,.q ⟨some 201,none,.q (.ex (.t 191) 1)⟩,.m ⟨some 30,none,.e (.al (.agg #[(.string (mk [])),(.slice none 0 0)]) 37)⟩,.rc ⟨some 191,none,.q (.mv (.t 199))⟩,.rc ⟨some 200,none,.q (.ex (.t 191) 0)⟩,.rc ⟨some 201,none,.q (.ex (.t 191) 1)⟩,.m ⟨none,none,.e (.st 2 (.t 30) (.t 200))⟩,.rc ⟨some 201,none,.q (.ex (.t 191) 1)⟩,.m ⟨some 31,none,.q (.mv (.t 201))⟩]) (.seq (.reg [⟨some 202,none,.q (.mv (.t 31))⟩,⟨some 203,none,.q (.not (.t 202))⟩]) (.cond (.t 203) (.reg [⟨some 204,none,.q (.fa 2 (.t 8))⟩,⟨some 205,none,.l (.ld1 (.t 204))⟩,⟨some 206,none,.q (.fa 2 (.t 3))⟩,⟨some 207,none,.l (.ld1 (.t 206))⟩,⟨some 208,none,.q (.mv (.t 29))⟩,⟨some 209,none,.l (.ia 2 (.t 207) (.t 208))⟩,⟨some 210,none,.l (.ldn 2 (.t 209))⟩,⟨some 211,none,.e (.bsl 37 2 [(.t 210)])⟩,⟨some 212,none,.e (.ap 37 2 40 (.t 205) (.t 211))⟩,⟨some 213,none,.q (.fa 2 (.t 8))⟩,⟨none,none,.e (.st 1 (.t 213) (.t 212))⟩]) .skip)))) (.reg [⟨some 189,none,.q (.mv (.t 29))⟩,⟨some 190,none,.q (.bin .add true (.t 189) (.k (.int .i64 1)))⟩,⟨some 29,none,.q (.mv (.t 190))⟩])))))) (.seq (.seq (.reg [⟨some 214,none,.q (.mv (.t 9))⟩,⟨some 215,none,.q (.not (.t 214))⟩]) (.cond (.t 215) (.seq (.reg [⟨some 216,none,.q (.bd [(.int .i64 0),(.slice none 0 0),(.slice none 0 0)] [])⟩,⟨none,none,.e (.st 3 (.t 4) (.t 216))⟩,⟨some 5,none,.q (.mv (.k (.int .i64 14)))⟩]) .ret) .skip)) (.seq (.seq (.reg [⟨some 217,none,.l (.ldn 3 (.t 8))⟩,⟨some 218,none,.cq 11 [(.t 217)]⟩,⟨some 32,none,.q (.mv (.t 218))⟩]) (.seq (.reg [⟨some 219,none,.q (.mv (.t 32))⟩,⟨some 220,none,.q (.bin .neq true (.t 219) (.k (.int .i64 0)))⟩]) (.cond (.t 220) (.seq (.reg [⟨some 221,none,.q (.bd [(.int .i64 0),(.slice none 0 0),(.slice none 0 0)] [])⟩,⟨some 222,none,.q (.mv (.t 32))⟩,⟨none,none,.e (.st 3 (.t 4) (.t 221))⟩,⟨some 5,none,.q (.mv (.t 222))⟩]) .ret) .skip))) (.seq (.reg [⟨some 223,none,.l (.ldn 3 (.t 8))⟩,⟨none,none,.e (.st 3 (.t 4) (.t 223))⟩,⟨some 5,none,.q (.mv (.k (.int .i64 0)))⟩]) .ret)))))))
@[go_sem ↓] theorem fold15_10 (Γ:Env) (k0:Nat) (fr:Fr) (H:Hp) (K:Ex->Fr->Hp->Prop):vc Γ k0 pc15_10 fr H K=vcn Γ k0 pc15_10 fr H K ⟨⟩:=rfl
def pc15:PC:=.seq (.reg [⟨some 2,none,.e (.bx 25 (.t 0))⟩,⟨some 3,none,.e (.bx 25 (.t 1))⟩,⟨some 4,none,.e (.al (.agg #[(.int .i64 0),(.slice none 0 0),(.slice none 0 0)]) 25)⟩,⟨some 5,none,.q (.mv (.k (.int .i64 0)))⟩]) (.seq (.seq (.reg [⟨some 33,none,.l (.ldn 3 (.t 2))⟩,⟨some 34,none,.cq 11 [(.t 33)]⟩,⟨some 6,none,.q (.mv (.t 34))⟩]) (.seq (.reg [⟨some 35,none,.q (.mv (.t 6))⟩,⟨some 36,none,.q (.bin .neq true (.t 35) (.k (.int .i64 0)))⟩]) (.cond (.t 36) (.seq (.reg [⟨some 37,none,.q (.bd [(.int .i64 0),(.slice none 0 0),(.slice none 0 0)] [])⟩,⟨some 38,none,.q (.mv (.t 6))⟩,⟨none,none,.e (.st 3 (.t 4) (.t 37))⟩,⟨some 5,none,.q (.mv (.t 38))⟩]) .ret) .skip))) (.seq (.seq (.reg [⟨some 39,none,.l (.ldn 3 (.t 3))⟩,⟨some 40,none,.cq 11 [(.t 39)]⟩,⟨some 7,none,.q (.mv (.t 40))⟩]) (.seq (.reg [⟨some 41,none,.q (.mv (.t 7))⟩,⟨some 42,none,.q (.bin .neq true (.t 41) (.k (.int .i64 0)))⟩]) (.cond (.t 42) (.seq (.reg [⟨some 43,none,.q (.bd [(.int .i64 0),(.slice none 0 0),(.slice none 0 0)] [])⟩,⟨some 44,none,.q (.mv (.t 7))⟩,⟨none,none,.e (.st 3 (.t 4) (.t 43))⟩,⟨some 5,none,.q (.mv (.t 44))⟩]) .ret) .skip))) (.seq (.reg [⟨some 45,none,.q (.fa 0 (.t 2))⟩,⟨some 46,none,.l (.ld1 (.t 45))⟩,⟨some 47,none,.q (.bd [(.int .i64 0),(.slice none 0 0),(.slice none 0 0)] [(0,1,(.t 46))])⟩,⟨some 8,none,.e (.al (.agg #[(.int .i64 0),(.slice none 0 0),(.slice none 0 0)]) 25)⟩,⟨none,none,.e (.st 3 (.t 8) (.t 47))⟩]) (.seq (.seq (.reg [⟨some 48,none,.q (.fa 0 (.t 3))⟩,⟨some 49,none,.l (.ld1 (.t 48))⟩,⟨some 50,none,.q (.fa 0 (.t 2))⟩,⟨some 51,none,.l (.ld1 (.t 50))⟩,⟨some 52,none,.q (.bin .gtr true (.t 49) (.t 51))⟩]) (.cond (.t 52) (.reg [⟨some 53,none,.q (.fa 0 (.t 3))⟩,⟨some 54,none,.l (.ld1 (.t 53))⟩,⟨some 55,none,.q (.fa 0 (.t 8))⟩,⟨none,none,.e (.st 1 (.t 55) (.t 54))⟩]) .skip)) (pc15_10)))))
def rs15:List RV:=[.ld (.ldn 3 (.t 4)),.mv (.t 5)]
theorem ok15:trFn Tryz.prog true ⟨fun r k=>if r=1/\k=1 then .q else if r=4/\k=1 then .q else if r=49/\k=1 then .q else .own [],fun r=>[10,20,38].contains r⟩ Tryz.f15=some (pc15,rs15):=by kernel_rfl
def pc45:PC:=.seq (.reg [⟨some 2,none,.e (.bx 60 (.t 0))⟩,⟨some 3,none,.e (.bx 60 (.t 1))⟩,⟨some 4,none,.e (.al (.agg #[(.string (mk [])),(.slice none 0 0),(.slice none 0 0)]) 60)⟩,⟨some 5,none,.q (.mv (.k (.bool false)))⟩]) (.seq (.reg [⟨some 12,none,.q (.fa 0 (.t 2))⟩,⟨some 13,none,.l (.ld1 (.t 12))⟩,⟨some 14,none,.q (.bd [(.string (mk [])),(.slice none 0 0),(.slice none 0 0)] [(0,1,(.t 13))])⟩,⟨some 6,none,.e (.al (.agg #[(.string (mk [])),(.slice none 0 0),(.slice none 0 0)]) 60)⟩,⟨none,none,.e (.st 3 (.t 6) (.t 14))⟩]) (.seq (.seq (.reg [⟨some 7,none,.q (.mv (.k (.int .i64 0)))⟩]) (.block 0 (.loop (.seq (.seq (.reg [⟨some 15,none,.q (.mv (.t 7))⟩,⟨some 16,none,.q (.bin .leq true (.t 15) (.k (.int .i64 127)))⟩]) (.cond (.t 16) .skip (.exit 0))) (.seq (.block 1 (.seq (.reg [⟨some 8,none,.q (.mv (.k (.string (mk []))))⟩,⟨some 9,none,.q (.mv (.k (.string (mk []))))⟩]) (.seq (.seq (.reg [⟨some 10,none,.q (.mv (.k (.int .i64 0)))⟩]) (.block 2 (.loop (.seq (.seq (.reg [⟨some 19,none,.q (.mv (.t 10))⟩,⟨some 20,none,.q (.fa 2 (.t 2))⟩,⟨some 21,none,.l (.ld1 (.t 20))⟩,⟨some 22,none,.q (.lnL (.t 21))⟩,⟨some 23,none,.q (.bin .lss true (.t 19) (.t 22))⟩]) (.cond (.t 23) .skip (.exit 2))) (.seq (.block 3 (.seq (.reg [⟨some 26,none,.q (.fa 2 (.t 2))⟩,⟨some 27,none,.l (.ld1 (.t 26))⟩,⟨some 28,none,.q (.mv (.t 10))⟩,⟨some 29,none,.l (.ia 1 (.t 27) (.t 28))⟩,⟨some 30,none,.l (.ld1 (.t 29))⟩,⟨some 31,none,.q (.mv (.t 7))⟩,⟨some 32,none,.q (.bin .eql true (.t 30) (.t 31))⟩]) (.cond (.t 32) (.reg [⟨some 33,none,.q (.fa 1 (.t 2))⟩,⟨some 34,none,.l (.ld1 (.t 33))⟩,⟨some 35,none,.q (.mv (.t 10))⟩,⟨some 36,none,.l (.ia 1 (.t 34) (.t 35))⟩,⟨some 37,none,.l (.ld1 (.t 36))⟩,⟨some 8,none,.q (.mv (.t 37))⟩]) .skip))) (.reg [⟨some 24,none,.q (.mv (.t 10))⟩,⟨some 25,none,.q (.bin .add true (.t 24) (.k (.int .i64 1)))⟩,⟨some 10,none,.q (.mv (.t 25))⟩])))))) (.seq (.seq (.reg [⟨some 11,none,.q (.mv (.k (.int .i64 0)))⟩]) (.block 4 (.loop (.seq (.seq (.reg [⟨some 38,none,.q (.mv (.t 11))⟩,⟨some 39,none,.q (.fa 2 (.t 3))⟩,⟨some 40,none,.l (.ld1 (.t 39))⟩,⟨some 41,none,.q (.lnL (.t 40))⟩,⟨some 42,none,.q (.bin .lss true (.t 38) (.t 41))⟩]) (.cond (.t 42) .skip (.exit 4))) (.seq (.block 5 (.seq (.reg [⟨some 45,none,.q (.fa 2 (.t 3))⟩,⟨some 46,none,.l (.ld1 (.t 45))⟩,⟨some 47,none,.q (.mv (.t 11))⟩,⟨some 48,none,.l (.ia 1 (.t 46) (.t 47))⟩,⟨some 49,none,.l (.ld1 (.t 48))⟩,⟨some 50,none,.q (.mv (.t 7))⟩,⟨some 51,none,.q (.bin .eql true (.t 49) (.t 50))⟩]) (.cond (.t 51) (.reg [⟨some 52,none,.q (.fa 1 (.t 3))⟩,⟨some 53,none,.l (.ld1 (.t 52))⟩,⟨some 54,none,.q (.mv (.t 11))⟩,⟨some 55,none,.l (.ia 1 (.t 53) (.t 54))⟩,⟨some 56,none,.l (.ld1 (.t 55))⟩,⟨some 9,none,.q (.mv (.t 56))⟩]) .skip))) (.reg [⟨some 43,none,.q (.mv (.t 11))⟩,⟨some 44,none,.q (.bin .add true (.t 43) (.k (.int .i64 1)))⟩,⟨some 11,none,.q (.mv (.t 44))⟩])))))) (.seq (.seq (.reg [⟨some 57,none,.q (.mv (.t 8))⟩,⟨some 58,none,.q (.bin .neq true (.t 57) (.k (.string (mk []))))⟩,⟨some 59,none,.q (.mv (.t 58))⟩,⟨some 60,(some (59,true)),.q (.mv (.t 9))⟩,⟨some 61,(some (59,true)),.q (.bin .neq true (.t 60) (.k (.string (mk []))))⟩,⟨some 62,none,.pick (.t 59) (.t 61) (.k (.bool false))⟩,⟨some 63,none,.q (.mv (.t 62))⟩,⟨some 64,(some (63,true)),.q (.mv (.t 8))⟩,⟨some 65,(some (63,true)),.q (.mv (.t 9))⟩,⟨some 66,(some (63,true)),.q (.bin .neq true (.t 64) (.t 65))⟩,⟨some 67,none,.pick (.t 63) (.t 66) (.k (.bool false))⟩]) (.cond (.t 67) (.seq (.reg [⟨some 68,none,.l (.ldn 3 (.t 6))⟩,⟨none,none,.e (.st 3 (.t 4) (.t 68))⟩,⟨some 5,none,.q (.mv (.k (.bool false)))⟩]) .ret) .skip)) (.seq (.seq (.reg [⟨some 69,none,.q (.mv (.t 8))⟩,⟨some 70,none,.q (.bin .eql true (.t 69) (.k (.string (mk []))))⟩]) (.cond (.t 70) (.reg [⟨some 71,none,.q (.mv (.t 9))⟩,⟨some 8,none,.q (.mv (.t 71))⟩]) .skip)) (.seq (.seq (.reg [⟨some 72,none,.q (.mv (.t 8))⟩,⟨some 73,none,.q (.bin .eql true (.t 72) (.k (.string (mk []))))⟩]) (.cond (.t 73) (.exit 1) .skip)) (.seq (.seq (.reg [⟨some 74,none,.q (.fa 1 (.t 6))⟩,⟨some 75,none,.l (.ld1 (.t 74))⟩,⟨some 76,none,.q (.mv (.t 8))⟩,⟨some 77,none,.cq 31 [(.t 75),(.t 76)]⟩]) (.cond (.t 77) (.seq (.reg [⟨some 78,none,.l (.ldn 3 (.t 6))⟩,⟨none,none,.e (.st 3 (.t 4) (.t 78))⟩,⟨some 5,none,.q (.mv (.k (.bool false)))⟩]) .ret) .skip)) (.seq (.reg [⟨some 79,none,.q (.fa 1 (.t 6))⟩,⟨some 80,none,.l (.ld1 (.t 79))⟩,⟨some 81,none,.q (.mv (.t 8))⟩,⟨some 82,none,.e (.bsl 9 1 [(.t 81)])⟩,⟨some 83,none,.e (.ap 9 1 16 (.t 80) (.t 82))⟩,⟨some 84,none,.q (.fa 1 (.t 6))⟩,⟨none,none,.e (.st 1 (.t 84) (.t 83))⟩]) (.reg [⟨some 85,none,.q (.fa 2 (.t 6))⟩,⟨some 86,none,.l (.ld1 (.t 85))⟩,⟨some 87,none,.q (.mv (.t 7))⟩,⟨some 88,none,.e (.bsl 3 1 [(.t 87)])⟩,⟨some 89,none,.e (.ap 3 1 8 (.t 86) (.t 88))⟩,⟨some 90,none,.q (.fa 2 (.t 6))⟩,⟨none,none,.e (.st 1 (.t 90) (.t 89))⟩])))))))))) (.reg [⟨some 17,none,.q (.mv (.t 7))⟩,⟨some 18,none,.q (.bin .add true (.t 17) (.k (.int .i64 1)))⟩,⟨some 7,none,.q (.mv (.t 18))⟩])))))) (.seq (.reg [⟨some 91,none,.l (.ldn 3 (.t 6))⟩,⟨none,none,.e (.st 3 (.t 4) (.t 91))⟩,⟨some 5,none,.q (.mv (.k (.bool true)))⟩]) .ret)))
def rs45:List RV:=[.ld (.ldn 3 (.t 4)),.mv (.t 5)]
theorem ok45:trFn Tryz.prog true ⟨fun r k=>if r=21/\k=3 then .q else .own [],fun _=>false⟩ Tryz.f45=some (pc45,rs45):=by kernel_rfl
def pc46_7:PC:=.seq (.seq (.gh (.reg [⟨some 31,none,.q (.mv (.t 9))⟩,⟨some 32,none,.q (.not (.t 31))⟩,⟨some 33,none,.q (.mv (.t 32))⟩,⟨some 34,(some (33,true)),.q (.mv (.t 11))⟩,⟨some 35,(some (33,true)),.q (.not (.t 34))⟩,⟨some 36,none,.pick (.t 33) (.t 35) (.k (.bool false))⟩])) (.cond (.t 36) (.exit 1) .skip)) (.seq (.seq (.reg [⟨some 37,none,.q (.mv (.t 9))⟩,⟨some 38,none,.q (.not (.t 37))⟩]) (.cond (.t 38) (.reg [⟨some 39,none,.l (.ldn 7 (.t 10))⟩,⟨none,none,.e (.st 7 (.t 8) (.t 39))⟩]) .skip)) (.seq (.seq (.reg [⟨some 40,none,.q (.mv (.t 9))⟩,⟨some 41,none,.q (.mv (.t 40))⟩,⟨some 42,(some (41,true)),.q (.mv (.t 11))⟩,⟨some 43,none,.pick (.t 41) (.t 42) (.k (.bool false))⟩]) (.cond (.t 43) (.seq (.seq (.reg [⟨some 44,none,.q (.fa 6 (.t 8))⟩,⟨some 45,none,.l (.ld1 (.t 44))⟩,⟨some 46,none,.q (.fa 6 (.t 10))⟩,⟨some 47,none,.l (.ld1 (.t 46))⟩,⟨some 48,none,.q (.eqB true (.t 45) (.t 47))⟩,⟨some 49,none,.q (.mv (.t 48))⟩,⟨some 50,(some (49,false)),.q (.fa 2 (.t 8))⟩,⟨some 51,(some (49,false)),.l (.ldn 4 (.t 50))⟩,⟨some 52,(some (49,false)),.q (.fa 2 (.t 10))⟩,⟨some 53,(some (49,false)),.l (.ldn 4 (.t 52))⟩,⟨some 54,(some (49,false)),.cq 85 [(.t 51),(.t 53)]⟩,⟨some 55,(some (49,false)),.q (.not (.t 54))⟩,⟨some 56,(some (49,false)),.q (.mv (.t 55))⟩,⟨some 57,(some (56,true)),.q (.fa 2 (.t 10))⟩,⟨some 58,(some (56,true)),.l (.ldn 4 (.t 57))⟩,⟨some 59,(some (56,true)),.q (.fa 2 (.t 8))⟩,⟨some 60,(some (56,true)),.l (.ldn 4 (.t 59))⟩,⟨some 61,(some (56,true)),.cq 85 [(.t 58),(.t 60)]⟩,⟨some 62,(some (56,true)),.q (.not (.t 61))⟩,⟨some 63,(some (49,false)),.pick (.t 56) (.t 62) (.k (.bool false))⟩,⟨some 64,none,.pick (.t 49) (.k (.bool true)) (.t 63)⟩]) (.cond (.t 64) (.seq (.reg [⟨some 65,none,.l (.ldn 2 (.t 6))⟩,⟨none,none,.e (.st 2 (.t 4) (.t 65))⟩,⟨some 5,none,.q (.mv (.k (.bool false)))⟩]) .ret) .skip)) (.seq (.reg [⟨some 66,none,.q (.fa 2 (.t 8))⟩,⟨some 67,none,.l (.ldn 4 (.t 66))⟩,⟨some 68,none,.q (.fa 2 (.t 10))⟩,⟨some 69,none,.l (.ldn 4 (.t 68))⟩,⟨some 70,none,.cq 85 [(.t 67),(.t 69)]⟩]) (.cond (.t 70) (.reg [⟨some 71,none,.q (.fa 2 (.t 10))⟩,⟨some 72,none,.l (.ldn 4 (.t 71))⟩,⟨some 73,none,.q (.fa 2 (.t 8))⟩,⟨none,none,.e (.st 4 (.t 73) (.t 72))⟩]) .skip))) (.seq (.reg [⟨some 74,none,.q (.fa 6 (.t 8))⟩,⟨some 75,none,.l (.ld1 (.t 74))⟩,⟨some 76,none,.q (.not (.t 75))⟩]) (.cond (.t 76) (.seq (.reg [⟨some 77,none,.l (.ldn 2 (.t 6))⟩,⟨none,none,.e (.st 2 (.t 4) (.t 77))⟩,⟨some 5,none,.q (.mv (.k (.bool false)))⟩]) .ret) .skip)))) (.reg [⟨some 78,none,.q (.fa 1 (.t 6))⟩,⟨some 79,none,.l (.ld1 (.t 78))⟩,⟨some 80,none,.l (.ldn 7 (.t 8))⟩,⟨some 81,none,.e (.bsl 50 7 [(.t 80)])⟩,⟨some 82,none,.e (.ap 50 7 88 (.t 79) (.t 81))⟩,⟨some 83,none,.q (.fa 1 (.t 6))⟩,⟨none,none,.e (.st 1 (.t 83) (.t 82))⟩])))
@[go_sem ↓] theorem fold46_7 (Γ:Env) (k0:Nat) (fr:Fr) (H:Hp) (K:Ex->Fr->Hp->Prop):vc Γ k0 pc46_7 fr H K=vcn Γ k0 pc46_7 fr H K ⟨⟩:=rfl
def pc46_6:PC:=.seq (.gh (.reg [⟨some 26,none,.l (.ldn 2 (.t 3))⟩,⟨some 27,none,.q (.mv (.t 7))⟩,⟨some 28,none,.cl 84 [(.t 26),(.t 27)] []⟩,⟨some 25,none,.q (.mv (.t 28))⟩,⟨some 29,none,.q (.ex (.t 25) 0)⟩,⟨some 30,none,.q (.ex (.t 25) 1)⟩,⟨some 10,none,.e (.al (.agg #[(.int .i64 0),(.string (mk [])),(.int .i64 0),(.int .i64 0),(.string (mk [])),(.slice none 0 0),(.bool false)]) 50)⟩,⟨none,none,.e (.st 7 (.t 10) (.t 29))⟩,⟨some 11,none,.q (.mv (.t 30))⟩])) (pc46_7)
@[go_sem ↓] theorem fold46_6 (Γ:Env) (k0:Nat) (fr:Fr) (H:Hp) (K:Ex->Fr->Hp->Prop):vc Γ k0 pc46_6 fr H K=vcn Γ k0 pc46_6 fr H K ⟨⟩:=rfl
def pc46:PC:=.seq (.reg [⟨some 2,none,.e (.bx 37 (.t 0))⟩,⟨some 3,none,.e (.bx 37 (.t 1))⟩,⟨some 4,none,.e (.al (.agg #[(.string (mk [])),(.slice none 0 0)]) 37)⟩,⟨some 5,none,.q (.mv (.k (.bool false)))⟩]) (.seq (.reg [⟨some 12,none,.q (.fa 0 (.t 2))⟩,⟨some 13,none,.l (.ld1 (.t 12))⟩,⟨some 14,none,.q (.bd [(.string (mk [])),(.slice none 0 0)] [(0,1,(.t 13))])⟩,⟨some 6,none,.e (.al (.agg #[(.string (mk [])),(.slice none 0 0)]) 37)⟩,⟨none,none,.e (.st 2 (.t 6) (.t 14))⟩]) (.seq (.seq (.reg [⟨some 7,none,.q (.mv (.k (.int .i64 1)))⟩]) (.block 0 (.loop (.seq (.seq (.reg [⟨some 15,none,.q (.mv (.t 7))⟩,⟨some 16,none,.q (.bin .leq true (.t 15) (.k (.int .i64 127)))⟩]) (.cond (.t 16) .skip (.exit 0))) (.seq (.block 1 (.seq (.reg [⟨some 20,none,.l (.ldn 2 (.t 2))⟩,⟨some 21,none,.q (.mv (.t 7))⟩,⟨some 22,none,.cl 84 [(.t 20),(.t 21)] []⟩,⟨some 19,none,.q (.mv (.t 22))⟩,⟨some 23,none,.q (.ex (.t 19) 0)⟩,⟨some 24,none,.q (.ex (.t 19) 1)⟩,⟨some 8,none,.e (.al (.agg #[(.int .i64 0),(.string (mk [])),(.int .i64 0),(.int .i64 0),(.string (mk [])),(.slice none 0 0),(.bool false)]) 50)⟩,⟨none,none,.e (.st 7 (.t 8) (.t 23))⟩,⟨some 9,none,.q (.mv (.t 24))⟩]) (pc46_6))) (.reg [⟨some 17,none,.q (.mv (.t 7))⟩,⟨some 18,none,.q (.bin .add true (.t 17) (.k (.int .i64 1)))⟩,⟨some 7,none,.q (.mv (.t 18))⟩])))))) (.seq (.reg [⟨some 84,none,.l (.ldn 2 (.t 6))⟩,⟨none,none,.e (.st 2 (.t 4) (.t 84))⟩,⟨some 5,none,.q (.mv (.k (.bool true)))⟩]) .ret)))
def rs46:List RV:=[.ld (.ldn 2 (.t 4)),.mv (.t 5)]
theorem ok46:trFn Tryz.prog true ⟨fun r k=>if r=11/\k=10 then .q else if r=11/\k=17 then .q else if r=13/\k=4 then .q else .own [],fun r=>[6,7].contains r⟩ Tryz.f46=some (pc46,rs46):=by kernel_rfl
end Go.Proofs.YtbolanmlngjdoaaGreat
namespace Go.Proofs.YtbolanmlngjdoaaGreat
open Go.W
noncomputable def schFn:Fun:=g2Fn isSc C.sc fun a b=>.bool (eqB a b)
attribute [go_sem] schFn
set_option maxRecDepth 100000 in
set_option maxHeartbeats 1000000 in
theorem mRSameSchema:Meets Tryz.prog 16 schFn.sp:=by
  refine meets_fn Tryz.func16 ok16 2 (by rw [Tryz.ntmps16]; decide) (meetsAll_f mRSameEnum (meetsAll_f mRSameStruct (meetsAll_nil _))) g2Fn_len ?_
  rintro av H K ⟨⟨h,rfl⟩,hK⟩
  obtain ⟨_,_,rfl,⟨a,rfl,ha⟩,⟨b,rfl,hb⟩⟩:=g2Pre_open h
  have hK:K (bS (eqB a b)) []:=by
    have:schFn.val [.va (.gs (scC a)),.va (.gs (scC b))]=bA (eqB a b):=by simp -dsimp only [go_sem]
    rw [this] at hK; exact hK
  clear h
  have fin:∀ (x:Bool) (R:Hp),eqB a b=x->W.Fin 0 K (bS x) R:=fun x R h=>by
    rw [h] at hK
    exact .sel [] (by simp) (by simp) rfl (.done (by simpa [go_sem] using hK))
  obtain ⟨n,e,t⟩:=a
  obtain ⟨n',e',t'⟩:=b
  obtain ⟨_,hle,hlt,hoe,hot⟩:=ha
  obtain ⟨_,hle',hlt',hoe',hot'⟩:=hb
  simp only at hle hlt hoe hot hle' hlt' hoe' hot'
  simp (maxSteps:=1000000) -dsimp only [go_sem,scC,pc16,rs16]
  refine ⟨fun h1=>fin false _ (eqB_ne fun he=>?_),fun h1=>?_⟩
  · obtain ⟨rfl,rfl,rfl⟩:n=n'/\e=e'/\t=t':=by simpa using he
    simp at h1
  simp only [Bool.or_eq_false_iff,bne_eq_false_iff_eq] at h1
  obtain ⟨⟨rfl,hl1⟩,hl2⟩:=h1
  have hl1:e.length=e'.length:=by omega
  have hl2:t.length=t'.length:=by omega
  refine vc_loop (α:=Nat) (fun i=>[(2,.va (.c1 (.pt 0 0))),(3,.va (.c1 (.pt 1 0))),(5,iS .i64 i)]) (fun i=>[.cells (scC ⟨n,e,t⟩) 25,.cells (scC ⟨n,e',t'⟩) 25])
    (fun i=>i<=e.length/\∀ j,j < i->e[j]? = e'[j]?) (fun i=>e.length - i) 0 2 ⟨Nat.zero_le _,fun j hj=>by omega⟩ ?_ ?_ ?_
  · simp -dsimp only [go_sem]<;>simp
  · simp -dsimp only [go_sem,scC]<;>simp
  rintro i ⟨hi,ho⟩
  rcases Nat.lt_or_ge i e.length with hilt | hge
  · have hg:decide ((i:Int) < (e.length:Int))=true:=by simp; omega
    obtain ⟨u,hx⟩:∃ t,e[i]? = some t:=⟨_,List.getElem?_eq_getElem hilt⟩
    obtain ⟨v,hy⟩:∃ t,e'[i]? = some t:=⟨_,List.getElem?_eq_getElem (by omega)⟩
    have hu:isEn (enC u):=isEn_mk (hoe u (List.mem_of_getElem? hx))
    have hv:isEn (enC v):=isEn_mk (hoe' v (List.mem_of_getElem? hy))
    have hud:=en_dec u
    have hvd:=en_dec v
    simp only [enC] at hu hv hud hvd
    simp (maxSteps:=1000000) -dsimp only [go_sem,hg,scC]
    simp (maxSteps:=1000000) -dsimp only [go_sem,enC,hu,hv,hud,hvd,hx,hy,Option.some.injEq,forall_eq']
    refine ⟨by omega,by omega,fun h1=>fin false _ (eqB_ne fun he=>?_),fun h1=>?_⟩
    · obtain ⟨rfl,rfl⟩:e=e'/\t=t':=by simpa using he
      rw [hx] at hy
      rw [eqB_eq (Option.some.inj hy)] at h1
      simp at h1
    · have h1:u=v:=eqB_iff.1 (by simpa using h1)
      subst h1
      refine ⟨by omega,loop_next (i + 1) 2 ⟨by omega,fun j hj=>?_⟩ (by omega) ?_ ?_⟩
      · rcases Nat.lt_or_ge j i with h4 | h4
        · exact ho j h4
        · obtain rfl:j=i:=by omega
          rw [hx,hy]
      · simp -dsimp only [go_sem]<;>simp
      · simp -dsimp only [go_sem,scC]<;>simp
  · have hg:decide ((i:Int) < (e.length:Int))=false:=by simp; omega
    obtain rfl:i=e.length:=by omega
    obtain rfl:e=e':=list_ext_lt hl1 ho
    simp (maxSteps:=1000000) -dsimp only [go_sem,hg,scC]
    clear ho hg hge hi
    refine vc_loop (α:=Nat) (fun i=>[(2,.va (.c1 (.pt 0 0))),(3,.va (.c1 (.pt 1 0))),(6,iS .i64 i)]) (fun i=>[.cells (scC ⟨n,e,t⟩) 25,.cells (scC ⟨n,e,t'⟩) 25])
      (fun i=>i<=t.length/\∀ j,j < i->t[j]? = t'[j]?) (fun i=>t.length - i) 0 2 ⟨Nat.zero_le _,fun j hj=>by omega⟩ ?_ ?_ ?_
    · simp -dsimp only [go_sem]<;>simp
    · simp -dsimp only [go_sem,scC]<;>simp
    rintro i ⟨hi,ho⟩
    rcases Nat.lt_or_ge i t.length with hilt | hge
    · have hg:decide ((i:Int) < (t.length:Int))=true:=by simp; omega
      obtain ⟨u,hx⟩:∃ s,t[i]? = some s:=⟨_,List.getElem?_eq_getElem hilt⟩
      obtain ⟨v,hy⟩:∃ s,t'[i]? = some s:=⟨_,List.getElem?_eq_getElem (by omega)⟩
      have hu:isSt (stC u):=isSt_mk (hot u (List.mem_of_getElem? hx))
      have hv:isSt (stC v):=isSt_mk (hot' v (List.mem_of_getElem? hy))
      have hud:=st_dec u
      have hvd:=st_dec v
      simp only [stC] at hu hv hud hvd
      simp (maxSteps:=1000000) -dsimp only [go_sem,hg,scC]
      simp (maxSteps:=1000000) -dsimp only [go_sem,stC,hu,hv,hud,hvd,hx,hy,Option.some.injEq,forall_eq']
      refine ⟨by omega,by omega,fun h1=>fin false _ (eqB_ne fun he=>?_),fun h1=>?_⟩
      · obtain rfl:t=t':=by simpa using he
        rw [hx] at hy
        rw [eqB_eq (Option.some.inj hy)] at h1
        simp at h1
      · have h1:u=v:=eqB_iff.1 (by simpa using h1)
        subst h1
        refine ⟨by omega,loop_next (i + 1) 2 ⟨by omega,fun j hj=>?_⟩ (by omega) ?_ ?_⟩
        · rcases Nat.lt_or_ge j i with h4 | h4
          · exact ho j h4
          · obtain rfl:j=i:=by omega
            rw [hx,hy]
        · simp -dsimp only [go_sem]<;>simp
        · simp -dsimp only [go_sem,scC]<;>simp
    · have hg:decide ((i:Int) < (t.length:Int))=false:=by simp; omega
      obtain rfl:i=t.length:=by omega
      simp (maxSteps:=1000000) -dsimp only [go_sem,hg,scC]
      exact fin true _ (eqB_eq (by rw [list_ext_lt hl2 ho]))
def nmAt (n:Int):ByteArray->List Nd->ByteArray
  | x,[]=>x
  | x,p :: r=>nmAt n (bif decide (p.n=n) then p.nm else x) r
def enR (a b:List Nd):List Nat->List Nd->Option (List Nd)
  | [],l=>some l
  | n :: r,l=>bif !(decide (nmAt n (mk []) a=mk [])) && !(decide (nmAt n (mk []) b=mk [])) && !(decide (nmAt n (mk []) a=nmAt n (mk []) b)) then none else
    let z:=bif decide (nmAt n (mk []) a=mk []) then nmAt n (mk []) b else nmAt n (mk []) a
    bif decide (z=mk []) then enR a b r l else bif inB (l.map Nd.nm) z then none else enR a b r (l ++ [⟨n,z⟩])
def erK (K:S->Hp->Prop) (nm:ByteArray):Option (List Nd)->Prop
  | some l=>K (.tu [.gs (enC ⟨nm,l.map Nd.nm,l.map Nd.n⟩),bA true]) []
  | none=>∀ e,EnW e->K (.tu [.gs (enC e),bA false]) []
def erSp:W.Spec:=fun av H K=>∃ a b:En,av=[.va (.gs (enC a)),.va (.gs (enC b))]/\H=[]/\EnG a/\EnG b/\erK K a.nm (enR (nds a) (nds b) (List.range 128) [])
theorem er_use {a b:En} {K:S->Hp->Prop} (h1:EnG a) (h2:EnG b) (hK:erK K a.nm (enR (nds a) (nds b) (List.range 128) [])):erSp [.va (.gs (enC a)),.va (.gs (enC b))] [] K:=⟨a,b,rfl,rfl,h1,h2,hK⟩
theorem nmAt_sz {n:Int}:∀ {l:List Nd} {x:ByteArray},x.size<=9223372036854775807->(∀ p ∈ l,p.nm.size<=9223372036854775807)->(nmAt n x l).size<=9223372036854775807
  | [],x,h,_=>h
  | p :: r,x,h,h2=>by
    rw [nmAt]
    refine nmAt_sz ?_ fun q hq=>h2 q (List.mem_cons_of_mem _ hq)
    cases decide (p.n=n)
    · exact h
    · exact h2 p (by simp)
theorem nds_sz {e:En} (h:EnG e):∀ p ∈ nds e,p.nm.size<=9223372036854775807:=by
  intro z hz
  unfold nds at hz
  obtain ⟨i,hi⟩:=List.mem_iff_getElem?.1 hz
  rw [List.getElem?_zipWith] at hi
  cases e1:e.vs[i]? with
  | none=>rw [e1] at hi; simp at hi
  | some v=>
    cases e2:e.ns[i]? with
    | none=>rw [e1,e2] at hi; simp at hi
    | some n=>
      rw [e1,e2] at hi
      simp only [Option.some.injEq] at hi
      subst hi
      exact h.ok.ns n (List.mem_of_getElem? e2)
set_option maxRecDepth 100000 in
set_option maxHeartbeats 4000000 in
theorem mREnums:Meets Tryz.prog 45 erSp:=by
  refine meets_fn Tryz.func45 ok45 2 (by rw [Tryz.ntmps45]; decide) (meetsAll_f mIn12 (meetsAll_nil _)) (fun av H K h=>by obtain ⟨_,_,rfl,_⟩:=h; rfl) ?_
  rintro av H K ⟨a,b,rfl,rfl,ga,gb,hK⟩
  have hla:=ga.len
  have hlb:=gb.len
  have hla2:=ga.le
  have hlb2:=gb.le
  generalize hX:enR (nds a) (nds b) (List.range 128) []=X at hK
  have bad:∀ L:List Nd,L.length<=128->(∀ p ∈ L,p.nm.size<=9223372036854775807/\in64 p.n)->X=none->K (.tu [.gs [.vl (.string a.nm),.fz ((L.map Nd.nm).map stR),.fz ((L.map Nd.n).map inR)],bA false]) []:=fun L h1 h2 h3=>by
    rw [h3] at hK
    refine hK ⟨a.nm,L.map Nd.nm,L.map Nd.n⟩ ⟨⟨ga.ok.nm,?_,?_,fun n hn=>?_,fun v hv=>?_⟩,?_,?_⟩
    · show (L.map Nd.nm).length<=_; rw [List.length_map]; omega
    · show (L.map Nd.n).length<=_; rw [List.length_map]; omega
    · obtain ⟨p,hp,rfl⟩:=List.mem_map.1 hn; exact (h2 p hp).1
    · obtain ⟨p,hp,rfl⟩:=List.mem_map.1 hv; exact (h2 p hp).2
    · show (L.map Nd.nm).length<=_; rw [List.length_map]; omega
    · show (L.map Nd.n).length<=_; rw [List.length_map]; omega
  simp (maxSteps:=1000000) -dsimp only [go_sem,enC,pc45,rs45]
  refine vc_loop_gh (α:=Nat × List Nd) (fun z=>[(2,.va (.c1 (.pt 0 0))),(3,.va (.c1 (.pt 1 0))),(4,.va (.c1 (.pt 2 0))),(6,.va (.c1 (.pt 3 0))),(7,iS .i64 z.1)])
    (fun z=>[.cells (enC a) 60,.cells (enC b) 60,.cells [.vl (.string (mk [])),.vl (.slice none 0 0),.vl (.slice none 0 0)] 60,.cells [.vl (.string a.nm),.sl 4 z.2.length,.sl 5 z.2.length] 60,.row ((z.2.map Nd.nm).map stR) 9 1,.row ((z.2.map Nd.n).map inR) 3 1])
    (fun z=>z.1<=128/\enR (nds a) (nds b) ((List.range 128).drop z.1) z.2=X/\z.2.length<=z.1/\∀ p ∈ z.2,p.nm.size<=9223372036854775807/\in64 p.n) (fun z=>128 - z.1)
    (.nilc 3 1 9 1 [.vl (.string a.nm),.vl (.slice none 0 0),.vl (.slice none 0 0)] 60 rfl rfl (.nilc 3 2 3 1 [.vl (.string a.nm),.sl 4 0,.vl (.slice none 0 0)] 60 rfl rfl (gh_at (0,[]) 6 ⟨Nat.zero_le _,hX,Nat.le_refl _,fun p hp=>(List.not_mem_nil hp).elim⟩ ?_ ?_))) ?_
  · simp -dsimp only [go_sem]<;>simp
  · simp -dsimp only [go_sem,enC]<;>simp
  rintro ⟨n,L⟩ ⟨hn,hm,hl,hw⟩
  simp only at hn hm hl hw ⊢
  rcases Nat.lt_or_ge n 128 with hlt | hge
  · have hg:decide ((n:Int)<=127)=true:=by simp; omega
    have hdr:(List.range 128).drop n=n :: (List.range 128).drop (n + 1):=by
      rw [List.drop_eq_getElem_cons (by rw [List.length_range]; exact hlt),List.getElem_range]
    rw [hdr,enR] at hm
    have hsx:=nmAt_sz (n:=n) (x:=mk []) (by decide) (nds_sz ga)
    have hsy:=nmAt_sz (n:=n) (x:=mk []) (by decide) (nds_sz gb)
    generalize hXA:nmAt n (mk []) (nds a)=xa at *
    generalize hXB:nmAt n (mk []) (nds b)=xb at *
    simp (maxSteps:=1000000) -dsimp only [go_sem,hg,enC]
    refine vc_loop (α:=Nat × ByteArray) (fun z=>[(2,.va (.c1 (.pt 0 0))),(3,.va (.c1 (.pt 1 0))),(4,.va (.c1 (.pt 2 0))),(6,.va (.c1 (.pt 3 0))),(7,iS .i64 n),(8,tS z.2),(9,tS (mk [])),(10,iS .i64 z.1)])
      (fun z=>[.cells (enC a) 60,.cells (enC b) 60,.cells [.vl (.string (mk [])),.vl (.slice none 0 0),.vl (.slice none 0 0)] 60,.cells [.vl (.string a.nm),.sl 4 L.length,.sl 5 L.length] 60,.row ((L.map Nd.nm).map stR) 9 1,.row ((L.map Nd.n).map inR) 3 1])
      (fun z=>z.1<=a.vs.length/\nmAt n z.2 ((nds a).drop z.1)=xa) (fun z=>a.vs.length - z.1) (0,mk []) 6 ⟨Nat.zero_le _,hXA⟩ ?_ ?_ ?_
    · simp -dsimp only [go_sem]<;>simp
    · simp -dsimp only [go_sem,enC]<;>simp
    rintro ⟨i,x⟩ ⟨hi,hx⟩
    simp only at hi hx ⊢
    rcases Nat.lt_or_ge i a.vs.length with hilt | hige
    · have hgi:decide ((i:Int) < (a.vs.length:Int))=true:=by simp; omega
      obtain ⟨v,hv⟩:∃ t,a.vs[i]? = some t:=⟨_,List.getElem?_eq_getElem hilt⟩
      obtain ⟨nm,hnm⟩:∃ t,a.ns[i]? = some t:=⟨_,List.getElem?_eq_getElem (by omega)⟩
      have q1:=row_rg' (row:=inR) hv
      have q2:=row_rg' (row:=stR) hnm
      have hdi:(nds a).drop i=⟨v,nm⟩ :: (nds a).drop (i + 1):=by
        obtain ⟨h,h'⟩:=List.getElem?_eq_some_iff.1 (nds_at hv hnm)
        rw [List.drop_eq_getElem_cons h,h']
      rw [hdi,nmAt] at hx
      simp only at hx
      have hvn:(v == (n:Int))=decide (v=n):=rfl
      cases hc:decide (v=(n:Int)) with
      | true=>
        rw [hc,Bool.cond_true] at hx
        simp (maxSteps:=1000000) -dsimp only [go_sem,hgi,↓q1,↓q2,enC,hvn,hc]
        refine ⟨by omega,by omega,by omega,loop_next (i + 1,nm) 6 ⟨by simp only; omega,hx⟩ (by simp only; omega) ?_ ?_⟩
        · simp -dsimp only [go_sem]<;>simp
        · simp -dsimp only [go_sem,enC]<;>simp
      | false=>
        rw [hc,Bool.cond_false] at hx
        simp (maxSteps:=1000000) -dsimp only [go_sem,hgi,↓q1,enC,hvn,hc]
        refine ⟨by omega,by omega,loop_next (i + 1,x) 6 ⟨by simp only; omega,hx⟩ (by simp only; omega) ?_ ?_⟩
        · simp -dsimp only [go_sem]<;>simp
        · simp -dsimp only [go_sem,enC]<;>simp
    · have hgi:decide ((i:Int) < (a.vs.length:Int))=false:=by simp; omega
      obtain rfl:i=a.vs.length:=by omega
      rw [List.drop_eq_nil_of_le (by rw [nds_len ga]; exact Nat.le_refl _),nmAt] at hx
      subst hx
      simp (maxSteps:=1000000) -dsimp only [go_sem,hgi,enC]
      refine vc_loop (α:=Nat × ByteArray) (fun z=>[(2,.va (.c1 (.pt 0 0))),(3,.va (.c1 (.pt 1 0))),(4,.va (.c1 (.pt 2 0))),(6,.va (.c1 (.pt 3 0))),(7,iS .i64 n),(8,tS x),(9,tS z.2),(11,iS .i64 z.1)])
        (fun z=>[.cells (enC a) 60,.cells (enC b) 60,.cells [.vl (.string (mk [])),.vl (.slice none 0 0),.vl (.slice none 0 0)] 60,.cells [.vl (.string a.nm),.sl 4 L.length,.sl 5 L.length] 60,.row ((L.map Nd.nm).map stR) 9 1,.row ((L.map Nd.n).map inR) 3 1])
        (fun z=>z.1<=b.vs.length/\nmAt n z.2 ((nds b).drop z.1)=xb) (fun z=>b.vs.length - z.1) (0,mk []) 6 ⟨Nat.zero_le _,hXB⟩ ?_ ?_ ?_
      · simp -dsimp only [go_sem]<;>simp
      · simp -dsimp only [go_sem,enC]<;>simp
      rintro ⟨i,y⟩ ⟨hi,hx⟩
      simp only at hi hx ⊢
      rcases Nat.lt_or_ge i b.vs.length with hilt | hige
      · have hgi:decide ((i:Int) < (b.vs.length:Int))=true:=by simp; omega
        obtain ⟨v,hv⟩:∃ t,b.vs[i]? = some t:=⟨_,List.getElem?_eq_getElem hilt⟩
        obtain ⟨nm,hnm⟩:∃ t,b.ns[i]? = some t:=⟨_,List.getElem?_eq_getElem (by omega)⟩
        have q1:=row_rg' (row:=inR) hv
        have q2:=row_rg' (row:=stR) hnm
        have hdi:(nds b).drop i=⟨v,nm⟩ :: (nds b).drop (i + 1):=by
          obtain ⟨h,h'⟩:=List.getElem?_eq_some_iff.1 (nds_at hv hnm)
          rw [List.drop_eq_getElem_cons h,h']
        rw [hdi,nmAt] at hx
        simp only at hx
        have hvn:(v == (n:Int))=decide (v=n):=rfl
        cases hc:decide (v=(n:Int)) with
        | true=>
          rw [hc,Bool.cond_true] at hx
          simp (maxSteps:=1000000) -dsimp only [go_sem,hgi,↓q1,↓q2,enC,hvn,hc]
          refine ⟨by omega,by omega,by omega,loop_next (i + 1,nm) 6 ⟨by simp only; omega,hx⟩ (by simp only; omega) ?_ ?_⟩
          · simp -dsimp only [go_sem]<;>simp
          · simp -dsimp only [go_sem,enC]<;>simp
        | false=>
          rw [hc,Bool.cond_false] at hx
          simp (maxSteps:=1000000) -dsimp only [go_sem,hgi,↓q1,enC,hvn,hc]
          refine ⟨by omega,by omega,loop_next (i + 1,y) 6 ⟨by simp only; omega,hx⟩ (by simp only; omega) ?_ ?_⟩
          · simp -dsimp only [go_sem]<;>simp
          · simp -dsimp only [go_sem,enC]<;>simp
      · have hgi:decide ((i:Int) < (b.vs.length:Int))=false:=by simp; omega
        obtain rfl:i=b.vs.length:=by omega
        rw [List.drop_eq_nil_of_le (by rw [nds_len gb]; exact Nat.le_refl _),nmAt] at hx
        subst hx
        have hbs:=isBs_mk (l:=L.map Nd.nm) (by rw [List.length_map]; omega)
        have hbd:=bs_map (L.map Nd.nm)
        have hx0:(bl x == [])=decide (x=mk []):=by rw [<-bl_beq,bl_mk]
        have hy0:(bl y == [])=decide (y=mk []):=by rw [<-bl_beq,bl_mk]
        cases c1:decide (x=mk []) with
        | true=>
          cases c2:decide (y=mk []) with
          | true=>
            simp only [c1,c2,Bool.cond_true,Bool.cond_false,Bool.not_true,Bool.and_false,Bool.false_and] at hm
            simp (maxSteps:=1000000) -dsimp only [go_sem,hgi,enC,bl_beq,hx0,hy0,c1,c2]
            refine ⟨by omega,loop_next (n + 1,L) 6 ⟨by simp only; omega,hm,by simp only; omega,hw⟩ (by simp only; omega) ?_ ?_⟩
            · simp -dsimp only [go_sem]<;>simp
            · simp -dsimp only [go_sem,enC]<;>simp
          | false=>
            cases c3:inB (L.map Nd.nm) y with
            | true=>
              simp only [c1,c2,c3,Bool.cond_true,Bool.cond_false,Bool.not_true,Bool.not_false,Bool.and_true,Bool.false_and] at hm
              simp (maxSteps:=1000000) -dsimp only [go_sem,hgi,enC,bl_beq,hbs,hbd,hx0,hy0,c1,c2,c3]
              refine .pub 4 _ _ _ rfl (.pub 5 _ _ _ rfl (.sel [] (by simp) (by simp [pubH]) rfl (.done ?_)))
              simp -dsimp only [go_sem,pubH]
              simpa using bad L (by omega) hw hm.symm
            | false=>
              simp only [c1,c2,c3,Bool.cond_true,Bool.cond_false,Bool.not_true,Bool.not_false,Bool.and_true,Bool.false_and] at hm
              simp (maxSteps:=1000000) -dsimp only [go_sem,hgi,enC,bl_beq,hbs,hbd,hx0,hy0,c1,c2,c3]
              refine ⟨by omega,by omega,by omega,loop_next (n + 1,L ++ [⟨n,y⟩]) 6 ⟨by simp only; omega,hm,by simp only [List.length_append,List.length_singleton]; omega,fun p hp=>?_⟩ (by simp only; omega) ?_ ?_⟩
              · rcases List.mem_append.1 hp with hp | hp
                · exact hw p hp
                · obtain rfl:=List.mem_singleton.1 hp; exact ⟨hsy,by unfold in64; dsimp only; omega⟩
              · simp -dsimp only [go_sem]<;>simp
              · simp -dsimp only [go_sem,enC]<;>simp
        | false=>
          cases c2:decide (y=mk []) with
          | true=>
            cases c3:inB (L.map Nd.nm) x with
            | true=>
              simp only [c1,c2,c3,Bool.cond_true,Bool.cond_false,Bool.not_true,Bool.not_false,Bool.and_false,Bool.false_and] at hm
              simp (maxSteps:=1000000) -dsimp only [go_sem,hgi,enC,bl_beq,hbs,hbd,hx0,hy0,c1,c2,c3]
              refine .pub 4 _ _ _ rfl (.pub 5 _ _ _ rfl (.sel [] (by simp) (by simp [pubH]) rfl (.done ?_)))
              simp -dsimp only [go_sem,pubH]
              simpa using bad L (by omega) hw hm.symm
            | false=>
              simp only [c1,c2,c3,Bool.cond_false,Bool.not_true,Bool.not_false,Bool.and_false,Bool.false_and] at hm
              simp (maxSteps:=1000000) -dsimp only [go_sem,hgi,enC,bl_beq,hbs,hbd,hx0,hy0,c1,c2,c3]
              refine ⟨by omega,by omega,by omega,loop_next (n + 1,L ++ [⟨n,x⟩]) 6 ⟨by simp only; omega,hm,by simp only [List.length_append,List.length_singleton]; omega,fun p hp=>?_⟩ (by simp only; omega) ?_ ?_⟩
              · rcases List.mem_append.1 hp with hp | hp
                · exact hw p hp
                · obtain rfl:=List.mem_singleton.1 hp; exact ⟨hsx,by unfold in64; dsimp only; omega⟩
              · simp -dsimp only [go_sem]<;>simp
              · simp -dsimp only [go_sem,enC]<;>simp
          | false=>
            cases c4:decide (x=y) with
            | true=>
              cases c3:inB (L.map Nd.nm) x with
              | true=>
                simp only [c1,c2,c4,c3,Bool.cond_true,Bool.cond_false,Bool.not_true,Bool.not_false,Bool.and_true,Bool.and_false] at hm
                simp (maxSteps:=1000000) -dsimp only [go_sem,hgi,enC,bl_beq,hbs,hbd,hx0,hy0,c1,c2,c4,c3]
                refine .pub 4 _ _ _ rfl (.pub 5 _ _ _ rfl (.sel [] (by simp) (by simp [pubH]) rfl (.done ?_)))
                simp -dsimp only [go_sem,pubH]
                simpa using bad L (by omega) hw hm.symm
              | false=>
                simp only [c1,c2,c4,c3,Bool.cond_false,Bool.not_true,Bool.not_false,Bool.and_true,Bool.and_false] at hm
                simp (maxSteps:=1000000) -dsimp only [go_sem,hgi,enC,bl_beq,hbs,hbd,hx0,hy0,c1,c2,c4,c3]
                refine ⟨by omega,by omega,by omega,loop_next (n + 1,L ++ [⟨n,x⟩]) 6 ⟨by simp only; omega,hm,by simp only [List.length_append,List.length_singleton]; omega,fun p hp=>?_⟩ (by simp only; omega) ?_ ?_⟩
                · rcases List.mem_append.1 hp with hp | hp
                  · exact hw p hp
                  · obtain rfl:=List.mem_singleton.1 hp; exact ⟨hsx,by unfold in64; dsimp only; omega⟩
                · simp -dsimp only [go_sem]<;>simp
                · simp -dsimp only [go_sem,enC]<;>simp
            | false=>
              simp only [c1,c2,c4,Bool.cond_true,Bool.cond_false,Bool.not_false,Bool.and_true] at hm
              simp (maxSteps:=1000000) -dsimp only [go_sem,hgi,enC,bl_beq,hx0,hy0,c1,c2,c4]
              refine .pub 4 _ _ _ rfl (.pub 5 _ _ _ rfl (.sel [] (by simp) (by simp [pubH]) rfl (.done ?_)))
              simp -dsimp only [go_sem,pubH]
              simpa using bad L (by omega) hw hm.symm
  · have hg:decide ((n:Int)<=127)=false:=by simp; omega
    obtain rfl:n=128:=by omega
    simp (maxSteps:=1000000) -dsimp only [go_sem,hg]
    rw [show (List.range 128).drop 128=[] from by rw [List.drop_eq_nil_of_le (by simp)],enR] at hm
    subst hm
    refine .pub 4 _ _ _ rfl (.pub 5 _ _ _ rfl (.sel [] (by simp) (by simp [pubH]) rfl (.done ?_)))
    simp -dsimp only [go_sem,pubH]
    simpa [erK,enC] using hK
end Go.Proofs.YtbolanmlngjdoaaGreat
namespace Go.Proofs.YtbolanmlngjdoaaGreat
open Go.W
noncomputable def fdR (a b:List Fl):List Nat->List Fl->Option (List Fl)
  | [],l=>some l
  | n :: r,l=>match fF a n,fF b n with
    | none,none=>fdR a b r l
    | none,some g=>bif g.opt then fdR a b r (l ++ [g]) else none
    | some f,none=>bif f.opt then fdR a b r (l ++ [f]) else none
    | some f,some g=>bif (mfF f g).2 then fdR a b r (l ++ [(mfF f g).1]) else none
def frK (K:S->Hp->Prop) (nm:ByteArray):Option (List Fl)->Prop
  | some l=>K (.tu [.gs (stC ⟨nm,l⟩),bA true]) []
  | none=>∀ t,StM t->K (.tu [.gs (stC t),bA false]) []
def frSp:W.Spec:=fun av H K=>∃ a b:St,av=[.va (.gs (stC a)),.va (.gs (stC b))]/\H=[]/\StM a/\StM b/\frK K a.nm (fdR a.fs b.fs ((List.range 128).drop 1) [])
theorem fr_use {a b:St} {K:S->Hp->Prop} (h1:StM a) (h2:StM b) (hK:frK K a.nm (fdR a.fs b.fs ((List.range 128).drop 1) [])):frSp [.va (.gs (stC a)),.va (.gs (stC b))] [] K:=⟨a,b,rfl,rfl,h1,h2,hK⟩
set_option maxRecDepth 100000 in
set_option maxHeartbeats 8000000 in
theorem mRFields:Meets Tryz.prog 46 frSp:=by
  refine meets_fn Tryz.func46 ok46 2 (by rw [Tryz.ntmps46]; decide) (meetsAll_s mRFieldOf (meetsAll_f mRWidens (meetsAll_nil _))) (fun av H K h=>by obtain ⟨_,_,rfl,_⟩:=h; rfl) ?_
  rintro av H K ⟨a,b,rfl,rfl,ga,gb,hK⟩
  have hla:=ga.len
  have hlb:=gb.len
  generalize hX:fdR a.fs b.fs ((List.range 128).drop 1) []=X at hK
  have bad:∀ L:List Fl,L.length<=128->(∀ p ∈ L,FlW p)->X=none->K (.tu [.gs [.vl (.string a.nm),.fz (L.map flC)],bA false]) []:=fun L h1 h2 h3=>by
    rw [h3] at hK
    exact hK ⟨a.nm,L⟩ ⟨ga.nm,by show L.length<=1000; omega,h2⟩
  simp (maxSteps:=1000000) -dsimp only [go_sem,stC,pc46,rs46]
  refine vc_loop_gh (α:=Nat × List Fl) (fun z=>[(2,.va (.c1 (.pt 0 0))),(3,.va (.c1 (.pt 1 0))),(4,.va (.c1 (.pt 2 0))),(6,.va (.c1 (.pt 3 0))),(7,iS .i64 z.1)])
    (fun z=>[.cells (stC a) 37,.cells (stC b) 37,.cells [.vl (.string (mk [])),.vl (.slice none 0 0)] 37,.cells [.vl (.string a.nm),.sl 4 z.2.length] 37,.row (z.2.map flC) 50 7])
    (fun z=>z.1<=128/\fdR a.fs b.fs ((List.range 128).drop z.1) z.2=X/\z.2.length<=z.1/\∀ p ∈ z.2,FlW p) (fun z=>128 - z.1)
    (.nilc 3 1 50 7 [.vl (.string a.nm),.vl (.slice none 0 0)] 37 rfl rfl (gh_at (1,[]) 5 ⟨by decide,hX,Nat.zero_le _,fun p hp=>(List.not_mem_nil hp).elim⟩ ?_ ?_)) ?_
  · simp -dsimp only [go_sem]<;>simp
  · simp -dsimp only [go_sem,stC]<;>simp
  rintro ⟨n,L⟩ ⟨hn,hm,hl,hw⟩
  simp only at hn hm hl hw ⊢
  rcases Nat.lt_or_ge n 128 with hlt | hge
  · have hg:decide ((n:Int)<=127)=true:=by simp; omega
    have hdr:(List.range 128).drop n=n :: (List.range 128).drop (n + 1):=by
      rw [List.drop_eq_getElem_cons (by rw [List.length_range]; exact hlt),List.getElem_range]
    rw [hdr,fdR] at hm
    have nxt:∀ f':Fl,FlW f'->∀ x ∈ L ++ [f'],FlW x:=fun f' h x hx=>by
      rcases List.mem_append.1 hx with hx | hx
      · exact hw x hx
      · obtain rfl:=List.mem_singleton.1 hx; exact h
    simp (maxSteps:=1000000) -dsimp only [go_sem,hg,stC]
    refine fop_use (t:=a) ga.ok ga.sm ?_
    generalize hf:(fF a.fs n).getD default=f
    generalize hp:(fF a.fs n).isSome=p
    simp (maxSteps:=1000000) -dsimp only [go_sem,flC]
    refine vc_tail (up:=[(2,.va (.c1 (.pt 0 0))),(3,.va (.c1 (.pt 1 0))),(4,.va (.c1 (.pt 2 0))),(6,.va (.c1 (.pt 3 0))),(7,iS .i64 n),(8,.va (.c1 (.pt 5 0))),(9,bS p)])
      (Hs:=[.cells (stC a) 37,.cells (stC b) 37,.cells [.vl (.string (mk [])),.vl (.slice none 0 0)] 37,.cells [.vl (.string a.nm),.sl 4 L.length] 37,.row (L.map flC) 50 7,.cells (flC f) 50]) 6 ?_ ?_ ?_
    rotate_left
    · simp -dsimp only [go_sem]<;>simp
    · simp -dsimp only [go_sem,stC,flC]<;>simp
    simp (maxSteps:=1000000) -dsimp only [go_sem,stC,pc46_6]
    refine fop_use (t:=b) gb.ok gb.sm ?_
    generalize hf2:(fF b.fs n).getD default=g
    generalize hp2:(fF b.fs n).isSome=q
    simp (maxSteps:=1000000) -dsimp only [go_sem,flC]
    refine vc_tail (up:=[(2,.va (.c1 (.pt 0 0))),(3,.va (.c1 (.pt 1 0))),(4,.va (.c1 (.pt 2 0))),(6,.va (.c1 (.pt 3 0))),(7,iS .i64 n),(8,.va (.c1 (.pt 5 0))),(9,bS p),(10,.va (.c1 (.pt 6 0))),(11,bS q)])
      (Hs:=[.cells (stC a) 37,.cells (stC b) 37,.cells [.vl (.string (mk [])),.vl (.slice none 0 0)] 37,.cells [.vl (.string a.nm),.sl 4 L.length] 37,.row (L.map flC) 50 7,.cells (flC f) 50,.cells (flC g) 50]) 7 ?_ ?_ ?_
    rotate_left
    · simp -dsimp only [go_sem]<;>simp
    · simp -dsimp only [go_sem,stC,flC]<;>simp
    cases hfa:fF a.fs n with
    | none=>
      rw [hfa] at hm hf hp
      subst hp
      cases hfb:fF b.fs n with
      | none=>
        rw [hfb] at hm hf2 hp2
        subst hp2
        simp only at hm
        simp (maxSteps:=1000000) -dsimp only [go_sem,pc46_7,flC,stC]
        refine ⟨by omega,loop_next (n + 1,L) 5 ⟨by simp only; omega,hm,by simp only; omega,hw⟩ (by simp only; omega) ?_ ?_⟩
        · simp -dsimp only [go_sem]<;>simp
        · simp -dsimp only [go_sem,stC]<;>simp [stC]
      | some g'=>
        rw [hfb] at hm hf2 hp2
        subst hp2
        obtain rfl:g'=g:=hf2
        simp only at hm
        have hgw:=gb.fs g' (fF_some hfb).1
        cases ho:g'.opt with
        | true=>
          rw [ho,Bool.cond_true] at hm
          simp (maxSteps:=1000000) -dsimp only [go_sem,pc46_7,flC,stC,ho]
          refine ⟨by omega,by omega,loop_next (n + 1,L ++ [g']) 5 ⟨by simp only; omega,hm,by simp only [List.length_append,List.length_singleton]; omega,nxt _ hgw⟩ (by simp only; omega) ?_ ?_⟩
          · simp -dsimp only [go_sem]<;>simp
          · simp -dsimp only [go_sem,stC]<;>simp [flC,ho]
        | false=>
          rw [ho,Bool.cond_false] at hm
          simp (maxSteps:=1000000) -dsimp only [go_sem,pc46_7,flC,stC,ho]
          refine .pub 4 _ _ _ rfl (.sel [] (by simp) (by simp [pubH]) rfl (.done ?_))
          simp -dsimp only [go_sem,pubH]
          simpa using bad L (by omega) hw hm.symm
    | some f'=>
      rw [hfa] at hm hf hp
      subst hp
      obtain rfl:f'=f:=hf
      have hfw:=ga.fs f' (fF_some hfa).1
      cases hfb:fF b.fs n with
      | none=>
        rw [hfb] at hm hf2 hp2
        subst hp2
        simp only at hm
        cases ho:f'.opt with
        | true=>
          rw [ho,Bool.cond_true] at hm
          simp (maxSteps:=1000000) -dsimp only [go_sem,pc46_7,flC,stC,ho]
          refine ⟨by omega,by omega,loop_next (n + 1,L ++ [f']) 5 ⟨by simp only; omega,hm,by simp only [List.length_append,List.length_singleton]; omega,nxt _ hfw⟩ (by simp only; omega) ?_ ?_⟩
          · simp -dsimp only [go_sem]<;>simp
          · simp -dsimp only [go_sem,stC]<;>simp [flC,ho]
        | false=>
          rw [ho,Bool.cond_false] at hm
          simp (maxSteps:=1000000) -dsimp only [go_sem,pc46_7,flC,stC,ho]
          refine .pub 4 _ _ _ rfl (.sel [] (by simp) (by simp [pubH]) rfl (.done ?_))
          simp -dsimp only [go_sem,pubH]
          simpa using bad L (by omega) hw hm.symm
      | some g'=>
        rw [hfb] at hm hf2 hp2
        subst hp2
        obtain rfl:g'=g:=hf2
        simp only at hm
        have hgw:=gb.fs g' (fF_some hfb).1
        have hmw:=mfF_W hfw hgw
        have h1:=flC_isTy hfw.ok
        have h2:=flC_isTy hgw.ok
        have h3:=flC_dTy f'
        have h4:=flC_dTy g'
        have e1:(f'.opt != g'.opt)=!(f'.opt == g'.opt):=rfl
        unfold mfF at hm hmw
        cases c1:f'.opt == g'.opt with
        | false=>
          rw [e1,c1,Bool.not_false,Bool.cond_true] at hm
          simp only [Bool.cond_false] at hm
          simp (maxSteps:=1000000) -dsimp only [go_sem,pc46_7,flC,stC,c1,h1,h2,h3,h4]
          refine .pub 4 _ _ _ rfl (.sel [] (by simp) (by simp [pubH]) rfl (.done ?_))
          simp -dsimp only [go_sem,pubH]
          simpa using bad L (by omega) hw hm.symm
        | true=>
          rw [e1,c1,Bool.not_true,Bool.cond_false] at hm hmw
          cases c2:widF f'.ty g'.ty with
          | true=>
            rw [c2,Bool.cond_true] at hm hmw
            simp only [Bool.cond_true] at hm hmw
            simp (maxSteps:=1000000) -dsimp only [go_sem,pc46_7,flC,stC,c1,h1,h2,h3,h4,c2]
            refine ⟨by omega,by omega,loop_next (n + 1,L ++ [⟨f'.num,f'.nm,g'.ty,f'.opt⟩]) 5 ⟨by simp only; omega,hm,by simp only [List.length_append,List.length_singleton]; omega,nxt _ hmw⟩ (by simp only; omega) ?_ ?_⟩
            · simp -dsimp only [go_sem]<;>simp
            · simp -dsimp only [go_sem,stC]<;>simp [flC]
          | false=>
            rw [c2,Bool.cond_false] at hm hmw
            simp only at hm hmw
            cases c3:widF g'.ty f'.ty with
            | true=>
              rw [c3,Bool.cond_true] at hm
              simp (maxSteps:=1000000) -dsimp only [go_sem,pc46_7,flC,stC,c1,h1,h2,h3,h4,c2,c3]
              refine ⟨by omega,by omega,loop_next (n + 1,L ++ [f']) 5 ⟨by simp only; omega,hm,by simp only [List.length_append,List.length_singleton]; omega,nxt _ hmw⟩ (by simp only; omega) ?_ ?_⟩
              · simp -dsimp only [go_sem]<;>simp
              · simp -dsimp only [go_sem,stC]<;>simp [flC]
            | false=>
              rw [c3,Bool.cond_false] at hm
              simp (maxSteps:=1000000) -dsimp only [go_sem,pc46_7,flC,stC,c1,h1,h2,h3,h4,c2,c3]
              refine .pub 4 _ _ _ rfl (.sel [] (by simp) (by simp [pubH]) rfl (.done ?_))
              simp -dsimp only [go_sem,pubH]
              simpa using bad L (by omega) hw hm.symm
  · have hg:decide ((n:Int)<=127)=false:=by simp; omega
    obtain rfl:n=128:=by omega
    simp (maxSteps:=1000000) -dsimp only [go_sem,hg]
    rw [show (List.range 128).drop 128=[] from by rw [List.drop_eq_nil_of_le (by simp)],fdR] at hm
    subst hm
    refine .pub 4 _ _ _ rfl (.sel [] (by simp) (by simp [pubH]) rfl (.done ?_))
    simp -dsimp only [go_sem,pubH]
    simpa [frK,stC] using hK
end Go.Proofs.YtbolanmlngjdoaaGreat
namespace Go.Proofs.YtbolanmlngjdoaaGreat
open Go.W
abbrev mgB0 (a b:Sc) (ver:Int) (E:List En) (T:List St):Hp:=[.cells (scC a) 25,.cells (scC b) 25,.cells [.vl (.int .i64 0),.vl (.slice none 0 0),.vl (.slice none 0 0)] 25,
  .cells [.vl (.int .i64 ver),.sl 5 E.length,.sl 6 T.length] 25,.row [scC a,scC b] 25 3,.row (E.map enC) 60 3,.row (T.map stC) 37 2]
theorem pick_t (b:Bool):(bif b then true else false)=b:=by cases b<;>rfl
theorem pick_f (b:Bool):(bif b then false else false)=false:=by cases b<;>rfl
theorem mem_app {α:Type} {p:α->Prop} {l:List α} {y:α} (h:∀ x ∈ l,p x) (hy:p y):∀ x ∈ l ++ [y],p x:=fun x hx=>by
  rcases List.mem_append.1 hx with hx | hx
  · exact h x hx
  · obtain rfl:=List.mem_singleton.1 hx; exact hy
set_option maxRecDepth 100000 in
set_option maxHeartbeats 8000000 in
theorem mMerge:Meets Tryz.prog 14 mgSp:=by
  refine meets_fn Tryz.func14 okM14 2 (by rw [Tryz.ntmps14]; decide) mgMeets (fun av H K h=>by obtain ⟨_,_,rfl,_⟩:=h; rfl) ?_
  rintro av H K ⟨a,b,rfl,rfl,fa,fb,hK⟩
  have hso:=isScF_mk fa
  have hsn:=isScF_mk fb
  have hdo:=sc_dec a
  have hdn:=sc_dec b
  rw [scC] at hso hsn hdo hdn
  by_cases c1:checkF a=0
  rotate_left
  · have e1:(checkF a != 0)=true:=by simpa using c1
    have hm:mgF a b=(default,checkF a):=by unfold mgF; rw [e1]; rfl
    rw [hm] at hK
    simp (maxSteps:=1000000) -dsimp only [go_sem,scC,pcM14,rsM14,hso,hdo,e1]
    exact .sel [] (by simp) (by simp) rfl (.done (by simpa [go_sem,scC_def] using hK))
  have e1:(checkF a != 0)=false:=by simp [c1]
  by_cases c2:checkF b=0
  rotate_left
  · have e2:(checkF b != 0)=true:=by simpa using c2
    have hm:mgF a b=(default,checkF b):=by unfold mgF; rw [e1,e2]; rfl
    rw [hm] at hK
    simp (maxSteps:=1000000) -dsimp only [go_sem,scC,pcM14,rsM14,hso,hsn,hdo,hdn,e1,e2]
    exact .sel [] (by simp) (by simp) rfl (.done (by simpa [go_sem,scC_def] using hK))
  have e2:(checkF b != 0)=false:=by simp [c2]
  have hm:mgF a b=match mgT a b with
    | none=>(default,14)
    | some (E,T)=>bif checkF ⟨max a.ver b.ver,E,T⟩ != 0 then (default,checkF ⟨max a.ver b.ver,E,T⟩) else (⟨max a.ver b.ver,E,T⟩,0):=by unfold mgF; rw [e1,e2]; rfl
  rw [hm] at hK
  clear hm
  simp (maxSteps:=1000000) -dsimp only [go_sem,scC,pcM14,rsM14,hso,hsn,hdo,hdn,e1,e2]
  have mv:in64 (max a.ver b.ver):=by have:=fa.ok.ver; have:=fb.ok.ver; unfold in64 at *; omega
  have ga:=mgI_of fa c1
  have gb:=mgI_of fb c2
  clear hso hsn hdo hdn
  generalize hver:max a.ver b.ver=ver at *
  refine vc_loop_gh (α:=Nat × List En × List St × Bool) (fun z=>[(3,.va (.c1 (.pt 1 0))),(4,.va (.c1 (.pt 2 0))),(8,bS z.2.2.2),(9,.va (.c1 (.pt 3 0))),(62,.va (.c1 (.sl 4 2))),(63,iS .i64 2),(64,iS .i64 z.1)])
    (fun z=>mgB0 a b ver z.2.1 z.2.2.1)
    (fun z=>z.1<=2/\([a,b].drop z.1).foldl (scRun b) (mOf z.2.1 z.2.2.1 z.2.2.2)=mgT a b/\(∀ e ∈ z.2.1,EnW e)/\(∀ t ∈ z.2.2.1,StM t)/\z.2.1.length<=100 * z.1/\z.2.2.1.length<=100 * z.1) (fun z=>2 - z.1)
    (.nilc 3 1 60 3 [.vl (.int .i64 ver),.vl (.slice none 0 0),.vl (.slice none 0 0)] 25 rfl rfl (.nilc 3 2 37 2 [.vl (.int .i64 ver),.sl 5 0,.vl (.slice none 0 0)] 25 rfl rfl (gh_at (0,[],[],!(crF a b) && !(crF b a)) 7 ⟨Nat.zero_le _,rfl,fun e he=>(List.not_mem_nil he).elim,fun t ht=>(List.not_mem_nil ht).elim,Nat.zero_le _,Nat.zero_le _⟩ ?_ ?_))) ?_
  · simp -dsimp only [go_sem]<;>simp
  · simp -dsimp only [go_sem]<;>simp [scC]
  rintro ⟨i,E,T,ok⟩ ⟨hi,hr,hE,hT,lE,lT⟩
  simp only at hi hr hE hT lE lT ⊢
  rcases Nat.lt_or_ge i 2 with hlt | hge
  · have hg:decide ((i:Int) < (2:Int))=true:=by simp; omega
    obtain ⟨s,hs⟩:∃ t,[a,b][i]? = some t:=⟨_,List.getElem?_eq_getElem (by simpa using hlt)⟩
    have hq:[scC a,scC b][i]? = some [.vl (.int .i64 s.ver),.fz (s.es.map enC),.fz (s.ss.map stC)]:=by
      rw [show [scC a,scC b]=[a,b].map scC from rfl,List.getElem?_map,hs]; rfl
    have gs:MgI s:=by
      rcases List.mem_cons.1 (List.mem_of_getElem? hs) with rfl | h
      · exact ga
      · obtain rfl:=List.mem_singleton.1 h; exact gb
    have hdr:[a,b].drop i=s :: [a,b].drop (i + 1):=by
      obtain ⟨h,rfl⟩:=List.getElem?_eq_some_iff.1 hs
      exact List.drop_eq_getElem_cons h
    rw [hdr,List.foldl_cons] at hr
    generalize hR:[a,b].drop (i + 1)=R at *
    have ls1:=gs.le
    have ls2:=gs.ls
    simp (maxSteps:=1000000) -dsimp only [go_sem,hg,hq,Option.some.injEq,forall_eq']
    refine ⟨by omega,hlt,?_⟩
    refine vc_loop (α:=Nat × List En × Bool) (fun z=>meU s i z.1 z.2.2) (fun z=>mgB a b s ver z.2.1 T)
      (fun z=>z.1<=s.es.length/\R.foldl (scRun b) (s.ss.foldl (stStep b) ((s.es.drop z.1).foldl (enStep b) (mOf z.2.1 T z.2.2)))=mgT a b/\(∀ e ∈ z.2.1,EnW e)/\z.2.1.length<=100 * i + z.1) (fun z=>s.es.length - z.1) (0,E,ok) 8 ⟨Nat.zero_le _,hr,hE,by simp only; omega⟩ ?_ ?_ ?_
    · simp -dsimp only [go_sem]<;>simp
    · simp -dsimp only [go_sem,scC]<;>simp [scC]
    clear hr hE lE
    rintro ⟨j,E,ok⟩ ⟨hj,hr,hE,lE⟩
    simp only at hj hr hE lE ⊢
    rcases Nat.lt_or_ge j s.es.length with hltj | hgej
    · have hgj:decide ((j:Int) < (s.es.length:Int))=true:=by simp; omega
      obtain ⟨x,hx⟩:∃ t,s.es[j]? = some t:=⟨_,List.getElem?_eq_getElem hltj⟩
      have q1:=row_rg' (row:=enC) hx
      have gx:=gs.es x (List.mem_of_getElem? hx)
      have hdx:s.es.drop j=x :: s.es.drop (j + 1):=by
        obtain ⟨h,rfl⟩:=List.getElem?_eq_some_iff.1 hx
        exact List.drop_eq_getElem_cons h
      rw [hdx,List.foldl_cons] at hr
      simp (maxSteps:=1000000) -dsimp only [go_sem,hgj,↓q1,enC]
      refine ⟨by omega,enb_use (fit_of mv (by omega) (by omega) hE hT) fun nm u v hu hv=>?_⟩
      have hu':(C.vl u).one=True:=eq_true hu
      have hv':(C.vl v).one=True:=eq_true hv
      cases hh:hasE E x.nm with
      | true=>
        have hst:enStep b (mOf E T ok) x=mOf E T ok:=by cases ok with
          | true=>show (bif hasE E x.nm then _ else _)=_; rw [hh]; rfl
          | false=>rfl
        rw [hst] at hr
        simp (maxSteps:=1000000) -dsimp only [go_sem,hu',hv']
        refine ⟨by omega,loop_next (j + 1,E,ok) 8 ⟨by simp only; omega,hr,hE,by simp only; omega⟩ (by simp only; omega) ?_ ?_⟩
        · simp -dsimp only [go_sem]<;>simp
        · simp -dsimp only [go_sem,scC]<;>simp [scC]
      | false=>
        have fin:∀ (y:En) (ok':Bool),EnW y->enStep b (mOf E T ok) x=mOf (E ++ [y]) T ok'->R.foldl (scRun b) (s.ss.foldl (stStep b) ((s.es.drop (j + 1)).foldl (enStep b) (mOf (E ++ [y]) T ok')))=mgT a b:=fun y ok' _ h=>by rw [<-h]; exact hr
        simp (maxSteps:=1000000) -dsimp only [go_sem,hu',hv',scC]
        refine .inl (enp_use (s:=b) fb ?_)
        cases hy:fEn b.es x.nm with
        | none=>
          have hys:hasE b.es x.nm=false:=by rw [<-fEn_has,hy]; rfl
          have hst:enStep b (mOf E T ok) x=mOf (E ++ [x]) T ok:=by cases ok with
            | true=>show (bif hasE E x.nm then _ else _)=_; rw [hh,hy]; rfl
            | false=>rfl
          have hr2:=fin x ok gx.w hst
          simp (maxSteps:=1000000) -dsimp only [go_sem,hys,Option.getD_none,enC_def]
          refine vc_tail (up:=(13,.va (.c1 (.pt 8 0))) :: meU s i j ok) (Hs:=mgB a b s ver E T ++ [.cells (enC x) 60]) 9 (enTail gx.w (by omega) fun fr' R' he=>?_) ?_ ?_
          rotate_left
          · simp -dsimp only [go_sem]<;>simp
          · simp -dsimp only [go_sem,scC,enC]<;>simp [scC,enC]
          simp only [isFr] at he
          obtain ⟨f3,f4,f8,f9,f11,f62,f63,f64,f69,f70,f71,_⟩:=he
          simp (maxSteps:=1000000) -dsimp only [go_sem,f71]
          refine ⟨by omega,loop_next (j + 1,E ++ [x],ok) 8 ⟨by simp only; omega,hr2,mem_app hE gx.w,by simp only [List.length_append,List.length_singleton]; omega⟩ (by simp only; omega) ?_ ?_⟩
          · simp -dsimp only [go_sem,f3,f4,f8,f9,f11,f62,f63,f64,f69,f70]<;>simp
          · simp -dsimp only [go_sem,scC]<;>simp [scC]
        | some y=>
          have hys:hasE b.es x.nm=true:=by rw [<-fEn_has,hy]; rfl
          have gy:=gb.es y (fEn_mem hy).1
          simp (maxSteps:=1000000) -dsimp only [go_sem,hys,Option.getD_some,enC]
          refine me_use (a:=x) (b:=y) gx gy ?_
          cases hml:meL (nds x) (nds y) with
          | some l=>
            have hw:=enOf_w gx gy hml
            have hst:enStep b (mOf E T ok) x=mOf (E ++ [enOf x.nm l]) T ok:=by cases ok with
              | true=>show (bif hasE E x.nm then _ else _)=_; rw [hh,hy]; show Option.map _ (meL (nds x) (nds y))=_; rw [hml]; rfl
              | false=>rfl
            have hr2:=fin _ ok hw hst
            simp only [meK]
            generalize enOf x.nm l=y' at *
            simp (maxSteps:=1000000) -dsimp only [go_sem,enC]
            refine vc_tail (up:=(13,.va (.c1 (.pt 8 0))) :: meU s i j ok) (Hs:=mgB a b s ver E T ++ [.cells (enC y') 60]) 9 (enTail hw (by omega) fun fr' R' he=>?_) ?_ ?_
            rotate_left
            · simp -dsimp only [go_sem]<;>simp
            · simp -dsimp only [go_sem,scC,enC]<;>simp [scC,enC]
            simp only [isFr] at he
            obtain ⟨f3,f4,f8,f9,f11,f62,f63,f64,f69,f70,f71,_⟩:=he
            simp (maxSteps:=1000000) -dsimp only [go_sem,f71]
            refine ⟨by omega,loop_next (j + 1,E ++ [y'],ok) 8 ⟨by simp only; omega,hr2,mem_app hE hw,by simp only [List.length_append,List.length_singleton]; omega⟩ (by simp only; omega) ?_ ?_⟩
            · simp -dsimp only [go_sem,f3,f4,f8,f9,f11,f62,f63,f64,f69,f70]<;>simp
            · simp -dsimp only [go_sem,scC]<;>simp [scC]
          | none=>
            have hw:EnW default:=⟨⟨by decide,by decide,by decide,fun n hn=>(List.not_mem_nil hn).elim,fun n hn=>(List.not_mem_nil hn).elim⟩,by decide,by decide⟩
            have hst:enStep b (mOf E T ok) x=mOf (E ++ [default]) T false:=by cases ok with
              | true=>show (bif hasE E x.nm then _ else _)=_; rw [hh,hy]; show Option.map _ (meL (nds x) (nds y))=_; rw [hml]; rfl
              | false=>rfl
            have hr2:=fin _ false hw hst
            simp only [meK]
            generalize (default:En)=y' at *
            simp (maxSteps:=1000000) -dsimp only [go_sem,enC]
            refine vc_tail (up:=(13,.va (.c1 (.pt 8 0))) :: meU s i j false) (Hs:=mgB a b s ver E T ++ [.cells (enC y') 60]) 9 (enTail hw (by omega) fun fr' R' he=>?_) ?_ ?_
            rotate_left
            · simp -dsimp only [go_sem]<;>simp
            · simp -dsimp only [go_sem,scC,enC]<;>simp [scC,enC]
            simp only [isFr] at he
            obtain ⟨f3,f4,f8,f9,f11,f62,f63,f64,f69,f70,f71,_⟩:=he
            simp (maxSteps:=1000000) -dsimp only [go_sem,f71]
            refine ⟨by omega,loop_next (j + 1,E ++ [y'],false) 8 ⟨by simp only; omega,hr2,mem_app hE hw,by simp only [List.length_append,List.length_singleton]; omega⟩ (by simp only; omega) ?_ ?_⟩
            · simp -dsimp only [go_sem,f3,f4,f8,f9,f11,f62,f63,f64,f69,f70]<;>simp
            · simp -dsimp only [go_sem,scC]<;>simp [scC]
    · have hgj:decide ((j:Int) < (s.es.length:Int))=false:=by simp; omega
      obtain rfl:j=s.es.length:=by omega
      rw [List.drop_length,List.foldl_nil] at hr
      simp (maxSteps:=1000000) -dsimp only [go_sem,hgj,scC]
      refine vc_loop (α:=Nat × List St × Bool) (fun z=>msU s i z.1 z.2.2) (fun z=>mgB a b s ver E z.2.1)
        (fun z=>z.1<=s.ss.length/\R.foldl (scRun b) ((s.ss.drop z.1).foldl (stStep b) (mOf E z.2.1 z.2.2))=mgT a b/\(∀ t ∈ z.2.1,StM t)/\z.2.1.length<=100 * i + z.1) (fun z=>s.ss.length - z.1) (0,T,ok) 8 ⟨Nat.zero_le _,hr,hT,by simp only; omega⟩ ?_ ?_ ?_
      · simp -dsimp only [go_sem]<;>simp
      · simp -dsimp only [go_sem,scC]<;>simp [scC]
      clear hr hT lT
      rintro ⟨j,T,ok⟩ ⟨hj,hr,hT,lT⟩
      simp only at hj hr hT lT ⊢
      rcases Nat.lt_or_ge j s.ss.length with hltj | hgej
      · have hgj:decide ((j:Int) < (s.ss.length:Int))=true:=by simp; omega
        obtain ⟨x,hx⟩:∃ t,s.ss[j]? = some t:=⟨_,List.getElem?_eq_getElem hltj⟩
        have q1:=row_rg' (row:=stC) hx
        have gx:=gs.ss x (List.mem_of_getElem? hx)
        have hdx:s.ss.drop j=x :: s.ss.drop (j + 1):=by
          obtain ⟨h,rfl⟩:=List.getElem?_eq_some_iff.1 hx
          exact List.drop_eq_getElem_cons h
        rw [hdx,List.foldl_cons] at hr
        simp (maxSteps:=1000000) -dsimp only [go_sem,hgj,↓q1,stC]
        refine ⟨by omega,stb_use (fit_of mv (by omega) (by omega) hE hT) fun nm u hu=>?_⟩
        have hu':(C.vl u).one=True:=eq_true hu
        cases hh:hasS T x.nm with
        | true=>
          have hst:stStep b (mOf E T ok) x=mOf E T ok:=by cases ok with
            | true=>show (bif hasS T x.nm then _ else _)=_; rw [hh]; rfl
            | false=>rfl
          rw [hst] at hr
          simp (maxSteps:=1000000) -dsimp only [go_sem,hu']
          refine ⟨by omega,loop_next (j + 1,T,ok) 8 ⟨by simp only; omega,hr,hT,by simp only; omega⟩ (by simp only; omega) ?_ ?_⟩
          · simp -dsimp only [go_sem]<;>simp
          · simp -dsimp only [go_sem,scC]<;>simp [scC]
        | false=>
          have fin:∀ (y:St) (ok':Bool),stStep b (mOf E T ok) x=mOf E (T ++ [y]) ok'->R.foldl (scRun b) ((s.ss.drop (j + 1)).foldl (stStep b) (mOf E (T ++ [y]) ok'))=mgT a b:=fun y ok' h=>by rw [<-h]; exact hr
          simp (maxSteps:=1000000) -dsimp only [go_sem,hu',scC]
          refine .inl (stp_use (s:=b) fb ?_)
          cases hy:fS b.ss x.nm with
          | none=>
            have hys:hasS b.ss x.nm=false:=by rw [<-fS_has,hy]; rfl
            have hst:stStep b (mOf E T ok) x=mOf E (T ++ [x]) ok:=by cases ok with
              | true=>show (bif hasS T x.nm then _ else _)=_; rw [hh,hy]; rfl
              | false=>rfl
            have hr2:=fin x ok hst
            have hw:=gx.1
            simp (maxSteps:=1000000) -dsimp only [go_sem,hys,Option.getD_none,stC_def]
            refine vc_tail (up:=(21,.va (.c1 (.pt 8 0))) :: msU s i j ok) (Hs:=mgB a b s ver E T ++ [.cells (stC x) 37]) 9 (stTail hw (by omega) fun fr' R' he=>?_) ?_ ?_
            rotate_left
            · simp -dsimp only [go_sem]<;>simp
            · simp -dsimp only [go_sem,scC,stC]<;>simp [scC,stC]
            simp only [isFr] at he
            obtain ⟨f3,f4,f8,f9,f62,f63,f64,f118,f119,f120,_⟩:=he
            simp (maxSteps:=1000000) -dsimp only [go_sem,f120]
            refine ⟨by omega,loop_next (j + 1,T ++ [x],ok) 8 ⟨by simp only; omega,hr2,mem_app hT hw,by simp only [List.length_append,List.length_singleton]; omega⟩ (by simp only; omega) ?_ ?_⟩
            · simp -dsimp only [go_sem,f3,f4,f8,f9,f62,f63,f64,f118,f119]<;>simp
            · simp -dsimp only [go_sem,scC]<;>simp [scC]
          | some y=>
            have hys:hasS b.ss x.nm=true:=by rw [<-fS_has,hy]; rfl
            have gy:=gb.ss y (fS_mem hy).1
            simp (maxSteps:=1000000) -dsimp only [go_sem,hys,Option.getD_some,stC]
            refine ms_use (a:=x) (b:=y) gx gy ?_
            cases hml:msL x.fs y.fs with
            | some l=>
              have hw:=msL_w ⟨gx.1,gx.2.1⟩ ⟨gy.1,gy.2.1⟩ hml
              have hst:stStep b (mOf E T ok) x=mOf E (T ++ [⟨x.nm,sortBy Fl.num l⟩]) ok:=by cases ok with
                | true=>show (bif hasS T x.nm then _ else _)=_; rw [hh,hy]; show Option.map _ (msL x.fs y.fs)=_; rw [hml]; rfl
                | false=>rfl
              have hr2:=fin _ ok hst
              simp only [msK]
              generalize (⟨x.nm,sortBy Fl.num l⟩:St)=y' at *
              simp (maxSteps:=1000000) -dsimp only [go_sem,stC]
              refine vc_tail (up:=(21,.va (.c1 (.pt 8 0))) :: msU s i j ok) (Hs:=mgB a b s ver E T ++ [.cells (stC y') 37]) 9 (stTail hw (by omega) fun fr' R' he=>?_) ?_ ?_
              rotate_left
              · simp -dsimp only [go_sem]<;>simp
              · simp -dsimp only [go_sem,scC,stC]<;>simp [scC,stC]
              simp only [isFr] at he
              obtain ⟨f3,f4,f8,f9,f62,f63,f64,f118,f119,f120,_⟩:=he
              simp (maxSteps:=1000000) -dsimp only [go_sem,f120]
              refine ⟨by omega,loop_next (j + 1,T ++ [y'],ok) 8 ⟨by simp only; omega,hr2,mem_app hT hw,by simp only [List.length_append,List.length_singleton]; omega⟩ (by simp only; omega) ?_ ?_⟩
              · simp -dsimp only [go_sem,f3,f4,f8,f9,f62,f63,f64,f118,f119]<;>simp
              · simp -dsimp only [go_sem,scC]<;>simp [scC]
            | none=>
              simp only [msK]
              intro y' hw
              have hst:stStep b (mOf E T ok) x=mOf E (T ++ [y']) false:=by cases ok with
                | true=>show (bif hasS T x.nm then _ else _)=_; rw [hh,hy]; show Option.map _ (msL x.fs y.fs)=_; rw [hml]; rfl
                | false=>rfl
              have hr2:=fin _ false hst
              simp (maxSteps:=1000000) -dsimp only [go_sem,stC]
              refine vc_tail (up:=(21,.va (.c1 (.pt 8 0))) :: msU s i j false) (Hs:=mgB a b s ver E T ++ [.cells (stC y') 37]) 9 (stTail hw (by omega) fun fr' R' he=>?_) ?_ ?_
              rotate_left
              · simp -dsimp only [go_sem]<;>simp
              · simp -dsimp only [go_sem,scC,stC]<;>simp [scC,stC]
              simp only [isFr] at he
              obtain ⟨f3,f4,f8,f9,f62,f63,f64,f118,f119,f120,_⟩:=he
              simp (maxSteps:=1000000) -dsimp only [go_sem,f120]
              refine ⟨by omega,loop_next (j + 1,T ++ [y'],false) 8 ⟨by simp only; omega,hr2,mem_app hT hw,by simp only [List.length_append,List.length_singleton]; omega⟩ (by simp only; omega) ?_ ?_⟩
              · simp -dsimp only [go_sem,f3,f4,f8,f9,f62,f63,f64,f118,f119]<;>simp
              · simp -dsimp only [go_sem,scC]<;>simp [scC]
      · have hgj:decide ((j:Int) < (s.ss.length:Int))=false:=by simp; omega
        obtain rfl:j=s.ss.length:=by omega
        rw [List.drop_length,List.foldl_nil] at hr
        simp (maxSteps:=1000000) -dsimp only [go_sem,hgj]
        refine ⟨by omega,loop_next (i + 1,E,T,ok) 7 ⟨by simp only; omega,by simp only; rw [hR]; exact hr,hE,hT,by simp only; omega,by simp only; omega⟩ (by simp only; omega) ?_ ?_⟩
        · simp -dsimp only [go_sem]<;>simp
        · simp -dsimp only [go_sem,scC]<;>simp [scC]
  · obtain rfl:i=2:=by omega
    have hr:mOf E T ok=mgT a b:=hr
    have hg2:decide (((2:Nat):Int) < (2:Int))=false:=by decide
    rw [<-hr] at hK
    cases ok with
    | false=>
      have hK:K (.tu [.gs (scC default),.c1 (.vl (.int .i64 14))]) []:=hK
      simp (maxSteps:=1000000) -dsimp only [go_sem,hg2]
      exact .sel [] (by simp) (by simp) rfl (.done (by simpa [go_sem,scC_def] using hK))
    | true=>
      have hff:Sc.fit ⟨ver,E,T⟩:=fit_of mv (by omega) (by omega) hE hT
      have hK:K (.tu [.gs (scC (bif checkF ⟨ver,E,T⟩ != 0 then (default,checkF ⟨ver,E,T⟩) else ((⟨ver,E,T⟩:Sc),0)).1),.c1 (.vl (.int .i64 (bif checkF ⟨ver,E,T⟩ != 0 then (default,checkF ⟨ver,E,T⟩) else ((⟨ver,E,T⟩:Sc),0)).2))]) []:=hK
      have hsc:=isScF_mk hff
      have hdc:=sc_dec ⟨ver,E,T⟩
      rw [scC] at hsc hdc
      simp only at hsc hdc
      cases c3:checkF ⟨ver,E,T⟩ != 0 with
      | true=>
        rw [c3] at hK
        simp (maxSteps:=1000000) -dsimp only [go_sem,hg2,hsc,hdc,c3]
        exact .sel [] (by simp) (by simp) rfl (.done (by simpa [go_sem,scC_def] using hK))
      | false=>
        rw [c3] at hK
        simp (maxSteps:=1000000) -dsimp only [go_sem,hg2,hsc,hdc,c3]
        refine .pub 5 _ _ _ rfl (.pub 6 _ _ _ rfl (.sel [] (by simp) (by simp [pubH]) rfl (.done ?_)))
        simp -dsimp only [go_sem,pubH]
        simpa [scC] using hK
end Go.Proofs.YtbolanmlngjdoaaGreat
namespace Go.Proofs.YtbolanmlngjdoaaGreat
open Go.W
noncomputable def enM (b:Sc) (x:En):Option En:=match fEn b.es x.nm with
  | some y=>(enR (nds x) (nds y) (List.range 128) []).map fun l=>⟨x.nm,l.map Nd.nm,l.map Nd.n⟩
  | none=>some x
noncomputable def stM (b:Sc) (x:St):Option St:=match fS b.ss x.nm with
  | some y=>(fdR x.fs y.fs ((List.range 128).drop 1) []).map fun l=>⟨x.nm,l⟩
  | none=>some x
noncomputable def rx1 (b:Sc):MSt->En->MSt
  | none,_=>none
  | some (E,T),x=>match enM b x with
    | some z=>bif hasS b.ss z.nm then none else some (E ++ [z],T)
    | none=>none
def rx2 (a:Sc):MSt->En->MSt
  | none,_=>none
  | some (E,T),x=>bif hasE a.es x.nm then some (E,T) else some (E ++ [x],T)
noncomputable def rx3 (b:Sc):MSt->St->MSt
  | none,_=>none
  | some (E,T),x=>match stM b x with
    | some z=>bif hasE b.es z.nm then none else some (E,T ++ [z])
    | none=>none
def rx4 (a:Sc):MSt->St->MSt
  | none,_=>none
  | some (E,T),x=>bif hasS a.ss x.nm then some (E,T) else some (E,T ++ [x])
noncomputable def mrT (a b:Sc):MSt:=b.ss.foldl (rx4 a) (a.ss.foldl (rx3 b) (b.es.foldl (rx2 a) (a.es.foldl (rx1 b) (some ([],[])))))
noncomputable def mrF (a b:Sc):Sc × Int:=bif checkF a != 0 then (default,checkF a) else bif checkF b != 0 then (default,checkF b) else match mrT a b with
  | none=>(default,14)
  | some (E,T)=>bif checkF ⟨max a.ver b.ver,E,T⟩ != 0 then (default,checkF ⟨max a.ver b.ver,E,T⟩) else (⟨max a.ver b.ver,E,T⟩,0)
noncomputable abbrev mrE:Env:=[(11,.f ckFn),(44,.s enSpP),(10,.s stSpP),(45,.s erSp),(46,.s frSp)]
theorem mrMeets:MeetsAll Tryz.prog mrE:=meetsAll_f mRCheck (meetsAll_s mREnum (meetsAll_s mRStruct (meetsAll_s mREnums (meetsAll_s mRFields (meetsAll_nil _)))))
abbrev rB (a b:Sc) (ver:Int) (E:List En) (T:List St):Hp:=[.cells (scC a) 25,.cells (scC b) 25,.cells [.vl (.int .i64 0),.vl (.slice none 0 0),.vl (.slice none 0 0)] 25,
  .cells [.vl (.int .i64 ver),.sl 4 E.length,.sl 5 T.length] 25,.row (E.map enC) 60 3,.row (T.map stC) 37 2]
abbrev rU (k i:Nat) (ok:Bool):List (Nat × S):=[(2,.va (.c1 (.pt 0 0))),(3,.va (.c1 (.pt 1 0))),(4,.va (.c1 (.pt 2 0))),(8,.va (.c1 (.pt 3 0))),(9,bS ok),(k,iS .i64 i)]
theorem pick_a (b c:Bool):(bif b then c else false)=(b && c):=by cases b<;>rfl
set_option maxRecDepth 100000 in
theorem rTail1 {a b:Sc} {ver:Int} {E:List En} {T:List St} {i:Nat} {ok:Bool} {y:En} (fb:b.fit) (hE:E.length<=1000) {K:Ex->Fr->Hp->Prop}
    (hK:∀ fr' R,isFr fr' (rU 10 i (ok && !(hasS b.ss y.nm)))->K .n fr' (rB a b ver (E ++ [y]) T ++ R)) :
    vc mrE 0 pc15_20.ungh (puts ((11,.va (.c1 (.pt 6 0))) :: rU 10 i ok)) (rB a b ver E T ++ [.cells (enC y) 60]) K:=by
  have key:∀ fr' H' R,isFr fr' (rU 10 i (ok && !(hasS b.ss y.nm)))->H'=rB a b ver (E ++ [y]) T ++ R->K .n fr' H':=fun fr' H' R h e=>e ▸ hK fr' R h
  simp (maxSteps:=1000000) -dsimp only [go_sem,pc15_20,enC,scC]
  refine stp_use (s:=b) fb ?_
  generalize (fS b.ss y.nm).getD default=t
  generalize hasS b.ss y.nm=p at *
  simp (maxSteps:=1000000) -dsimp only [go_sem,stC,pick_a]
  refine ⟨by omega,key _ _ [.cells (enC y) 60,.cells (stC t) 37,.row [enC y] 60 3] ?_ ?_⟩
  · simp -dsimp only [go_sem]<;>simp
  · simp -dsimp [go_sem,scC,stC,enC]
set_option maxRecDepth 100000 in
theorem rTail3 {a b:Sc} {ver:Int} {E:List En} {T:List St} {i:Nat} {ok:Bool} {y:St} (fb:b.fit) (hT:T.length<=1000) {K:Ex->Fr->Hp->Prop}
    (hK:∀ fr' R,isFr fr' (rU 21 i (ok && !(hasE b.es y.nm)))->K .n fr' (rB a b ver E (T ++ [y]) ++ R)) :
    vc mrE 0 pc15_38.ungh (puts ((22,.va (.c1 (.pt 6 0))) :: rU 21 i ok)) (rB a b ver E T ++ [.cells (stC y) 37]) K:=by
  have key:∀ fr' H' R,isFr fr' (rU 21 i (ok && !(hasE b.es y.nm)))->H'=rB a b ver E (T ++ [y]) ++ R->K .n fr' H':=fun fr' H' R h e=>e ▸ hK fr' R h
  simp (maxSteps:=1000000) -dsimp only [go_sem,pc15_38,stC,scC]
  refine enp_use (s:=b) fb ?_
  generalize (fEn b.es y.nm).getD default=t
  generalize hasE b.es y.nm=p at *
  simp (maxSteps:=1000000) -dsimp only [go_sem,enC,pick_a]
  refine ⟨by omega,key _ _ [.cells (stC y) 37,.cells (enC t) 60,.row [stC y] 37 2] ?_ ?_⟩
  · simp -dsimp only [go_sem]<;>simp
  · simp -dsimp [go_sem,scC,stC,enC]
theorem enR_mem {a b:List Nd} {p:Nd->Prop} (h:∀ (n:Nat) (z:ByteArray),n < 128->(z=nmAt n (mk []) a\/z=nmAt n (mk []) b)->p ⟨n,z⟩):∀ {r:List Nat} {l o:List Nd},(∀ n ∈ r,n < 128)->(∀ x ∈ l,p x)->enR a b r l=some o->o.length<=l.length + r.length/\∀ x ∈ o,p x
  | [],l,o,_,h2,h3=>by rw [enR,Option.some.injEq] at h3; subst h3; exact ⟨by simp,h2⟩
  | n :: r,l,o,h1,h2,h3=>by
    rw [enR] at h3
    have h1':∀ m ∈ r,m < 128:=fun m hm=>h1 m (List.mem_cons_of_mem _ hm)
    have hn:=h1 n (by simp)
    cases c1:(!(decide (nmAt n (mk []) a=mk [])) && !(decide (nmAt n (mk []) b=mk [])) && !(decide (nmAt n (mk []) a=nmAt n (mk []) b))) with
    | true=>rw [c1] at h3; cases h3
    | false=>
      rw [c1,Bool.cond_false] at h3
      have hz:(bif decide (nmAt n (mk []) a=mk []) then nmAt n (mk []) b else nmAt n (mk []) a)=nmAt n (mk []) a\/(bif decide (nmAt n (mk []) a=mk []) then nmAt n (mk []) b else nmAt n (mk []) a)=nmAt n (mk []) b:=by
        cases decide (nmAt n (mk []) a=mk [])<;>simp
      generalize (bif decide (nmAt n (mk []) a=mk []) then nmAt n (mk []) b else nmAt n (mk []) a)=z at *
      simp only at h3
      cases c2:decide (z=mk []) with
      | true=>
        rw [c2] at h3
        obtain ⟨q1,q2⟩:=enR_mem h h1' h2 h3
        exact ⟨by simp only [List.length_cons]; omega,q2⟩
      | false=>
        rw [c2,Bool.cond_false] at h3
        cases c3:inB (l.map Nd.nm) z with
        | true=>rw [c3] at h3; cases h3
        | false=>
          rw [c3] at h3
          obtain ⟨q1,q2⟩:=enR_mem h h1' (mem_app h2 (h n z hn hz)) h3
          exact ⟨by simp only [List.length_append,List.length_cons,List.length_nil] at *; omega,q2⟩
theorem enR_w {x y:En} {l:List Nd} (gx:EnG x) (gy:EnG y) (h:enR (nds x) (nds y) (List.range 128) []=some l):EnW ⟨x.nm,l.map Nd.nm,l.map Nd.n⟩:=by
  obtain ⟨h1,h2⟩:=enR_mem (p:=fun z=>z.nm.size<=9223372036854775807/\in64 z.n) (fun n z hn hz=>⟨by
    rcases hz with rfl | rfl
    · exact nmAt_sz (by decide) (nds_sz gx)
    · exact nmAt_sz (by decide) (nds_sz gy),by unfold in64; dsimp only; omega⟩) (fun n hn=>List.mem_range.1 hn) (fun z hz=>(List.not_mem_nil hz).elim) h
  rw [List.length_range,List.length_nil] at h1
  refine ⟨⟨gx.ok.nm,?_,?_,fun n hn=>?_,fun v hv=>?_⟩,?_,?_⟩
  · show (l.map Nd.nm).length<=_; rw [List.length_map]; omega
  · show (l.map Nd.n).length<=_; rw [List.length_map]; omega
  · obtain ⟨p,hp,rfl⟩:=List.mem_map.1 hn; exact (h2 p hp).1
  · obtain ⟨p,hp,rfl⟩:=List.mem_map.1 hv; exact (h2 p hp).2
  · show (l.map Nd.nm).length<=_; rw [List.length_map]; omega
  · show (l.map Nd.n).length<=_; rw [List.length_map]; omega
theorem fdR_w {a b:List Fl} (ha:∀ f ∈ a,FlW f) (hb:∀ f ∈ b,FlW f):∀ {r:List Nat} {l o:List Fl},(∀ f ∈ l,FlW f)->fdR a b r l=some o->o.length<=l.length + r.length/\∀ f ∈ o,FlW f
  | [],l,o,h2,h3=>by rw [fdR,Option.some.injEq] at h3; subst h3; exact ⟨by simp,h2⟩
  | n :: r,l,o,h2,h3=>by
    rw [fdR] at h3
    have go:∀ f,FlW f->fdR a b r (l ++ [f])=some o->o.length<=l.length + (n :: r).length/\∀ f ∈ o,FlW f:=fun f hf h=>by
      obtain ⟨q1,q2⟩:=fdR_w ha hb (mem_app h2 hf) h
      exact ⟨by simp only [List.length_append,List.length_cons,List.length_nil] at *; omega,q2⟩
    split at h3
    · obtain ⟨q1,q2⟩:=fdR_w ha hb h2 h3
      exact ⟨by simp only [List.length_cons]; omega,q2⟩
    · rename_i g _ hg
      cases c:g.opt with
      | true=>rw [c] at h3; exact go g (hb g (fF_some hg).1) h3
      | false=>rw [c] at h3; cases h3
    · rename_i f hf _
      cases c:f.opt with
      | true=>rw [c] at h3; exact go f (ha f (fF_some hf).1) h3
      | false=>rw [c] at h3; cases h3
    · rename_i f g hf hg
      cases c:(mfF f g).2 with
      | true=>rw [c] at h3; exact go _ (mfF_W (ha f (fF_some hf).1) (hb g (fF_some hg).1)) h3
      | false=>rw [c] at h3; cases h3
theorem fdR_st {x y:St} {l:List Fl} (gx:StM x) (gy:StM y) (h:fdR x.fs y.fs ((List.range 128).drop 1) []=some l):StM ⟨x.nm,l⟩:=by
  obtain ⟨h1,h2⟩:=fdR_w gx.fs gy.fs (fun f hf=>(List.not_mem_nil hf).elim) h
  exact ⟨gx.nm,by show l.length<=1000; simp at h1; omega,h2⟩
theorem rx1_some {b:Sc} {E:List En} {T:List St} {ok:Bool} {x z:En} (h:enM b x=some z):rx1 b (mOf E T ok) x=mOf (E ++ [z]) T (ok && !(hasS b.ss z.nm)):=by
  cases ok with
  | false=>rfl
  | true=>
    show rx1 b (some (E,T)) x=_
    simp only [rx1,h]
    cases hasS b.ss z.nm<;>rfl
theorem rx1_none {b:Sc} {E E':List En} {T T':List St} {ok p:Bool} {x:En} (h:enM b x=none):rx1 b (mOf E T ok) x=mOf E' T' (false && p):=by
  cases ok with
  | false=>rfl
  | true=>
    show rx1 b (some (E,T)) x=_
    simp only [rx1,h]; rfl
theorem rx3_some {b:Sc} {E:List En} {T:List St} {ok:Bool} {x z:St} (h:stM b x=some z):rx3 b (mOf E T ok) x=mOf E (T ++ [z]) (ok && !(hasE b.es z.nm)):=by
  cases ok with
  | false=>rfl
  | true=>
    show rx3 b (some (E,T)) x=_
    simp only [rx3,h]
    cases hasE b.es z.nm<;>rfl
theorem rx3_none {b:Sc} {E E':List En} {T T':List St} {ok p:Bool} {x:St} (h:stM b x=none):rx3 b (mOf E T ok) x=mOf E' T' (false && p):=by
  cases ok with
  | false=>rfl
  | true=>
    show rx3 b (some (E,T)) x=_
    simp only [rx3,h]; rfl
theorem rx2_step {a:Sc} {E:List En} {T:List St} {ok:Bool} {x:En}:rx2 a (mOf E T ok) x=mOf (bif hasE a.es x.nm then E else E ++ [x]) T ok:=by
  cases ok with
  | false=>rfl
  | true=>
    show rx2 a (some (E,T)) x=_
    simp only [rx2]
    cases hasE a.es x.nm<;>rfl
theorem rx4_step {a:Sc} {E:List En} {T:List St} {ok:Bool} {x:St}:rx4 a (mOf E T ok) x=mOf E (bif hasS a.ss x.nm then T else T ++ [x]) ok:=by
  cases ok with
  | false=>rfl
  | true=>
    show rx4 a (some (E,T)) x=_
    simp only [rx4]
    cases hasS a.ss x.nm<;>rfl
end Go.Proofs.YtbolanmlngjdoaaGreat
