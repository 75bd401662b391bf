/- Lemmas and walks for the proof. -/
import Derived.Test.YtkpohmhenegkiaaGreatDoorHb
import Derived.Test.YtkpohmhenegkiaaGreatDoorProg
import Derived.Shelf.Strings.Search1
import Derived.Shelf.Small.Strs
set_option maxRecDepth 100000
set_option maxHeartbeats 8000000
namespace Go.W
abbrev J.a (d:Nat) (i:I):J:=⟨some d,none,i⟩
abbrev J.q (d:Nat) (i:QI):J:=⟨some d,none,.q i⟩
abbrev J.v (d i:Nat):J:=⟨some d,none,.q (.mv (.t i))⟩
abbrev J.l (d:Nat) (i:LI):J:=⟨some d,none,.l i⟩
abbrev J.e (d:Nat) (i:EI):J:=⟨some d,none,.e i⟩
abbrev J.s (i:EI):J:=⟨none,none,.e i⟩
abbrev O.i (n:Int):O:=.k (.int .i64 n)
abbrev a8 (p:PC):Prop:=∀(Γ:cS) (k0:Nat) (fr:Fr) (H:Hp) (K:Ex->Fr->Hp->Prop),vc Γ k0 p fr H K=vcn Γ k0 p fr H K ⟨⟩
theorem bB (p:PC):a8 p:=fun _ _ _ _ _=>rfl
end Go.W
namespace Go.Proofs.YtkpohmhenegkiaaGreatDoor
open Go.W
def aH5:PC:=.seq (.reg [.q 2 (.mv (.k (.pointer none))),.q 3 (.mv (.i 0)),.q 4 (.mv (.i 0))]) (.seq (.reg [.v 9 0,.a 10 (.cl 72 [(.t 9)] []),.v 8 10,.q 11 (.ex (.t 8) 0),.q 12 (.ex (.t 8) 1),.q 13 (.ex (.t 8) 2),.v 5 11,.v 6 12,.v 7 13]) (.seq (.seq (.reg [.v 14 6,.q 15 (.bin .neq true (.t 14) (.i 0))]) (.cond (.t 15) (.seq (.reg [.v 16 6,.v 17 7,.q 2 (.mv (.k (.pointer none))),.v 3 16,.v 4 17]) .ret) .skip)) (.seq (.reg [.v 18 5,.q 19 (.bd [(.slice none 0 0),(.int .i64 0)] [(0,1,(.t 18))]),.e 20 (.bx 114 (.t 19)),.v 2 20,.q 3 (.mv (.i 0)),.q 4 (.mv (.i 0))]) .ret)))
def aGG:List RV:=[.mv (.t 2),.mv (.t 3),.mv (.t 4)]
theorem aPA:aM Tryz.prog true ⟨fun _ _=>.own [],fun _=>false⟩ Tryz.f29=some (aH5,aGG):=by kernel_rfl
def aGP:PC:=.seq (.reg [.e 2 (.al (.agg #[(.int .i64 0),(.string (mk [])),(.int .i64 0),(.int .i64 0)]) 71)]) (.seq (.seq (.reg [.v 3 0,.q 4 (.eqP false (.t 3) (.k (.pointer none))),.v 5 4,⟨some 6,(some (5,false)),.q (.mv (.t 0))⟩,⟨some 7,(some (5,false)),.q (.nc (.t 6))⟩,⟨some 8,(some (5,false)),.q (.fa 0 (.t 7))⟩,⟨some 9,(some (5,false)),.l (.ld1 (.t 8))⟩,⟨some 10,(some (5,false)),.q (.lnL (.t 9))⟩,⟨some 11,(some (5,false)),.q (.bin .eql true (.t 10) (.i 0))⟩,.a 12 (.pick (.t 5) (.k (.bool true)) (.t 11))]) (.cond (.t 12) (.seq (.reg [.q 13 (.bd [(.int .i64 0),(.string (mk [])),(.int .i64 0),(.int .i64 0)] []),.s (.st 4 (.t 2) (.t 13))]) .ret) .skip)) (.seq (.reg [.v 14 0,.q 15 (.nc (.t 14)),.q 16 (.fa 0 (.t 15)),.l 17 (.ld1 (.t 16)),.v 18 0,.q 19 (.nc (.t 18)),.q 20 (.fa 1 (.t 19)),.l 21 (.ld1 (.t 20)),.l 22 (.ia 4 (.t 17) (.t 21)),.l 23 (.ldn 4 (.t 22)),.s (.st 4 (.t 2) (.t 23))]) .ret))
def aDP:List RV:=[.ld (.ldn 4 (.t 2))]
theorem aNE:aM Tryz.prog true ⟨fun _ _=>.own [],fun _=>false⟩ Tryz.f30=some (aGP,aDP):=by kernel_rfl
def aC8:PC:=.seq (.reg [.q 2 (.mv (.k (.slice none 0 0))),.q 3 (.mv (.i 0)),.q 4 (.mv (.i 0))]) (.seq (.seq (.reg [.v 8 0,.q 9 (.lnS (.t 8)),.q 10 (.bin .gtr true (.t 9) (.i 4000))]) (.cond (.t 10) (.seq (.reg [.q 2 (.mv (.k (.slice none 0 0))),.q 3 (.mv (.i 3)),.q 4 (.mv (.i 0))]) .ret) .skip)) (.seq (.reg [.v 11 0,.q 12 (.bd [(.string (mk [])),(.int .i64 0),(.int .i64 0),(.int .i64 0)] [(0,1,(.t 11))]),.e 13 (.bx 138 (.t 12)),.v 5 13]) (.seq (.reg [.q 6 (.mv (.k (.slice none 0 0)))]) (.block 0 (.loop (.block 1 (.seq (.reg [.v 14 5,.a 15 (.cl 115 [(.t 14)] [0]),.e 7 (.al (.agg #[(.int .i64 0),(.string (mk [])),(.int .i64 0),(.int .i64 0)]) 71),.s (.st 4 (.t 7) (.t 15))]) (.seq (.seq (.reg [.v 16 5,.q 17 (.nc (.t 16)),.q 18 (.fa 2 (.t 17)),.l 19 (.ld1 (.t 18)),.q 20 (.bin .neq true (.t 19) (.i 0))]) (.cond (.t 20) (.seq (.reg [.v 21 5,.q 22 (.nc (.t 21)),.q 23 (.fa 2 (.t 22)),.l 24 (.ld1 (.t 23)),.v 25 5,.q 26 (.nc (.t 25)),.q 27 (.fa 3 (.t 26)),.l 28 (.ld1 (.t 27)),.q 2 (.mv (.k (.slice none 0 0))),.v 3 24,.v 4 28]) .ret) .skip)) (.seq (.reg [.v 29 6,.l 30 (.ldn 4 (.t 7)),.e 31 (.bsl 71 4 [(.t 30)]),.e 32 (.ap 71 4 40 (.t 29) (.t 31)),.v 6 32]) (.seq (.reg [.q 33 (.fa 0 (.t 7)),.l 34 (.ld1 (.t 33)),.q 35 (.bin .eql true (.t 34) (.i 0))]) (.cond (.t 35) (.seq (.reg [.v 36 6,.v 2 36,.q 3 (.mv (.i 0)),.q 4 (.mv (.i 0))]) .ret) .skip)))))))))))
def aH3:List RV:=[.mv (.t 2),.mv (.t 3),.mv (.t 4)]
theorem aQ4:aM Tryz.prog true ⟨fun r k=>if r=5/\k=1 then .own [0] else .own [],fun _=>false⟩ Tryz.f72=some (aC8,aH3):=by kernel_rfl
def aDF:PC:=.seq (.reg [.q 4 (.mv (.k (.bool false)))]) (.seq (.reg [.v 5 0,.v 6 1,.a 7 (.cl 120 [(.t 5),(.i 1),(.t 6)] [0]),.v 4 7]) .ret)
def aHH:List RV:=[.mv (.t 4)]
theorem aNP:aM Tryz.prog true ⟨fun r k=>if r=1/\k=2 then .own [0] else .own [],fun _=>false⟩ Tryz.f95=some (aDF,aHH):=by kernel_rfl
def pc96:PC:=.seq (.reg [.q 2 (.mv (.k (.string (mk []))))]) (.seq (.reg [.e 3 (.al (.agg #[(.pointer none),(.slice none 0 0)]) 146)]) (.seq (.seq (.reg [.v 8 0,.q 9 (.lnL (.t 8)),.q 10 (.mv (.i 0))]) (.block 0 (.loop (.seq (.reg [.q 11 (.bin .lss true (.t 10) (.t 9))]) (.seq (.cond (.t 11) .skip (.exit 0)) (.seq (.block 1 (.seq (.reg [.l 12 (.ia 4 (.t 8) (.t 10)),.l 13 (.ldn 4 (.t 12)),.e 5 (.al (.agg #[(.int .i64 0),(.string (mk [])),(.int .i64 0),(.int .i64 0)]) 71),.s (.st 4 (.t 5) (.t 13))]) (.seq (.reg [.l 15 (.ldn 4 (.t 5)),.a 16 (.cl 121 [(.t 15)] []),.v 14 16,.q 17 (.ex (.t 14) 0),.q 18 (.ex (.t 14) 1),.v 6 17,.v 7 18]) (.seq (.seq (.reg [.v 19 7,.q 20 (.not (.t 19))]) (.cond (.t 20) (.exit 1) .skip)) (.seq (.seq (.reg [.a 21 (.cl 122 [(.t 3)] [0,1]),.q 22 (.bin .gtr true (.t 21) (.i 0))]) (.cond (.t 22) (.reg [.a 23 (.cl 123 [(.t 3),(.k (.int .u8 32))] [0,1])]) .skip)) (.reg [.v 24 6,.a 25 (.cl 124 [(.t 3),(.t 24)] [0,1])])))))) (.reg [.q 26 (.bin .add true (.t 10) (.i 1)),.v 10 26]))))))) (.seq (.reg [.a 27 (.cl 125 [(.t 3)] [0,1]),.v 2 27]) .ret)))
def rs96:List RV:=[.mv (.t 2)]
theorem ok96:aM Tryz.prog true ⟨fun r k=>if r=7/\k=0 then .own [0,1] else if r=8/\k=0 then .own [0,1] else if r=9/\k=1 then .own [0,1] else if r=11/\k=0 then .own [0,1] else .own [],fun _=>false⟩ Tryz.f96=some (pc96,rs96):=by kernel_rfl
def aAT:PC:=.seq (.reg [.e 2 (.al (.agg #[(.int .i64 0),(.string (mk [])),(.int .i64 0),(.int .i64 0)]) 71)]) (.seq (.reg [.v 4 0,.a 5 (.cl 30 [(.t 4)] [0]),.e 3 (.al (.agg #[(.int .i64 0),(.string (mk [])),(.int .i64 0),(.int .i64 0)]) 71),.s (.st 4 (.t 3) (.t 5))]) (.seq (.seq (.reg [.v 6 0,.q 7 (.eqP true (.t 6) (.k (.pointer none))),.v 8 7,⟨some 9,(some (8,true)),.q (.mv (.t 0))⟩,⟨some 10,(some (8,true)),.q (.nc (.t 9))⟩,⟨some 11,(some (8,true)),.q (.fa 1 (.t 10))⟩,⟨some 12,(some (8,true)),.l (.ld1 (.t 11))⟩,⟨some 13,(some (8,true)),.q (.mv (.t 0))⟩,⟨some 14,(some (8,true)),.q (.nc (.t 13))⟩,⟨some 15,(some (8,true)),.q (.fa 0 (.t 14))⟩,⟨some 16,(some (8,true)),.l (.ld1 (.t 15))⟩,⟨some 17,(some (8,true)),.q (.lnL (.t 16))⟩,⟨some 18,(some (8,true)),.q (.bin .sub true (.t 17) (.i 1))⟩,⟨some 19,(some (8,true)),.q (.bin .lss true (.t 12) (.t 18))⟩,.a 20 (.pick (.t 8) (.t 19) (.k (.bool false)))]) (.cond (.t 20) (.reg [.v 21 0,.q 22 (.nc (.t 21)),.q 23 (.fa 1 (.t 22)),.l 24 (.ld1 (.t 23)),.q 25 (.bin .add true (.t 24) (.i 1)),.q 26 (.nc (.t 21)),.q 27 (.fa 1 (.t 26)),.s (.st 1 (.t 27) (.t 25))]) .skip)) (.seq (.reg [.l 28 (.ldn 4 (.t 3)),.s (.st 4 (.t 2) (.t 28))]) .ret)))
def X1:List RV:=[.ld (.ldn 4 (.t 2))]
theorem aJO:aM Tryz.prog true ⟨fun r k=>if r=1/\k=1 then .own [0] else .own [],fun _=>false⟩ Tryz.f100=some (aAT,X1):=by kernel_rfl
def YT:PC:=.seq (.reg [.e 2 (.al (.agg #[(.int .i64 0),(.string (mk [])),(.int .i64 0),(.int .i64 0)]) 71)]) (.seq (.reg [.v 3 0,.a 4 (.cl 134 [(.t 3)] [0])]) (.seq (.seq (.reg [.v 5 0,.a 6 (.cl 135 [(.t 5)] [0])]) (.block 0 (.seq (.reg [.q 8 (.bin .eql true (.t 6) (.i (-1))),.v 7 8]) (.cond (.t 7) (.seq (.reg [.v 9 0,.q 10 (.nc (.t 9)),.q 11 (.fa 1 (.t 10)),.l 12 (.ld1 (.t 11)),.q 13 (.bd [(.int .i64 0),(.string (mk [])),(.int .i64 0),(.int .i64 0)] [(3,1,(.t 12))]),.s (.st 4 (.t 2) (.t 13))]) .ret) (.seq (.reg [.q 15 (.bin .eql true (.t 6) (.i 3)),.v 14 15]) (.cond (.t 14) (.seq (.reg [.v 16 0,.a 17 (.cl 136 [(.t 16)] [0]),.s (.st 4 (.t 2) (.t 17))]) .ret) (.seq (.seq (.reg [.q 19 (.bin .eql true (.t 6) (.i 4)),.v 18 19]) (.cond (.t 18) .skip (.reg [.q 20 (.bin .eql true (.t 6) (.i 5)),.v 18 20]))) (.cond (.t 18) (.seq (.reg [.v 21 0,.a 22 (.cl 137 [(.t 21)] [0]),.s (.st 4 (.t 2) (.t 22))]) .ret) (.seq (.reg [.q 24 (.bin .eql true (.t 6) (.i 7)),.v 23 24]) (.cond (.t 23) (.seq (.reg [.v 25 0,.a 26 (.cl 138 [(.t 25)] [0]),.s (.st 4 (.t 2) (.t 26))]) .ret) (.seq (.reg [.q 28 (.bin .eql true (.t 6) (.i 8)),.v 27 28]) (.cond (.t 27) (.seq (.reg [.v 29 0,.q 30 (.nc (.t 29)),.q 31 (.fa 1 (.t 30)),.l 32 (.ld1 (.t 31)),.q 33 (.bin .add true (.t 32) (.i 1)),.q 34 (.nc (.t 29)),.q 35 (.fa 1 (.t 34)),.s (.st 1 (.t 35) (.t 33))]) (.seq (.reg [.v 36 0,.q 37 (.nc (.t 36)),.q 38 (.fa 0 (.t 37)),.l 39 (.ld1 (.t 38)),.v 40 0,.q 41 (.nc (.t 40)),.q 42 (.fa 1 (.t 41)),.l 43 (.ld1 (.t 42)),.q 44 (.bin .sub true (.t 43) (.i 1)),.v 45 0,.q 46 (.nc (.t 45)),.q 47 (.fa 1 (.t 46)),.l 48 (.ld1 (.t 47)),.q 49 (.ss (.t 39) (some (.t 44)) (some (.t 48))),.v 50 0,.q 51 (.nc (.t 50)),.q 52 (.fa 1 (.t 51)),.l 53 (.ld1 (.t 52)),.q 54 (.bin .sub true (.t 53) (.i 1)),.q 55 (.bd [(.int .i64 0),(.string (mk [])),(.int .i64 0),(.int .i64 0)] [(0,1,(.i 4)),(1,1,(.t 49)),(3,1,(.t 54))]),.s (.st 4 (.t 2) (.t 55))]) .ret)) .skip)))))))))))) (.seq (.reg [.v 56 0,.v 57 0,.q 58 (.nc (.t 57)),.q 59 (.fa 1 (.t 58)),.l 60 (.ld1 (.t 59)),.a 61 (.cl 139 [(.t 56),(.i 2),(.t 60)] [0])]) (.seq (.reg [.q 62 (.bd [(.int .i64 0),(.string (mk [])),(.int .i64 0),(.int .i64 0)] []),.s (.st 4 (.t 2) (.t 62))]) .ret))))
def Z8:List RV:=[.ld (.ldn 4 (.t 2))]
theorem aJ5:aM Tryz.prog true ⟨fun r k=>if r=1/\k=1 then .own [0] else if r=2/\k=1 then .own [0] else if r=6/\k=1 then .own [0] else if r=9/\k=1 then .own [0] else if r=11/\k=1 then .own [0] else if r=15/\k=5 then .own [0] else .own [],fun _=>false⟩ Tryz.f115=some (YT,Z8):=by kernel_rfl
def aAR:PC:=.seq (.reg [.q 6 (.mv (.k (.bool false)))]) (.seq (.seq (.reg [.v 8 0,.a 9 (.cl 30 [(.t 8)] [0]),.e 7 (.al (.agg #[(.int .i64 0),(.string (mk [])),(.int .i64 0),(.int .i64 0)]) 71),.s (.st 4 (.t 7) (.t 9))]) (.seq (.reg [.q 10 (.fa 0 (.t 7)),.l 11 (.ld1 (.t 10)),.v 12 1,.q 13 (.bin .neq true (.t 11) (.t 12)),.v 14 13,⟨some 15,(some (14,false)),.q (.fa 1 (.t 7))⟩,⟨some 16,(some (14,false)),.l (.ld1 (.t 15))⟩,⟨some 17,(some (14,false)),.q (.mv (.t 2))⟩,⟨some 18,(some (14,false)),.q (.bin .neq true (.t 16) (.t 17))⟩,.a 19 (.pick (.t 14) (.k (.bool true)) (.t 18))]) (.cond (.t 19) (.seq (.reg [.q 6 (.mv (.k (.bool false)))]) .ret) .skip))) (.seq (.reg [.v 20 0,.a 21 (.cl 100 [(.t 20)] [0])]) (.seq (.reg [.q 6 (.mv (.k (.bool true)))]) .ret)))
def YA:List RV:=[.mv (.t 6)]
theorem aLL:aM Tryz.prog true ⟨fun r k=>if r=1/\k=1 then .own [0] else if r=4/\k=1 then .own [0] else .own [],fun _=>false⟩ Tryz.f120=some (aAR,YA):=by kernel_rfl
def ZE:PC:=.seq (.reg [.e 1 (.bx 71 (.t 0)),.q 2 (.mv (.k (.string (mk [])))),.q 3 (.mv (.k (.bool false)))]) (.seq (.seq (.reg [.q 6 (.fa 0 (.t 1)),.l 7 (.ld1 (.t 6))]) (.block 0 (.seq (.reg [.q 9 (.bin .eql true (.t 7) (.i 1)),.v 8 9]) (.cond (.t 8) (.seq (.reg [.q 10 (.fa 1 (.t 1)),.l 11 (.ld1 (.t 10)),.q 12 (.fa 2 (.t 1)),.l 13 (.ld1 (.t 12)),.q 14 (.bin .eql true (.t 13) (.i 0)),.v 15 14,⟨some 16,(some (15,true)),.q (.fa 1 (.t 1))⟩,⟨some 17,(some (15,true)),.l (.ld1 (.t 16))⟩,⟨some 18,(some (15,true)),.cq 143 [(.t 17)]⟩,.a 19 (.pick (.t 15) (.t 18) (.k (.bool false))),.v 2 11,.v 3 19]) .ret) (.seq (.reg [.q 21 (.bin .eql true (.t 7) (.i 2)),.v 20 21]) (.cond (.t 20) (.seq (.reg [.q 22 (.fa 2 (.t 1)),.l 23 (.ld1 (.t 22)),.a 24 (.cq 144 [(.t 23)]),.q 25 (.fa 1 (.t 1)),.l 26 (.ld1 (.t 25)),.q 27 (.bin .eql true (.t 26) (.k (.string (mk [])))),.v 2 24,.v 3 27]) .ret) (.seq (.reg [.q 29 (.bin .eql true (.t 7) (.i 3)),.v 28 29]) (.cond (.t 28) (.seq (.reg [.q 30 (.fa 2 (.t 1)),.l 31 (.ld1 (.t 30)),.q 32 (.bin .eql true (.t 31) (.i 0)),.v 33 32,⟨some 34,(some (33,true)),.q (.fa 1 (.t 1))⟩,⟨some 35,(some (33,true)),.l (.ld1 (.t 34))⟩,⟨some 36,(some (33,true)),.q (.lnS (.t 35))⟩,⟨some 37,(some (33,true)),.q (.bin .leq true (.t 36) (.i 200))⟩,.a 38 (.pick (.t 33) (.t 37) (.k (.bool false))),.v 4 38]) (.seq (.seq (.reg [.q 39 (.fa 1 (.t 1)),.l 40 (.ld1 (.t 39)),.q 41 (.lnS (.t 40)),.q 42 (.mv (.i 0))]) (.block 1 (.loop (.seq (.reg [.q 43 (.bin .lss true (.t 42) (.t 41))]) (.seq (.cond (.t 43) .skip (.exit 1)) (.seq (.block 2 (.seq (.reg [.v 44 42,.v 5 44]) (.reg [.v 45 4,.v 46 45,⟨some 47,(some (46,true)),.q (.fa 1 (.t 1))⟩,⟨some 48,(some (46,true)),.l (.ld1 (.t 47))⟩,⟨some 49,(some (46,true)),.q (.mv (.t 5))⟩,⟨some 50,(some (46,true)),.ix (.t 48) (.t 49)⟩,⟨some 51,(some (46,true)),.q (.bin .geq true (.t 50) (.k (.int .u8 32)))⟩,.a 52 (.pick (.t 46) (.t 51) (.k (.bool false))),.v 53 52,⟨some 54,(some (53,true)),.q (.fa 1 (.t 1))⟩,⟨some 55,(some (53,true)),.l (.ld1 (.t 54))⟩,⟨some 56,(some (53,true)),.q (.mv (.t 5))⟩,⟨some 57,(some (53,true)),.ix (.t 55) (.t 56)⟩,⟨some 58,(some (53,true)),.q (.bin .leq true (.t 57) (.k (.int .u8 126)))⟩,.a 59 (.pick (.t 53) (.t 58) (.k (.bool false))),.v 4 59]))) (.reg [.q 60 (.bin .add true (.t 42) (.i 1)),.v 42 60]))))))) (.seq (.reg [.q 61 (.fa 1 (.t 1)),.l 62 (.ld1 (.t 61)),.a 63 (.cq 145 [(.t 62)]),.v 64 4,.v 2 63,.v 3 64]) .ret))) (.seq (.reg [.q 66 (.bin .eql true (.t 7) (.i 4)),.v 65 66]) (.cond (.t 65) (.seq (.reg [.q 67 (.fa 1 (.t 1)),.l 68 (.ld1 (.t 67)),.q 69 (.fa 2 (.t 1)),.l 70 (.ld1 (.t 69)),.q 71 (.bin .eql true (.t 70) (.i 0)),.v 72 71,⟨some 73,(some (72,true)),.q (.fa 1 (.t 1))⟩,⟨some 74,(some (72,true)),.l (.ld1 (.t 73))⟩,⟨some 75,(some (72,true)),.q (.lnS (.t 74))⟩,⟨some 76,(some (72,true)),.q (.bin .eql true (.t 75) (.i 1))⟩,.a 77 (.pick (.t 72) (.t 76) (.k (.bool false))),.v 78 77,⟨some 79,(some (78,true)),.q (.fa 1 (.t 1))⟩,⟨some 80,(some (78,true)),.l (.ld1 (.t 79))⟩,⟨some 81,(some (78,true)),.ix (.t 80) (.i 0)⟩,⟨some 82,(some (78,true)),.cq 146 [(.t 81)]⟩,⟨some 83,(some (78,true)),.q (.bin .eql true (.t 82) (.i 8))⟩,.a 84 (.pick (.t 78) (.t 83) (.k (.bool false))),.v 2 68,.v 3 84]) .ret) .skip)))))))))) (.seq (.reg [.q 2 (.mv (.k (.string (mk [])))),.q 3 (.mv (.k (.bool false)))]) .ret))
def XX:List RV:=[.mv (.t 2),.mv (.t 3)]
theorem aJ4:aM Tryz.prog true ⟨fun r k=>if r=3/\k=8 then .q else if r=5/\k=2 then .q else if r=13/\k=2 then .q else if r=15/\k=15 then .q else .own [],fun _=>false⟩ Tryz.f121=some (ZE,XX):=by kernel_rfl
def YN:PC:=.seq (.reg [.q 2 (.mv (.i 0))]) (.seq (.reg [.v 3 0,.q 4 (.nc (.t 3)),.q 5 (.fa 1 (.t 4)),.l 6 (.ld1 (.t 5)),.q 7 (.lnL (.t 6)),.v 2 7]) .ret)
def W3:List RV:=[.mv (.t 2)]
theorem aLW:aM Tryz.prog true ⟨fun _ _=>.own [],fun _=>false⟩ Tryz.f122=some (YN,W3):=by kernel_rfl
def aAA:PC:=.seq (.reg [.q 4 (.mv (.k .nilIface))]) (.seq (.reg [.v 5 0,.a 6 (.cl 147 [(.t 5)] [0,1])]) (.seq (.reg [.v 7 0,.v 8 0,.q 9 (.nc (.t 8)),.q 10 (.fa 1 (.t 9)),.l 11 (.ld1 (.t 10)),.v 12 1,.e 13 (.bsl 5 1 [(.t 12)]),.e 14 (.ap 5 1 1 (.t 11) (.t 13)),.q 15 (.nc (.t 7)),.q 16 (.fa 1 (.t 15)),.s (.st 1 (.t 16) (.t 14))]) (.seq (.reg [.q 4 (.mv (.k .nilIface))]) .ret)))
def aAL:List RV:=[.mv (.t 4)]
theorem aJR:aM Tryz.prog true ⟨fun r k=>if r=1/\k=1 then .own [0,1] else .own [],fun _=>false⟩ Tryz.f123=some (aAA,aAL):=by kernel_rfl
def pc124:PC:=.seq (.reg [.q 4 (.mv (.i 0)),.q 5 (.mv (.k .nilIface))]) (.seq (.reg [.v 6 0,.a 7 (.cl 147 [(.t 6)] [0,1])]) (.seq (.reg [.v 8 0,.v 9 0,.q 10 (.nc (.t 9)),.q 11 (.fa 1 (.t 10)),.l 12 (.ld1 (.t 11)),.v 13 1,.e 14 (.aps 5 (.t 12) (.t 13)),.q 15 (.nc (.t 8)),.q 16 (.fa 1 (.t 15)),.s (.st 1 (.t 16) (.t 14))]) (.seq (.reg [.v 17 1,.q 18 (.lnS (.t 17)),.v 4 18,.q 5 (.mv (.k .nilIface))]) .ret)))
def rs124:List RV:=[.mv (.t 4),.mv (.t 5)]
theorem ok124:aM Tryz.prog true ⟨fun r k=>if r=1/\k=1 then .own [0,1] else .own [],fun _=>false⟩ Tryz.f124=some (pc124,rs124):=by kernel_rfl
def ZI:PC:=.seq (.reg [.q 2 (.mv (.k (.string (mk []))))]) (.seq (.reg [.v 3 0,.q 4 (.nc (.t 3)),.q 5 (.fa 1 (.t 4)),.l 6 (.ld1 (.t 5)),.q 7 (.usd (.t 6)),.v 8 0,.q 9 (.nc (.t 8)),.q 10 (.fa 1 (.t 9)),.l 11 (.ld1 (.t 10)),.q 12 (.lnL (.t 11)),.e 13 (.us 5 (.t 7) (.t 12)),.v 2 13]) .ret)
def ZR:List RV:=[.mv (.t 2)]
theorem aKI:aM Tryz.prog true ⟨fun _ _=>.own [],fun _=>false⟩ Tryz.f125=some (ZI,ZR):=by kernel_rfl
def XN:PC:=.block 0 (.loop (.seq (.seq (.reg [.v 3 0,.q 4 (.nc (.t 3)),.q 5 (.fa 1 (.t 4)),.l 6 (.ld1 (.t 5)),.v 7 0,.q 8 (.nc (.t 7)),.q 9 (.fa 0 (.t 8)),.l 10 (.ld1 (.t 9)),.q 11 (.lnS (.t 10)),.q 12 (.bin .lss true (.t 6) (.t 11))]) (.cond (.t 12) .skip (.exit 0))) (.block 1 (.seq (.reg [.v 13 0,.a 14 (.cl 135 [(.t 13)] [0])]) (.block 2 (.seq (.reg [.q 16 (.bin .eql true (.t 14) (.i 1)),.v 15 16]) (.cond (.t 15) (.reg [.v 17 0,.q 18 (.nc (.t 17)),.q 19 (.fa 1 (.t 18)),.l 20 (.ld1 (.t 19)),.q 21 (.bin .add true (.t 20) (.i 1)),.q 22 (.nc (.t 17)),.q 23 (.fa 1 (.t 22)),.s (.st 1 (.t 23) (.t 21))]) (.seq (.reg [.q 25 (.bin .eql true (.t 14) (.i 2)),.v 24 25]) (.cond (.t 24) (.seq (.reg [.v 26 0,.q 27 (.nc (.t 26)),.q 28 (.fa 0 (.t 27)),.l 29 (.ld1 (.t 28)),.v 30 0,.q 31 (.nc (.t 30)),.q 32 (.fa 1 (.t 31)),.l 33 (.ld1 (.t 32)),.q 34 (.ss (.t 29) (some (.t 33)) none),.a 35 (.cq 155 [(.t 34),(.k (.int .u8 10))]),.v 2 35]) (.seq (.reg [.v 36 2,.q 37 (.bin .geq true (.t 36) (.i 0))]) (.cond (.t 37) (.reg [.v 38 0,.q 39 (.nc (.t 38)),.q 40 (.fa 1 (.t 39)),.l 41 (.ld1 (.t 40)),.v 42 2,.q 43 (.bin .add true (.t 41) (.t 42)),.q 44 (.nc (.t 38)),.q 45 (.fa 1 (.t 44)),.s (.st 1 (.t 45) (.t 43))]) (.reg [.v 46 0,.v 47 0,.q 48 (.nc (.t 47)),.q 49 (.fa 0 (.t 48)),.l 50 (.ld1 (.t 49)),.q 51 (.lnS (.t 50)),.q 52 (.nc (.t 46)),.q 53 (.fa 1 (.t 52)),.s (.st 1 (.t 53) (.t 51))])))) .ret)))))))))
def Z9:List RV:=[]
theorem aKK:aM Tryz.prog true ⟨fun r k=>if r=1/\k=1 then .own [0] else if r=5/\k=9 then .q else .own [],fun _=>false⟩ Tryz.f134=some (XN,Z9):=by kernel_rfl
def Z4:PC:=.seq (.reg [.q 2 (.mv (.i 0))]) (.seq (.seq (.reg [.v 3 0,.q 4 (.nc (.t 3)),.q 5 (.fa 1 (.t 4)),.l 6 (.ld1 (.t 5)),.v 7 0,.q 8 (.nc (.t 7)),.q 9 (.fa 0 (.t 8)),.l 10 (.ld1 (.t 9)),.q 11 (.lnS (.t 10)),.q 12 (.bin .geq true (.t 6) (.t 11))]) (.cond (.t 12) (.seq (.reg [.q 2 (.mv (.i (-1)))]) .ret) .skip)) (.seq (.reg [.v 13 0,.q 14 (.nc (.t 13)),.q 15 (.fa 0 (.t 14)),.l 16 (.ld1 (.t 15)),.v 17 0,.q 18 (.nc (.t 17)),.q 19 (.fa 1 (.t 18)),.l 20 (.ld1 (.t 19)),.a 21 (.ix (.t 16) (.t 20)),.a 22 (.cq 146 [(.t 21)]),.v 2 22]) .ret))
def XJ:List RV:=[.mv (.t 2)]
theorem aLA:aM Tryz.prog true ⟨fun r k=>if r=3/\k=9 then .q else .own [],fun _=>false⟩ Tryz.f135=some (Z4,XJ):=by kernel_rfl
def XP:PC:=.seq (.reg [.e 2 (.al (.agg #[(.int .i64 0),(.string (mk [])),(.int .i64 0),(.int .i64 0)]) 71)]) (.seq (.reg [.v 5 0,.q 6 (.nc (.t 5)),.q 7 (.fa 1 (.t 6)),.l 8 (.ld1 (.t 7)),.v 3 8]) (.seq (.seq (.reg [.v 9 0,.a 10 (.cl 135 [(.t 9)] [0]),.v 4 10]) (.block 0 (.loop (.seq (.seq (.reg [.v 11 4,.q 12 (.bin .eql true (.t 11) (.i 3)),.v 13 12,⟨some 14,(some (13,false)),.q (.mv (.t 4))⟩,⟨some 15,(some (13,false)),.q (.bin .eql true (.t 14) (.i 4))⟩,.a 16 (.pick (.t 13) (.k (.bool true)) (.t 15)),.v 17 16,⟨some 18,(some (17,false)),.q (.mv (.t 4))⟩,⟨some 19,(some (17,false)),.q (.bin .eql true (.t 18) (.i 6))⟩,.a 20 (.pick (.t 17) (.k (.bool true)) (.t 19))]) (.cond (.t 20) .skip (.exit 0))) (.seq (.block 1 (.reg [.v 23 0,.q 24 (.nc (.t 23)),.q 25 (.fa 1 (.t 24)),.l 26 (.ld1 (.t 25)),.q 27 (.bin .add true (.t 26) (.i 1)),.q 28 (.nc (.t 23)),.q 29 (.fa 1 (.t 28)),.s (.st 1 (.t 29) (.t 27))])) (.reg [.v 21 0,.a 22 (.cl 135 [(.t 21)] [0]),.v 4 22])))))) (.seq (.seq (.reg [.v 30 0,.q 31 (.nc (.t 30)),.q 32 (.fa 1 (.t 31)),.l 33 (.ld1 (.t 32)),.v 34 3,.q 35 (.bin .sub true (.t 33) (.t 34)),.q 36 (.bin .gtr true (.t 35) (.i 16))]) (.cond (.t 36) (.reg [.v 37 0,.v 38 3,.a 39 (.cl 139 [(.t 37),(.i 3),(.t 38)] [0])]) .skip)) (.seq (.seq (.reg [.v 40 0,.a 41 (.cl 135 [(.t 40)] [0]),.q 42 (.bin .eql true (.t 41) (.i 5))]) (.cond (.t 42) (.reg [.v 43 0,.v 44 0,.q 45 (.nc (.t 44)),.q 46 (.fa 1 (.t 45)),.l 47 (.ld1 (.t 46)),.a 48 (.cl 139 [(.t 43),(.i 2),(.t 47)] [0])]) .skip)) (.seq (.reg [.v 49 0,.q 50 (.nc (.t 49)),.q 51 (.fa 0 (.t 50)),.l 52 (.ld1 (.t 51)),.v 53 3,.v 54 0,.q 55 (.nc (.t 54)),.q 56 (.fa 1 (.t 55)),.l 57 (.ld1 (.t 56)),.q 58 (.ss (.t 52) (some (.t 53)) (some (.t 57))),.v 59 3,.q 60 (.bd [(.int .i64 0),(.string (mk [])),(.int .i64 0),(.int .i64 0)] [(0,1,(.i 1)),(1,1,(.t 58)),(3,1,(.t 59))]),.s (.st 4 (.t 2) (.t 60))]) .ret)))))
def aAP:List RV:=[.ld (.ldn 4 (.t 2))]
theorem aLI:aM Tryz.prog true ⟨fun r k=>if r=2/\k=1 then .own [0] else if r=4/\k=1 then .own [0] else if r=7/\k=2 then .own [0] else if r=8/\k=1 then .own [0] else if r=9/\k=5 then .own [0] else .own [],fun _=>false⟩ Tryz.f136=some (XP,aAP):=by kernel_rfl
def pc137_15:PC:=.seq (.seq (.gh (.reg [.v 79 0,.a 80 (.cl 135 [(.t 79)] [0]),.v 9 80])) (.seq (.reg [.v 81 9,.q 82 (.bin .eql true (.t 81) (.i 3)),.v 83 82,⟨some 84,(some (83,false)),.q (.mv (.t 9))⟩,⟨some 85,(some (83,false)),.q (.bin .eql true (.t 84) (.i 6))⟩,.a 86 (.pick (.t 83) (.k (.bool true)) (.t 85)),.v 87 86,⟨some 88,(some (87,false)),.q (.mv (.t 9))⟩,⟨some 89,(some (87,false)),.q (.bin .eql true (.t 88) (.i 5))⟩,.a 90 (.pick (.t 87) (.k (.bool true)) (.t 89))]) (.cond (.t 90) (.reg [.v 91 0,.v 92 0,.q 93 (.nc (.t 92)),.q 94 (.fa 1 (.t 93)),.l 95 (.ld1 (.t 94)),.a 96 (.cl 139 [(.t 91),(.i 2),(.t 95)] [0])]) .skip))) (.seq (.reg [.v 97 7,.v 98 3,.q 99 (.bd [(.int .i64 0),(.string (mk [])),(.int .i64 0),(.int .i64 0)] [(0,1,(.i 2)),(2,1,(.t 97)),(3,1,(.t 98))]),.s (.st 4 (.t 2) (.t 99))]) .ret)
@[go_sem ↓] theorem aKZ:a8 pc137_15:=bB _
def pc137_5:PC:=.seq (.gh (.reg [.v 25 0,.q 26 (.nc (.t 25)),.q 27 (.fa 1 (.t 26)),.l 28 (.ld1 (.t 27)),.v 5 28])) (.seq (.block 0 (.loop (.seq (.seq (.reg [.v 29 0,.a 30 (.cl 135 [(.t 29)] [0]),.q 31 (.bin .eql true (.t 30) (.i 4))]) (.cond (.t 31) .skip (.exit 0))) (.block 1 (.reg [.v 32 0,.q 33 (.nc (.t 32)),.q 34 (.fa 1 (.t 33)),.l 35 (.ld1 (.t 34)),.q 36 (.bin .add true (.t 35) (.i 1)),.q 37 (.nc (.t 32)),.q 38 (.fa 1 (.t 37)),.s (.st 1 (.t 38) (.t 36))]))))) (.seq (.reg [.v 39 0,.q 40 (.nc (.t 39)),.q 41 (.fa 0 (.t 40)),.l 42 (.ld1 (.t 41)),.v 43 5,.v 44 0,.q 45 (.nc (.t 44)),.q 46 (.fa 1 (.t 45)),.l 47 (.ld1 (.t 46)),.q 48 (.ss (.t 42) (some (.t 43)) (some (.t 47))),.v 6 48]) (.seq (.seq (.reg [.v 49 6,.q 50 (.bin .eql true (.t 49) (.k (.string (mk [])))),.v 51 50,⟨some 52,(some (51,false)),.q (.mv (.t 6))⟩,⟨some 53,(some (51,false)),.ix (.t 52) (.i 0)⟩,⟨some 54,(some (51,false)),.q (.bin .eql true (.t 53) (.k (.int .u8 48)))⟩,⟨some 55,(some (51,false)),.q (.mv (.t 54))⟩,⟨some 56,(some (55,true)),.q (.mv (.t 6))⟩,⟨some 57,(some (55,true)),.q (.lnS (.t 56))⟩,⟨some 58,(some (55,true)),.q (.bin .gtr true (.t 57) (.i 1))⟩,⟨some 59,(some (55,true)),.q (.mv (.t 58))⟩,⟨some 60,(some (59,false)),.q (.mv (.t 4))⟩,⟨some 61,(some (55,true)),.pick (.t 59) (.k (.bool true)) (.t 60)⟩,⟨some 62,(some (51,false)),.pick (.t 55) (.t 61) (.k (.bool false))⟩,.a 63 (.pick (.t 51) (.k (.bool true)) (.t 62))]) (.cond (.t 63) (.seq (.reg [.v 64 0,.v 65 3,.a 66 (.cl 139 [(.t 64),(.i 2),(.t 65)] [0])]) (.seq (.reg [.q 67 (.bd [(.int .i64 0),(.string (mk [])),(.int .i64 0),(.int .i64 0)] []),.s (.st 4 (.t 2) (.t 67))]) .ret)) .skip)) (.seq (.reg [.v 69 4,.v 70 6,.a 71 (.cl 156 [(.t 69),(.t 70)] []),.v 68 71,.q 72 (.ex (.t 68) 0),.q 73 (.ex (.t 68) 1),.v 7 72,.v 8 73]) (.seq (.seq (.reg [.v 74 8,.q 75 (.not (.t 74))]) (.cond (.t 75) (.reg [.v 76 0,.v 77 3,.a 78 (.cl 139 [(.t 76),(.i 4),(.t 77)] [0])]) .skip)) (pc137_15))))))
@[go_sem ↓] theorem aMZ:a8 pc137_5:=bB _
def XA:PC:=.seq (.reg [.e 2 (.al (.agg #[(.int .i64 0),(.string (mk [])),(.int .i64 0),(.int .i64 0)]) 71)]) (.seq (.reg [.v 10 0,.q 11 (.nc (.t 10)),.q 12 (.fa 1 (.t 11)),.l 13 (.ld1 (.t 12)),.v 3 13]) (.seq (.reg [.v 14 0,.a 15 (.cl 135 [(.t 14)] [0]),.q 16 (.bin .eql true (.t 15) (.i 5)),.v 4 16]) (.seq (.seq (.reg [.v 17 4]) (.cond (.t 17) (.reg [.v 18 0,.q 19 (.nc (.t 18)),.q 20 (.fa 1 (.t 19)),.l 21 (.ld1 (.t 20)),.q 22 (.bin .add true (.t 21) (.i 1)),.q 23 (.nc (.t 18)),.q 24 (.fa 1 (.t 23)),.s (.st 1 (.t 24) (.t 22))]) .skip)) (pc137_5))))
def vK:List RV:=[.ld (.ldn 4 (.t 2))]
theorem aK3:aM Tryz.prog true ⟨fun r k=>if r=2/\k=1 then .own [0] else if r=6/\k=1 then .own [0] else if r=10/\k=2 then .own [0] else if r=14/\k=2 then .own [0] else if r=15/\k=1 then .own [0] else if r=17/\k=5 then .own [0] else .own [],fun r=>[5,15].contains r⟩ Tryz.f137=some (XA,vK):=by kernel_rfl
def X4:PC:=.seq (.reg [.e 2 (.al (.agg #[(.int .i64 0),(.string (mk [])),(.int .i64 0),(.int .i64 0)]) 71)]) (.seq (.reg [.v 6 0,.q 7 (.nc (.t 6)),.q 8 (.fa 1 (.t 7)),.l 9 (.ld1 (.t 8)),.v 3 9]) (.seq (.reg [.e 4 (.al (.agg #[(.pointer none),(.slice none 0 0)]) 146)]) (.seq (.seq (.reg [.v 10 0,.q 11 (.nc (.t 10)),.q 12 (.fa 1 (.t 11)),.l 13 (.ld1 (.t 12)),.q 14 (.bin .add true (.t 13) (.i 1)),.q 15 (.nc (.t 10)),.q 16 (.fa 1 (.t 15)),.s (.st 1 (.t 16) (.t 14))]) (.block 0 (.loop (.seq (.block 1 (.seq (.seq (.reg [.v 24 0,.q 25 (.nc (.t 24)),.q 26 (.fa 1 (.t 25)),.l 27 (.ld1 (.t 26)),.v 28 0,.q 29 (.nc (.t 28)),.q 30 (.fa 0 (.t 29)),.l 31 (.ld1 (.t 30)),.q 32 (.lnS (.t 31)),.q 33 (.bin .geq true (.t 27) (.t 32)),.v 34 33,⟨some 35,(some (34,false)),.q (.mv (.t 0))⟩,⟨some 36,(some (34,false)),.q (.nc (.t 35))⟩,⟨some 37,(some (34,false)),.q (.fa 0 (.t 36))⟩,⟨some 38,(some (34,false)),.l (.ld1 (.t 37))⟩,⟨some 39,(some (34,false)),.q (.mv (.t 0))⟩,⟨some 40,(some (34,false)),.q (.nc (.t 39))⟩,⟨some 41,(some (34,false)),.q (.fa 1 (.t 40))⟩,⟨some 42,(some (34,false)),.l (.ld1 (.t 41))⟩,⟨some 43,(some (34,false)),.ix (.t 38) (.t 42)⟩,⟨some 44,(some (34,false)),.q (.bin .lss true (.t 43) (.k (.int .u8 32)))⟩,.a 45 (.pick (.t 34) (.k (.bool true)) (.t 44)),.v 46 45,⟨some 47,(some (46,false)),.q (.mv (.t 0))⟩,⟨some 48,(some (46,false)),.q (.nc (.t 47))⟩,⟨some 49,(some (46,false)),.q (.fa 0 (.t 48))⟩,⟨some 50,(some (46,false)),.l (.ld1 (.t 49))⟩,⟨some 51,(some (46,false)),.q (.mv (.t 0))⟩,⟨some 52,(some (46,false)),.q (.nc (.t 51))⟩,⟨some 53,(some (46,false)),.q (.fa 1 (.t 52))⟩,⟨some 54,(some (46,false)),.l (.ld1 (.t 53))⟩,⟨some 55,(some (46,false)),.ix (.t 50) (.t 54)⟩,⟨some 56,(some (46,false)),.q (.bin .gtr true (.t 55) (.k (.int .u8 126)))⟩,.a 57 (.pick (.t 46) (.k (.bool true)) (.t 56))]) (.cond (.t 57) (.seq (.reg [.v 58 0,.v 59 0,.q 60 (.nc (.t 59)),.q 61 (.fa 1 (.t 60)),.l 62 (.ld1 (.t 61)),.a 63 (.cl 139 [(.t 58),(.i 2),(.t 62)] [0])]) (.seq (.reg [.q 64 (.bd [(.int .i64 0),(.string (mk [])),(.int .i64 0),(.int .i64 0)] []),.s (.st 4 (.t 2) (.t 64))]) .ret)) .skip)) (.seq (.reg [.v 65 0,.q 66 (.nc (.t 65)),.q 67 (.fa 0 (.t 66)),.l 68 (.ld1 (.t 67)),.v 69 0,.q 70 (.nc (.t 69)),.q 71 (.fa 1 (.t 70)),.l 72 (.ld1 (.t 71)),.a 73 (.ix (.t 68) (.t 72)),.v 5 73]) (.seq (.seq (.reg [.v 74 5,.q 75 (.bin .eql true (.t 74) (.k (.int .u8 34)))]) (.cond (.t 75) (.seq (.reg [.v 76 0,.q 77 (.nc (.t 76)),.q 78 (.fa 1 (.t 77)),.l 79 (.ld1 (.t 78)),.q 80 (.bin .add true (.t 79) (.i 1)),.q 81 (.nc (.t 76)),.q 82 (.fa 1 (.t 81)),.s (.st 1 (.t 82) (.t 80))]) (.exit 0)) .skip)) (.seq (.seq (.reg [.v 83 5,.q 84 (.bin .eql true (.t 83) (.k (.int .u8 92)))]) (.cond (.t 84) (.seq (.seq (.reg [.v 85 0,.q 86 (.nc (.t 85)),.q 87 (.fa 1 (.t 86)),.l 88 (.ld1 (.t 87)),.q 89 (.bin .add true (.t 88) (.i 1)),.v 90 0,.q 91 (.nc (.t 90)),.q 92 (.fa 0 (.t 91)),.l 93 (.ld1 (.t 92)),.q 94 (.lnS (.t 93)),.q 95 (.bin .geq true (.t 89) (.t 94)),.v 96 95,⟨some 97,(some (96,false)),.q (.mv (.t 0))⟩,⟨some 98,(some (96,false)),.q (.nc (.t 97))⟩,⟨some 99,(some (96,false)),.q (.fa 0 (.t 98))⟩,⟨some 100,(some (96,false)),.l (.ld1 (.t 99))⟩,⟨some 101,(some (96,false)),.q (.mv (.t 0))⟩,⟨some 102,(some (96,false)),.q (.nc (.t 101))⟩,⟨some 103,(some (96,false)),.q (.fa 1 (.t 102))⟩,⟨some 104,(some (96,false)),.l (.ld1 (.t 103))⟩,⟨some 105,(some (96,false)),.q (.bin .add true (.t 104) (.i 1))⟩,⟨some 106,(some (96,false)),.ix (.t 100) (.t 105)⟩,⟨some 107,(some (96,false)),.q (.bin .neq true (.t 106) (.k (.int .u8 34)))⟩,⟨some 108,(some (96,false)),.q (.mv (.t 107))⟩,⟨some 109,(some (108,true)),.q (.mv (.t 0))⟩,⟨some 110,(some (108,true)),.q (.nc (.t 109))⟩,⟨some 111,(some (108,true)),.q (.fa 0 (.t 110))⟩,⟨some 112,(some (108,true)),.l (.ld1 (.t 111))⟩,⟨some 113,(some (108,true)),.q (.mv (.t 0))⟩,⟨some 114,(some (108,true)),.q (.nc (.t 113))⟩,⟨some 115,(some (108,true)),.q (.fa 1 (.t 114))⟩,⟨some 116,(some (108,true)),.l (.ld1 (.t 115))⟩,⟨some 117,(some (108,true)),.q (.bin .add true (.t 116) (.i 1))⟩,⟨some 118,(some (108,true)),.ix (.t 112) (.t 117)⟩,⟨some 119,(some (108,true)),.q (.bin .neq true (.t 118) (.k (.int .u8 92)))⟩,⟨some 120,(some (96,false)),.pick (.t 108) (.t 119) (.k (.bool false))⟩,.a 121 (.pick (.t 96) (.k (.bool true)) (.t 120))]) (.cond (.t 121) (.seq (.reg [.v 122 0,.v 123 0,.q 124 (.nc (.t 123)),.q 125 (.fa 1 (.t 124)),.l 126 (.ld1 (.t 125)),.a 127 (.cl 139 [(.t 122),(.i 2),(.t 126)] [0])]) (.seq (.reg [.q 128 (.bd [(.int .i64 0),(.string (mk [])),(.int .i64 0),(.int .i64 0)] []),.s (.st 4 (.t 2) (.t 128))]) .ret)) .skip)) (.seq (.reg [.v 129 0,.q 130 (.nc (.t 129)),.q 131 (.fa 1 (.t 130)),.l 132 (.ld1 (.t 131)),.q 133 (.bin .add true (.t 132) (.i 1)),.q 134 (.nc (.t 129)),.q 135 (.fa 1 (.t 134)),.s (.st 1 (.t 135) (.t 133))]) (.reg [.v 136 0,.q 137 (.nc (.t 136)),.q 138 (.fa 0 (.t 137)),.l 139 (.ld1 (.t 138)),.v 140 0,.q 141 (.nc (.t 140)),.q 142 (.fa 1 (.t 141)),.l 143 (.ld1 (.t 142)),.a 144 (.ix (.t 139) (.t 143)),.v 5 144]))) .skip)) (.reg [.v 145 5,.a 146 (.cl 123 [(.t 4),(.t 145)] [2,3])])))))) (.reg [.v 17 0,.q 18 (.nc (.t 17)),.q 19 (.fa 1 (.t 18)),.l 20 (.ld1 (.t 19)),.q 21 (.bin .add true (.t 20) (.i 1)),.q 22 (.nc (.t 17)),.q 23 (.fa 1 (.t 22)),.s (.st 1 (.t 23) (.t 21))]))))) (.seq (.seq (.reg [.a 147 (.cl 122 [(.t 4)] [2,3]),.q 148 (.bin .gtr true (.t 147) (.i 200))]) (.cond (.t 148) (.reg [.v 149 0,.v 150 3,.a 151 (.cl 139 [(.t 149),(.i 3),(.t 150)] [0])]) .skip)) (.seq (.reg [.a 152 (.cl 125 [(.t 4)] [2,3]),.v 153 3,.q 154 (.bd [(.int .i64 0),(.string (mk [])),(.int .i64 0),(.int .i64 0)] [(0,1,(.i 3)),(1,1,(.t 152)),(3,1,(.t 153))]),.s (.st 4 (.t 2) (.t 154))]) .ret)))))
def XT:List RV:=[.ld (.ldn 4 (.t 2))]
theorem aK5:aM Tryz.prog true ⟨fun r k=>if r=6/\k=5 then .own [0] else if r=13/\k=5 then .own [0] else if r=17/\k=1 then .own [2,3] else if r=18/\k=0 then .own [2,3] else if r=19/\k=2 then .own [0] else if r=20/\k=0 then .own [2,3] else .own [],fun _=>false⟩ Tryz.f138=some (X4,XT):=by kernel_rfl
def aAF:PC:=.seq (.reg [.v 6 0,.q 7 (.nc (.t 6)),.q 8 (.fa 2 (.t 7)),.l 9 (.ld1 (.t 8)),.q 10 (.bin .eql true (.t 9) (.i 0))]) (.cond (.t 10) (.reg [.v 11 0,.v 12 0,.v 13 1,.v 14 2,.q 15 (.nc (.t 11)),.q 16 (.fa 2 (.t 15)),.s (.st 1 (.t 16) (.t 13)),.q 17 (.nc (.t 12)),.q 18 (.fa 3 (.t 17)),.s (.st 1 (.t 18) (.t 14))]) .skip)
def X2:List RV:=[]
theorem aKA:aM Tryz.prog true ⟨fun _ _=>.own [],fun _=>false⟩ Tryz.f139=some (aAF,X2):=by kernel_rfl
def XK:PC:=.seq (.reg [.q 2 (.mv (.k (.bool false)))]) (.seq (.seq (.reg [.v 5 0,.q 6 (.bin .eql true (.t 5) (.k (.string (mk [])))),.v 7 6,⟨some 8,(some (7,false)),.q (.mv (.t 0))⟩,⟨some 9,(some (7,false)),.q (.lnS (.t 8))⟩,⟨some 10,(some (7,false)),.q (.bin .gtr true (.t 9) (.i 16))⟩,.a 11 (.pick (.t 7) (.k (.bool true)) (.t 10)),.v 12 11,⟨some 13,(some (12,false)),.q (.mv (.t 0))⟩,⟨some 14,(some (12,false)),.ix (.t 13) (.i 0)⟩,⟨some 15,(some (12,false)),.cq 146 [(.t 14)]⟩,⟨some 16,(some (12,false)),.q (.bin .neq true (.t 15) (.i 3))⟩,.a 17 (.pick (.t 12) (.k (.bool true)) (.t 16))]) (.cond (.t 17) (.seq (.reg [.q 2 (.mv (.k (.bool false)))]) .ret) .skip)) (.seq (.seq (.reg [.v 18 0,.q 19 (.lnS (.t 18)),.q 20 (.mv (.i 0))]) (.block 0 (.loop (.seq (.reg [.q 21 (.bin .lss true (.t 20) (.t 19))]) (.seq (.cond (.t 21) .skip (.exit 0)) (.seq (.block 1 (.seq (.reg [.v 22 20,.v 3 22]) (.seq (.reg [.v 23 0,.v 24 3,.a 25 (.ix (.t 23) (.t 24)),.a 26 (.cq 146 [(.t 25)]),.v 4 26]) (.seq (.reg [.v 27 4,.q 28 (.bin .neq true (.t 27) (.i 3)),.v 29 28,⟨some 30,(some (29,true)),.q (.mv (.t 4))⟩,⟨some 31,(some (29,true)),.q (.bin .neq true (.t 30) (.i 4))⟩,.a 32 (.pick (.t 29) (.t 31) (.k (.bool false))),.v 33 32,⟨some 34,(some (33,true)),.q (.mv (.t 4))⟩,⟨some 35,(some (33,true)),.q (.bin .neq true (.t 34) (.i 6))⟩,.a 36 (.pick (.t 33) (.t 35) (.k (.bool false)))]) (.cond (.t 36) (.seq (.reg [.q 2 (.mv (.k (.bool false)))]) .ret) .skip))))) (.reg [.q 37 (.bin .add true (.t 20) (.i 1)),.v 20 37]))))))) (.seq (.reg [.q 2 (.mv (.k (.bool true)))]) .ret)))
def YB:List RV:=[.mv (.t 2)]
theorem aJU:aM Tryz.prog true ⟨fun r k=>if r=1/\k=10 then .q else if r=6/\k=3 then .q else .own [],fun _=>false⟩ Tryz.f143=some (XK,YB):=by kernel_rfl
def pc144_4:PC:=.seq (.gh (.reg [.q 4 (.mv (.k (.string (mk []))))])) (.seq (.seq (.reg [.q 5 (.mv (.k (.bool true)))]) (.block 0 (.loop (.seq (.seq (.reg [.v 12 5,.v 13 12,⟨some 14,(some (13,false)),.q (.mv (.t 3))⟩,⟨some 15,(some (13,false)),.q (.bin .gtr true (.t 14) (.k (.int .u64 0)))⟩,.a 16 (.pick (.t 13) (.k (.bool true)) (.t 15))]) (.cond (.t 16) .skip (.exit 0))) (.seq (.block 1 (.seq (.reg [.v 17 3,.q 18 (.bin .rem true (.t 17) (.k (.int .u64 10))),.q 19 (.bin .add true (.k (.int .u64 48)) (.t 18)),.q 20 (.cvt .u8 (.t 19)),.e 21 (.bsl 5 1 [(.t 20)]),.q 22 (.b2s (.t 21)),.v 23 4,.q 24 (.bin .add true (.t 22) (.t 23)),.v 4 24]) (.reg [.v 25 3,.q 26 (.bin .quo true (.t 25) (.k (.int .u64 10))),.v 3 26]))) (.reg [.q 5 (.mv (.k (.bool false)))])))))) (.seq (.seq (.reg [.v 27 0,.q 28 (.bin .lss true (.t 27) (.i 0))]) (.cond (.t 28) (.seq (.reg [.v 29 4,.q 30 (.bin .add true (.k (.string (mk [45]))) (.t 29)),.v 2 30]) .ret) .skip)) (.seq (.reg [.v 31 4,.v 2 31]) .ret)))
@[go_sem ↓] theorem S2:a8 pc144_4:=bB _
def pc144:PC:=.seq (.reg [.q 2 (.mv (.k (.string (mk []))))]) (.seq (.reg [.v 6 0,.q 7 (.cvt .u64 (.t 6)),.v 3 7]) (.seq (.seq (.reg [.v 8 0,.q 9 (.bin .lss true (.t 8) (.i 0))]) (.cond (.t 9) (.reg [.v 10 3,.q 11 (.neg false (.t 10)),.v 3 11]) .skip)) (pc144_4)))
def rs144:List RV:=[.mv (.t 2)]
theorem ok144:aM Tryz.prog true ⟨fun _ _=>.own [],fun r=>[4].contains r⟩ Tryz.f144=some (pc144,rs144):=by kernel_rfl
def X5:PC:=.seq (.reg [.q 2 (.mv (.k (.string (mk []))))]) (.seq (.reg [.e 5 (.bsl 5 1 [(.k (.int .u8 34))]),.v 3 5]) (.seq (.seq (.reg [.v 6 0,.q 7 (.lnS (.t 6)),.q 8 (.mv (.i 0))]) (.block 0 (.loop (.seq (.reg [.q 9 (.bin .lss true (.t 8) (.t 7))]) (.seq (.cond (.t 9) .skip (.exit 0)) (.seq (.block 1 (.seq (.reg [.v 10 8,.v 4 10]) (.seq (.seq (.reg [.v 11 0,.v 12 4,.a 13 (.ix (.t 11) (.t 12)),.q 14 (.bin .eql true (.t 13) (.k (.int .u8 34))),.v 15 14,⟨some 16,(some (15,false)),.q (.mv (.t 0))⟩,⟨some 17,(some (15,false)),.q (.mv (.t 4))⟩,⟨some 18,(some (15,false)),.ix (.t 16) (.t 17)⟩,⟨some 19,(some (15,false)),.q (.bin .eql true (.t 18) (.k (.int .u8 92)))⟩,.a 20 (.pick (.t 15) (.k (.bool true)) (.t 19))]) (.cond (.t 20) (.reg [.v 21 3,.e 22 (.bsl 5 1 [(.k (.int .u8 92))]),.e 23 (.ap 5 1 1 (.t 21) (.t 22)),.v 3 23]) .skip)) (.reg [.v 24 3,.v 25 0,.v 26 4,.a 27 (.ix (.t 25) (.t 26)),.e 28 (.bsl 5 1 [(.t 27)]),.e 29 (.ap 5 1 1 (.t 24) (.t 28)),.v 3 29])))) (.reg [.q 30 (.bin .add true (.t 8) (.i 1)),.v 8 30]))))))) (.seq (.reg [.v 31 3,.e 32 (.bsl 5 1 [(.k (.int .u8 34))]),.e 33 (.ap 5 1 1 (.t 31) (.t 32)),.q 34 (.b2s (.t 33)),.v 2 34]) .ret)))
def YI:List RV:=[.mv (.t 2)]
theorem aLF:aM Tryz.prog true ⟨fun _ _=>.own [],fun _=>false⟩ Tryz.f145=some (X5,YI):=by kernel_rfl
def aAE:PC:=.seq (.reg [.q 2 (.mv (.i 0))]) (.seq (.seq (.reg [.v 4 0,.q 5 (.cvt .i32 (.t 4)),.v 3 5]) (.block 0 (.seq (.reg [.v 7 3,.q 8 (.bin .eql true (.t 7) (.k (.int .i32 32))),.v 9 8,⟨some 10,(some (9,false)),.q (.mv (.t 3))⟩,⟨some 11,(some (9,false)),.q (.bin .eql true (.t 10) (.k (.int .i32 9)))⟩,.a 12 (.pick (.t 9) (.k (.bool true)) (.t 11)),.v 13 12,⟨some 14,(some (13,false)),.q (.mv (.t 3))⟩,⟨some 15,(some (13,false)),.q (.bin .eql true (.t 14) (.k (.int .i32 10)))⟩,.a 16 (.pick (.t 13) (.k (.bool true)) (.t 15)),.v 6 16]) (.cond (.t 6) (.seq (.reg [.q 2 (.mv (.i 1))]) .ret) (.seq (.reg [.v 18 3,.q 19 (.bin .eql true (.t 18) (.k (.int .i32 35))),.v 17 19]) (.cond (.t 17) (.seq (.reg [.q 2 (.mv (.i 2))]) .ret) (.seq (.reg [.v 21 3,.q 22 (.bin .geq true (.t 21) (.k (.int .i32 97))),.v 23 22,⟨some 24,(some (23,true)),.q (.mv (.t 3))⟩,⟨some 25,(some (23,true)),.q (.bin .leq true (.t 24) (.k (.int .i32 122)))⟩,.a 26 (.pick (.t 23) (.t 25) (.k (.bool false))),.v 27 26,⟨some 28,(some (27,false)),.q (.mv (.t 3))⟩,⟨some 29,(some (27,false)),.q (.bin .geq true (.t 28) (.k (.int .i32 65)))⟩,⟨some 30,(some (27,false)),.q (.mv (.t 29))⟩,⟨some 31,(some (30,true)),.q (.mv (.t 3))⟩,⟨some 32,(some (30,true)),.q (.bin .leq true (.t 31) (.k (.int .i32 90)))⟩,⟨some 33,(some (27,false)),.pick (.t 30) (.t 32) (.k (.bool false))⟩,.a 34 (.pick (.t 27) (.k (.bool true)) (.t 33)),.v 20 34]) (.cond (.t 20) (.seq (.reg [.q 2 (.mv (.i 3))]) .ret) (.seq (.reg [.v 36 3,.q 37 (.bin .geq true (.t 36) (.k (.int .i32 48))),.v 38 37,⟨some 39,(some (38,true)),.q (.mv (.t 3))⟩,⟨some 40,(some (38,true)),.q (.bin .leq true (.t 39) (.k (.int .i32 57)))⟩,.a 41 (.pick (.t 38) (.t 40) (.k (.bool false))),.v 35 41]) (.cond (.t 35) (.seq (.reg [.q 2 (.mv (.i 4))]) .ret) (.seq (.reg [.v 43 3,.q 44 (.bin .eql true (.t 43) (.k (.int .i32 45))),.v 42 44]) (.cond (.t 42) (.seq (.reg [.q 2 (.mv (.i 5))]) .ret) (.seq (.reg [.v 46 3,.q 47 (.bin .eql true (.t 46) (.k (.int .i32 95))),.v 45 47]) (.cond (.t 45) (.seq (.reg [.q 2 (.mv (.i 6))]) .ret) (.seq (.reg [.v 49 3,.q 50 (.bin .eql true (.t 49) (.k (.int .i32 34))),.v 48 50]) (.cond (.t 48) (.seq (.reg [.q 2 (.mv (.i 7))]) .ret) (.seq (.reg [.v 52 0,.a 53 (.cq 155 [(.k (.string (mk [123,125,40,41,91,93,58,59,44,61,46,63,33,38,124,64]))),(.t 52)]),.q 54 (.bin .geq true (.t 53) (.i 0)),.v 51 54]) (.cond (.t 51) (.seq (.reg [.q 2 (.mv (.i 8))]) .ret) .skip)))))))))))))))))) (.seq (.reg [.q 2 (.mv (.i 0))]) .ret))
def XQ:List RV:=[.mv (.t 2)]
theorem aKG:aM Tryz.prog true ⟨fun r k=>if r=16/\k=1 then .q else .own [],fun _=>false⟩ Tryz.f146=some (aAE,XQ):=by kernel_rfl
def OF:PC:=.seq (.reg [.v 2 0,.q 3 (.nc (.t 2)),.q 4 (.fa 0 (.t 3)),.l 5 (.ld1 (.t 4)),.q 6 (.eqP false (.t 5) (.k (.pointer none)))]) (.cond (.t 6) (.reg [.v 7 0,.v 8 0,.q 9 (.cu (.t 8)),.v 10 9,.q 11 (.c4u 146 2 (.t 10)),.q 12 (.nc (.t 7)),.q 13 (.fa 0 (.t 12)),.s (.st 1 (.t 13) (.t 11))]) (.seq (.reg [.v 14 0,.q 15 (.nc (.t 14)),.q 16 (.fa 0 (.t 15)),.l 17 (.ld1 (.t 16)),.v 18 0,.q 19 (.eqP true (.t 17) (.t 18))]) (.cond (.t 19) (.no) .skip)))
def P3:List RV:=[]
theorem aLJ:aM Tryz.prog true ⟨fun _ _=>.own [],fun _=>false⟩ Tryz.f147=some (OF,P3):=by kernel_rfl
def aAB:PC:=.seq (.reg [.q 4 (.mv (.k (.bool false)))]) (.seq (.reg [.v 5 0,.v 6 1,.a 7 (.cl 120 [(.t 5),(.i 4),(.t 6)] [0]),.v 4 7]) .ret)
def XO:List RV:=[.mv (.t 4)]
theorem aKY:aM Tryz.prog true ⟨fun r k=>if r=1/\k=2 then .own [0] else .own [],fun _=>false⟩ Tryz.f148=some (aAB,XO):=by kernel_rfl
def pc156_4:PC:=.seq (.gh (.reg [.q 7 (.mv (.k (.int .u64 0)))])) (.seq (.seq (.reg [.v 11 1,.q 12 (.lnS (.t 11)),.q 13 (.mv (.i 0))]) (.block 0 (.loop (.seq (.reg [.q 14 (.bin .lss true (.t 13) (.t 12))]) (.seq (.cond (.t 14) .skip (.exit 0)) (.seq (.block 1 (.seq (.reg [.v 15 13,.v 8 15]) (.seq (.reg [.v 16 1,.v 17 8,.a 18 (.ix (.t 16) (.t 17)),.q 19 (.bin .sub true (.t 18) (.k (.int .u8 48))),.q 20 (.cvt .u64 (.t 19)),.v 9 20]) (.seq (.seq (.reg [.v 21 7,.v 22 6,.v 23 9,.q 24 (.bin .sub true (.t 22) (.t 23)),.q 25 (.bin .quo true (.t 24) (.k (.int .u64 10))),.q 26 (.bin .gtr true (.t 21) (.t 25))]) (.cond (.t 26) (.seq (.reg [.q 4 (.mv (.i 0)),.q 5 (.mv (.k (.bool false)))]) .ret) .skip)) (.reg [.v 27 7,.q 28 (.bin .mul true (.k (.int .u64 10)) (.t 27)),.v 29 9,.q 30 (.bin .add true (.t 28) (.t 29)),.v 7 30]))))) (.reg [.q 31 (.bin .add true (.t 13) (.i 1)),.v 13 31]))))))) (.seq (.seq (.reg [.v 32 0]) (.cond (.t 32) (.seq (.reg [.v 33 7,.q 34 (.neg false (.t 33)),.q 35 (.cvt .i64 (.t 34)),.v 4 35,.q 5 (.mv (.k (.bool true)))]) .ret) .skip)) (.seq (.reg [.v 36 7,.q 37 (.cvt .i64 (.t 36)),.v 4 37,.q 5 (.mv (.k (.bool true)))]) .ret)))
@[go_sem ↓] theorem aML:a8 pc156_4:=bB _
def ZG:PC:=.seq (.reg [.q 4 (.mv (.i 0)),.q 5 (.mv (.k (.bool false)))]) (.seq (.reg [.q 6 (.mv (.k (.int .u64 9223372036854775807)))]) (.seq (.seq (.reg [.v 10 0]) (.cond (.t 10) (.reg [.q 6 (.mv (.k (.int .u64 9223372036854775808)))]) .skip)) (pc156_4)))
def F4:List RV:=[.mv (.t 4),.mv (.t 5)]
theorem aLU:aM Tryz.prog true ⟨fun _ _=>.own [],fun r=>[4].contains r⟩ Tryz.f156=some (ZG,F4):=by kernel_rfl
def aIZ:PC:=.seq (.reg [.q 4 (.mv (.i 0))]) (.seq (.seq (.reg [.v 6 0,.q 7 (.lnL (.t 6)),.q 8 (.mv (.i 0))]) (.block 0 (.loop (.seq (.reg [.q 9 (.bin .lss true (.t 8) (.t 7))]) (.seq (.cond (.t 9) .skip (.exit 0)) (.seq (.block 1 (.seq (.reg [.v 10 8,.v 5 10]) (.seq (.reg [.v 11 1,.v 12 0,.v 13 5,.l 14 (.ia 1 (.t 12) (.t 13)),.l 15 (.ld1 (.t 14)),.q 16 (.bin .eql true (.t 11) (.t 15))]) (.cond (.t 16) (.seq (.reg [.v 17 5,.v 4 17]) .ret) .skip)))) (.reg [.q 18 (.bin .add true (.t 8) (.i 1)),.v 8 18]))))))) (.seq (.reg [.q 4 (.mv (.i (-1)))]) .ret))
def aGN:List RV:=[.mv (.t 4)]
theorem aQB:aM Tryz.prog true ⟨fun _ _=>.own [],fun _=>false⟩ Tryz.f99=some (aIZ,aGN):=by kernel_rfl
def ZP:PC:=.seq (.reg [.q 4 (.mv (.i 0))]) (.seq (.seq (.reg [.v 6 0,.q 7 (.lnL (.t 6)),.q 8 (.mv (.i 0))]) (.block 0 (.loop (.seq (.reg [.q 9 (.bin .lss true (.t 8) (.t 7))]) (.seq (.cond (.t 9) .skip (.exit 0)) (.seq (.block 1 (.seq (.reg [.v 10 8,.v 5 10]) (.seq (.reg [.v 11 1,.v 12 0,.v 13 5,.l 14 (.ia 7 (.t 12) (.t 13)),.l 15 (.ldn 7 (.t 14)),.a 16 (.ca (.t 11) [(.t 15)] [0])]) (.cond (.t 16) (.seq (.reg [.v 17 5,.v 4 17]) .ret) .skip)))) (.reg [.q 18 (.bin .add true (.t 8) (.i 1)),.v 8 18]))))))) (.seq (.reg [.q 4 (.mv (.i (-1)))]) .ret))
def W5:List RV:=[.mv (.t 4)]
theorem aKO:aM Tryz.prog true ⟨fun r k=>if r=4/\k=5 then .own [0] else .own [],fun _=>false⟩ Tryz.f106=some (ZP,W5):=by kernel_rfl
def ZM:PC:=.seq (.reg [.q 4 (.mv (.k (.bool false)))]) (.seq (.reg [.v 5 0,.v 6 1,.a 7 (.cl 140 [(.t 5),(.t 6)] [0]),.q 8 (.bin .geq true (.t 7) (.i 0)),.v 4 8]) .ret)
def XR:List RV:=[.mv (.t 4)]
theorem aKN:aM Tryz.prog true ⟨fun r k=>if r=1/\k=2 then .own [0] else .own [],fun _=>false⟩ Tryz.f117=some (ZM,XR):=by kernel_rfl
def XB:PC:=.seq (.reg [.q 4 (.mv (.i 0))]) (.seq (.seq (.reg [.v 6 0,.q 7 (.lnL (.t 6)),.q 8 (.mv (.i 0))]) (.block 0 (.loop (.seq (.reg [.q 9 (.bin .lss true (.t 8) (.t 7))]) (.seq (.cond (.t 9) .skip (.exit 0)) (.seq (.block 1 (.seq (.reg [.v 10 8,.v 5 10]) (.seq (.reg [.v 11 1,.v 12 0,.v 13 5,.l 14 (.ia 1 (.t 12) (.t 13)),.l 15 (.ld1 (.t 14)),.a 16 (.ca (.t 11) [(.t 15)] [0])]) (.cond (.t 16) (.seq (.reg [.v 17 5,.v 4 17]) .ret) .skip)))) (.reg [.q 18 (.bin .add true (.t 8) (.i 1)),.v 8 18]))))))) (.seq (.reg [.q 4 (.mv (.i (-1)))]) .ret))
def XS:List RV:=[.mv (.t 4)]
theorem aJJ:aM Tryz.prog true ⟨fun r k=>if r=4/\k=5 then .own [0] else .own [],fun _=>false⟩ Tryz.f140=some (XB,XS):=by kernel_rfl
def Y7:PC:=.seq (.reg [.q 4 (.mv (.k (.bool false)))]) (.seq (.reg [.v 5 0,.v 6 1,.a 7 (.cl 157 [(.t 5),(.t 6)] [0]),.q 8 (.bin .geq true (.t 7) (.i 0)),.v 4 8]) .ret)
def Y8:List RV:=[.mv (.t 4)]
theorem aI9:aM Tryz.prog true ⟨fun r k=>if r=1/\k=2 then .own [0] else .own [],fun _=>false⟩ Tryz.f141=some (Y7,Y8):=by kernel_rfl
def XE:PC:=.seq (.reg [.q 4 (.mv (.i 0))]) (.seq (.seq (.reg [.v 6 0,.q 7 (.lnL (.t 6)),.q 8 (.mv (.i 0))]) (.block 0 (.loop (.seq (.reg [.q 9 (.bin .lss true (.t 8) (.t 7))]) (.seq (.cond (.t 9) .skip (.exit 0)) (.seq (.block 1 (.seq (.reg [.v 10 8,.v 5 10]) (.seq (.reg [.v 11 1,.v 12 0,.v 13 5,.l 14 (.ia 6 (.t 12) (.t 13)),.l 15 (.ldn 6 (.t 14)),.a 16 (.ca (.t 11) [(.t 15)] [0])]) (.cond (.t 16) (.seq (.reg [.v 17 5,.v 4 17]) .ret) .skip)))) (.reg [.q 18 (.bin .add true (.t 8) (.i 1)),.v 8 18]))))))) (.seq (.reg [.q 4 (.mv (.i (-1)))]) .ret))
def Z5:List RV:=[.mv (.t 4)]
theorem aLT:aM Tryz.prog true ⟨fun r k=>if r=4/\k=5 then .own [0] else .own [],fun _=>false⟩ Tryz.f157=some (XE,Z5):=by kernel_rfl
def aFR:PC:=.seq (.reg [.e 2 (.bx 25 (.t 0)),.e 4 (.al (.agg #[(.string (mk [])),(.slice none 0 0),(.slice none 0 0)]) 92),.q 5 (.mv (.k (.bool false)))]) (.seq (.seq (.reg [.q 8 (.fa 1 (.t 2)),.l 9 (.ld1 (.t 8)),.q 10 (.lnL (.t 9)),.q 11 (.mv (.i 0))]) (.block 0 (.loop (.seq (.reg [.q 12 (.bin .lss true (.t 11) (.t 10))]) (.seq (.cond (.t 12) .skip (.exit 0)) (.seq (.block 1 (.seq (.reg [.l 13 (.ia 3 (.t 9) (.t 11)),.l 14 (.ldn 3 (.t 13)),.e 7 (.al (.agg #[(.string (mk [])),(.slice none 0 0),(.slice none 0 0)]) 92),.s (.st 3 (.t 7) (.t 14))]) (.seq (.reg [.q 15 (.fa 0 (.t 7)),.l 16 (.ld1 (.t 15)),.v 17 1,.q 18 (.bin .eql true (.t 16) (.t 17))]) (.cond (.t 18) (.seq (.ord  [.q (.q 19 (.fa 0 (.t 7))),.q (.l 20 (.ld1 (.t 19))),.q (.q 21 (.fa 1 (.t 7))),.q (.l 22 (.ld1 (.t 21))),.q (.q 24 (.fa 2 (.t 7))),.q (.l 25 (.ld1 (.t 24))),.m (.a 23 (.cl 126 [(.t 22)] [])),.rc (.q 19 (.fa 0 (.t 7))),.rc (.l 20 (.ld1 (.t 19))),.rc (.q 24 (.fa 2 (.t 7))),.rc (.l 25 (.ld1 (.t 24))),.m (.a 26 (.cl 127 [(.t 25)] [])),.rc (.q 19 (.fa 0 (.t 7))),.rc (.l 20 (.ld1 (.t 19))),.q (.q 27 (.bd [(.string (mk [])),(.slice none 0 0),(.slice none 0 0)] [(0,1,(.t 20)),(1,1,(.t 23)),(2,1,(.t 26))])),.m (.s (.st 3 (.t 4) (.t 27))),.m (.q 5 (.mv (.k (.bool true))))]) .ret) .skip)))) (.reg [.q 28 (.bin .add true (.t 11) (.i 1)),.v 11 28]))))))) (.seq (.reg [.q 29 (.bd [(.string (mk [])),(.slice none 0 0),(.slice none 0 0)] []),.s (.st 3 (.t 4) (.t 29)),.q 5 (.mv (.k (.bool false)))]) .ret))
def aF7:List RV:=[.ld (.ldn 3 (.t 4)),.mv (.t 5)]
theorem aQO:aM Tryz.prog true ⟨fun _ _=>.own [],fun _=>false⟩ Tryz.f98=some (aFR,aF7):=by kernel_rfl
def ZH:PC:=.seq (.reg [.e 2 (.bx 25 (.t 0)),.e 4 (.al (.agg #[(.string (mk [])),(.slice none 0 0)]) 95),.q 5 (.mv (.k (.bool false)))]) (.seq (.seq (.reg [.q 8 (.fa 2 (.t 2)),.l 9 (.ld1 (.t 8)),.q 10 (.lnL (.t 9)),.q 11 (.mv (.i 0))]) (.block 0 (.loop (.seq (.reg [.q 12 (.bin .lss true (.t 11) (.t 10))]) (.seq (.cond (.t 12) .skip (.exit 0)) (.seq (.block 1 (.seq (.reg [.l 13 (.ia 2 (.t 9) (.t 11)),.l 14 (.ldn 2 (.t 13)),.e 7 (.al (.agg #[(.string (mk [])),(.slice none 0 0)]) 95),.s (.st 2 (.t 7) (.t 14))]) (.seq (.reg [.q 15 (.fa 0 (.t 7)),.l 16 (.ld1 (.t 15)),.v 17 1,.q 18 (.bin .eql true (.t 16) (.t 17))]) (.cond (.t 18) (.seq (.reg [.l 19 (.ldn 2 (.t 7)),.a 20 (.cl 129 [(.t 19)] []),.s (.st 2 (.t 4) (.t 20)),.q 5 (.mv (.k (.bool true)))]) .ret) .skip)))) (.reg [.q 21 (.bin .add true (.t 11) (.i 1)),.v 11 21]))))))) (.seq (.reg [.q 22 (.bd [(.string (mk [])),(.slice none 0 0)] []),.s (.st 2 (.t 4) (.t 22)),.q 5 (.mv (.k (.bool false)))]) .ret))
def YG:List RV:=[.ld (.ldn 2 (.t 4)),.mv (.t 5)]
theorem aJB:aM Tryz.prog true ⟨fun _ _=>.own [],fun _=>false⟩ Tryz.f103=some (ZH,YG):=by kernel_rfl
def ZZ:PC:=.seq (.reg [.e 2 (.bx 95 (.t 0)),.e 4 (.al (.agg #[(.int .i64 0),(.string (mk [])),(.int .i64 0),(.int .i64 0),(.string (mk [])),(.slice none 0 0),(.bool false)]) 97),.q 5 (.mv (.k (.bool false)))]) (.seq (.seq (.reg [.q 8 (.fa 1 (.t 2)),.l 9 (.ld1 (.t 8)),.q 10 (.lnL (.t 9)),.q 11 (.mv (.i 0))]) (.block 0 (.loop (.seq (.reg [.q 12 (.bin .lss true (.t 11) (.t 10))]) (.seq (.cond (.t 12) .skip (.exit 0)) (.seq (.block 1 (.seq (.reg [.l 13 (.ia 7 (.t 9) (.t 11)),.l 14 (.ldn 7 (.t 13)),.e 7 (.al (.agg #[(.int .i64 0),(.string (mk [])),(.int .i64 0),(.int .i64 0),(.string (mk [])),(.slice none 0 0),(.bool false)]) 97),.s (.st 7 (.t 7) (.t 14))]) (.seq (.reg [.q 15 (.fa 0 (.t 7)),.l 16 (.ld1 (.t 15)),.v 17 1,.q 18 (.bin .eql true (.t 16) (.t 17))]) (.cond (.t 18) (.seq (.reg [.l 19 (.ldn 7 (.t 7)),.a 20 (.cl 130 [(.t 19)] []),.s (.st 7 (.t 4) (.t 20)),.q 5 (.mv (.k (.bool true)))]) .ret) .skip)))) (.reg [.q 21 (.bin .add true (.t 11) (.i 1)),.v 11 21]))))))) (.seq (.reg [.q 22 (.bd [(.int .i64 0),(.string (mk [])),(.int .i64 0),(.int .i64 0),(.string (mk [])),(.slice none 0 0),(.bool false)] []),.s (.st 7 (.t 4) (.t 22)),.q 5 (.mv (.k (.bool false)))]) .ret))
def YL:List RV:=[.ld (.ldn 7 (.t 4)),.mv (.t 5)]
theorem aJS:aM Tryz.prog true ⟨fun _ _=>.own [],fun _=>false⟩ Tryz.f104=some (ZZ,YL):=by kernel_rfl
def Y5:PC:=.seq (.reg [.e 1 (.bx 95 (.t 0)),.e 2 (.al (.agg #[(.string (mk [])),(.slice none 0 0)]) 95)]) (.seq (.reg [.q 6 (.fa 0 (.t 1)),.l 7 (.ld1 (.t 6)),.q 8 (.bd [(.string (mk [])),(.slice none 0 0)] [(0,1,(.t 7))]),.e 3 (.al (.agg #[(.string (mk [])),(.slice none 0 0)]) 95),.s (.st 2 (.t 3) (.t 8))]) (.seq (.seq (.reg [.q 9 (.fa 1 (.t 1)),.l 10 (.ld1 (.t 9)),.q 11 (.lnL (.t 10)),.q 12 (.mv (.i 0))]) (.block 0 (.loop (.seq (.reg [.q 13 (.bin .lss true (.t 12) (.t 11))]) (.seq (.cond (.t 13) .skip (.exit 0)) (.seq (.block 1 (.seq (.reg [.l 14 (.ia 7 (.t 10) (.t 12)),.l 15 (.ldn 7 (.t 14)),.e 5 (.al (.agg #[(.int .i64 0),(.string (mk [])),(.int .i64 0),(.int .i64 0),(.string (mk [])),(.slice none 0 0),(.bool false)]) 97),.s (.st 7 (.t 5) (.t 15))]) (.ord  [.q (.q 16 (.fa 1 (.t 3))),.q (.l 17 (.ld1 (.t 16))),.q (.l 18 (.ldn 7 (.t 5))),.m (.a 19 (.cl 130 [(.t 18)] [])),.rc (.q 16 (.fa 1 (.t 3))),.rc (.l 17 (.ld1 (.t 16))),.m (.e 20 (.bsl 97 7 [(.t 19)])),.rc (.q 16 (.fa 1 (.t 3))),.rc (.l 17 (.ld1 (.t 16))),.m (.e 21 (.ap 97 7 88 (.t 17) (.t 20))),.q (.q 22 (.fa 1 (.t 3))),.m (.s (.st 1 (.t 22) (.t 21)))]))) (.reg [.q 23 (.bin .add true (.t 12) (.i 1)),.v 12 23]))))))) (.seq (.reg [.l 24 (.ldn 2 (.t 3)),.s (.st 2 (.t 2) (.t 24))]) .ret)))
def XC:List RV:=[.ld (.ldn 2 (.t 2))]
theorem aJG:aM Tryz.prog true ⟨fun _ _=>.own [],fun _=>false⟩ Tryz.f129=some (Y5,XC):=by kernel_rfl
def XF:PC:=.seq (.reg [.e 1 (.bx 97 (.t 0)),.e 2 (.al (.agg #[(.int .i64 0),(.string (mk [])),(.int .i64 0),(.int .i64 0),(.string (mk [])),(.slice none 0 0),(.bool false)]) 97)]) (.seq (.reg [.q 3 (.fa 2 (.t 1)),.l 4 (.ldn 4 (.t 3)),.a 5 (.cl 149 [(.t 4)] []),.q 6 (.fa 2 (.t 1)),.s (.st 4 (.t 6) (.t 5))]) (.seq (.reg [.l 7 (.ldn 7 (.t 1)),.s (.st 7 (.t 2) (.t 7))]) .ret))
def ZN:List RV:=[.ld (.ldn 7 (.t 2))]
theorem aKV:aM Tryz.prog true ⟨fun _ _=>.own [],fun _=>false⟩ Tryz.f130=some (XF,ZN):=by kernel_rfl
def YH:PC:=.seq (.reg [.e 1 (.bx 28 (.t 0)),.e 2 (.al (.agg #[(.int .i64 0),(.int .i64 0),(.string (mk [])),(.slice none 0 0)]) 28)]) (.seq (.reg [.q 6 (.fa 0 (.t 1)),.l 7 (.ld1 (.t 6)),.q 8 (.fa 1 (.t 1)),.l 9 (.ld1 (.t 8)),.q 10 (.fa 2 (.t 1)),.l 11 (.ld1 (.t 10)),.q 12 (.bd [(.int .i64 0),(.int .i64 0),(.string (mk [])),(.slice none 0 0)] [(0,1,(.t 7)),(1,1,(.t 9)),(2,1,(.t 11))]),.e 3 (.al (.agg #[(.int .i64 0),(.int .i64 0),(.string (mk [])),(.slice none 0 0)]) 28),.s (.st 4 (.t 3) (.t 12))]) (.seq (.seq (.reg [.q 13 (.fa 3 (.t 1)),.l 14 (.ld1 (.t 13)),.q 15 (.lnL (.t 14)),.q 16 (.mv (.i 0))]) (.block 0 (.loop (.seq (.reg [.q 17 (.bin .lss true (.t 16) (.t 15))]) (.seq (.cond (.t 17) .skip (.exit 0)) (.seq (.block 1 (.seq (.reg [.l 18 (.ia 4 (.t 14) (.t 16)),.l 19 (.ldn 4 (.t 18)),.e 5 (.al (.agg #[(.int .i64 0),(.int .i64 0),(.string (mk [])),(.slice none 0 0)]) 28),.s (.st 4 (.t 5) (.t 19))]) (.ord  [.q (.q 20 (.fa 3 (.t 3))),.q (.l 21 (.ld1 (.t 20))),.q (.l 22 (.ldn 4 (.t 5))),.m (.a 23 (.cl 149 [(.t 22)] [])),.rc (.q 20 (.fa 3 (.t 3))),.rc (.l 21 (.ld1 (.t 20))),.m (.e 24 (.bsl 28 4 [(.t 23)])),.rc (.q 20 (.fa 3 (.t 3))),.rc (.l 21 (.ld1 (.t 20))),.m (.e 25 (.ap 28 4 56 (.t 21) (.t 24))),.q (.q 26 (.fa 3 (.t 3))),.m (.s (.st 1 (.t 26) (.t 25)))]))) (.reg [.q 27 (.bin .add true (.t 16) (.i 1)),.v 16 27]))))))) (.seq (.reg [.l 28 (.ldn 4 (.t 3)),.s (.st 4 (.t 2) (.t 28))]) .ret)))
def ZK:List RV:=[.ld (.ldn 4 (.t 2))]
theorem aJW:aM Tryz.prog true ⟨fun _ _=>.own [],fun _=>false⟩ Tryz.f149=some (YH,ZK):=by kernel_rfl
def aHM:PC:=.seq (.reg [.e 1 (.bx 25 (.t 0)),.q 2 (.mv (.k (.bool false)))]) (.seq (.seq (.reg [.q 7 (.fa 1 (.t 1)),.l 8 (.ld1 (.t 7)),.q 9 (.lnL (.t 8)),.q 10 (.bin .gtr true (.t 9) (.i 18)),.v 11 10,⟨some 12,(some (11,false)),.q (.fa 2 (.t 1))⟩,⟨some 13,(some (11,false)),.l (.ld1 (.t 12))⟩,⟨some 14,(some (11,false)),.q (.lnL (.t 13))⟩,⟨some 15,(some (11,false)),.q (.bin .gtr true (.t 14) (.i 18))⟩,.a 16 (.pick (.t 11) (.k (.bool true)) (.t 15))]) (.cond (.t 16) (.seq (.reg [.q 2 (.mv (.k (.bool false)))]) .ret) .skip)) (.seq (.seq (.reg [.q 3 (.mv (.i 0))]) (.block 0 (.loop (.seq (.seq (.reg [.v 17 3,.q 18 (.fa 1 (.t 1)),.l 19 (.ld1 (.t 18)),.q 20 (.lnL (.t 19)),.q 21 (.bin .lss true (.t 17) (.t 20))]) (.cond (.t 21) .skip (.exit 0))) (.seq (.block 1 (.seq (.seq (.reg [.q 24 (.fa 1 (.t 1)),.l 25 (.ld1 (.t 24)),.v 26 3,.l 27 (.ia 3 (.t 25) (.t 26)),.q 28 (.fa 0 (.t 27)),.l 29 (.ld1 (.t 28)),.q 30 (.lnS (.t 29)),.q 31 (.bin .gtr true (.t 30) (.i 40)),.v 32 31,⟨some 33,(some (32,false)),.q (.fa 1 (.t 1))⟩,⟨some 34,(some (32,false)),.l (.ld1 (.t 33))⟩,⟨some 35,(some (32,false)),.q (.mv (.t 3))⟩,⟨some 36,(some (32,false)),.l (.ia 3 (.t 34) (.t 35))⟩,⟨some 37,(some (32,false)),.q (.fa 1 (.t 36))⟩,⟨some 38,(some (32,false)),.l (.ld1 (.t 37))⟩,⟨some 39,(some (32,false)),.q (.lnL (.t 38))⟩,⟨some 40,(some (32,false)),.q (.bin .gtr true (.t 39) (.i 18))⟩,.a 41 (.pick (.t 32) (.k (.bool true)) (.t 40)),.v 42 41,⟨some 43,(some (42,false)),.q (.fa 1 (.t 1))⟩,⟨some 44,(some (42,false)),.l (.ld1 (.t 43))⟩,⟨some 45,(some (42,false)),.q (.mv (.t 3))⟩,⟨some 46,(some (42,false)),.l (.ia 3 (.t 44) (.t 45))⟩,⟨some 47,(some (42,false)),.q (.fa 2 (.t 46))⟩,⟨some 48,(some (42,false)),.l (.ld1 (.t 47))⟩,⟨some 49,(some (42,false)),.q (.lnL (.t 48))⟩,⟨some 50,(some (42,false)),.q (.bin .gtr true (.t 49) (.i 18))⟩,.a 51 (.pick (.t 42) (.k (.bool true)) (.t 50))]) (.cond (.t 51) (.seq (.reg [.q 2 (.mv (.k (.bool false)))]) .ret) .skip)) (.seq (.reg [.q 4 (.mv (.i 0))]) (.block 2 (.loop (.seq (.seq (.reg [.v 52 4,.q 53 (.fa 1 (.t 1)),.l 54 (.ld1 (.t 53)),.v 55 3,.l 56 (.ia 3 (.t 54) (.t 55)),.q 57 (.fa 1 (.t 56)),.l 58 (.ld1 (.t 57)),.q 59 (.lnL (.t 58)),.q 60 (.bin .lss true (.t 52) (.t 59))]) (.cond (.t 60) .skip (.exit 2))) (.seq (.block 3 (.seq (.reg [.q 63 (.fa 1 (.t 1)),.l 64 (.ld1 (.t 63)),.v 65 3,.l 66 (.ia 3 (.t 64) (.t 65)),.q 67 (.fa 1 (.t 66)),.l 68 (.ld1 (.t 67)),.v 69 4,.l 70 (.ia 1 (.t 68) (.t 69)),.l 71 (.ld1 (.t 70)),.q 72 (.lnS (.t 71)),.q 73 (.bin .gtr true (.t 72) (.i 40))]) (.cond (.t 73) (.seq (.reg [.q 2 (.mv (.k (.bool false)))]) .ret) .skip))) (.reg [.v 61 4,.q 62 (.bin .add true (.t 61) (.i 1)),.v 4 62])))))))) (.reg [.v 22 3,.q 23 (.bin .add true (.t 22) (.i 1)),.v 3 23])))))) (.seq (.seq (.reg [.q 5 (.mv (.i 0))]) (.block 4 (.loop (.seq (.seq (.reg [.v 74 5,.q 75 (.fa 2 (.t 1)),.l 76 (.ld1 (.t 75)),.q 77 (.lnL (.t 76)),.q 78 (.bin .lss true (.t 74) (.t 77))]) (.cond (.t 78) .skip (.exit 4))) (.seq (.block 5 (.seq (.seq (.reg [.q 81 (.fa 2 (.t 1)),.l 82 (.ld1 (.t 81)),.v 83 5,.l 84 (.ia 2 (.t 82) (.t 83)),.q 85 (.fa 0 (.t 84)),.l 86 (.ld1 (.t 85)),.q 87 (.lnS (.t 86)),.q 88 (.bin .gtr true (.t 87) (.i 40)),.v 89 88,⟨some 90,(some (89,false)),.q (.fa 2 (.t 1))⟩,⟨some 91,(some (89,false)),.l (.ld1 (.t 90))⟩,⟨some 92,(some (89,false)),.q (.mv (.t 5))⟩,⟨some 93,(some (89,false)),.l (.ia 2 (.t 91) (.t 92))⟩,⟨some 94,(some (89,false)),.q (.fa 1 (.t 93))⟩,⟨some 95,(some (89,false)),.l (.ld1 (.t 94))⟩,⟨some 96,(some (89,false)),.q (.lnL (.t 95))⟩,⟨some 97,(some (89,false)),.q (.bin .gtr true (.t 96) (.i 18))⟩,.a 98 (.pick (.t 89) (.k (.bool true)) (.t 97))]) (.cond (.t 98) (.seq (.reg [.q 2 (.mv (.k (.bool false)))]) .ret) .skip)) (.seq (.reg [.q 6 (.mv (.i 0))]) (.block 6 (.loop (.seq (.seq (.reg [.v 99 6,.q 100 (.fa 2 (.t 1)),.l 101 (.ld1 (.t 100)),.v 102 5,.l 103 (.ia 2 (.t 101) (.t 102)),.q 104 (.fa 1 (.t 103)),.l 105 (.ld1 (.t 104)),.q 106 (.lnL (.t 105)),.q 107 (.bin .lss true (.t 99) (.t 106))]) (.cond (.t 107) .skip (.exit 6))) (.seq (.block 7 (.seq (.reg [.q 110 (.fa 2 (.t 1)),.l 111 (.ld1 (.t 110)),.v 112 5,.l 113 (.ia 2 (.t 111) (.t 112)),.q 114 (.fa 1 (.t 113)),.l 115 (.ld1 (.t 114)),.v 116 6,.l 117 (.ia 7 (.t 115) (.t 116)),.q 118 (.fa 1 (.t 117)),.l 119 (.ld1 (.t 118)),.q 120 (.lnS (.t 119)),.q 121 (.bin .gtr true (.t 120) (.i 40)),.v 122 121,⟨some 123,(some (122,false)),.q (.fa 2 (.t 1))⟩,⟨some 124,(some (122,false)),.l (.ld1 (.t 123))⟩,⟨some 125,(some (122,false)),.q (.mv (.t 5))⟩,⟨some 126,(some (122,false)),.l (.ia 2 (.t 124) (.t 125))⟩,⟨some 127,(some (122,false)),.q (.fa 1 (.t 126))⟩,⟨some 128,(some (122,false)),.l (.ld1 (.t 127))⟩,⟨some 129,(some (122,false)),.q (.mv (.t 6))⟩,⟨some 130,(some (122,false)),.l (.ia 7 (.t 128) (.t 129))⟩,⟨some 131,(some (122,false)),.q (.fa 2 (.t 130))⟩,⟨some 132,(some (122,false)),.l (.ldn 4 (.t 131))⟩,⟨some 133,(some (122,false)),.cq 19 [(.t 132)]⟩,⟨some 134,(some (122,false)),.q (.not (.t 133))⟩,.a 135 (.pick (.t 122) (.k (.bool true)) (.t 134))]) (.cond (.t 135) (.seq (.reg [.q 2 (.mv (.k (.bool false)))]) .ret) .skip))) (.reg [.v 108 6,.q 109 (.bin .add true (.t 108) (.i 1)),.v 6 109])))))))) (.reg [.v 79 5,.q 80 (.bin .add true (.t 79) (.i 1)),.v 5 80])))))) (.seq (.reg [.q 2 (.mv (.k (.bool true)))]) .ret))))
def aDA:List RV:=[.mv (.t 2)]
theorem aQ3:aM Tryz.prog true ⟨fun r k=>if r=21/\k=23 then .q else .own [],fun _=>false⟩ Tryz.f18=some (aHM,aDA):=by kernel_rfl
def aDK:PC:=.seq (.reg [.e 1 (.bx 28 (.t 0)),.q 2 (.mv (.k (.bool false)))]) (.seq (.seq (.reg [.q 4 (.fa 2 (.t 1)),.l 5 (.ld1 (.t 4)),.q 6 (.lnS (.t 5)),.q 7 (.bin .gtr true (.t 6) (.i 40)),.v 8 7,⟨some 9,(some (8,false)),.q (.fa 3 (.t 1))⟩,⟨some 10,(some (8,false)),.l (.ld1 (.t 9))⟩,⟨some 11,(some (8,false)),.q (.lnL (.t 10))⟩,⟨some 12,(some (8,false)),.q (.bin .gtr true (.t 11) (.i 3))⟩,.a 13 (.pick (.t 8) (.k (.bool true)) (.t 12)),.v 14 13,⟨some 15,(some (14,false)),.l (.ldn 4 (.t 1))⟩,⟨some 16,(some (14,false)),.cq 45 [(.t 15),(.i 20)]⟩,⟨some 17,(some (14,false)),.q (.bin .gtr true (.t 16) (.i 8))⟩,.a 18 (.pick (.t 14) (.k (.bool true)) (.t 17))]) (.cond (.t 18) (.seq (.reg [.q 2 (.mv (.k (.bool false)))]) .ret) .skip)) (.seq (.seq (.reg [.q 3 (.mv (.i 0))]) (.block 0 (.loop (.seq (.seq (.reg [.v 19 3,.q 20 (.fa 3 (.t 1)),.l 21 (.ld1 (.t 20)),.q 22 (.lnL (.t 21)),.q 23 (.bin .lss true (.t 19) (.t 22))]) (.cond (.t 23) .skip (.exit 0))) (.seq (.block 1 (.seq (.reg [.q 26 (.fa 3 (.t 1)),.l 27 (.ld1 (.t 26)),.v 28 3,.l 29 (.ia 4 (.t 27) (.t 28)),.l 30 (.ldn 4 (.t 29)),.a 31 (.cq 19 [(.t 30)]),.q 32 (.not (.t 31))]) (.cond (.t 32) (.seq (.reg [.q 2 (.mv (.k (.bool false)))]) .ret) .skip))) (.reg [.v 24 3,.q 25 (.bin .add true (.t 24) (.i 1)),.v 3 25])))))) (.seq (.reg [.q 2 (.mv (.k (.bool true)))]) .ret)))
def aHJ:List RV:=[.mv (.t 2)]
theorem aNB:aM Tryz.prog true ⟨fun r k=>if r=1/\k=12 then .q else if r=6/\k=5 then .q else .own [],fun _=>false⟩ Tryz.f19=some (aDK,aHJ):=by kernel_rfl
def aHD:PC:=.seq (.reg [.e 1 (.bx 25 (.t 0)),.q 2 (.mv (.i 0))]) (.seq (.seq (.reg [.q 11 (.fa 0 (.t 1)),.l 12 (.ld1 (.t 11)),.q 13 (.bin .lss true (.t 12) (.i 1)),.v 14 13,⟨some 15,(some (14,false)),.q (.fa 0 (.t 1))⟩,⟨some 16,(some (14,false)),.l (.ld1 (.t 15))⟩,⟨some 17,(some (14,false)),.q (.bin .gtr true (.t 16) (.i 999))⟩,.a 18 (.pick (.t 14) (.k (.bool true)) (.t 17))]) (.cond (.t 18) (.seq (.reg [.q 2 (.mv (.i 4))]) .ret) .skip)) (.seq (.seq (.reg [.l 19 (.ldn 3 (.t 1)),.a 20 (.cq 46 [(.t 19)])]) (.cond (.t 20) (.seq (.reg [.q 2 (.mv (.i 3))]) .ret) .skip)) (.seq (.seq (.reg [.q 3 (.mv (.i 0))]) (.block 0 (.loop (.seq (.seq (.reg [.v 21 3,.q 22 (.fa 1 (.t 1)),.l 23 (.ld1 (.t 22)),.q 24 (.lnL (.t 23)),.q 25 (.bin .lss true (.t 21) (.t 24))]) (.cond (.t 25) .skip (.exit 0))) (.seq (.block 1 (.seq (.reg [.l 28 (.ldn 3 (.t 1)),.v 29 3,.a 30 (.cq 47 [(.t 28),(.t 29)]),.v 4 30]) (.seq (.reg [.v 31 4,.q 32 (.bin .neq true (.t 31) (.i 0))]) (.cond (.t 32) (.seq (.reg [.v 33 4,.v 2 33]) .ret) .skip)))) (.reg [.v 26 3,.q 27 (.bin .add true (.t 26) (.i 1)),.v 3 27])))))) (.seq (.seq (.reg [.q 5 (.mv (.i 0))]) (.block 2 (.loop (.seq (.seq (.reg [.v 34 5,.q 35 (.fa 2 (.t 1)),.l 36 (.ld1 (.t 35)),.q 37 (.lnL (.t 36)),.q 38 (.bin .lss true (.t 34) (.t 37))]) (.cond (.t 38) .skip (.exit 2))) (.seq (.block 3 (.seq (.reg [.l 41 (.ldn 3 (.t 1)),.v 42 5,.a 43 (.cq 48 [(.t 41),(.t 42)]),.v 6 43]) (.seq (.reg [.v 44 6,.q 45 (.bin .neq true (.t 44) (.i 0))]) (.cond (.t 45) (.seq (.reg [.v 46 6,.v 2 46]) .ret) .skip)))) (.reg [.v 39 5,.q 40 (.bin .add true (.t 39) (.i 1)),.v 5 40])))))) (.seq (.seq (.reg [.q 7 (.mv (.i 0))]) (.block 4 (.loop (.seq (.seq (.reg [.v 47 7,.q 48 (.fa 2 (.t 1)),.l 49 (.ld1 (.t 48)),.q 50 (.lnL (.t 49)),.q 51 (.bin .lss true (.t 47) (.t 50))]) (.cond (.t 51) .skip (.exit 4))) (.seq (.block 5 (.seq (.reg [.l 54 (.ldn 3 (.t 1)),.q 55 (.fa 2 (.t 1)),.l 56 (.ld1 (.t 55)),.v 57 7,.l 58 (.ia 2 (.t 56) (.t 57)),.q 59 (.fa 0 (.t 58)),.l 60 (.ld1 (.t 59)),.a 61 (.cl 49 [(.t 54),(.t 60)] []),.v 8 61]) (.seq (.reg [.v 62 8,.v 63 8,.q 64 (.lnL (.t 63)),.q 65 (.fa 2 (.t 1)),.l 66 (.ld1 (.t 65)),.v 67 7,.l 68 (.ia 2 (.t 66) (.t 67)),.q 69 (.fa 0 (.t 68)),.l 70 (.ld1 (.t 69)),.a 71 (.cq 50 [(.t 62),(.t 64),(.t 70)])]) (.cond (.t 71) (.seq (.reg [.q 2 (.mv (.i 19))]) .ret) .skip)))) (.reg [.v 52 7,.q 53 (.bin .add true (.t 52) (.i 1)),.v 7 53])))))) (.seq (.reg [.l 72 (.ldn 3 (.t 1)),.a 73 (.cl 51 [(.t 72)] []),.v 9 73]) (.seq (.seq (.reg [.q 10 (.mv (.i 0))]) (.block 6 (.loop (.seq (.seq (.reg [.v 74 10,.v 75 9,.q 76 (.lnL (.t 75)),.q 77 (.bin .lss true (.t 74) (.t 76))]) (.cond (.t 77) .skip (.exit 6))) (.seq (.block 7 (.seq (.reg [.v 80 9,.v 81 10,.l 82 (.ia 1 (.t 80) (.t 81)),.l 83 (.ld1 (.t 82)),.q 84 (.bin .gtr true (.t 83) (.i 6))]) (.cond (.t 84) (.seq (.reg [.q 2 (.mv (.i 9))]) .ret) .skip))) (.reg [.v 78 10,.q 79 (.bin .add true (.t 78) (.i 1)),.v 10 79])))))) (.seq (.reg [.q 2 (.mv (.i 0))]) .ret))))))))
def aG2:List RV:=[.mv (.t 2)]
theorem aRP:aM Tryz.prog true ⟨fun r k=>if r=3/\k=1 then .q else if r=8/\k=2 then .q else if r=14/\k=2 then .q else if r=21/\k=9 then .q else .own [],fun _=>false⟩ Tryz.f20=some (aHD,aG2):=by kernel_rfl
def WA:PC:=.seq (.reg [.e 2 (.bx 28 (.t 0)),.q 4 (.mv (.i 0))]) (.seq (.reg [.q 5 (.mv (.i 0))]) (.seq (.seq (.reg [.q 6 (.mv (.i 0))]) (.block 0 (.loop (.seq (.seq (.reg [.v 7 6,.q 8 (.fa 3 (.t 2)),.l 9 (.ld1 (.t 8)),.q 10 (.lnL (.t 9)),.q 11 (.bin .lss true (.t 7) (.t 10)),.v 12 11,⟨some 13,(some (12,true)),.q (.mv (.t 1))⟩,⟨some 14,(some (12,true)),.q (.bin .gtr true (.t 13) (.i 0))⟩,.a 15 (.pick (.t 12) (.t 14) (.k (.bool false)))]) (.cond (.t 15) .skip (.exit 0))) (.seq (.block 1 (.reg [.v 18 5,.q 19 (.fa 3 (.t 2)),.l 20 (.ld1 (.t 19)),.v 21 6,.l 22 (.ia 4 (.t 20) (.t 21)),.l 23 (.ldn 4 (.t 22)),.v 24 1,.q 25 (.bin .sub true (.t 24) (.i 1)),.a 26 (.cq 45 [(.t 23),(.t 25)]),.q 27 (.bin .add true (.i 1) (.t 26)),.q 28 (.mx true (.t 18) (.t 27)),.v 5 28])) (.reg [.v 16 6,.q 17 (.bin .add true (.t 16) (.i 1)),.v 6 17])))))) (.seq (.reg [.v 29 5,.v 4 29]) .ret)))
def U7:List RV:=[.mv (.t 4)]
theorem aC7:aM Tryz.prog true ⟨fun r k=>if r=5/\k=8 then .q else .own [],fun _=>false⟩ Tryz.f45=some (WA,U7):=by kernel_rfl
def J2:PC:=.seq (.reg [.e 1 (.bx 25 (.t 0)),.q 2 (.mv (.k (.bool false)))]) (.seq (.seq (.reg [.q 5 (.fa 1 (.t 1)),.l 6 (.ld1 (.t 5)),.q 7 (.lnL (.t 6)),.q 8 (.bin .gtr true (.t 7) (.i 16)),.v 9 8,⟨some 10,(some (9,false)),.q (.fa 2 (.t 1))⟩,⟨some 11,(some (9,false)),.l (.ld1 (.t 10))⟩,⟨some 12,(some (9,false)),.q (.lnL (.t 11))⟩,⟨some 13,(some (9,false)),.q (.bin .gtr true (.t 12) (.i 16))⟩,.a 14 (.pick (.t 9) (.k (.bool true)) (.t 13)),.v 15 14,⟨some 16,(some (15,false)),.q (.fa 1 (.t 1))⟩,⟨some 17,(some (15,false)),.l (.ld1 (.t 16))⟩,⟨some 18,(some (15,false)),.q (.lnL (.t 17))⟩,⟨some 19,(some (15,false)),.q (.fa 2 (.t 1))⟩,⟨some 20,(some (15,false)),.l (.ld1 (.t 19))⟩,⟨some 21,(some (15,false)),.q (.lnL (.t 20))⟩,⟨some 22,(some (15,false)),.q (.bin .add true (.t 18) (.t 21))⟩,⟨some 23,(some (15,false)),.q (.bin .gtr true (.t 22) (.i 16))⟩,.a 24 (.pick (.t 15) (.k (.bool true)) (.t 23))]) (.cond (.t 24) (.seq (.reg [.q 2 (.mv (.k (.bool true)))]) .ret) .skip)) (.seq (.seq (.reg [.q 3 (.mv (.i 0))]) (.block 0 (.loop (.seq (.seq (.reg [.v 25 3,.q 26 (.fa 1 (.t 1)),.l 27 (.ld1 (.t 26)),.q 28 (.lnL (.t 27)),.q 29 (.bin .lss true (.t 25) (.t 28))]) (.cond (.t 29) .skip (.exit 0))) (.seq (.block 1 (.seq (.reg [.q 32 (.fa 1 (.t 1)),.l 33 (.ld1 (.t 32)),.v 34 3,.l 35 (.ia 3 (.t 33) (.t 34)),.q 36 (.fa 1 (.t 35)),.l 37 (.ld1 (.t 36)),.q 38 (.lnL (.t 37)),.q 39 (.bin .gtr true (.t 38) (.i 16))]) (.cond (.t 39) (.seq (.reg [.q 2 (.mv (.k (.bool true)))]) .ret) .skip))) (.reg [.v 30 3,.q 31 (.bin .add true (.t 30) (.i 1)),.v 3 31])))))) (.seq (.seq (.reg [.q 4 (.mv (.i 0))]) (.block 2 (.loop (.seq (.seq (.reg [.v 40 4,.q 41 (.fa 2 (.t 1)),.l 42 (.ld1 (.t 41)),.q 43 (.lnL (.t 42)),.q 44 (.bin .lss true (.t 40) (.t 43))]) (.cond (.t 44) .skip (.exit 2))) (.seq (.block 3 (.seq (.reg [.q 47 (.fa 2 (.t 1)),.l 48 (.ld1 (.t 47)),.v 49 4,.l 50 (.ia 2 (.t 48) (.t 49)),.q 51 (.fa 1 (.t 50)),.l 52 (.ld1 (.t 51)),.q 53 (.lnL (.t 52)),.q 54 (.bin .gtr true (.t 53) (.i 16))]) (.cond (.t 54) (.seq (.reg [.q 2 (.mv (.k (.bool true)))]) .ret) .skip))) (.reg [.v 45 4,.q 46 (.bin .add true (.t 45) (.i 1)),.v 4 46])))))) (.seq (.reg [.q 2 (.mv (.k (.bool false)))]) .ret))))
def H0:List RV:=[.mv (.t 2)]
theorem aM5:aM Tryz.prog true ⟨fun _ _=>.own [],fun _=>false⟩ Tryz.f46=some (J2,H0):=by kernel_rfl
def aGI:PC:=.seq (.reg [.e 2 (.bx 25 (.t 0)),.q 4 (.mv (.i 0))]) (.seq (.reg [.q 8 (.fa 1 (.t 2)),.l 9 (.ld1 (.t 8)),.v 10 1,.l 11 (.ia 3 (.t 9) (.t 10)),.l 12 (.ldn 3 (.t 11)),.e 5 (.al (.agg #[(.string (mk [])),(.slice none 0 0),(.slice none 0 0)]) 92),.s (.st 3 (.t 5) (.t 12))]) (.seq (.seq (.reg [.q 13 (.fa 0 (.t 5)),.l 14 (.ld1 (.t 13)),.a 15 (.cq 85 [(.t 14)]),.q 16 (.not (.t 15))]) (.cond (.t 16) (.seq (.reg [.q 4 (.mv (.i 5))]) .ret) .skip)) (.seq (.seq (.reg [.q 6 (.mv (.i 0))]) (.block 0 (.loop (.seq (.seq (.reg [.v 17 6,.v 18 1,.q 19 (.bin .lss true (.t 17) (.t 18))]) (.cond (.t 19) .skip (.exit 0))) (.seq (.block 1 (.seq (.reg [.q 22 (.fa 1 (.t 2)),.l 23 (.ld1 (.t 22)),.v 24 6,.l 25 (.ia 3 (.t 23) (.t 24)),.q 26 (.fa 0 (.t 25)),.l 27 (.ld1 (.t 26)),.q 28 (.fa 0 (.t 5)),.l 29 (.ld1 (.t 28)),.q 30 (.bin .eql true (.t 27) (.t 29))]) (.cond (.t 30) (.seq (.reg [.q 4 (.mv (.i 7))]) .ret) .skip))) (.reg [.v 20 6,.q 21 (.bin .add true (.t 20) (.i 1)),.v 6 21])))))) (.seq (.seq (.reg [.q 31 (.fa 1 (.t 5)),.l 32 (.ld1 (.t 31)),.q 33 (.lnL (.t 32)),.q 34 (.bin .eql true (.t 33) (.i 0)),.v 35 34,⟨some 36,(some (35,false)),.q (.fa 2 (.t 5))⟩,⟨some 37,(some (35,false)),.l (.ld1 (.t 36))⟩,⟨some 38,(some (35,false)),.q (.lnL (.t 37))⟩,⟨some 39,(some (35,false)),.q (.fa 1 (.t 5))⟩,⟨some 40,(some (35,false)),.l (.ld1 (.t 39))⟩,⟨some 41,(some (35,false)),.q (.lnL (.t 40))⟩,⟨some 42,(some (35,false)),.q (.bin .neq true (.t 38) (.t 41))⟩,.a 43 (.pick (.t 35) (.k (.bool true)) (.t 42))]) (.cond (.t 43) (.seq (.reg [.q 4 (.mv (.i 2))]) .ret) .skip)) (.seq (.seq (.reg [.q 7 (.mv (.i 0))]) (.block 2 (.loop (.seq (.seq (.reg [.v 44 7,.q 45 (.fa 1 (.t 5)),.l 46 (.ld1 (.t 45)),.q 47 (.lnL (.t 46)),.q 48 (.bin .lss true (.t 44) (.t 47))]) (.cond (.t 48) .skip (.exit 2))) (.seq (.block 3 (.seq (.seq (.reg [.q 51 (.fa 1 (.t 5)),.l 52 (.ld1 (.t 51)),.v 53 7,.l 54 (.ia 1 (.t 52) (.t 53)),.l 55 (.ld1 (.t 54)),.a 56 (.cq 86 [(.t 55)]),.q 57 (.not (.t 56))]) (.cond (.t 57) (.seq (.reg [.q 4 (.mv (.i 5))]) .ret) .skip)) (.seq (.seq (.reg [.q 58 (.fa 1 (.t 5)),.l 59 (.ld1 (.t 58)),.v 60 7,.q 61 (.fa 1 (.t 5)),.l 62 (.ld1 (.t 61)),.v 63 7,.l 64 (.ia 1 (.t 62) (.t 63)),.l 65 (.ld1 (.t 64)),.a 66 (.cq 50 [(.t 59),(.t 60),(.t 65)])]) (.cond (.t 66) (.seq (.reg [.q 4 (.mv (.i 7))]) .ret) .skip)) (.seq (.seq (.reg [.q 67 (.fa 2 (.t 5)),.l 68 (.ld1 (.t 67)),.v 69 7,.l 70 (.ia 1 (.t 68) (.t 69)),.l 71 (.ld1 (.t 70)),.q 72 (.bin .lss true (.t 71) (.i 0)),.v 73 72,⟨some 74,(some (73,false)),.q (.fa 2 (.t 5))⟩,⟨some 75,(some (73,false)),.l (.ld1 (.t 74))⟩,⟨some 76,(some (73,false)),.q (.mv (.t 7))⟩,⟨some 77,(some (73,false)),.l (.ia 1 (.t 75) (.t 76))⟩,⟨some 78,(some (73,false)),.l (.ld1 (.t 77))⟩,⟨some 79,(some (73,false)),.q (.bin .gtr true (.t 78) (.i 127))⟩,.a 80 (.pick (.t 73) (.k (.bool true)) (.t 79))]) (.cond (.t 80) (.seq (.reg [.q 4 (.mv (.i 4))]) .ret) .skip)) (.seq (.reg [.v 81 7,.q 82 (.bin .eql true (.t 81) (.i 0)),.v 83 82,⟨some 84,(some (83,true)),.q (.fa 2 (.t 5))⟩,⟨some 85,(some (83,true)),.l (.ld1 (.t 84))⟩,⟨some 86,(some (83,true)),.q (.mv (.t 7))⟩,⟨some 87,(some (83,true)),.l (.ia 1 (.t 85) (.t 86))⟩,⟨some 88,(some (83,true)),.l (.ld1 (.t 87))⟩,⟨some 89,(some (83,true)),.q (.bin .neq true (.t 88) (.i 0))⟩,.a 90 (.pick (.t 83) (.t 89) (.k (.bool false))),.v 91 90,⟨some 92,(some (91,false)),.q (.mv (.t 7))⟩,⟨some 93,(some (91,false)),.q (.bin .gtr true (.t 92) (.i 0))⟩,⟨some 94,(some (91,false)),.q (.mv (.t 93))⟩,⟨some 95,(some (94,true)),.q (.fa 2 (.t 5))⟩,⟨some 96,(some (94,true)),.l (.ld1 (.t 95))⟩,⟨some 97,(some (94,true)),.q (.mv (.t 7))⟩,⟨some 98,(some (94,true)),.l (.ia 1 (.t 96) (.t 97))⟩,⟨some 99,(some (94,true)),.l (.ld1 (.t 98))⟩,⟨some 100,(some (94,true)),.q (.fa 2 (.t 5))⟩,⟨some 101,(some (94,true)),.l (.ld1 (.t 100))⟩,⟨some 102,(some (94,true)),.q (.mv (.t 7))⟩,⟨some 103,(some (94,true)),.q (.bin .sub true (.t 102) (.i 1))⟩,⟨some 104,(some (94,true)),.l (.ia 1 (.t 101) (.t 103))⟩,⟨some 105,(some (94,true)),.l (.ld1 (.t 104))⟩,⟨some 106,(some (94,true)),.q (.bin .leq true (.t 99) (.t 105))⟩,⟨some 107,(some (91,false)),.pick (.t 94) (.t 106) (.k (.bool false))⟩,.a 108 (.pick (.t 91) (.k (.bool true)) (.t 107))]) (.cond (.t 108) (.seq (.reg [.q 4 (.mv (.i 2))]) .ret) .skip)))))) (.reg [.v 49 7,.q 50 (.bin .add true (.t 49) (.i 1)),.v 7 50])))))) (.seq (.reg [.q 4 (.mv (.i 0))]) .ret))))))
def aIF:List RV:=[.mv (.t 4)]
theorem aNQ:aM Tryz.prog true ⟨fun r k=>if r=2/\k=2 then .q else if r=14/\k=5 then .q else if r=16/\k=8 then .q else .own [],fun _=>false⟩ Tryz.f47=some (aGI,aIF):=by kernel_rfl
def aE0:PC:=.seq (.reg [.e 2 (.bx 25 (.t 0)),.q 4 (.mv (.i 0))]) (.seq (.reg [.q 12 (.fa 2 (.t 2)),.l 13 (.ld1 (.t 12)),.v 14 1,.l 15 (.ia 2 (.t 13) (.t 14)),.l 16 (.ldn 2 (.t 15)),.e 5 (.al (.agg #[(.string (mk [])),(.slice none 0 0)]) 95),.s (.st 2 (.t 5) (.t 16))]) (.seq (.seq (.reg [.q 17 (.fa 0 (.t 5)),.l 18 (.ld1 (.t 17)),.a 19 (.cq 85 [(.t 18)]),.q 20 (.not (.t 19))]) (.cond (.t 20) (.seq (.reg [.q 4 (.mv (.i 5))]) .ret) .skip)) (.seq (.seq (.reg [.l 22 (.ldn 3 (.t 2)),.q 23 (.fa 0 (.t 5)),.l 24 (.ld1 (.t 23)),.a 25 (.cl 76 [(.t 22),(.t 24)] []),.v 21 25,.q 26 (.ex (.t 21) 0),.q 27 (.ex (.t 21) 1),.e 6 (.al (.agg #[(.string (mk [])),(.slice none 0 0),(.slice none 0 0)]) 92),.s (.st 3 (.t 6) (.t 26)),.v 7 27]) (.seq (.reg [.v 28 7]) (.cond (.t 28) (.seq (.reg [.q 4 (.mv (.i 7))]) .ret) .skip))) (.seq (.seq (.reg [.q 8 (.mv (.i 0))]) (.block 0 (.loop (.seq (.seq (.reg [.v 29 8,.v 30 1,.q 31 (.bin .lss true (.t 29) (.t 30))]) (.cond (.t 31) .skip (.exit 0))) (.seq (.block 1 (.seq (.reg [.q 34 (.fa 2 (.t 2)),.l 35 (.ld1 (.t 34)),.v 36 8,.l 37 (.ia 2 (.t 35) (.t 36)),.q 38 (.fa 0 (.t 37)),.l 39 (.ld1 (.t 38)),.q 40 (.fa 0 (.t 5)),.l 41 (.ld1 (.t 40)),.q 42 (.bin .eql true (.t 39) (.t 41))]) (.cond (.t 42) (.seq (.reg [.q 4 (.mv (.i 7))]) .ret) .skip))) (.reg [.v 32 8,.q 33 (.bin .add true (.t 32) (.i 1)),.v 8 33])))))) (.seq (.seq (.reg [.q 9 (.mv (.i 0))]) (.block 2 (.loop (.seq (.seq (.reg [.v 43 9,.q 44 (.fa 1 (.t 5)),.l 45 (.ld1 (.t 44)),.q 46 (.lnL (.t 45)),.q 47 (.bin .lss true (.t 43) (.t 46))]) (.cond (.t 47) .skip (.exit 2))) (.seq (.block 3 (.seq (.reg [.q 50 (.fa 1 (.t 5)),.l 51 (.ld1 (.t 50)),.v 52 9,.l 53 (.ia 7 (.t 51) (.t 52)),.l 54 (.ldn 7 (.t 53)),.e 10 (.al (.agg #[(.int .i64 0),(.string (mk [])),(.int .i64 0),(.int .i64 0),(.string (mk [])),(.slice none 0 0),(.bool false)]) 97),.s (.st 7 (.t 10) (.t 54))]) (.seq (.seq (.reg [.q 55 (.fa 0 (.t 10)),.l 56 (.ld1 (.t 55)),.q 57 (.bin .lss true (.t 56) (.i 1)),.v 58 57,⟨some 59,(some (58,false)),.q (.fa 0 (.t 10))⟩,⟨some 60,(some (58,false)),.l (.ld1 (.t 59))⟩,⟨some 61,(some (58,false)),.q (.bin .gtr true (.t 60) (.i 127))⟩,.a 62 (.pick (.t 58) (.k (.bool true)) (.t 61))]) (.cond (.t 62) (.seq (.reg [.q 4 (.mv (.i 4))]) .ret) .skip)) (.seq (.seq (.reg [.v 63 9,.q 64 (.bin .gtr true (.t 63) (.i 0)),.v 65 64,⟨some 66,(some (65,true)),.q (.fa 0 (.t 10))⟩,⟨some 67,(some (65,true)),.l (.ld1 (.t 66))⟩,⟨some 68,(some (65,true)),.q (.fa 1 (.t 5))⟩,⟨some 69,(some (65,true)),.l (.ld1 (.t 68))⟩,⟨some 70,(some (65,true)),.q (.mv (.t 9))⟩,⟨some 71,(some (65,true)),.q (.bin .sub true (.t 70) (.i 1))⟩,⟨some 72,(some (65,true)),.l (.ia 7 (.t 69) (.t 71))⟩,⟨some 73,(some (65,true)),.q (.fa 0 (.t 72))⟩,⟨some 74,(some (65,true)),.l (.ld1 (.t 73))⟩,⟨some 75,(some (65,true)),.q (.bin .leq true (.t 67) (.t 74))⟩,.a 76 (.pick (.t 65) (.t 75) (.k (.bool false)))]) (.cond (.t 76) (.seq (.reg [.q 4 (.mv (.i 2))]) .ret) .skip)) (.seq (.seq (.reg [.q 77 (.fa 1 (.t 10)),.l 78 (.ld1 (.t 77)),.a 79 (.cq 86 [(.t 78)]),.q 80 (.not (.t 79))]) (.cond (.t 80) (.seq (.reg [.q 4 (.mv (.i 5))]) .ret) .skip)) (.seq (.seq (.reg [.q 11 (.mv (.i 0))]) (.block 4 (.loop (.seq (.seq (.reg [.v 81 11,.v 82 9,.q 83 (.bin .lss true (.t 81) (.t 82))]) (.cond (.t 83) .skip (.exit 4))) (.seq (.block 5 (.seq (.reg [.q 86 (.fa 1 (.t 5)),.l 87 (.ld1 (.t 86)),.v 88 11,.l 89 (.ia 7 (.t 87) (.t 88)),.q 90 (.fa 1 (.t 89)),.l 91 (.ld1 (.t 90)),.q 92 (.fa 1 (.t 10)),.l 93 (.ld1 (.t 92)),.q 94 (.bin .eql true (.t 91) (.t 93))]) (.cond (.t 94) (.seq (.reg [.q 4 (.mv (.i 7))]) .ret) .skip))) (.reg [.v 84 11,.q 85 (.bin .add true (.t 84) (.i 1)),.v 11 85])))))) (.seq (.reg [.l 95 (.ldn 3 (.t 2)),.q 96 (.fa 2 (.t 10)),.l 97 (.ldn 4 (.t 96)),.a 98 (.cq 73 [(.t 95),(.t 97)]),.q 99 (.not (.t 98))]) (.cond (.t 99) (.seq (.reg [.q 4 (.mv (.i 13))]) .ret) .skip)))))))) (.reg [.v 48 9,.q 49 (.bin .add true (.t 48) (.i 1)),.v 9 49])))))) (.seq (.reg [.q 4 (.mv (.i 0))]) .ret))))))
def aIT:List RV:=[.mv (.t 4)]
theorem aRQ:aM Tryz.prog true ⟨fun r k=>if r=2/\k=2 then .q else if r=20/\k=2 then .q else if r=27/\k=3 then .q else .own [],fun _=>false⟩ Tryz.f48=some (aE0,aIT):=by kernel_rfl
def aFI:PC:=.seq (.reg [.e 2 (.bx 25 (.t 0)),.q 4 (.mv (.k (.slice none 0 0)))]) (.seq (.reg [.q 5 (.mv (.k (.slice none 0 0)))]) (.seq (.reg [.v 13 1,.e 14 (.bsl 9 1 [(.t 13)]),.v 6 14]) (.seq (.seq (.reg [.q 7 (.mv (.i 0))]) (.block 0 (.loop (.seq (.seq (.reg [.v 15 7,.v 16 6,.q 17 (.lnL (.t 16)),.q 18 (.bin .lss true (.t 15) (.t 17))]) (.cond (.t 18) .skip (.exit 0))) (.seq (.block 1 (.seq (.ord  [.q (.l 22 (.ldn 3 (.t 2))),.q (.v 23 6),.q (.v 24 7),.q (.l 25 (.ia 1 (.t 23) (.t 24))),.q (.l 26 (.ld1 (.t 25))),.m (.a 27 (.cl 69 [(.t 22),(.t 26)] [])),.q (.v 21 27),.q (.q 28 (.ex (.t 21) 0)),.q (.q 29 (.ex (.t 21) 1)),.m (.e 8 (.al (.agg #[(.string (mk [])),(.slice none 0 0)]) 95)),.rc (.v 21 27),.rc (.q 28 (.ex (.t 21) 0)),.rc (.q 29 (.ex (.t 21) 1)),.m (.s (.st 2 (.t 8) (.t 28))),.rc (.q 29 (.ex (.t 21) 1)),.m (.v 9 29)]) (.seq (.reg [.q 10 (.mv (.i 0))]) (.block 2 (.loop (.seq (.seq (.reg [.v 30 10,.q 31 (.fa 1 (.t 8)),.l 32 (.ld1 (.t 31)),.q 33 (.lnL (.t 32)),.q 34 (.bin .lss true (.t 30) (.t 33))]) (.cond (.t 34) .skip (.exit 2))) (.seq (.block 3 (.seq (.reg [.q 37 (.fa 1 (.t 8)),.l 38 (.ld1 (.t 37)),.v 39 10,.l 40 (.ia 7 (.t 38) (.t 39)),.q 41 (.fa 2 (.t 40)),.l 42 (.ldn 4 (.t 41)),.a 43 (.cl 87 [(.t 42)] []),.v 11 43]) (.seq (.reg [.q 12 (.mv (.i 0))]) (.block 4 (.loop (.seq (.seq (.reg [.v 44 12,.v 45 11,.q 46 (.lnL (.t 45)),.q 47 (.bin .lss true (.t 44) (.t 46))]) (.cond (.t 47) .skip (.exit 4))) (.seq (.block 5 (.seq (.reg [.v 50 5,.v 51 5,.q 52 (.lnL (.t 51)),.v 53 11,.v 54 12,.l 55 (.ia 1 (.t 53) (.t 54)),.l 56 (.ld1 (.t 55)),.a 57 (.cq 50 [(.t 50),(.t 52),(.t 56)]),.q 58 (.not (.t 57))]) (.cond (.t 58) (.seq (.reg [.v 59 5,.v 60 11,.v 61 12,.l 62 (.ia 1 (.t 60) (.t 61)),.l 63 (.ld1 (.t 62)),.a 64 (.cl 88 [(.t 59),(.t 63)] []),.v 5 64]) (.reg [.v 65 6,.v 66 11,.v 67 12,.l 68 (.ia 1 (.t 66) (.t 67)),.l 69 (.ld1 (.t 68)),.e 70 (.bsl 9 1 [(.t 69)]),.e 71 (.ap 9 1 16 (.t 65) (.t 70)),.v 6 71])) .skip))) (.reg [.v 48 12,.q 49 (.bin .add true (.t 48) (.i 1)),.v 12 49])))))))) (.reg [.v 35 10,.q 36 (.bin .add true (.t 35) (.i 1)),.v 10 36])))))))) (.reg [.v 19 7,.q 20 (.bin .add true (.t 19) (.i 1)),.v 7 20])))))) (.seq (.reg [.v 72 5,.v 4 72]) .ret))))
def aHO:List RV:=[.mv (.t 4)]
theorem aNJ:aM Tryz.prog true ⟨fun r k=>if r=14/\k=7 then .q else .own [],fun _=>false⟩ Tryz.f49=some (aFI,aHO):=by kernel_rfl
def aDH:PC:=.seq (.reg [.q 6 (.mv (.k (.bool false)))]) (.seq (.seq (.reg [.q 7 (.mv (.i 0))]) (.block 0 (.loop (.seq (.seq (.reg [.v 8 7,.v 9 1,.q 10 (.bin .lss true (.t 8) (.t 9)),.v 11 10,⟨some 12,(some (11,true)),.q (.mv (.t 7))⟩,⟨some 13,(some (11,true)),.q (.mv (.t 0))⟩,⟨some 14,(some (11,true)),.q (.lnL (.t 13))⟩,⟨some 15,(some (11,true)),.q (.bin .lss true (.t 12) (.t 14))⟩,.a 16 (.pick (.t 11) (.t 15) (.k (.bool false)))]) (.cond (.t 16) .skip (.exit 0))) (.seq (.block 1 (.seq (.reg [.v 19 0,.v 20 7,.l 21 (.ia 1 (.t 19) (.t 20)),.l 22 (.ld1 (.t 21)),.v 23 2,.q 24 (.bin .eql true (.t 22) (.t 23))]) (.cond (.t 24) (.seq (.reg [.q 6 (.mv (.k (.bool true)))]) .ret) .skip))) (.reg [.v 17 7,.q 18 (.bin .add true (.t 17) (.i 1)),.v 7 18])))))) (.seq (.reg [.q 6 (.mv (.k (.bool false)))]) .ret))
def aGO:List RV:=[.mv (.t 6)]
theorem aRZ:aM Tryz.prog true ⟨fun _ _=>.own [],fun _=>false⟩ Tryz.f50=some (aDH,aGO):=by kernel_rfl
def aDW:PC:=.seq (.reg [.e 1 (.bx 25 (.t 0)),.q 2 (.mv (.k (.slice none 0 0)))]) (.seq (.reg [.q 8 (.fa 2 (.t 1)),.l 9 (.ld1 (.t 8)),.q 10 (.lnL (.t 9)),.e 11 (.mk 3 1 8 [(.int .i64 0)] (.t 10) (.t 10)),.v 3 11]) (.seq (.seq (.reg [.q 4 (.mv (.i 0))]) (.block 0 (.loop (.seq (.seq (.reg [.v 12 4,.q 13 (.fa 2 (.t 1)),.l 14 (.ld1 (.t 13)),.q 15 (.lnL (.t 14)),.q 16 (.bin .leq true (.t 12) (.t 15))]) (.cond (.t 16) .skip (.exit 0))) (.seq (.block 1 (.seq (.reg [.q 5 (.mv (.i 0))]) (.block 2 (.loop (.seq (.seq (.reg [.v 19 5,.q 20 (.fa 2 (.t 1)),.l 21 (.ld1 (.t 20)),.q 22 (.lnL (.t 21)),.q 23 (.bin .lss true (.t 19) (.t 22))]) (.cond (.t 23) .skip (.exit 2))) (.seq (.block 3 (.seq (.reg [.q 6 (.mv (.i 0))]) (.seq (.seq (.reg [.q 7 (.mv (.i 0))]) (.block 4 (.loop (.seq (.seq (.reg [.v 26 7,.q 27 (.fa 2 (.t 1)),.l 28 (.ld1 (.t 27)),.v 29 5,.l 30 (.ia 2 (.t 28) (.t 29)),.q 31 (.fa 1 (.t 30)),.l 32 (.ld1 (.t 31)),.q 33 (.lnL (.t 32)),.q 34 (.bin .lss true (.t 26) (.t 33))]) (.cond (.t 34) .skip (.exit 4))) (.seq (.block 5 (.reg [.v 37 6,.l 38 (.ldn 3 (.t 1)),.v 39 3,.q 40 (.fa 2 (.t 1)),.l 41 (.ld1 (.t 40)),.v 42 5,.l 43 (.ia 2 (.t 41) (.t 42)),.q 44 (.fa 1 (.t 43)),.l 45 (.ld1 (.t 44)),.v 46 7,.l 47 (.ia 7 (.t 45) (.t 46)),.q 48 (.fa 2 (.t 47)),.l 49 (.ldn 4 (.t 48)),.a 50 (.cq 89 [(.t 38),(.t 39),(.t 49)]),.q 51 (.mx true (.t 37) (.t 50)),.v 6 51])) (.reg [.v 35 7,.q 36 (.bin .add true (.t 35) (.i 1)),.v 7 36])))))) (.reg [.v 52 3,.v 53 5,.v 54 6,.q 55 (.bin .add true (.i 1) (.t 54)),.l 56 (.ia 1 (.t 52) (.t 53)),.s (.st 1 (.t 56) (.t 55))])))) (.reg [.v 24 5,.q 25 (.bin .add true (.t 24) (.i 1)),.v 5 25]))))))) (.reg [.v 17 4,.q 18 (.bin .add true (.t 17) (.i 1)),.v 4 18])))))) (.seq (.reg [.v 57 3,.v 2 57]) .ret)))
def aC4:List RV:=[.mv (.t 2)]
theorem aO7:aM Tryz.prog true ⟨fun r k=>if r=12/\k=13 then .q else .own [],fun _=>false⟩ Tryz.f51=some (aDW,aC4):=by kernel_rfl
def aGR:PC:=.seq (.reg [.e 2 (.bx 25 (.t 0)),.e 4 (.al (.agg #[(.string (mk [])),(.slice none 0 0)]) 95),.q 5 (.mv (.k (.bool false)))]) (.seq (.seq (.reg [.q 6 (.mv (.i 0))]) (.block 0 (.loop (.seq (.seq (.reg [.v 7 6,.q 8 (.fa 2 (.t 2)),.l 9 (.ld1 (.t 8)),.q 10 (.lnL (.t 9)),.q 11 (.bin .lss true (.t 7) (.t 10))]) (.cond (.t 11) .skip (.exit 0))) (.seq (.block 1 (.seq (.reg [.q 14 (.fa 2 (.t 2)),.l 15 (.ld1 (.t 14)),.v 16 6,.l 17 (.ia 2 (.t 15) (.t 16)),.q 18 (.fa 0 (.t 17)),.l 19 (.ld1 (.t 18)),.v 20 1,.q 21 (.bin .eql true (.t 19) (.t 20))]) (.cond (.t 21) (.seq (.reg [.q 22 (.fa 2 (.t 2)),.l 23 (.ld1 (.t 22)),.v 24 6,.l 25 (.ia 2 (.t 23) (.t 24)),.l 26 (.ldn 2 (.t 25)),.s (.st 2 (.t 4) (.t 26)),.q 5 (.mv (.k (.bool true)))]) .ret) .skip))) (.reg [.v 12 6,.q 13 (.bin .add true (.t 12) (.i 1)),.v 6 13])))))) (.seq (.reg [.q 27 (.bd [(.string (mk [])),(.slice none 0 0)] []),.s (.st 2 (.t 4) (.t 27)),.q 5 (.mv (.k (.bool false)))]) .ret))
def aC1:List RV:=[.ld (.ldn 2 (.t 4)),.mv (.t 5)]
theorem aQL:aM Tryz.prog true ⟨fun _ _=>.own [],fun _=>false⟩ Tryz.f69=some (aGR,aC1):=by kernel_rfl
def pV:PC:=.seq (.reg [.e 2 (.bx 25 (.t 0)),.e 3 (.bx 28 (.t 1)),.q 4 (.mv (.k (.bool false)))]) (.seq (.seq (.reg [.q 9 (.fa 0 (.t 3)),.l 10 (.ld1 (.t 9))]) (.block 0 (.seq (.reg [.q 12 (.bin .eql true (.t 10) (.i 1)),.v 11 12]) (.cond (.t 11) (.seq (.reg [.q 13 (.fa 1 (.t 3)),.l 14 (.ld1 (.t 13)),.q 15 (.bin .eql true (.t 14) (.i 0)),.v 16 15,⟨some 17,(some (16,true)),.q (.fa 2 (.t 3))⟩,⟨some 18,(some (16,true)),.l (.ld1 (.t 17))⟩,⟨some 19,(some (16,true)),.q (.bin .eql true (.t 18) (.k (.string (mk []))))⟩,.a 20 (.pick (.t 16) (.t 19) (.k (.bool false))),.v 21 20,⟨some 22,(some (21,true)),.l (.ldn 4 (.t 3))⟩,⟨some 23,(some (21,true)),.cq 116 [(.t 22)]⟩,.a 24 (.pick (.t 21) (.t 23) (.k (.bool false))),.v 4 24]) .ret) (.seq (.reg [.q 26 (.bin .eql true (.t 10) (.i 2)),.v 25 26]) (.cond (.t 25) (.seq (.reg [.q 27 (.fa 1 (.t 3)),.l 28 (.ld1 (.t 27)),.q 29 (.bin .eql true (.t 28) (.i 8)),.v 30 29,⟨some 31,(some (30,false)),.q (.fa 1 (.t 3))⟩,⟨some 32,(some (30,false)),.l (.ld1 (.t 31))⟩,⟨some 33,(some (30,false)),.q (.bin .eql true (.t 32) (.i 16))⟩,.a 34 (.pick (.t 30) (.k (.bool true)) (.t 33)),.v 35 34,⟨some 36,(some (35,false)),.q (.fa 1 (.t 3))⟩,⟨some 37,(some (35,false)),.l (.ld1 (.t 36))⟩,⟨some 38,(some (35,false)),.q (.bin .eql true (.t 37) (.i 32))⟩,.a 39 (.pick (.t 35) (.k (.bool true)) (.t 38)),.v 40 39,⟨some 41,(some (40,false)),.q (.fa 1 (.t 3))⟩,⟨some 42,(some (40,false)),.l (.ld1 (.t 41))⟩,⟨some 43,(some (40,false)),.q (.bin .eql true (.t 42) (.i 64))⟩,.a 44 (.pick (.t 40) (.k (.bool true)) (.t 43)),.v 45 44,⟨some 46,(some (45,true)),.q (.fa 2 (.t 3))⟩,⟨some 47,(some (45,true)),.l (.ld1 (.t 46))⟩,⟨some 48,(some (45,true)),.q (.bin .eql true (.t 47) (.k (.string (mk []))))⟩,.a 49 (.pick (.t 45) (.t 48) (.k (.bool false))),.v 50 49,⟨some 51,(some (50,true)),.l (.ldn 4 (.t 3))⟩,⟨some 52,(some (50,true)),.cq 116 [(.t 51)]⟩,.a 53 (.pick (.t 50) (.t 52) (.k (.bool false))),.v 4 53]) .ret) (.seq (.reg [.q 55 (.bin .eql true (.t 10) (.i 3)),.v 54 55]) (.cond (.t 54) (.seq (.reg [.q 56 (.fa 1 (.t 3)),.l 57 (.ld1 (.t 56)),.q 58 (.bin .eql true (.t 57) (.i 8)),.v 59 58,⟨some 60,(some (59,false)),.q (.fa 1 (.t 3))⟩,⟨some 61,(some (59,false)),.l (.ld1 (.t 60))⟩,⟨some 62,(some (59,false)),.q (.bin .eql true (.t 61) (.i 16))⟩,.a 63 (.pick (.t 59) (.k (.bool true)) (.t 62)),.v 64 63,⟨some 65,(some (64,false)),.q (.fa 1 (.t 3))⟩,⟨some 66,(some (64,false)),.l (.ld1 (.t 65))⟩,⟨some 67,(some (64,false)),.q (.bin .eql true (.t 66) (.i 32))⟩,.a 68 (.pick (.t 64) (.k (.bool true)) (.t 67)),.v 69 68,⟨some 70,(some (69,true)),.q (.fa 2 (.t 3))⟩,⟨some 71,(some (69,true)),.l (.ld1 (.t 70))⟩,⟨some 72,(some (69,true)),.q (.bin .eql true (.t 71) (.k (.string (mk []))))⟩,.a 73 (.pick (.t 69) (.t 72) (.k (.bool false))),.v 74 73,⟨some 75,(some (74,true)),.l (.ldn 4 (.t 3))⟩,⟨some 76,(some (74,true)),.cq 116 [(.t 75)]⟩,.a 77 (.pick (.t 74) (.t 76) (.k (.bool false))),.v 4 77]) .ret) (.seq (.reg [.q 79 (.bin .eql true (.t 10) (.i 4)),.v 78 79]) (.cond (.t 78) (.seq (.reg [.q 80 (.fa 1 (.t 3)),.l 81 (.ld1 (.t 80)),.q 82 (.bin .geq true (.t 81) (.i 1)),.v 83 82,⟨some 84,(some (83,true)),.q (.fa 1 (.t 3))⟩,⟨some 85,(some (83,true)),.l (.ld1 (.t 84))⟩,⟨some 86,(some (83,true)),.q (.bin .leq true (.t 85) (.i 2000))⟩,.a 87 (.pick (.t 83) (.t 86) (.k (.bool false))),.v 88 87,⟨some 89,(some (88,true)),.q (.fa 2 (.t 3))⟩,⟨some 90,(some (88,true)),.l (.ld1 (.t 89))⟩,⟨some 91,(some (88,true)),.q (.bin .eql true (.t 90) (.k (.string (mk []))))⟩,.a 92 (.pick (.t 88) (.t 91) (.k (.bool false))),.v 93 92,⟨some 94,(some (93,true)),.l (.ldn 4 (.t 3))⟩,⟨some 95,(some (93,true)),.cq 116 [(.t 94)]⟩,.a 96 (.pick (.t 93) (.t 95) (.k (.bool false))),.v 4 96]) .ret) (.seq (.reg [.q 98 (.bin .eql true (.t 10) (.i 5)),.v 97 98]) (.cond (.t 97) (.seq (.reg [.q 99 (.fa 1 (.t 3)),.l 100 (.ld1 (.t 99)),.q 101 (.bin .geq true (.t 100) (.i 1)),.v 102 101,⟨some 103,(some (102,true)),.q (.fa 1 (.t 3))⟩,⟨some 104,(some (102,true)),.l (.ld1 (.t 103))⟩,⟨some 105,(some (102,true)),.q (.bin .leq true (.t 104) (.i 32))⟩,.a 106 (.pick (.t 102) (.t 105) (.k (.bool false))),.v 107 106,⟨some 108,(some (107,true)),.q (.fa 2 (.t 3))⟩,⟨some 109,(some (107,true)),.l (.ld1 (.t 108))⟩,⟨some 110,(some (107,true)),.q (.bin .eql true (.t 109) (.k (.string (mk []))))⟩,.a 111 (.pick (.t 107) (.t 110) (.k (.bool false))),.v 112 111,⟨some 113,(some (112,true)),.q (.fa 3 (.t 3))⟩,⟨some 114,(some (112,true)),.l (.ld1 (.t 113))⟩,⟨some 115,(some (112,true)),.q (.lnL (.t 114))⟩,⟨some 116,(some (112,true)),.q (.bin .eql true (.t 115) (.i 1))⟩,.a 117 (.pick (.t 112) (.t 116) (.k (.bool false))),.v 118 117,⟨some 119,(some (118,true)),.l (.ldn 3 (.t 2))⟩,⟨some 120,(some (118,true)),.q (.fa 3 (.t 3))⟩,⟨some 121,(some (118,true)),.l (.ld1 (.t 120))⟩,⟨some 122,(some (118,true)),.l (.ia 4 (.t 121) (.i 0))⟩,⟨some 123,(some (118,true)),.l (.ldn 4 (.t 122))⟩,⟨some 124,(some (118,true)),.cq 73 [(.t 119),(.t 123)]⟩,.a 125 (.pick (.t 118) (.t 124) (.k (.bool false))),.v 4 125]) .ret) (.seq (.reg [.q 127 (.bin .eql true (.t 10) (.i 6)),.v 126 127]) (.cond (.t 126) (.seq (.reg [.l 129 (.ldn 3 (.t 2)),.q 130 (.fa 2 (.t 3)),.l 131 (.ld1 (.t 130)),.a 132 (.cl 69 [(.t 129),(.t 131)] []),.v 128 132,.q 133 (.ex (.t 128) 0),.q 134 (.ex (.t 128) 1),.e 5 (.al (.agg #[(.string (mk [])),(.slice none 0 0)]) 95),.s (.st 2 (.t 5) (.t 133)),.v 6 134]) (.seq (.reg [.v 135 6,.v 136 135,⟨some 137,(some (136,true)),.q (.fa 1 (.t 3))⟩,⟨some 138,(some (136,true)),.l (.ld1 (.t 137))⟩,⟨some 139,(some (136,true)),.q (.bin .eql true (.t 138) (.i 0))⟩,.a 140 (.pick (.t 136) (.t 139) (.k (.bool false))),.v 141 140,⟨some 142,(some (141,true)),.l (.ldn 4 (.t 3))⟩,⟨some 143,(some (141,true)),.cq 116 [(.t 142)]⟩,.a 144 (.pick (.t 141) (.t 143) (.k (.bool false))),.v 4 144]) .ret)) (.seq (.reg [.q 146 (.bin .eql true (.t 10) (.i 7)),.v 145 146]) (.cond (.t 145) (.seq (.reg [.l 148 (.ldn 3 (.t 2)),.q 149 (.fa 2 (.t 3)),.l 150 (.ld1 (.t 149)),.a 151 (.cl 76 [(.t 148),(.t 150)] []),.v 147 151,.q 152 (.ex (.t 147) 0),.q 153 (.ex (.t 147) 1),.e 7 (.al (.agg #[(.string (mk [])),(.slice none 0 0),(.slice none 0 0)]) 92),.s (.st 3 (.t 7) (.t 152)),.v 8 153]) (.seq (.reg [.v 154 8,.v 155 154,⟨some 156,(some (155,true)),.q (.fa 1 (.t 3))⟩,⟨some 157,(some (155,true)),.l (.ld1 (.t 156))⟩,⟨some 158,(some (155,true)),.q (.bin .eql true (.t 157) (.i 0))⟩,.a 159 (.pick (.t 155) (.t 158) (.k (.bool false))),.v 160 159,⟨some 161,(some (160,true)),.l (.ldn 4 (.t 3))⟩,⟨some 162,(some (160,true)),.cq 116 [(.t 161)]⟩,.a 163 (.pick (.t 160) (.t 162) (.k (.bool false))),.v 4 163]) .ret)) .skip)))))))))))))))) (.seq (.reg [.q 4 (.mv (.k (.bool false)))]) .ret))
def p6:List RV:=[.mv (.t 4)]
theorem aOW:aM Tryz.prog true ⟨fun r k=>if r=3/\k=10 then .q else if r=5/\k=25 then .q else if r=7/\k=20 then .q else if r=9/\k=15 then .q else if r=11/\k=25 then .q else if r=14/\k=8 then .q else if r=17/\k=8 then .q else .own [],fun _=>false⟩ Tryz.f73=some (pV,p6):=by kernel_rfl
def aG6:PC:=.seq (.reg [.e 2 (.bx 25 (.t 0)),.e 4 (.al (.agg #[(.string (mk [])),(.slice none 0 0),(.slice none 0 0)]) 92),.q 5 (.mv (.k (.bool false)))]) (.seq (.seq (.reg [.q 6 (.mv (.i 0))]) (.block 0 (.loop (.seq (.seq (.reg [.v 7 6,.q 8 (.fa 1 (.t 2)),.l 9 (.ld1 (.t 8)),.q 10 (.lnL (.t 9)),.q 11 (.bin .lss true (.t 7) (.t 10))]) (.cond (.t 11) .skip (.exit 0))) (.seq (.block 1 (.seq (.reg [.q 14 (.fa 1 (.t 2)),.l 15 (.ld1 (.t 14)),.v 16 6,.l 17 (.ia 3 (.t 15) (.t 16)),.q 18 (.fa 0 (.t 17)),.l 19 (.ld1 (.t 18)),.v 20 1,.q 21 (.bin .eql true (.t 19) (.t 20))]) (.cond (.t 21) (.seq (.reg [.q 22 (.fa 1 (.t 2)),.l 23 (.ld1 (.t 22)),.v 24 6,.l 25 (.ia 3 (.t 23) (.t 24)),.l 26 (.ldn 3 (.t 25)),.s (.st 3 (.t 4) (.t 26)),.q 5 (.mv (.k (.bool true)))]) .ret) .skip))) (.reg [.v 12 6,.q 13 (.bin .add true (.t 12) (.i 1)),.v 6 13])))))) (.seq (.reg [.q 27 (.bd [(.string (mk [])),(.slice none 0 0),(.slice none 0 0)] []),.s (.st 3 (.t 4) (.t 27)),.q 5 (.mv (.k (.bool false)))]) .ret))
def aG5:List RV:=[.ld (.ldn 3 (.t 4)),.mv (.t 5)]
theorem aPO:aM Tryz.prog true ⟨fun _ _=>.own [],fun _=>false⟩ Tryz.f76=some (aG6,aG5):=by kernel_rfl
def WP:PC:=.seq (.reg [.q 2 (.mv (.k (.bool false)))]) (.seq (.reg [.v 3 0,.a 4 (.cq 86 [(.t 3)]),.v 5 4,⟨some 6,(some (5,true)),.q (.mv (.t 0))⟩,⟨some 7,(some (5,true)),.ix (.t 6) (.i 0)⟩,⟨some 8,(some (5,true)),.q (.bin .geq true (.t 7) (.k (.int .u8 65)))⟩,.a 9 (.pick (.t 5) (.t 8) (.k (.bool false))),.v 10 9,⟨some 11,(some (10,true)),.q (.mv (.t 0))⟩,⟨some 12,(some (10,true)),.ix (.t 11) (.i 0)⟩,⟨some 13,(some (10,true)),.q (.bin .leq true (.t 12) (.k (.int .u8 90)))⟩,.a 14 (.pick (.t 10) (.t 13) (.k (.bool false))),.v 2 14]) .ret)
def VV:List RV:=[.mv (.t 2)]
theorem aN7:aM Tryz.prog true ⟨fun r k=>if r=1/\k=1 then .q else .own [],fun _=>false⟩ Tryz.f85=some (WP,VV):=by kernel_rfl
def aIR:PC:=.seq (.reg [.q 2 (.mv (.k (.bool false)))]) (.seq (.seq (.reg [.v 6 0,.q 7 (.lnS (.t 6)),.q 8 (.bin .lss true (.t 7) (.i 1)),.v 9 8,⟨some 10,(some (9,false)),.q (.mv (.t 0))⟩,⟨some 11,(some (9,false)),.q (.lnS (.t 10))⟩,⟨some 12,(some (9,false)),.q (.bin .gtr true (.t 11) (.i 16))⟩,.a 13 (.pick (.t 9) (.k (.bool true)) (.t 12))]) (.cond (.t 13) (.seq (.reg [.q 2 (.mv (.k (.bool false)))]) .ret) .skip)) (.seq (.seq (.reg [.q 3 (.mv (.i 0))]) (.block 0 (.loop (.seq (.seq (.reg [.v 14 3,.v 15 0,.q 16 (.lnS (.t 15)),.q 17 (.bin .lss true (.t 14) (.t 16))]) (.cond (.t 17) .skip (.exit 0))) (.seq (.block 1 (.seq (.reg [.v 20 0,.v 21 3,.a 22 (.ix (.t 20) (.t 21)),.q 23 (.bin .geq true (.t 22) (.k (.int .u8 97))),.v 24 23,⟨some 25,(some (24,true)),.q (.mv (.t 0))⟩,⟨some 26,(some (24,true)),.q (.mv (.t 3))⟩,⟨some 27,(some (24,true)),.ix (.t 25) (.t 26)⟩,⟨some 28,(some (24,true)),.q (.bin .leq true (.t 27) (.k (.int .u8 122)))⟩,.a 29 (.pick (.t 24) (.t 28) (.k (.bool false))),.v 30 29,⟨some 31,(some (30,false)),.q (.mv (.t 0))⟩,⟨some 32,(some (30,false)),.q (.mv (.t 3))⟩,⟨some 33,(some (30,false)),.ix (.t 31) (.t 32)⟩,⟨some 34,(some (30,false)),.q (.bin .geq true (.t 33) (.k (.int .u8 65)))⟩,⟨some 35,(some (30,false)),.q (.mv (.t 34))⟩,⟨some 36,(some (35,true)),.q (.mv (.t 0))⟩,⟨some 37,(some (35,true)),.q (.mv (.t 3))⟩,⟨some 38,(some (35,true)),.ix (.t 36) (.t 37)⟩,⟨some 39,(some (35,true)),.q (.bin .leq true (.t 38) (.k (.int .u8 90)))⟩,⟨some 40,(some (30,false)),.pick (.t 35) (.t 39) (.k (.bool false))⟩,.a 41 (.pick (.t 30) (.k (.bool true)) (.t 40)),.v 4 41]) (.seq (.reg [.v 42 0,.v 43 3,.a 44 (.ix (.t 42) (.t 43)),.q 45 (.bin .eql true (.t 44) (.k (.int .u8 95))),.v 46 45,⟨some 47,(some (46,false)),.q (.mv (.t 0))⟩,⟨some 48,(some (46,false)),.q (.mv (.t 3))⟩,⟨some 49,(some (46,false)),.ix (.t 47) (.t 48)⟩,⟨some 50,(some (46,false)),.q (.bin .geq true (.t 49) (.k (.int .u8 48)))⟩,⟨some 51,(some (46,false)),.q (.mv (.t 50))⟩,⟨some 52,(some (51,true)),.q (.mv (.t 0))⟩,⟨some 53,(some (51,true)),.q (.mv (.t 3))⟩,⟨some 54,(some (51,true)),.ix (.t 52) (.t 53)⟩,⟨some 55,(some (51,true)),.q (.bin .leq true (.t 54) (.k (.int .u8 57)))⟩,⟨some 56,(some (46,false)),.pick (.t 51) (.t 55) (.k (.bool false))⟩,.a 57 (.pick (.t 46) (.k (.bool true)) (.t 56)),.v 5 57]) (.seq (.reg [.v 58 4,.q 59 (.not (.t 58)),.v 60 59,⟨some 61,(some (60,true)),.q (.mv (.t 3))⟩,⟨some 62,(some (60,true)),.q (.bin .eql true (.t 61) (.i 0))⟩,⟨some 63,(some (60,true)),.q (.mv (.t 62))⟩,⟨some 64,(some (63,false)),.q (.mv (.t 5))⟩,⟨some 65,(some (63,false)),.q (.not (.t 64))⟩,⟨some 66,(some (60,true)),.pick (.t 63) (.k (.bool true)) (.t 65)⟩,.a 67 (.pick (.t 60) (.t 66) (.k (.bool false)))]) (.cond (.t 67) (.seq (.reg [.q 2 (.mv (.k (.bool false)))]) .ret) .skip))))) (.reg [.v 18 3,.q 19 (.bin .add true (.t 18) (.i 1)),.v 3 19])))))) (.seq (.reg [.q 2 (.mv (.k (.bool true)))]) .ret)))
def aI3:List RV:=[.mv (.t 2)]
theorem aQQ:aM Tryz.prog true ⟨fun _ _=>.own [],fun _=>false⟩ Tryz.f86=some (aIR,aI3):=by kernel_rfl
def aEC:PC:=.seq (.reg [.e 1 (.bx 28 (.t 0)),.q 2 (.mv (.k (.slice none 0 0)))]) (.seq (.seq (.reg [.q 5 (.fa 0 (.t 1)),.l 6 (.ld1 (.t 5)),.q 7 (.bin .eql true (.t 6) (.i 6)),.v 8 7,⟨some 9,(some (8,false)),.q (.fa 0 (.t 1))⟩,⟨some 10,(some (8,false)),.l (.ld1 (.t 9))⟩,⟨some 11,(some (8,false)),.q (.bin .eql true (.t 10) (.i 7))⟩,.a 12 (.pick (.t 8) (.k (.bool true)) (.t 11))]) (.cond (.t 12) (.seq (.reg [.q 13 (.fa 2 (.t 1)),.l 14 (.ld1 (.t 13)),.e 15 (.bsl 9 1 [(.t 14)]),.v 2 15]) .ret) .skip)) (.seq (.reg [.q 3 (.mv (.k (.slice none 0 0)))]) (.seq (.seq (.reg [.q 4 (.mv (.i 0))]) (.block 0 (.loop (.seq (.seq (.reg [.v 16 4,.q 17 (.fa 3 (.t 1)),.l 18 (.ld1 (.t 17)),.q 19 (.lnL (.t 18)),.q 20 (.bin .lss true (.t 16) (.t 19))]) (.cond (.t 20) .skip (.exit 0))) (.seq (.block 1 (.reg [.v 23 3,.q 24 (.fa 3 (.t 1)),.l 25 (.ld1 (.t 24)),.v 26 4,.l 27 (.ia 4 (.t 25) (.t 26)),.l 28 (.ldn 4 (.t 27)),.a 29 (.cl 87 [(.t 28)] []),.e 30 (.ap 9 1 16 (.t 23) (.t 29)),.v 3 30])) (.reg [.v 21 4,.q 22 (.bin .add true (.t 21) (.i 1)),.v 4 22])))))) (.seq (.reg [.v 31 3,.v 2 31]) .ret))))
def aDU:List RV:=[.mv (.t 2)]
theorem aM9:aM Tryz.prog true ⟨fun _ _=>.own [],fun _=>false⟩ Tryz.f87=some (aEC,aDU):=by kernel_rfl
def aH1:PC:=.seq (.reg [.q 4 (.mv (.k (.slice none 0 0)))]) (.seq (.reg [.q 5 (.mv (.k (.slice none 0 0)))]) (.seq (.reg [.q 6 (.mv (.k (.bool false)))]) (.seq (.seq (.reg [.q 7 (.mv (.i 0))]) (.block 0 (.loop (.seq (.seq (.reg [.v 8 7,.v 9 0,.q 10 (.lnL (.t 9)),.q 11 (.bin .lss true (.t 8) (.t 10))]) (.cond (.t 11) .skip (.exit 0))) (.seq (.block 1 (.seq (.seq (.reg [.v 14 6,.q 15 (.not (.t 14)),.v 16 15,⟨some 17,(some (16,true)),.q (.mv (.t 1))⟩,⟨some 18,(some (16,true)),.q (.mv (.t 0))⟩,⟨some 19,(some (16,true)),.q (.mv (.t 7))⟩,⟨some 20,(some (16,true)),.l (.ia 1 (.t 18) (.t 19))⟩,⟨some 21,(some (16,true)),.l (.ld1 (.t 20))⟩,⟨some 22,(some (16,true)),.q (.bin .leq true (.t 17) (.t 21))⟩,.a 23 (.pick (.t 16) (.t 22) (.k (.bool false)))]) (.cond (.t 23) (.seq (.reg [.q 6 (.mv (.k (.bool true)))]) (.seq (.reg [.v 24 1,.v 25 0,.v 26 7,.l 27 (.ia 1 (.t 25) (.t 26)),.l 28 (.ld1 (.t 27)),.q 29 (.bin .lss true (.t 24) (.t 28))]) (.cond (.t 29) (.reg [.v 30 5,.v 31 1,.e 32 (.bsl 9 1 [(.t 31)]),.e 33 (.ap 9 1 16 (.t 30) (.t 32)),.v 5 33]) .skip))) .skip)) (.reg [.v 34 5,.v 35 0,.v 36 7,.l 37 (.ia 1 (.t 35) (.t 36)),.l 38 (.ld1 (.t 37)),.e 39 (.bsl 9 1 [(.t 38)]),.e 40 (.ap 9 1 16 (.t 34) (.t 39)),.v 5 40]))) (.reg [.v 12 7,.q 13 (.bin .add true (.t 12) (.i 1)),.v 7 13])))))) (.seq (.seq (.reg [.v 41 6,.q 42 (.not (.t 41))]) (.cond (.t 42) (.reg [.v 43 5,.v 44 1,.e 45 (.bsl 9 1 [(.t 44)]),.e 46 (.ap 9 1 16 (.t 43) (.t 45)),.v 5 46]) .skip)) (.seq (.reg [.v 47 5,.v 4 47]) .ret)))))
def aDC:List RV:=[.mv (.t 4)]
theorem aOS:aM Tryz.prog true ⟨fun _ _=>.own [],fun _=>false⟩ Tryz.f88=some (aH1,aDC):=by kernel_rfl
def aHN:PC:=.seq (.reg [.e 3 (.bx 25 (.t 0)),.e 5 (.bx 28 (.t 2)),.q 6 (.mv (.i 0))]) (.seq (.seq (.reg [.q 8 (.fa 0 (.t 5)),.l 9 (.ld1 (.t 8)),.q 10 (.bin .eql true (.t 9) (.i 5)),.v 11 10,⟨some 12,(some (11,true)),.q (.fa 3 (.t 5))⟩,⟨some 13,(some (11,true)),.l (.ld1 (.t 12))⟩,⟨some 14,(some (11,true)),.q (.lnL (.t 13))⟩,⟨some 15,(some (11,true)),.q (.bin .gtr true (.t 14) (.i 0))⟩,.a 16 (.pick (.t 11) (.t 15) (.k (.bool false)))]) (.cond (.t 16) (.seq (.reg [.l 17 (.ldn 3 (.t 3)),.v 18 1,.q 19 (.fa 3 (.t 5)),.l 20 (.ld1 (.t 19)),.l 21 (.ia 4 (.t 20) (.i 0)),.l 22 (.ldn 4 (.t 21)),.a 23 (.cq 89 [(.t 17),(.t 18),(.t 22)]),.q 24 (.bin .add true (.i 1) (.t 23)),.v 6 24]) .ret) .skip)) (.seq (.seq (.reg [.q 7 (.mv (.i 0))]) (.block 0 (.loop (.seq (.seq (.reg [.v 25 7,.q 26 (.fa 2 (.t 3)),.l 27 (.ld1 (.t 26)),.q 28 (.lnL (.t 27)),.q 29 (.bin .lss true (.t 25) (.t 28))]) (.cond (.t 29) .skip (.exit 0))) (.seq (.block 1 (.seq (.reg [.q 32 (.fa 0 (.t 5)),.l 33 (.ld1 (.t 32)),.q 34 (.bin .eql true (.t 33) (.i 6)),.v 35 34,⟨some 36,(some (35,true)),.q (.fa 2 (.t 3))⟩,⟨some 37,(some (35,true)),.l (.ld1 (.t 36))⟩,⟨some 38,(some (35,true)),.q (.mv (.t 7))⟩,⟨some 39,(some (35,true)),.l (.ia 2 (.t 37) (.t 38))⟩,⟨some 40,(some (35,true)),.q (.fa 0 (.t 39))⟩,⟨some 41,(some (35,true)),.l (.ld1 (.t 40))⟩,⟨some 42,(some (35,true)),.q (.fa 2 (.t 5))⟩,⟨some 43,(some (35,true)),.l (.ld1 (.t 42))⟩,⟨some 44,(some (35,true)),.q (.bin .eql true (.t 41) (.t 43))⟩,.a 45 (.pick (.t 35) (.t 44) (.k (.bool false)))]) (.cond (.t 45) (.seq (.reg [.v 46 1,.v 47 7,.l 48 (.ia 1 (.t 46) (.t 47)),.l 49 (.ld1 (.t 48)),.v 6 49]) .ret) .skip))) (.reg [.v 30 7,.q 31 (.bin .add true (.t 30) (.i 1)),.v 7 31])))))) (.seq (.reg [.q 6 (.mv (.i 0))]) .ret)))
def aD0:List RV:=[.mv (.t 6)]
theorem aNI:aM Tryz.prog true ⟨fun r k=>if r=2/\k=6 then .q else .own [],fun _=>false⟩ Tryz.f89=some (aHN,aD0):=by kernel_rfl
def YF:PC:=.seq (.reg [.e 1 (.bx 28 (.t 0)),.q 2 (.mv (.k (.bool false)))]) (.seq (.reg [.q 3 (.fa 3 (.t 1)),.l 4 (.ld1 (.t 3)),.q 5 (.lnL (.t 4)),.q 6 (.bin .eql true (.t 5) (.i 0)),.v 2 6]) .ret)
def Y9:List RV:=[.mv (.t 2)]
theorem aJT:aM Tryz.prog true ⟨fun _ _=>.own [],fun _=>false⟩ Tryz.f116=some (YF,Y9):=by kernel_rfl
def aID:PC:=.seq (.reg [.q 2 (.mv (.k (.slice none 0 0))),.q 3 (.mv (.i 0)),.q 4 (.mv (.i 0))]) (.seq (.seq (.reg [.v 12 0,.q 13 (.lnS (.t 12)),.q 14 (.bin .gtr true (.t 13) (.i 4000))]) (.cond (.t 14) (.seq (.reg [.q 2 (.mv (.k (.slice none 0 0))),.q 3 (.mv (.i 3)),.q 4 (.mv (.i 0))]) .ret) .skip)) (.seq (.reg [.q 5 (.mv (.k (.slice none 0 0)))]) (.seq (.reg [.v 15 0,.a 16 (.cq 35 [(.t 15),(.i 0)]),.v 6 16]) (.seq (.block 0 (.loop (.seq (.seq (.reg [.v 17 6,.v 18 0,.q 19 (.lnS (.t 18)),.q 20 (.bin .lss true (.t 17) (.t 19))]) (.cond (.t 20) .skip (.exit 0))) (.block 1 (.seq (.reg [.v 21 6,.q 22 (.bd [(.int .i64 0),(.string (mk [])),(.int .i64 0),(.int .i64 0)] [(3,1,(.t 21))]),.e 7 (.al (.agg #[(.int .i64 0),(.string (mk [])),(.int .i64 0),(.int .i64 0)]) 71),.s (.st 4 (.t 7) (.t 22))]) (.seq (.reg [.v 23 6,.q 24 (.bin .add true (.t 23) (.i 1)),.v 8 24,.q 9 (.mv (.i 0)),.q 10 (.mv (.i 0))]) (.seq (.reg [.v 25 0,.v 26 6,.a 27 (.ix (.t 25) (.t 26)),.v 11 27]) (.seq (.block 2 (.seq (.reg [.v 30 11,.a 31 (.cq 36 [(.t 30)]),.v 29 31]) (.cond (.t 29) (.seq (.reg [.v 33 0,.v 34 6,.a 35 (.cl 37 [(.t 33),(.t 34)] []),.v 32 35,.q 36 (.ex (.t 32) 0),.q 37 (.ex (.t 32) 1),.q 38 (.ex (.t 32) 2),.v 8 36,.v 9 37,.v 10 38]) (.seq (.reg [.q 39 (.fa 0 (.t 7)),.s (.st 1 (.t 39) (.i 1))]) (.reg [.v 40 0,.v 41 6,.v 42 8,.q 43 (.ss (.t 40) (some (.t 41)) (some (.t 42))),.q 44 (.fa 1 (.t 7)),.s (.st 1 (.t 44) (.t 43))]))) (.seq (.reg [.v 46 11,.a 47 (.cq 38 [(.t 46)]),.v 48 47,⟨some 49,(some (48,false)),.q (.mv (.t 11))⟩,⟨some 50,(some (48,false)),.q (.bin .eql true (.t 49) (.k (.int .u8 45)))⟩,.a 51 (.pick (.t 48) (.k (.bool true)) (.t 50)),.v 45 51]) (.cond (.t 45) (.seq (.reg [.v 53 0,.v 54 6,.a 55 (.cl 39 [(.t 53),(.t 54)] []),.v 52 55,.q 56 (.ex (.t 52) 0),.q 57 (.ex (.t 52) 1),.q 58 (.ex (.t 52) 2),.q 59 (.ex (.t 52) 3),.v 8 56,.q 60 (.fa 2 (.t 7)),.s (.st 1 (.t 60) (.t 57)),.v 9 58,.v 10 59]) (.reg [.q 61 (.fa 0 (.t 7)),.s (.st 1 (.t 61) (.i 2))])) (.seq (.reg [.v 63 11,.q 64 (.bin .eql true (.t 63) (.k (.int .u8 34))),.v 62 64]) (.cond (.t 62) (.seq (.reg [.v 66 0,.v 67 6,.a 68 (.cl 40 [(.t 66),(.t 67)] []),.v 65 68,.q 69 (.ex (.t 65) 0),.q 70 (.ex (.t 65) 1),.q 71 (.ex (.t 65) 2),.q 72 (.ex (.t 65) 3),.v 8 69,.q 73 (.fa 1 (.t 7)),.s (.st 1 (.t 73) (.t 70)),.v 9 71,.v 10 72]) (.reg [.q 74 (.fa 0 (.t 7)),.s (.st 1 (.t 74) (.i 3))])) (.seq (.reg [.v 76 11,.a 77 (.cq 41 [(.t 76)]),.v 75 77]) (.cond (.t 75) (.seq (.reg [.q 78 (.fa 0 (.t 7)),.s (.st 1 (.t 78) (.i 4))]) (.reg [.v 79 0,.v 80 6,.v 81 8,.q 82 (.ss (.t 79) (some (.t 80)) (some (.t 81))),.q 83 (.fa 1 (.t 7)),.s (.st 1 (.t 83) (.t 82))])) (.seq (.reg [.v 28 6,.q 2 (.mv (.k (.slice none 0 0))),.q 3 (.mv (.i 2)),.v 4 28]) .ret)))))))))) (.seq (.seq (.reg [.v 84 9,.q 85 (.bin .neq true (.t 84) (.i 0))]) (.cond (.t 85) (.seq (.reg [.v 86 9,.v 87 10,.q 2 (.mv (.k (.slice none 0 0))),.v 3 86,.v 4 87]) .ret) .skip)) (.seq (.reg [.v 88 5,.l 89 (.ldn 4 (.t 7)),.e 90 (.bsl 71 4 [(.t 89)]),.e 91 (.ap 71 4 40 (.t 88) (.t 90)),.v 5 91]) (.reg [.v 92 0,.v 93 8,.a 94 (.cq 35 [(.t 92),(.t 93)]),.v 6 94]))))))))))) (.seq (.reg [.v 95 5,.v 96 0,.q 97 (.lnS (.t 96)),.q 98 (.bd [(.int .i64 0),(.string (mk [])),(.int .i64 0),(.int .i64 0)] [(3,1,(.t 97))]),.e 99 (.bsl 71 4 [(.t 98)]),.e 100 (.ap 71 4 40 (.t 95) (.t 99)),.v 2 100,.q 3 (.mv (.i 0)),.q 4 (.mv (.i 0))]) .ret)))))
def aDQ:List RV:=[.mv (.t 2),.mv (.t 3),.mv (.t 4)]
theorem aRW:aM Tryz.prog true ⟨fun r k=>if r=4/\k=1 then .q else if r=10/\k=1 then .q else if r=14/\k=1 then .q else if r=20/\k=1 then .q else if r=26/\k=2 then .q else .own [],fun _=>false⟩ Tryz.f16=some (aID,aDQ):=by kernel_rfl
def aFE:PC:=.seq (.reg [.q 2 (.mv (.k (.string (mk []))))]) (.seq (.reg [.q 3 (.mv (.k (.string (mk []))))]) (.seq (.seq (.reg [.q 4 (.mv (.i 0))]) (.block 0 (.loop (.seq (.seq (.reg [.v 5 4,.v 6 0,.q 7 (.lnL (.t 6)),.q 8 (.bin .lss true (.t 5) (.t 7))]) (.cond (.t 8) .skip (.exit 0))) (.seq (.block 1 (.seq (.seq (.reg [.v 11 0,.v 12 4,.l 13 (.ia 4 (.t 11) (.t 12)),.l 14 (.ldn 4 (.t 13)),.a 15 (.cq 42 [(.t 14)]),.q 16 (.not (.t 15))]) (.cond (.t 16) (.exit 1) .skip)) (.seq (.seq (.reg [.v 17 3,.q 18 (.bin .neq true (.t 17) (.k (.string (mk []))))]) (.cond (.t 18) (.reg [.v 19 3,.q 20 (.bin .add true (.t 19) (.k (.string (mk [32])))),.v 3 20]) .skip)) (.seq (.reg [.v 21 0,.v 22 4,.l 23 (.ia 4 (.t 21) (.t 22)),.q 24 (.fa 0 (.t 23)),.l 25 (.ld1 (.t 24))]) (.block 2 (.seq (.reg [.q 34 (.bin .eql true (.t 25) (.i 2)),.v 33 34]) (.cond (.t 33) (.reg [.v 35 3,.v 36 0,.v 37 4,.l 38 (.ia 4 (.t 36) (.t 37)),.q 39 (.fa 2 (.t 38)),.l 40 (.ld1 (.t 39)),.a 41 (.cq 43 [(.t 40)]),.q 42 (.bin .add true (.t 35) (.t 41)),.v 3 42]) (.seq (.reg [.q 44 (.bin .eql true (.t 25) (.i 3)),.v 43 44]) (.cond (.t 43) (.reg [.v 45 3,.v 46 0,.v 47 4,.l 48 (.ia 4 (.t 46) (.t 47)),.q 49 (.fa 1 (.t 48)),.l 50 (.ld1 (.t 49)),.a 51 (.cq 44 [(.t 50)]),.q 52 (.bin .add true (.t 45) (.t 51)),.v 3 52]) (.reg [.v 26 3,.v 27 0,.v 28 4,.l 29 (.ia 4 (.t 27) (.t 28)),.q 30 (.fa 1 (.t 29)),.l 31 (.ld1 (.t 30)),.q 32 (.bin .add true (.t 26) (.t 31)),.v 3 32])))))))))) (.reg [.v 9 4,.q 10 (.bin .add true (.t 9) (.i 1)),.v 4 10])))))) (.seq (.reg [.v 53 3,.v 2 53]) .ret)))
def aD1:List RV:=[.mv (.t 2)]
theorem aPF:aM Tryz.prog true ⟨fun r k=>if r=5/\k=4 then .q else if r=11/\k=6 then .q else if r=13/\k=6 then .q else .own [],fun _=>false⟩ Tryz.f17=some (aFE,aD1):=by kernel_rfl
def aIX:PC:=.seq (.reg [.q 4 (.mv (.i 0))]) (.seq (.reg [.q 5 (.mv (.k (.bool false)))]) (.seq (.block 0 (.loop (.seq (.seq (.reg [.v 7 1,.v 8 0,.q 9 (.lnS (.t 8)),.q 10 (.bin .lss true (.t 7) (.t 9))]) (.cond (.t 10) .skip (.exit 0))) (.block 1 (.seq (.reg [.v 11 0,.v 12 1,.a 13 (.ix (.t 11) (.t 12)),.v 6 13]) (.seq (.seq (.reg [.v 14 6,.q 15 (.bin .eql true (.t 14) (.k (.int .u8 10)))]) (.cond (.t 15) (.reg [.q 5 (.mv (.k (.bool false)))]) .skip)) (.seq (.seq (.reg [.v 16 6,.q 17 (.bin .eql true (.t 16) (.k (.int .u8 35)))]) (.cond (.t 17) (.reg [.q 5 (.mv (.k (.bool true)))]) .skip)) (.seq (.seq (.reg [.v 18 5,.q 19 (.not (.t 18)),.v 20 19,⟨some 21,(some (20,true)),.q (.mv (.t 6))⟩,⟨some 22,(some (20,true)),.q (.bin .neq true (.t 21) (.k (.int .u8 32)))⟩,.a 23 (.pick (.t 20) (.t 22) (.k (.bool false))),.v 24 23,⟨some 25,(some (24,true)),.q (.mv (.t 6))⟩,⟨some 26,(some (24,true)),.q (.bin .neq true (.t 25) (.k (.int .u8 9)))⟩,.a 27 (.pick (.t 24) (.t 26) (.k (.bool false))),.v 28 27,⟨some 29,(some (28,true)),.q (.mv (.t 6))⟩,⟨some 30,(some (28,true)),.q (.bin .neq true (.t 29) (.k (.int .u8 10)))⟩,.a 31 (.pick (.t 28) (.t 30) (.k (.bool false)))]) (.cond (.t 31) (.seq (.reg [.v 32 1,.v 4 32]) .ret) .skip)) (.reg [.v 33 1,.q 34 (.bin .add true (.t 33) (.i 1)),.v 1 34]))))))))) (.seq (.reg [.v 35 1,.v 4 35]) .ret)))
def aDN:List RV:=[.mv (.t 4)]
theorem aNO:aM Tryz.prog true ⟨fun _ _=>.own [],fun _=>false⟩ Tryz.f35=some (aIX,aDN):=by kernel_rfl
def aHC:PC:=.seq (.reg [.q 2 (.mv (.k (.bool false)))]) (.seq (.reg [.v 3 0,.q 4 (.bin .geq true (.t 3) (.k (.int .u8 97))),.v 5 4,⟨some 6,(some (5,true)),.q (.mv (.t 0))⟩,⟨some 7,(some (5,true)),.q (.bin .leq true (.t 6) (.k (.int .u8 122)))⟩,.a 8 (.pick (.t 5) (.t 7) (.k (.bool false))),.v 9 8,⟨some 10,(some (9,false)),.q (.mv (.t 0))⟩,⟨some 11,(some (9,false)),.q (.bin .geq true (.t 10) (.k (.int .u8 65)))⟩,⟨some 12,(some (9,false)),.q (.mv (.t 11))⟩,⟨some 13,(some (12,true)),.q (.mv (.t 0))⟩,⟨some 14,(some (12,true)),.q (.bin .leq true (.t 13) (.k (.int .u8 90)))⟩,⟨some 15,(some (9,false)),.pick (.t 12) (.t 14) (.k (.bool false))⟩,.a 16 (.pick (.t 9) (.k (.bool true)) (.t 15)),.v 2 16]) .ret)
def aI5:List RV:=[.mv (.t 2)]
theorem aN1:aM Tryz.prog true ⟨fun _ _=>.own [],fun _=>false⟩ Tryz.f36=some (aHC,aI5):=by kernel_rfl
def aDJ:PC:=.seq (.reg [.q 4 (.mv (.i 0)),.q 5 (.mv (.i 0)),.q 6 (.mv (.i 0))]) (.seq (.reg [.v 8 1,.v 7 8]) (.seq (.block 0 (.loop (.seq (.seq (.reg [.v 9 7,.v 10 0,.q 11 (.lnS (.t 10)),.q 12 (.bin .lss true (.t 9) (.t 11)),.v 13 12,⟨some 14,(some (13,true)),.q (.mv (.t 0))⟩,⟨some 15,(some (13,true)),.q (.mv (.t 7))⟩,⟨some 16,(some (13,true)),.ix (.t 14) (.t 15)⟩,⟨some 17,(some (13,true)),.cq 82 [(.t 16)]⟩,.a 18 (.pick (.t 13) (.t 17) (.k (.bool false)))]) (.cond (.t 18) .skip (.exit 0))) (.block 1 (.reg [.v 19 7,.q 20 (.bin .add true (.t 19) (.i 1)),.v 7 20]))))) (.seq (.seq (.reg [.v 21 7,.v 22 1,.q 23 (.bin .sub true (.t 21) (.t 22)),.q 24 (.bin .gtr true (.t 23) (.i 16))]) (.cond (.t 24) (.seq (.reg [.v 25 7,.v 26 1,.v 4 25,.q 5 (.mv (.i 3)),.v 6 26]) .ret) .skip)) (.seq (.seq (.reg [.v 27 7,.v 28 0,.q 29 (.lnS (.t 28)),.q 30 (.bin .lss true (.t 27) (.t 29)),.v 31 30,⟨some 32,(some (31,true)),.q (.mv (.t 0))⟩,⟨some 33,(some (31,true)),.q (.mv (.t 7))⟩,⟨some 34,(some (31,true)),.ix (.t 32) (.t 33)⟩,⟨some 35,(some (31,true)),.q (.bin .eql true (.t 34) (.k (.int .u8 45)))⟩,.a 36 (.pick (.t 31) (.t 35) (.k (.bool false)))]) (.cond (.t 36) (.seq (.reg [.v 37 7,.v 38 7,.v 4 37,.q 5 (.mv (.i 2)),.v 6 38]) .ret) .skip)) (.seq (.reg [.v 39 7,.v 4 39,.q 5 (.mv (.i 0)),.q 6 (.mv (.i 0))]) .ret)))))
def aIG:List RV:=[.mv (.t 4),.mv (.t 5),.mv (.t 6)]
theorem aPP:aM Tryz.prog true ⟨fun r k=>if r=2/\k=8 then .q else .own [],fun _=>false⟩ Tryz.f37=some (aDJ,aIG):=by kernel_rfl
def aDY:PC:=.seq (.reg [.q 2 (.mv (.k (.bool false)))]) (.seq (.reg [.v 3 0,.q 4 (.bin .geq true (.t 3) (.k (.int .u8 48))),.v 5 4,⟨some 6,(some (5,true)),.q (.mv (.t 0))⟩,⟨some 7,(some (5,true)),.q (.bin .leq true (.t 6) (.k (.int .u8 57)))⟩,.a 8 (.pick (.t 5) (.t 7) (.k (.bool false))),.v 2 8]) .ret)
def aDS:List RV:=[.mv (.t 2)]
theorem aOB:aM Tryz.prog true ⟨fun _ _=>.own [],fun _=>false⟩ Tryz.f38=some (aDY,aDS):=by kernel_rfl
def pc39_6:PC:=.seq (.gh (.reg [.v 31 0,.v 32 1,.v 33 8,.q 34 (.ss (.t 31) (some (.t 32)) (some (.t 33))),.a 35 (.cl 83 [(.t 34)] []),.v 30 35,.q 36 (.ex (.t 30) 0),.q 37 (.ex (.t 30) 1),.v 9 36,.v 10 37])) (.seq (.seq (.reg [.v 38 10,.q 39 (.bin .eql true (.t 38) (.i 2))]) (.cond (.t 39) (.seq (.reg [.v 40 8,.v 41 1,.v 4 40,.q 5 (.mv (.i 0)),.q 6 (.mv (.i 2)),.v 7 41]) .ret) .skip)) (.seq (.seq (.reg [.v 42 10,.q 43 (.bin .eql true (.t 42) (.i 1))]) (.cond (.t 43) (.seq (.reg [.v 44 8,.v 45 1,.v 4 44,.q 5 (.mv (.i 0)),.q 6 (.mv (.i 4)),.v 7 45]) .ret) .skip)) (.seq (.seq (.reg [.v 46 8,.v 47 0,.q 48 (.lnS (.t 47)),.q 49 (.bin .lss true (.t 46) (.t 48)),.v 50 49,⟨some 51,(some (50,true)),.q (.mv (.t 0))⟩,⟨some 52,(some (50,true)),.q (.mv (.t 8))⟩,⟨some 53,(some (50,true)),.ix (.t 51) (.t 52)⟩,⟨some 54,(some (50,true)),.cq 82 [(.t 53)]⟩,⟨some 55,(some (50,true)),.q (.mv (.t 54))⟩,⟨some 56,(some (55,false)),.q (.mv (.t 0))⟩,⟨some 57,(some (55,false)),.q (.mv (.t 8))⟩,⟨some 58,(some (55,false)),.ix (.t 56) (.t 57)⟩,⟨some 59,(some (55,false)),.q (.bin .eql true (.t 58) (.k (.int .u8 45)))⟩,⟨some 60,(some (50,true)),.pick (.t 55) (.k (.bool true)) (.t 59)⟩,.a 61 (.pick (.t 50) (.t 60) (.k (.bool false)))]) (.cond (.t 61) (.seq (.reg [.v 62 8,.v 63 8,.v 4 62,.q 5 (.mv (.i 0)),.q 6 (.mv (.i 2)),.v 7 63]) .ret) .skip)) (.seq (.reg [.v 64 8,.v 65 9,.v 4 64,.v 5 65,.q 6 (.mv (.i 0)),.q 7 (.mv (.i 0))]) .ret))))
@[go_sem ↓] theorem aRY:a8 pc39_6:=bB _
def aIA:PC:=.seq (.reg [.q 4 (.mv (.i 0)),.q 5 (.mv (.i 0)),.q 6 (.mv (.i 0)),.q 7 (.mv (.i 0))]) (.seq (.reg [.v 11 1,.v 8 11]) (.seq (.seq (.reg [.v 12 0,.v 13 8,.a 14 (.ix (.t 12) (.t 13)),.q 15 (.bin .eql true (.t 14) (.k (.int .u8 45)))]) (.cond (.t 15) (.reg [.v 16 8,.q 17 (.bin .add true (.t 16) (.i 1)),.v 8 17]) .skip)) (.seq (.block 0 (.loop (.seq (.seq (.reg [.v 18 8,.v 19 0,.q 20 (.lnS (.t 19)),.q 21 (.bin .lss true (.t 18) (.t 20)),.v 22 21,⟨some 23,(some (22,true)),.q (.mv (.t 0))⟩,⟨some 24,(some (22,true)),.q (.mv (.t 8))⟩,⟨some 25,(some (22,true)),.ix (.t 23) (.t 24)⟩,⟨some 26,(some (22,true)),.cq 38 [(.t 25)]⟩,.a 27 (.pick (.t 22) (.t 26) (.k (.bool false)))]) (.cond (.t 27) .skip (.exit 0))) (.block 1 (.reg [.v 28 8,.q 29 (.bin .add true (.t 28) (.i 1)),.v 8 29]))))) (pc39_6))))
def PN:List RV:=[.mv (.t 4),.mv (.t 5),.mv (.t 6),.mv (.t 7)]
theorem aQA:aM Tryz.prog true ⟨fun r k=>if r=4/\k=8 then .q else if r=11/\k=8 then .q else .own [],fun r=>[6].contains r⟩ Tryz.f39=some (aIA,PN):=by kernel_rfl
def aH4:PC:=.seq (.reg [.q 4 (.mv (.i 0)),.q 5 (.mv (.k (.string (mk [])))),.q 6 (.mv (.i 0)),.q 7 (.mv (.i 0))]) (.seq (.reg [.q 8 (.mv (.k (.string (mk []))))]) (.seq (.reg [.v 11 1,.q 12 (.bin .add true (.t 11) (.i 1)),.v 9 12]) (.block 0 (.loop (.block 1 (.seq (.seq (.reg [.v 13 9,.v 14 0,.q 15 (.lnS (.t 14)),.q 16 (.bin .geq true (.t 13) (.t 15))]) (.cond (.t 16) (.seq (.reg [.v 17 9,.v 18 0,.q 19 (.lnS (.t 18)),.v 4 17,.q 5 (.mv (.k (.string (mk [])))),.q 6 (.mv (.i 2)),.v 7 19]) .ret) .skip)) (.seq (.reg [.v 20 0,.v 21 9,.a 22 (.ix (.t 20) (.t 21)),.v 10 22]) (.seq (.seq (.reg [.v 23 10,.q 24 (.bin .eql true (.t 23) (.k (.int .u8 34)))]) (.cond (.t 24) (.seq (.seq (.reg [.v 25 8,.q 26 (.lnS (.t 25)),.q 27 (.bin .gtr true (.t 26) (.i 200))]) (.cond (.t 27) (.seq (.reg [.v 28 9,.v 29 1,.v 4 28,.q 5 (.mv (.k (.string (mk [])))),.q 6 (.mv (.i 3)),.v 7 29]) .ret) .skip)) (.seq (.reg [.v 30 9,.q 31 (.bin .add true (.t 30) (.i 1)),.v 32 8,.v 4 31,.v 5 32,.q 6 (.mv (.i 0)),.q 7 (.mv (.i 0))]) .ret)) .skip)) (.seq (.seq (.reg [.v 33 10,.q 34 (.bin .lss true (.t 33) (.k (.int .u8 32))),.v 35 34,⟨some 36,(some (35,false)),.q (.mv (.t 10))⟩,⟨some 37,(some (35,false)),.q (.bin .gtr true (.t 36) (.k (.int .u8 126)))⟩,.a 38 (.pick (.t 35) (.k (.bool true)) (.t 37)),.v 39 38,⟨some 40,(some (39,false)),.q (.mv (.t 10))⟩,⟨some 41,(some (39,false)),.q (.bin .eql true (.t 40) (.k (.int .u8 92)))⟩,⟨some 42,(some (39,false)),.q (.mv (.t 41))⟩,⟨some 43,(some (42,true)),.q (.mv (.t 9))⟩,⟨some 44,(some (42,true)),.q (.bin .add true (.t 43) (.i 1))⟩,⟨some 45,(some (42,true)),.q (.mv (.t 0))⟩,⟨some 46,(some (42,true)),.q (.lnS (.t 45))⟩,⟨some 47,(some (42,true)),.q (.bin .geq true (.t 44) (.t 46))⟩,⟨some 48,(some (42,true)),.q (.mv (.t 47))⟩,⟨some 49,(some (48,false)),.q (.mv (.t 0))⟩,⟨some 50,(some (48,false)),.q (.mv (.t 9))⟩,⟨some 51,(some (48,false)),.q (.bin .add true (.t 50) (.i 1))⟩,⟨some 52,(some (48,false)),.ix (.t 49) (.t 51)⟩,⟨some 53,(some (48,false)),.q (.bin .neq true (.t 52) (.k (.int .u8 34)))⟩,⟨some 54,(some (48,false)),.q (.mv (.t 53))⟩,⟨some 55,(some (54,true)),.q (.mv (.t 0))⟩,⟨some 56,(some (54,true)),.q (.mv (.t 9))⟩,⟨some 57,(some (54,true)),.q (.bin .add true (.t 56) (.i 1))⟩,⟨some 58,(some (54,true)),.ix (.t 55) (.t 57)⟩,⟨some 59,(some (54,true)),.q (.bin .neq true (.t 58) (.k (.int .u8 92)))⟩,⟨some 60,(some (48,false)),.pick (.t 54) (.t 59) (.k (.bool false))⟩,⟨some 61,(some (42,true)),.pick (.t 48) (.k (.bool true)) (.t 60)⟩,⟨some 62,(some (39,false)),.pick (.t 42) (.t 61) (.k (.bool false))⟩,.a 63 (.pick (.t 39) (.k (.bool true)) (.t 62))]) (.cond (.t 63) (.seq (.reg [.v 64 9,.v 65 9,.v 4 64,.q 5 (.mv (.k (.string (mk [])))),.q 6 (.mv (.i 2)),.v 7 65]) .ret) .skip)) (.seq (.seq (.reg [.v 66 10,.q 67 (.bin .eql true (.t 66) (.k (.int .u8 92)))]) (.cond (.t 67) (.reg [.v 68 9,.q 69 (.bin .add true (.t 68) (.i 1)),.v 9 69]) .skip)) (.seq (.reg [.v 70 8,.v 71 0,.v 72 9,.v 73 9,.q 74 (.bin .add true (.t 73) (.i 1)),.q 75 (.ss (.t 71) (some (.t 72)) (some (.t 74))),.q 76 (.bin .add true (.t 70) (.t 75)),.v 8 76]) (.reg [.v 77 9,.q 78 (.bin .add true (.t 77) (.i 1)),.v 9 78]))))))))))))
def aIM:List RV:=[.mv (.t 4),.mv (.t 5),.mv (.t 6),.mv (.t 7)]
theorem aM7:aM Tryz.prog true ⟨fun _ _=>.own [],fun _=>false⟩ Tryz.f40=some (aH4,aIM):=by kernel_rfl
def aFD:PC:=.seq (.reg [.q 2 (.mv (.k (.bool false)))]) (.seq (.reg [.q 3 (.mv (.k (.string (mk [123,125,40,41,91,93,58,59,44,61,46,63,33,38,124,64]))))]) (.seq (.seq (.reg [.q 4 (.mv (.i 0))]) (.block 0 (.loop (.seq (.seq (.reg [.v 5 4,.v 6 3,.q 7 (.lnS (.t 6)),.q 8 (.bin .lss true (.t 5) (.t 7))]) (.cond (.t 8) .skip (.exit 0))) (.seq (.block 1 (.seq (.reg [.v 11 3,.v 12 4,.a 13 (.ix (.t 11) (.t 12)),.v 14 0,.q 15 (.bin .eql true (.t 13) (.t 14))]) (.cond (.t 15) (.seq (.reg [.q 2 (.mv (.k (.bool true)))]) .ret) .skip))) (.reg [.v 9 4,.q 10 (.bin .add true (.t 9) (.i 1)),.v 4 10])))))) (.seq (.reg [.q 2 (.mv (.k (.bool false)))]) .ret)))
def aG0:List RV:=[.mv (.t 2)]
theorem aNW:aM Tryz.prog true ⟨fun _ _=>.own [],fun _=>false⟩ Tryz.f41=some (aFD,aG0):=by kernel_rfl
def aIQ:PC:=.seq (.reg [.e 1 (.bx 71 (.t 0)),.q 2 (.mv (.k (.bool false)))]) (.seq (.seq (.reg [.q 4 (.fa 0 (.t 1)),.l 5 (.ld1 (.t 4))]) (.block 0 (.seq (.reg [.q 7 (.bin .eql true (.t 5) (.i 1)),.v 6 7]) (.cond (.t 6) (.seq (.reg [.q 8 (.fa 1 (.t 1)),.l 9 (.ld1 (.t 8)),.a 10 (.cq 84 [(.t 9)]),.v 11 10,⟨some 12,(some (11,true)),.q (.fa 2 (.t 1))⟩,⟨some 13,(some (11,true)),.l (.ld1 (.t 12))⟩,⟨some 14,(some (11,true)),.q (.bin .eql true (.t 13) (.i 0))⟩,.a 15 (.pick (.t 11) (.t 14) (.k (.bool false))),.v 2 15]) .ret) (.seq (.reg [.q 17 (.bin .eql true (.t 5) (.i 2)),.v 16 17]) (.cond (.t 16) (.seq (.reg [.q 18 (.fa 1 (.t 1)),.l 19 (.ld1 (.t 18)),.q 20 (.bin .eql true (.t 19) (.k (.string (mk [])))),.v 2 20]) .ret) (.seq (.reg [.q 22 (.bin .eql true (.t 5) (.i 3)),.v 21 22]) (.cond (.t 21) (.seq (.seq (.reg [.q 3 (.mv (.i 0))]) (.block 1 (.loop (.seq (.seq (.reg [.v 23 3,.q 24 (.fa 1 (.t 1)),.l 25 (.ld1 (.t 24)),.q 26 (.lnS (.t 25)),.q 27 (.bin .lss true (.t 23) (.t 26))]) (.cond (.t 27) .skip (.exit 1))) (.seq (.block 2 (.seq (.reg [.q 30 (.fa 1 (.t 1)),.l 31 (.ld1 (.t 30)),.v 32 3,.a 33 (.ix (.t 31) (.t 32)),.q 34 (.bin .lss true (.t 33) (.k (.int .u8 32))),.v 35 34,⟨some 36,(some (35,false)),.q (.fa 1 (.t 1))⟩,⟨some 37,(some (35,false)),.l (.ld1 (.t 36))⟩,⟨some 38,(some (35,false)),.q (.mv (.t 3))⟩,⟨some 39,(some (35,false)),.ix (.t 37) (.t 38)⟩,⟨some 40,(some (35,false)),.q (.bin .gtr true (.t 39) (.k (.int .u8 126)))⟩,.a 41 (.pick (.t 35) (.k (.bool true)) (.t 40))]) (.cond (.t 41) (.seq (.reg [.q 2 (.mv (.k (.bool false)))]) .ret) .skip))) (.reg [.v 28 3,.q 29 (.bin .add true (.t 28) (.i 1)),.v 3 29])))))) (.seq (.reg [.q 42 (.fa 1 (.t 1)),.l 43 (.ld1 (.t 42)),.q 44 (.lnS (.t 43)),.q 45 (.bin .leq true (.t 44) (.i 200)),.v 46 45,⟨some 47,(some (46,true)),.q (.fa 2 (.t 1))⟩,⟨some 48,(some (46,true)),.l (.ld1 (.t 47))⟩,⟨some 49,(some (46,true)),.q (.bin .eql true (.t 48) (.i 0))⟩,.a 50 (.pick (.t 46) (.t 49) (.k (.bool false))),.v 2 50]) .ret)) (.seq (.reg [.q 52 (.bin .eql true (.t 5) (.i 4)),.v 51 52]) (.cond (.t 51) (.seq (.reg [.q 53 (.fa 1 (.t 1)),.l 54 (.ld1 (.t 53)),.q 55 (.lnS (.t 54)),.q 56 (.bin .eql true (.t 55) (.i 1)),.v 57 56,⟨some 58,(some (57,true)),.q (.fa 1 (.t 1))⟩,⟨some 59,(some (57,true)),.l (.ld1 (.t 58))⟩,⟨some 60,(some (57,true)),.ix (.t 59) (.i 0)⟩,⟨some 61,(some (57,true)),.cq 41 [(.t 60)]⟩,.a 62 (.pick (.t 57) (.t 61) (.k (.bool false))),.v 63 62,⟨some 64,(some (63,true)),.q (.fa 2 (.t 1))⟩,⟨some 65,(some (63,true)),.l (.ld1 (.t 64))⟩,⟨some 66,(some (63,true)),.q (.bin .eql true (.t 65) (.i 0))⟩,.a 67 (.pick (.t 63) (.t 66) (.k (.bool false))),.v 2 67]) .ret) .skip)))))))))) (.seq (.reg [.q 2 (.mv (.k (.bool false)))]) .ret))
def aC9:List RV:=[.mv (.t 2)]
theorem aQH:aM Tryz.prog true ⟨fun r k=>if r=3/\k=2 then .q else if r=14/\k=8 then .q else .own [],fun _=>false⟩ Tryz.f42=some (aIQ,aC9):=by kernel_rfl
def aFY:PC:=.seq (.reg [.q 2 (.mv (.k (.string (mk []))))]) (.seq (.reg [.q 3 (.mv (.k (.string (mk []))))]) (.seq (.reg [.v 6 0,.q 7 (.bin .lss true (.t 6) (.i 0)),.v 4 7]) (.seq (.block 0 (.loop (.block 1 (.seq (.reg [.v 8 0,.q 9 (.bin .rem true (.t 8) (.i 10)),.v 5 9]) (.seq (.seq (.reg [.v 10 5,.q 11 (.bin .lss true (.t 10) (.i 0))]) (.cond (.t 11) (.reg [.v 12 5,.q 13 (.bin .sub true (.i 0) (.t 12)),.v 5 13]) .skip)) (.seq (.reg [.v 14 5,.v 15 5,.q 16 (.bin .add true (.t 15) (.i 1)),.q 17 (.ss (.k (.string (mk [48,49,50,51,52,53,54,55,56,57]))) (some (.t 14)) (some (.t 16))),.v 18 3,.q 19 (.bin .add true (.t 17) (.t 18)),.v 3 19]) (.seq (.reg [.v 20 0,.q 21 (.bin .quo true (.t 20) (.i 10)),.v 0 21]) (.seq (.reg [.v 22 0,.q 23 (.bin .eql true (.t 22) (.i 0))]) (.cond (.t 23) (.exit 0) .skip))))))))) (.seq (.seq (.reg [.v 24 4]) (.cond (.t 24) (.seq (.reg [.v 25 3,.q 26 (.bin .add true (.k (.string (mk [45]))) (.t 25)),.v 2 26]) .ret) .skip)) (.seq (.reg [.v 27 3,.v 2 27]) .ret)))))
def aF2:List RV:=[.mv (.t 2)]
theorem aRL:aM Tryz.prog true ⟨fun _ _=>.own [],fun _=>false⟩ Tryz.f43=some (aFY,aF2):=by kernel_rfl
def aC6:PC:=.seq (.reg [.q 2 (.mv (.k (.string (mk []))))]) (.seq (.reg [.q 3 (.mv (.k (.string (mk [34]))))]) (.seq (.seq (.reg [.q 4 (.mv (.i 0))]) (.block 0 (.loop (.seq (.seq (.reg [.v 5 4,.v 6 0,.q 7 (.lnS (.t 6)),.q 8 (.bin .lss true (.t 5) (.t 7))]) (.cond (.t 8) .skip (.exit 0))) (.seq (.block 1 (.seq (.seq (.reg [.v 11 0,.v 12 4,.a 13 (.ix (.t 11) (.t 12)),.q 14 (.bin .eql true (.t 13) (.k (.int .u8 34))),.v 15 14,⟨some 16,(some (15,false)),.q (.mv (.t 0))⟩,⟨some 17,(some (15,false)),.q (.mv (.t 4))⟩,⟨some 18,(some (15,false)),.ix (.t 16) (.t 17)⟩,⟨some 19,(some (15,false)),.q (.bin .eql true (.t 18) (.k (.int .u8 92)))⟩,.a 20 (.pick (.t 15) (.k (.bool true)) (.t 19))]) (.cond (.t 20) (.reg [.v 21 3,.q 22 (.bin .add true (.t 21) (.k (.string (mk [92])))),.v 3 22]) .skip)) (.reg [.v 23 3,.v 24 0,.v 25 4,.v 26 4,.q 27 (.bin .add true (.t 26) (.i 1)),.q 28 (.ss (.t 24) (some (.t 25)) (some (.t 27))),.q 29 (.bin .add true (.t 23) (.t 28)),.v 3 29]))) (.reg [.v 9 4,.q 10 (.bin .add true (.t 9) (.i 1)),.v 4 10])))))) (.seq (.reg [.v 30 3,.q 31 (.bin .add true (.t 30) (.k (.string (mk [34])))),.v 2 31]) .ret)))
def aHQ:List RV:=[.mv (.t 2)]
theorem aP9:aM Tryz.prog true ⟨fun _ _=>.own [],fun _=>false⟩ Tryz.f44=some (aC6,aHQ):=by kernel_rfl
def aI4:PC:=.seq (.reg [.q 2 (.mv (.k (.bool false)))]) (.seq (.reg [.v 3 0,.a 4 (.cq 36 [(.t 3)]),.v 5 4,⟨some 6,(some (5,false)),.q (.mv (.t 0))⟩,⟨some 7,(some (5,false)),.cq 38 [(.t 6)]⟩,.a 8 (.pick (.t 5) (.k (.bool true)) (.t 7)),.v 9 8,⟨some 10,(some (9,false)),.q (.mv (.t 0))⟩,⟨some 11,(some (9,false)),.q (.bin .eql true (.t 10) (.k (.int .u8 95)))⟩,.a 12 (.pick (.t 9) (.k (.bool true)) (.t 11)),.v 2 12]) .ret)
def aF5:List RV:=[.mv (.t 2)]
theorem aNA:aM Tryz.prog true ⟨fun r k=>if r=1/\k=1 then .q else if r=1/\k=4 then .q else .own [],fun _=>false⟩ Tryz.f82=some (aI4,aF5):=by kernel_rfl
def pc83_4:PC:=.seq (.seq (.gh (.reg [.v 16 4,.v 17 0,.q 18 (.lnS (.t 17)),.q 19 (.bin .geq true (.t 16) (.t 18)),.v 20 19,⟨some 21,(some (20,false)),.q (.mv (.t 0))⟩,⟨some 22,(some (20,false)),.q (.lnS (.t 21))⟩,⟨some 23,(some (20,false)),.q (.mv (.t 4))⟩,⟨some 24,(some (20,false)),.q (.bin .sub true (.t 22) (.t 23))⟩,⟨some 25,(some (20,false)),.q (.bin .gtr true (.t 24) (.i 1))⟩,⟨some 26,(some (20,false)),.q (.mv (.t 25))⟩,⟨some 27,(some (26,true)),.q (.mv (.t 0))⟩,⟨some 28,(some (26,true)),.q (.mv (.t 4))⟩,⟨some 29,(some (26,true)),.ix (.t 27) (.t 28)⟩,⟨some 30,(some (26,true)),.q (.bin .eql true (.t 29) (.k (.int .u8 48)))⟩,⟨some 31,(some (20,false)),.pick (.t 26) (.t 30) (.k (.bool false))⟩,.a 32 (.pick (.t 20) (.k (.bool true)) (.t 31)),.v 33 32,⟨some 34,(some (33,false)),.q (.mv (.t 4))⟩,⟨some 35,(some (33,false)),.q (.bin .eql true (.t 34) (.i 1))⟩,⟨some 36,(some (33,false)),.q (.mv (.t 35))⟩,⟨some 37,(some (36,true)),.q (.mv (.t 0))⟩,⟨some 38,(some (36,true)),.q (.mv (.t 4))⟩,⟨some 39,(some (36,true)),.ix (.t 37) (.t 38)⟩,⟨some 40,(some (36,true)),.q (.bin .eql true (.t 39) (.k (.int .u8 48)))⟩,⟨some 41,(some (33,false)),.pick (.t 36) (.t 40) (.k (.bool false))⟩,.a 42 (.pick (.t 33) (.k (.bool true)) (.t 41))])) (.cond (.t 42) (.seq (.reg [.q 2 (.mv (.i 0)),.q 3 (.mv (.i 2))]) .ret) .skip)) (.seq (.reg [.q 5 (.mv (.k (.int .u64 0)))]) (.seq (.seq (.reg [.v 43 4,.v 6 43]) (.block 0 (.loop (.seq (.seq (.reg [.v 44 6,.v 45 0,.q 46 (.lnS (.t 45)),.q 47 (.bin .lss true (.t 44) (.t 46))]) (.cond (.t 47) .skip (.exit 0))) (.seq (.block 1 (.seq (.seq (.reg [.v 50 0,.v 51 6,.a 52 (.ix (.t 50) (.t 51)),.a 53 (.cq 38 [(.t 52)]),.q 54 (.not (.t 53))]) (.cond (.t 54) (.seq (.reg [.q 2 (.mv (.i 0)),.q 3 (.mv (.i 2))]) .ret) .skip)) (.seq (.seq (.reg [.v 55 5,.q 56 (.bin .gtr true (.t 55) (.k (.int .u64 1000000000000000000)))]) (.cond (.t 56) (.seq (.reg [.q 2 (.mv (.i 0)),.q 3 (.mv (.i 1))]) .ret) .skip)) (.reg [.v 57 5,.q 58 (.bin .mul true (.k (.int .u64 10)) (.t 57)),.v 59 0,.v 60 6,.a 61 (.ix (.t 59) (.t 60)),.q 62 (.bin .sub true (.t 61) (.k (.int .u8 48))),.q 63 (.cvt .u64 (.t 62)),.q 64 (.bin .add true (.t 58) (.t 63)),.v 5 64])))) (.reg [.v 48 6,.q 49 (.bin .add true (.t 48) (.i 1)),.v 6 49])))))) (.seq (.seq (.reg [.v 65 4,.q 66 (.bin .eql true (.t 65) (.i 1))]) (.cond (.t 66) (.seq (.seq (.reg [.v 67 5,.q 68 (.bin .gtr true (.t 67) (.k (.int .u64 9223372036854775808)))]) (.cond (.t 68) (.seq (.reg [.q 2 (.mv (.i 0)),.q 3 (.mv (.i 1))]) .ret) .skip)) (.seq (.reg [.v 69 5,.q 70 (.bin .sub true (.t 69) (.k (.int .u64 1))),.q 71 (.cvt .i64 (.t 70)),.q 72 (.bin .sub true (.i 0) (.t 71)),.q 73 (.bin .sub true (.t 72) (.i 1)),.v 2 73,.q 3 (.mv (.i 0))]) .ret)) .skip)) (.seq (.seq (.reg [.v 74 5,.q 75 (.bin .gtr true (.t 74) (.k (.int .u64 9223372036854775807)))]) (.cond (.t 75) (.seq (.reg [.q 2 (.mv (.i 0)),.q 3 (.mv (.i 1))]) .ret) .skip)) (.seq (.reg [.v 76 5,.q 77 (.cvt .i64 (.t 76)),.v 2 77,.q 3 (.mv (.i 0))]) .ret)))))
@[go_sem ↓] theorem aRO:a8 pc83_4:=bB _
def aEB:PC:=.seq (.reg [.q 2 (.mv (.i 0)),.q 3 (.mv (.i 0))]) (.seq (.reg [.q 4 (.mv (.i 0))]) (.seq (.seq (.reg [.v 7 4,.v 8 0,.q 9 (.lnS (.t 8)),.q 10 (.bin .lss true (.t 7) (.t 9)),.v 11 10,⟨some 12,(some (11,true)),.q (.mv (.t 0))⟩,⟨some 13,(some (11,true)),.ix (.t 12) (.i 0)⟩,⟨some 14,(some (11,true)),.q (.bin .eql true (.t 13) (.k (.int .u8 45)))⟩,.a 15 (.pick (.t 11) (.t 14) (.k (.bool false)))]) (.cond (.t 15) (.reg [.q 4 (.mv (.i 1))]) .skip)) (pc83_4)))
def PZ:List RV:=[.mv (.t 2),.mv (.t 3)]
theorem aQ5:aM Tryz.prog true ⟨fun r k=>if r=10/\k=3 then .q else .own [],fun r=>[4].contains r⟩ Tryz.f83=some (aEB,PZ):=by kernel_rfl
def aE1:PC:=.seq (.reg [.q 2 (.mv (.k (.bool false)))]) (.seq (.seq (.reg [.v 4 0,.q 5 (.lnS (.t 4)),.q 6 (.bin .lss true (.t 5) (.i 1)),.v 7 6,⟨some 8,(some (7,false)),.q (.mv (.t 0))⟩,⟨some 9,(some (7,false)),.q (.lnS (.t 8))⟩,⟨some 10,(some (7,false)),.q (.bin .gtr true (.t 9) (.i 16))⟩,.a 11 (.pick (.t 7) (.k (.bool true)) (.t 10)),.v 12 11,⟨some 13,(some (12,false)),.q (.mv (.t 0))⟩,⟨some 14,(some (12,false)),.ix (.t 13) (.i 0)⟩,⟨some 15,(some (12,false)),.cq 36 [(.t 14)]⟩,⟨some 16,(some (12,false)),.q (.not (.t 15))⟩,.a 17 (.pick (.t 12) (.k (.bool true)) (.t 16))]) (.cond (.t 17) (.seq (.reg [.q 2 (.mv (.k (.bool false)))]) .ret) .skip)) (.seq (.seq (.reg [.q 3 (.mv (.i 0))]) (.block 0 (.loop (.seq (.seq (.reg [.v 18 3,.v 19 0,.q 20 (.lnS (.t 19)),.q 21 (.bin .lss true (.t 18) (.t 20))]) (.cond (.t 21) .skip (.exit 0))) (.seq (.block 1 (.seq (.reg [.v 24 0,.v 25 3,.a 26 (.ix (.t 24) (.t 25)),.a 27 (.cq 82 [(.t 26)]),.q 28 (.not (.t 27))]) (.cond (.t 28) (.seq (.reg [.q 2 (.mv (.k (.bool false)))]) .ret) .skip))) (.reg [.v 22 3,.q 23 (.bin .add true (.t 22) (.i 1)),.v 3 23])))))) (.seq (.reg [.q 2 (.mv (.k (.bool true)))]) .ret)))
def aHT:List RV:=[.mv (.t 2)]
theorem aPK:aM Tryz.prog true ⟨fun r k=>if r=1/\k=11 then .q else if r=6/\k=3 then .q else .own [],fun _=>false⟩ Tryz.f84=some (aE1,aHT):=by kernel_rfl
def bD (c:Int):Bool:=(decide (97<=c) && decide (c<=122)) || (decide (65<=c) && decide (c<=90))
def gC (c:Int):Bool:=decide (48<=c) && decide (c<=57)
def eQ (c:Int):Bool:=bD c || gC c || c == 95
def marksB:List UInt8:=[123,125,40,41,91,93,58,59,44,61,46,63,33,38,124,64]
def dB (c:Int):Bool:=decide (c.toNat.toUInt8 ∈ marksB)
def dC (c:Int):Int:=
 bif c == 32 || c == 9 || c == 10 then 1 else bif c == 35 then 2 else bif bD c then 3 else bif gC c then 4
 else bif c == 45 then 5 else bif c == 95 then 6 else bif c == 34 then 7 else bif dB c then 8 else 0
theorem FQ (l:List UInt8) (c:UInt8):decide (0<=Lib.indexByte l c)=decide (c ∈ l):=by
 rw [decide_eq_decide]
 induction l with
 | nil=>simp [Lib.indexByte]
 | cons b l ih=>
  have hge:=Lib.indexByte_ge l c
  rw [Lib.indexByte]
  by_cases hb:b=c
  · simp [hb]
  · have hb2:(b == c)=false:=by simpa using hb
    have hb3:¬ c=b:=fun e=>hb e.symm
    simp only [hb2,Bool.false_eq_true,if_false,List.mem_cons,hb3,false_or,<-ih]
    by_cases h:Lib.indexByte l c=-1
    · simp [h]
    · have h2:(Lib.indexByte l c == -1)=false:=by simpa using h
      simp only [h2,Bool.false_eq_true,if_false]; omega
def cV (l:List UInt8) (at':Nat):Int:=match l[at']? with | some c=>dC c.toNat | none=>-1
def dE:Bool->List UInt8->Nat
 | _,[]=>0
 | r,c :: l=>
  let r':=bif c == 35 then true else bif c == 10 then false else r
  bif !r' && !(c == 32 || c == 9 || c == 10) then 0 else dE r' l + 1
def bI (l:List UInt8) (a:Nat):Nat:=a + dE false (l.drop a)
theorem yQ:∀ r l,dE r l<=l.length
 | _,[]=>Nat.le_refl 0
 | r,c :: l=>by
  simp only [dE,List.length_cons]
  cases hh:(!(bif c == 35 then true else bif c == 10 then false else r) && !(c == 32 || c == 9 || c == 10))
  · have:=yQ (bif c == 35 then true else bif c == 10 then false else r) l; simp only [aD]; omega
  · simp
theorem lP {l:List UInt8} {a:Nat} (h:a<=l.length):bI l a<=l.length:=by
 have:=yQ false (l.drop a); simp at this; unfold bI; omega
theorem aD5 (c:UInt8):(dC c.toNat == 1)=(c == 32 || c == 9 || c == 10):=by
 have:=cN (p:=fun c=>(dC c.toNat == 1) == (c == 32 || c == 9 || c == 10)) (by decide +kernel) c
 simpa using this
theorem WZ (c:UInt8):(dC c.toNat == 2)=(c == 35):=by
 have:=cN (p:=fun c=>(dC c.toNat == 2) == (c == 35)) (by decide +kernel) c
 simpa using this
theorem ER (l:List UInt8):dE true l=bif decide (0<=Lib.indexByte l 10) then (Lib.indexByte l 10).toNat + dE false (l.drop (Lib.indexByte l 10).toNat) else l.length:=by
 induction l with
 | nil=>rfl
 | cons c l ih=>
  have hge:=Lib.indexByte_ge l 10
  by_cases hc:c=10
  · subst hc; simp [dE,Lib.indexByte]
  · have hc2:(c == 10)=false:=by simpa using hc
    have e:dE true (c :: l)=dE true l + 1:=by simp [dE,hc2]
    rw [e,ih,Lib.indexByte]
    simp only [hc2,Bool.false_eq_true,if_false]
    by_cases h:Lib.indexByte l 10=-1
    · simp [h]
    · have h2:(Lib.indexByte l 10 == -1)=false:=by simpa using h
      have h3:0<=Lib.indexByte l 10:=by omega
      have h4:0<=Lib.indexByte l 10 + 1:=by omega
      have h5:(Lib.indexByte l 10 + 1).toNat=(Lib.indexByte l 10).toNat + 1:=by omega
      simp only [h2,Bool.false_eq_true,if_false,h3,h4,decide_true,aI,h5,List.drop_succ_cons]
      omega
theorem cA {l:List UInt8} {i:Nat} {c:UInt8} (h:l[i]? = some c):l.drop i=c :: l.drop (i + 1):=by
 obtain ⟨hi,rfl⟩:=a6.1 h
 exact List.drop_eq_getElem_cons hi
theorem PP {l:List UInt8} {i:Nat} {c:UInt8} (h:l[i]? = some c) (hc:(c == 32 || c == 9 || c == 10)=true):bI l (i + 1)=bI l i:=by
 have h35:(c == 35)=false:=by
  have:=cN (p:=fun c=>!(c == 32 || c == 9 || c == 10) || !(c == 35)) (by decide +kernel) c
  simp only [hc,Bool.not_true,Bool.false_or] at this; simpa using this
 simp only [bI,cA h,dE,h35,hc,aD,Bool.not_true,Bool.and_false,Bool.cond_self]
 omega
theorem BU {l:List UInt8} {i:Nat} {c:UInt8} (h:l[i]? = some c) (hc:(c == 32 || c == 9 || c == 10)=false) (h35:(c == 35)=false):bI l i=i:=by
 simp only [bI,cA h,dE,h35,hc,aD,Bool.not_false,Bool.and_true,Bool.cond_self]
 simp
theorem x7 {l:List UInt8} {i:Nat} (h:l.length<=i):bI l i=i:=by
 simp [bI,List.drop_eq_nil_iff.2 h,dE]
theorem D4 {l:List UInt8} {i:Nat} (h:l[i]? = some 35):bI l i=i + dE true (l.drop i):=by
 simp [bI,cA h,dE]
theorem PO {l:List UInt8} {i:Nat} (h:l[i]? = some 35) (h0:0<=Lib.indexByte (l.drop i) 10) :
 ∃ n:Nat,Lib.indexByte (l.drop i) 10=n/\0 < n/\i + n<=l.length/\bI l (i + n)=bI l i:=by
 obtain ⟨n,hn⟩:∃ n:Nat,Lib.indexByte (l.drop i) 10=n:=⟨_,(Int.toNat_of_nonneg h0).symm⟩
 have h1:dE true (l.drop i)=n + dE false ((l.drop i).drop n):=by rw [ER,hn]; simp
 have hp:0 < n:=by
  rcases Nat.eq_zero_or_pos n with h2 | h2
  · subst h2; rw [cA h,Lib.indexByte] at hn
    exfalso
    have hge:=Lib.indexByte_ge (l.drop (i + 1)) 10
    simp at hn
    split at hn<;>omega
  · exact h2
 have hle:=yQ true (l.drop i)
 simp only [List.length_drop] at hle
 have hi:i < l.length:=(a6.1 h).1
 refine ⟨n,hn,hp,by omega,?_⟩
 rw [D4 h,h1,bI,List.drop_drop]
 omega
theorem OO {l:List UInt8} {i:Nat} (h:l[i]? = some 35) (h0:¬ 0<=Lib.indexByte (l.drop i) 10):bI l l.length=bI l i:=by
 have hi:i < l.length:=(a6.1 h).1
 rw [D4 h,ER,x7 (Nat.le_refl _)]
 simp [h0]; omega
inductive R where
 | ok (k:Int) (t:List UInt8) (n:Int) (z:Nat)
 | bad (e t:Int)
def aU (c:UInt8):Bool:=eQ c.toNat
def bC (p:UInt8->Bool) (l:List UInt8) (a:Nat):Nat:=a + ((l.drop a).takeWhile p).length
theorem iJ {p:UInt8->Bool} {l:List UInt8} {a:Nat} {c:UInt8} (h:l[a]? = some c) (hp:p c=true):bC p l (a + 1)=bC p l a:=by
 simp only [bC,cA h,List.takeWhile_cons,hp,if_true,List.length_cons]; omega
theorem mJ {p:UInt8->Bool} {l:List UInt8} {a:Nat} (h:∀ c,l[a]? = some c->p c=false):bC p l a=a:=by
 rcases bF a l.length with h1 | h1
 · have h2:=getD_some (l:=l) 0 h1
   simp only [bC,cA h2,List.takeWhile_cons,h _ h2,Bool.false_eq_true,if_false,List.length_nil,Nat.add_zero]
 · simp [bC,List.drop_eq_nil_iff.2 h1]
theorem nZ {p:UInt8->Bool} {l:List UInt8} {a:Nat} (h:a<=l.length):bC p l a<=l.length:=by
 have:=(List.takeWhile_sublist (l:=l.drop a) p).length_le
 simp at this; unfold bC; omega
theorem lY {p:UInt8->Bool} {l:List UInt8} {a:Nat}:a<=bC p l a:=by unfold bC; omega
theorem IW (c:UInt8):(dC c.toNat == 3 || dC c.toNat == 4 || dC c.toNat == 6)=aU c:=by
 have:=cN (p:=fun c=>(dC c.toNat == 3 || dC c.toNat == 4 || dC c.toNat == 6) == aU c) (by decide +kernel) c
 simpa using this
theorem aGE (c:UInt8):(dC c.toNat == 5)=(c == 45):=by
 have:=cN (p:=fun c=>(dC c.toNat == 5) == (c == 45)) (by decide +kernel) c
 simpa using this
def fJ (l:List UInt8) (a:Nat):R:=
 let z:=bC aU l a
 bif decide (16 < z - a) then .bad 3 a else bif l[z]? == some 45 then .bad 2 z else .ok 1 ((l.take z).drop a) 0 z
theorem oR {p:UInt8->Bool} {l:List UInt8} {a:Nat}:∀ c ∈ (l.take (bC p l a)).drop a,p c=true:=by
 intro c hc
 have e:(l.take (bC p l a)).drop a=(l.drop a).takeWhile p:=by
  rw [List.drop_take,bC,Nat.add_sub_cancel_left]
  exact (List.prefix_iff_eq_take.1 (List.takeWhile_prefix p)).symm
 rw [e] at hc
 have:∀ (q:List UInt8),∀ c ∈ q.takeWhile p,p c=true:=by
  intro q
  induction q with
  | nil=>intro c h; simp at h
  | cons x q ih=>
   intro c h
   rw [List.takeWhile_cons] at h
   split at h
   · rcases List.mem_cons.1 h with rfl | h
     · assumption
     · exact ih c h
   · simp at h
 exact this _ c hc
def a7 (c:UInt8):Bool:=gC c.toNat
theorem aN4 (c:UInt8):(dC c.toNat == 4)=a7 c:=by
 have:=cN (p:=fun c=>(dC c.toNat == 4) == a7 c) (by decide +kernel) c
 simpa using this
theorem aGZ (c:UInt8):(dC c.toNat == 3 || dC c.toNat == 6 || dC c.toNat == 5)=((aU c && !a7 c) || c == 45):=by
 have:=cN (p:=fun c=>(dC c.toNat == 3 || dC c.toNat == 6 || dC c.toNat == 5) == ((aU c && !a7 c) || c == 45)) (by decide +kernel) c
 simpa using this
theorem iU {c:UInt8}:a7 c=true ↔ 48<=c.toNat/\c.toNat<=57:=by
 simp [a7,gC]; omega
def valL (lim:Nat):Nat->List UInt8->Option Nat
 | n,[]=>some n
 | n,c :: l=>if (lim - (c.toNat - 48)) / 10 < n then none else valL lim (10 * n + (c.toNat - 48)) l
def b6 (neg:Bool):Nat:=bif neg then 9223372036854775808 else 9223372036854775807
theorem NE {lim:Nat} (h:9<=lim):∀ {l:List UInt8} {n m:Nat},n<=lim->(∀ c ∈ l,a7 c=true)->valL lim n l=some m->m<=lim
 | [],n,m,hn,_,hv=>by simp [valL] at hv; omega
 | c :: l,n,m,hn,hd,hv=>by
  simp only [valL] at hv
  split at hv
  · cases hv
  · rename_i hc
    have:=iU.1 (hd c (by simp))
    exact NE h (by omega) (fun x hx=>hd x (by simp [hx])) hv
def signed (neg:Bool) (n:Nat):Int:=bif neg then -n else n
def kY (l:List UInt8) (i:Nat):Bool:=match l[i]? with | some c=>aU c && !a7 c || c == 45 | none=>false
def fM (l:List UInt8) (a:Nat):R:=
 let neg:=l[a]? == some 45
 let f:=bif neg then a + 1 else a
 let z:=bC a7 l f
 let s:=(l.take z).drop f
 bif s == [] || (s[0]? == some 48 && (decide (1 < s.length) || neg)) then .bad 2 a
 else match valL (b6 neg) 0 s with
  | none=>.bad 4 a
  | some n=>bif kY l z then .bad 2 z else .ok 2 [] (signed neg n) z
end Go.Proofs.YtkpohmhenegkiaaGreatDoor
namespace Go.Proofs
open Go.Shelf
def Tryz.lays137_ren:Go.Shelf.Ren:=⟨fun | 137=>155 | 217=>164 | 266=>167 | n=>n,fun | 9=>9 | 5=>5 | 3=>3 | n=>n,fun | n=>n⟩
theorem Tryz.lays137:Go.Proofs.Lays.n137 Tryz.prog Tryz.lays137_ren:={
 mixed:=by kernel_rfl
 f137:=Tryz.func155.trans (congrArg some (by kernel_rfl))
 f217:=Tryz.func164.trans (congrArg some (by kernel_rfl))
 f266:=Tryz.func167.trans (congrArg some (by kernel_rfl))
 t3:=Tryz.underlying3
 a3:=Tryz.isAgg3
 z3:=Tryz.sizeOf3
 v3:=Tryz.zeroValue3
 t5:=Tryz.underlying5
 a5:=Tryz.isAgg5
 z5:=Tryz.sizeOf5
 v5:=Tryz.zeroValue5
 t9:=Tryz.underlying9
 a9:=Tryz.isAgg9
 z9:=Tryz.sizeOf9
 v9:=Tryz.zeroValue9 }
open Go.RowKit in
theorem Tryz.strings_IndexByte (s:ByteArray) (c:Int) (w:World) :
 Calls Tryz.prog 155 #[.string s,.int .u8 c] w fun e w'=>e=.returned (.int .i64 (Lib.indexByte s.data.toList c.toNat.toUInt8))/\w'=w:=Any.strings_IndexByte Tryz.lays137 s c w
end Go.Proofs
namespace Go.Proofs.YtkpohmhenegkiaaGreatDoor
open Go.W
abbrev iA (k:IntKind) (n:Int):A:=.c1 (.vl (.int k n))
abbrev bA (b:Bool):A:=.c1 (.vl (.bool b))
abbrev tA (b:ByteArray):A:=.c1 (.vl (.string b))
def u1:List S->Prop:=fun xs=>match xs with
 | [.va (.c1 (.vl (.int .u8 c)))]=>0<=c/\c<=255
 | _=>False
theorem f9 {xs:List S} (h:u1 xs):∃ c:Int,xs=[iS .u8 c]/\0<=c/\c<=255:=by
 unfold u1 at h
 split at h
 · exact ⟨_,rfl,h⟩
 · exact h.elim
def LS (f:Int->Value):List S->A:=fun xs=>match xs with
 | [.va (.c1 (.vl (.int .u8 c)))]=>.c1 (.vl (f c))
 | _=>.gs []
def kA (f:Int->Value):Fun:=⟨u1,LS f,fun xs h=>by obtain ⟨c,rfl,_⟩:=f9 h; trivial⟩
theorem lG {f:Int->Value}:∀ xs H K,(kA f).sp xs H K->xs.length=1:=fun xs H K h=>by obtain ⟨c,rfl,_⟩:=f9 h.1.1; rfl
attribute [go_sem] kA u1 LS
def F0:List S->Prop:=fun xs=>match xs with | [.va (.c1 (.vl (.string _))),.va (.c1 (.vl (.int .u8 _)))]=>True | _=>False
def ZC:List S->A:=fun xs=>match xs with | [.va (.c1 (.vl (.string s))),.va (.c1 (.vl (.int .u8 c)))]=>iA .i64 (Lib.indexByte (bl s) c.toNat.toUInt8) | _=>.gs []
theorem BV {xs:List S} (h:F0 xs):∃ s c,xs=[tS s,iS .u8 c]:=by
 unfold F0 at h
 split at h
 · exact ⟨_,_,rfl⟩
 · exact h.elim
def fnIb:Fun:=⟨F0,ZC,fun xs h=>by obtain ⟨s,c,rfl⟩:=BV h; trivial⟩
attribute [go_sem] fnIb F0 ZC
theorem mIb:Meets Tryz.prog 155 fnIb.sp:=by
 refine ⟨by kernel_rfl,?_⟩
 rintro xs vs E ro w K hl hrel hr ⟨⟨h,hE⟩,hK⟩ _
 obtain ⟨s,c,rfl⟩:=BV h
 obtain ⟨v0,v1,rfl⟩:∃ v0 v1,vs=[v0,v1]:=by
  match vs,hl with
  | [v0,v1],_=>exact ⟨v0,v1,rfl⟩
 have h0:v0=.string s:=hrel 0 _ _ rfl rfl
 have h1:v1=.int .u8 c:=hrel 1 _ _ rfl rfl
 subst h0 h1
 refine (Tryz.strings_IndexByte s c w).mono ?_
 rintro e w' ⟨rfl,rfl⟩
 exact ⟨iS .i64 _,_,E,ro,rfl,rfl,by rw [hE]; exact hK,hr⟩
theorem BX:Meets Tryz.prog 36 (kA fun c=>.bool (bD c)).sp:=by
 refine aE Tryz.func36 aN1 1 (by rw [Tryz.ntmps36]; decide) (aA _) lG ?_
 rintro xs H K ⟨⟨h,rfl⟩,hK⟩
 obtain ⟨c,rfl,hc⟩:=f9 h
 simp -dsimp only [go_sem,aHC,aI5] at hK ⊢
 and_intros
 all_goals first | exact bW hK (by simp [bD]) | (simp; omega)
theorem AN:Meets Tryz.prog 38 (kA fun c=>.bool (gC c)).sp:=by
 refine aE Tryz.func38 aOB 1 (by rw [Tryz.ntmps38]; decide) (aA _) lG ?_
 rintro xs H K ⟨⟨h,rfl⟩,hK⟩
 obtain ⟨c,rfl,hc⟩:=f9 h
 simp -dsimp only [go_sem,aDY,aDS] at hK ⊢
 exact bW hK (by simp [gC])
theorem IJ:Meets Tryz.prog 82 (kA fun c=>.bool (eQ c)).sp:=by
 refine aE Tryz.func82 aNA 1 (by rw [Tryz.ntmps82]; decide) (aH BX (aH AN (aA _))) lG ?_
 rintro xs H K ⟨⟨h,rfl⟩,hK⟩
 obtain ⟨c,rfl,hc⟩:=f9 h
 simp -dsimp only [go_sem,aI4,aF5] at hK ⊢
 and_intros
 all_goals first | exact bW hK (by simp [eQ]) | (intros; simp_all; done) | omega
theorem JZ:Meets Tryz.prog 146 (kA fun c=>.int .i64 (dC c)).sp:=by
 refine aE Tryz.func146 aKG 1 (by rw [Tryz.ntmps146]; decide) (aH mIb (aA _)) lG ?_
 rintro xs H K ⟨⟨h,rfl⟩,hK⟩
 obtain ⟨c,rfl,hc⟩:=f9 h
 simp -dsimp (maxSteps:=1000000) only [go_sem,aAE,XQ] at hK ⊢
 have hw:IntKind.i32.wrap c=c:=lM (by simp [inr,IntKind.min,IntKind.max,IntKind.signed,IntKind.bits]; omega)
 rw [hw]
 have hm:decide (0<=Lib.indexByte [123,125,40,41,91,93,58,59,44,61,46,63,33,38,124,64] c.toNat.toUInt8)=dB c:=FQ _ _
 rw [hm]
 clear hm hw
 refine ⟨fun h1=>bW hK ?_,fun h1=>⟨fun h2=>bW hK ?_,fun h2=>⟨by simp; omega,fun h3=>bW hK ?_,fun h3=>⟨fun h4=>bW hK ?_,fun h4=>⟨fun h5=>bW hK ?_,fun h5=>⟨fun h6=>bW hK ?_,fun h6=>⟨fun h7=>bW hK ?_,fun h7=>⟨fun h8=>bW hK ?_,fun h8=>bW hK ?_⟩⟩⟩⟩⟩⟩⟩⟩
 all_goals simp only [dC,bD,gC, *,aI,aD]
theorem Y1:Meets Tryz.prog 41 (kA fun c=>.bool (dB c)).sp:=by
 refine aE Tryz.func41 aNW 1 (by rw [Tryz.ntmps41]; decide) (aA _) lG ?_
 rintro xs H K ⟨⟨h,rfl⟩,hK⟩
 obtain ⟨c,rfl,hc⟩:=f9 h
 simp -dsimp only [go_sem,aFD,aG0] at hK ⊢
 have hml:marksB.length=16:=rfl
 refine aL (α:=Nat) (fun i=>[(0,iS .u8 c),(3,.va (tA (mk marksB))),(4,iS .i64 i)]) (fun _=>[]) (fun i=>i<=16/\∀ j < i,marksB[j]? ≠ some c.toNat.toUInt8) (fun i=>16 - i) 0 0 ⟨by omega,by omega⟩ ?_ rfl ?_
 · simp [go_sem,marksB]
 rintro i ⟨hi,hj⟩
 simp -dsimp only [go_sem,hml]
 refine ⟨fun h1=>⟨by simp at h1; omega,fun b hb=>⟨fun h2=>bW hK ?_,fun h2=>⟨by omega,aC (i + 1) 0 ⟨by simp at h1; omega,?_⟩ (by simp at h1; omega) (by simp [go_sem]) rfl⟩⟩⟩,fun h1=>bW hK ?_⟩
 · simp only [dB]
   congr; symm
   rw [decide_eq_true_eq]
   simp at h2
   rw [<-h2]
   simpa using bJ hb
 · intro j hj2 e
   by_cases hji:j=i
   · subst hji
     rw [hb] at e
     simp only [aJ] at e
     rw [e] at h2
     simp at h2; omega
   · exact hj j (by omega) e
 · simp only [dB]
   congr; symm
   rw [decide_eq_false_iff_not]
   intro hm
   obtain ⟨j,h3⟩:=List.mem_iff_getElem?.1 hm
   refine hj j ?_ h3
   have:=(a6.1 h3).1
   simp at h1; omega
abbrev kW (s:ByteArray) (a e t:Int):B:=.cells [.vl (.string s),.vl (.int .i64 a),.vl (.int .i64 e),.vl (.int .i64 t)] 138
def uG (pre:List UInt8->Int->Int->Int->Prop) (post:ByteArray->Int->Int->Int->(S->Hp->Prop)->Prop):W.Spec:=fun xs H K=>
 match xs,H with
 | [.va (.c1 (.pt 0 0))],[.cells [.vl (.string s),.vl (.int .i64 a),.vl (.int .i64 e),.vl (.int .i64 t)] 138]=>
  (0<=a/\a<=(bl s).length/\(bl s).length<=4000/\pre (bl s) a e t)/\post s a e t K
 | _,_=>False
theorem mQ {pre:List UInt8->Int->Int->Int->Prop} {post:ByteArray->Int->Int->Int->(S->Hp->Prop)->Prop} {xs:List S} {H:Hp} {K:S->Hp->Prop} (h:uG pre post xs H K) :
 ∃ s a e t,xs=[.va (.c1 (.pt 0 0))]/\H=[kW s a e t]/\0<=a/\a<=(bl s).length/\(bl s).length<=4000/\pre (bl s) a e t/\post s a e t K:=by
 unfold uG at h
 split at h
 · obtain ⟨⟨h1,h2,h3,h4⟩,h5⟩:=h
   exact ⟨_,_,_,_,rfl,rfl,h1,h2,h3,h4,h5⟩
 · exact h.elim
theorem yY {pre:List UInt8->Int->Int->Int->Prop} {post:ByteArray->Int->Int->Int->(S->Hp->Prop)->Prop}:∀ xs H K,uG pre post xs H K->xs.length=1:=fun xs H K h=>by
 obtain ⟨s,a,e,t,rfl,_⟩:=mQ h; rfl
attribute [go_sem ↓] uG
def BL:W.Spec:=uG (fun _ _ _ _=>True) fun s a e t K=>K (iS .i64 (cV (bl s) a.toNat)) [kW s a e t]
attribute [go_sem ↓] BL kW
theorem F1:Meets Tryz.prog 135 BL:=by
 refine aE Tryz.func135 aLA 1 (by rw [Tryz.ntmps135]; decide) (aH JZ (aA _)) yY ?_
 intro xs H K h
 obtain ⟨s,a,e,t,rfl,rfl,h0,h1,h2,-,hK⟩:=mQ h
 simp -dsimp only [go_sem,Z4,XJ] at hK ⊢
 refine ⟨fun h3=>bW hK ?_,fun h3=>⟨by simp at h3; omega,fun c hc=>⟨⟨by omega,by have:=c.toNat_lt; omega⟩,bW hK ?_⟩⟩⟩
 · simp at h3; rw [cV,List.getElem?_eq_none (by omega)]
 · rw [cV,hc]
def qC:W.Spec:=fun xs H K=>
 match xs,H with
 | [.va (.c1 (.pt 0 0)),.va (.c1 (.vl (.int .i64 x))),.va (.c1 (.vl (.int .i64 y)))],[.cells [.vl (.string s),.vl (.int .i64 a),.vl (.int .i64 e),.vl (.int .i64 t)] 138]=>
  K (.tu []) [kW s a (bif e == 0 then x else e) (bif e == 0 then y else t)]
 | _,_=>False
attribute [go_sem ↓] qC
theorem w5 {xs:List S} {H:Hp} {K:S->Hp->Prop} (h:qC xs H K) :
 ∃ x y s a e t,xs=[.va (.c1 (.pt 0 0)),iS .i64 x,iS .i64 y]/\H=[kW s a e t]/\K (.tu []) [kW s a (bif e == 0 then x else e) (bif e == 0 then y else t)]:=by
 unfold qC at h
 split at h
 · exact ⟨_,_,_,_,_,_,rfl,rfl,h⟩
 · exact h.elim
theorem GJ:Meets Tryz.prog 139 qC:=by
 refine aE Tryz.func139 aKA 3 (by rw [Tryz.ntmps139]; decide) (aA _) (fun xs H K h=>by obtain ⟨x,y,s,a,e,t,rfl,_⟩:=w5 h; rfl) ?_
 intro xs H K h
 obtain ⟨x,y,s,a,e,t,rfl,rfl,hK⟩:=w5 h
 simp -dsimp only [go_sem,aAF,X2] at hK ⊢
 refine ⟨fun h1=>?_,fun h1=>?_⟩
 · simp only [h1,aI] at hK; exact .done hK
 · simp only [h1,aD] at hK; exact .done hK
def SM:W.Spec:=uG (fun _ _ _ _=>True) fun s a e t K=>K (.tu []) [kW s (bI (bl s) a.toNat) e t]
attribute [go_sem ↓] SM
theorem aLN:Meets Tryz.prog 134 SM:=by
 refine aE Tryz.func134 aKK 1 (by rw [Tryz.ntmps134]; decide) (aB F1 (aH mIb (aA _))) yY ?_
 intro xs H K h
 obtain ⟨s,a,e,t,rfl,rfl,h0,h1,h2,-,hK⟩:=mQ h
 simp -dsimp only [go_sem,XN,Z9] at hK ⊢
 refine aL (α:=Nat) (fun i=>[(0,.va (.c1 (.pt 0 0)))]) (fun i=>[kW s i e t]) (fun i=>i<=(bl s).length/\bI (bl s) i=bI (bl s) a.toNat) (fun i=>(bl s).length - i) a.toNat 1 ⟨by omega,rfl⟩ ?_ ?_ ?_
 · simp [go_sem]
 · simp [go_sem]; omega
 rintro i ⟨hi,hj⟩
 simp -dsimp only [go_sem]
 have hget:i < (bl s).length->(bl s)[i]? = some ((bl s).getD i 0):=getD_some 0
 refine ⟨fun h3=>⟨⟨by omega,by omega,h2⟩,fun h4=>⟨by omega,aC (i + 1) 1 ?_ ?_ ?_ ?_⟩,fun h4=>⟨fun h5=>⟨by omega,fun h6=>?_,fun h6=>?_⟩,fun h5=>?_⟩⟩,fun h3=>?_⟩
 · simp at h3
   have h7:=hget h3
   rw [cV,h7] at h4
   simp only [aD5] at h4
   exact ⟨h3,by rw [PP h7 h4,hj]⟩
 · simp at h3; omega
 · simp [go_sem]
 · simp [go_sem]
 · simp at h3
   have h7:=hget h3
   rw [cV,h7] at h5
   simp only [WZ,beq_iff_eq] at h5
   rw [h5] at h7
   have h8:Nat.toUInt8 10=(10:UInt8):=rfl
   rw [h8] at h6 ⊢
   obtain ⟨n,hn,hp,hl,hs⟩:=PO h7 (by simpa using h6)
   rw [hn]
   refine ⟨by omega,aC (i + n) 1 ⟨hl,by rw [hs,hj]⟩ (by omega) (by simp [go_sem]) (by simp [go_sem])⟩
 · simp at h3
   have h7:=hget h3
   rw [cV,h7] at h5
   simp only [WZ,beq_iff_eq] at h5
   rw [h5] at h7
   have h8:Nat.toUInt8 10=(10:UInt8):=rfl
   rw [h8] at h6
   exact aC (bl s).length 1 ⟨Nat.le_refl _,by rw [OO h7 (by simpa using h6),hj]⟩ (by omega) (by simp [go_sem]) (by simp [go_sem])
 · simp at h3
   have h7:=hget h3
   rw [cV,h7] at h5 h4
   simp only [WZ,aD5] at h5 h4
   rw [<-hj,BU h7 h4 h5] at hK
   exact .done hK
 · simp at h3
   rw [<-hj,x7 h3] at hK
   exact .done hK
abbrev mL (k:Int) (x:ByteArray) (n a:Int):List C:=[.vl (.int .i64 k),.vl (.string x),.vl (.int .i64 n),.vl (.int .i64 a)]
def lA (s:ByteArray) (a:Int) (K:S->Hp->Prop):R->Prop
 | .ok k x n z=>K (.va (.gs (mL k (mk x) n a))) [kW s z 0 0]
 | .bad e' t'=>∀ k x n y (z:Nat),K (.va (.gs (mL k x n y))) [kW s z e' t']
def Tok:R->Int->Int->ByteArray->Int->Int->Int->Int->Int->Prop
 | .ok k x n z,a,k',x',n',a',z',e',t'=>k'=k/\x'=mk x/\n'=n/\a'=a/\z'=z/\e'=0/\t'=0
 | .bad e t,_,_,_,_,_,z',e',t'=>e'=e/\t'=t/\∃ z:Nat,z'=z
def N6 (s:ByteArray) (a:Int) (K:S->Hp->Prop) (r:R):Prop:=∀ k x n y z e t,Tok r a k x n y z e t->K (.va (.gs (mL k x n y))) [kW s z e t]
theorem aC5 {s:ByteArray} {a:Int} {K:S->Hp->Prop} {r:R} (h:N6 s a K r):lA s a K r:=by
 cases r with
 | ok k x n z=>exact h _ _ _ _ _ _ _ ⟨rfl,rfl,rfl,rfl,rfl,rfl,rfl⟩
 | bad e t=>exact fun k x n y z=>h k x n y z e t ⟨rfl,rfl,z,rfl⟩
def wA (pre:List UInt8->Nat->Prop) (f:List UInt8->Nat->R):W.Spec:=uG (fun l a e t=>e=0/\t=0/\pre l a.toNat) fun s a _ _ K=>N6 s a K (f (bl s) a.toNat)
theorem nF {pre:List UInt8->Nat->Prop} {f:List UInt8->Nat->R} {xs:List S} {H:Hp} {K:S->Hp->Prop} (h:wA pre f xs H K) :
 ∃ s a,xs=[.va (.c1 (.pt 0 0))]/\H=[kW s a 0 0]/\0<=a/\a<=(bl s).length/\(bl s).length<=4000/\pre (bl s) a.toNat/\lA s a K (f (bl s) a.toNat):=by
 obtain ⟨s,a,e,t,rfl,rfl,h0,h1,h2,⟨rfl,rfl,h3⟩,h4⟩:=mQ h
 exact ⟨_,_,rfl,rfl,h0,h1,h2,h3,aC5 h4⟩
theorem uT {pre:List UInt8->Nat->Prop} {f:List UInt8->Nat->R}:∀ xs H K,wA pre f xs H K->xs.length=1:=fun xs H K h=>by
 obtain ⟨s,a,rfl,_⟩:=nF h; rfl
attribute [go_sem ↓] wA mL N6
def TM:W.Spec:=wA (fun _ _=>True) fJ
attribute [go_sem ↓] TM
theorem aK2:Meets Tryz.prog 136 TM:=by
 refine aE Tryz.func136 aLI 1 (by rw [Tryz.ntmps136]; decide) (aB F1 (aB GJ (aA _))) uT ?_
 intro xs H K h
 obtain ⟨s,a,rfl,rfl,h0,h1,h2,-,hK⟩:=nF h
 simp -dsimp only [go_sem,XP,aAP] at hK ⊢
 refine ⟨⟨h0,h1,h2⟩,aL (α:=Nat) (fun i=>[(0,.va (.c1 (.pt 0 0))),(2,.va (.c1 (.pt 1 0))),(3,iS .i64 a),(4,iS .i64 (cV (bl s) i))]) (fun i=>[kW s i 0 0,.cells (mL 0 (mk []) 0 0) 71]) (fun i=>a.toNat<=i/\i<=(bl s).length/\bC aU (bl s) i=bC aU (bl s) a.toNat) (fun i=>(bl s).length - i) a.toNat 2 ⟨Nat.le_refl _,by omega,rfl⟩ ?_ ?_ ?_⟩
 · simp -dsimp only [go_sem]
 · simp [go_sem]; omega
 rintro i ⟨hai,hi,hj⟩
 simp -dsimp only [go_sem]
 have hget:i < (bl s).length->(bl s)[i]? = some ((bl s).getD i 0):=getD_some 0
 have hz:(cV (bl s) i == 3 || cV (bl s) i == 4 || cV (bl s) i == 6)=false->bC aU (bl s) a.toNat=i:=fun h=>by
  rw [<-hj]; exact mJ fun c hc=>by rw [cV,hc] at h; simp only [IW] at h; exact h
 have hm:(cV (bl s) i == 5)=((bl s)[i]? == some 45):=by
  unfold cV
  cases hc:(bl s)[i]? with
  | none=>rfl
  | some c=>simp only [aGE]; rfl
 refine ⟨fun h3=>?_,fun h3=>?_⟩
 · have hlt:i < (bl s).length:=by
    rcases bF i (bl s).length with h4 | h4
    · exact h4
    · rw [cV,List.getElem?_eq_none h4] at h3; simp at h3
   have h7:=hget hlt
   refine ⟨by omega,⟨by omega,by omega,h2⟩,aC (i + 1) 2 ⟨by omega,hlt,?_⟩ (by omega) ?_ ?_⟩
   · rw [cV,h7] at h3; simp only [IW] at h3
     rw [iJ h7 h3,hj]
   · simp -dsimp only [go_sem]; simp [go_sem]
   · simp [go_sem]
 · have hz:=hz h3
   simp only [fJ,hz,hm.symm] at hK
   refine ⟨by omega,fun h4=>⟨⟨by omega,by omega,h2⟩,fun h5=>⟨by omega,?_⟩,fun h5=>⟨by omega,?_⟩⟩,fun h4=>⟨⟨by omega,by omega,h2⟩,fun h5=>⟨by omega,?_⟩,fun h5=>⟨by omega,?_⟩⟩⟩
   all_goals refine .sel [0] (by simp) (by simp) rfl (.done ?_)
   all_goals simp only [decide_eq_true_eq,decide_eq_false_iff_not] at h4
   · have h6:decide (16 < i - a.toNat)=true:=by simp; omega
     simp only [h6,aI,lA] at hK
     have:=hK 1 (mk (List.drop a.toNat (List.take i (bl s)))) 0 a i
     rw [Int.toNat_of_nonneg h0] at this
     exact this
   · have h6:decide (16 < i - a.toNat)=true:=by simp; omega
     simp only [h6,aI,lA] at hK
     have:=hK 1 (mk (List.drop a.toNat (List.take i (bl s)))) 0 a i
     rw [Int.toNat_of_nonneg h0] at this
     exact this
   · have h6:decide (16 < i - a.toNat)=false:=by simp; omega
     simp only [h6,h5,aI,aD,lA] at hK
     exact hK 1 (mk (List.drop a.toNat (List.take i (bl s)))) 0 a i
   · have h6:decide (16 < i - a.toNat)=false:=by simp; omega
     simp only [h6,h5,aD,lA] at hK
     exact hK
def tH (neg:Bool) (l:List UInt8):Int:=match valL (b6 neg) 0 l with | some n=>signed neg n | none=>0
def pW (neg:Bool) (l:List UInt8):Bool:=(valL (b6 neg) 0 l).isSome
def q8:W.Spec:=fun xs H K=>
 match xs,H with
 | [.va (.c1 (.vl (.bool neg))),.va (.c1 (.vl (.string s)))],[]=>((bl s).length<=4000/\∀ c ∈ bl s,a7 c=true)/\
  K (.tu [iA .i64 (tH neg (bl s)),bA (pW neg (bl s))]) []
 | _,_=>False
attribute [go_sem ↓] q8
theorem wL {xs:List S} {H:Hp} {K:S->Hp->Prop} (h:q8 xs H K):∃ neg s,xs=[bS neg,tS s]/\H=[]/\(bl s).length<=4000/\(∀ c ∈ bl s,a7 c=true)/\
 K (.tu [iA .i64 (tH neg (bl s)),bA (pW neg (bl s))]) []:=by
 unfold q8 at h
 split at h
 · exact ⟨_,_,rfl,rfl,h.1.1,h.1.2,h.2⟩
 · exact h.elim
theorem aD8:Meets Tryz.prog 156 q8:=by
 refine aE Tryz.func156 aLU 2 (by rw [Tryz.ntmps156]; decide) (aA _) (fun xs H K h=>by obtain ⟨neg,s,rfl,_⟩:=wL h; rfl) ?_
 intro xs H K h
 obtain ⟨neg,s,rfl,rfl,hl,hd,hK⟩:=wL h
 have rest:vc [] 0 pc156_4.ungh (gH [(0,bS neg),(1,tS s),(6,iS .u64 (b6 neg))]) [] (oB 0 F4 K):=by
  simp -dsimp only [go_sem,pc156_4,F4]
  refine aL (α:=Nat × Nat) (fun z=>[(0,bS neg),(1,tS s),(6,iS .u64 (b6 neg)),(7,iS .u64 z.2),(12,iS .i64 (bl s).length),(13,iS .i64 z.1)]) (fun _=>[]) (fun z=>z.1<=(bl s).length/\z.2<=b6 neg/\valL (b6 neg) z.2 ((bl s).drop z.1)=valL (b6 neg) 0 (bl s)) (fun z=>(bl s).length - z.1) (0,0) 0 ⟨by omega,by omega,rfl⟩ ?_ rfl ?_
  · simp [go_sem]
  rintro ⟨i,n⟩ ⟨hi,hn,hv⟩
  simp only at hi hn hv
  have hL:b6 neg<=9223372036854775808/\9<=b6 neg:=by cases neg<;>simp [b6]
  simp -dsimp only [go_sem]
  refine ⟨fun h1=>⟨by simp at h1; omega,fun c hc=>?_⟩,fun h1=>?_⟩
  · simp at h1
    have hdc:=iU.1 (hd c (bJ hc))
    have w1:IntKind.u64.wrap ((c.toNat:Int) - 48)=(c.toNat:Int) - 48:=lM (by simp [inr,IntKind.min,IntKind.max,IntKind.signed,IntKind.bits]; omega)
    have hq:((b6 neg:Int) - ((c.toNat:Int) - 48)).tdiv 10=((b6 neg - (c.toNat - 48)) / 10:Nat):=by
     rw [Int.tdiv_eq_ediv_of_nonneg (by omega)]; omega
    rw [cA hc] at hv
    rw [w1,hq]
    refine ⟨by omega,by omega,⟨by decide,by omega⟩,fun h2=>?_,fun h2=>?_⟩
    · simp only [decide_eq_true_eq,Int.ofNat_lt] at h2
      simp only [valL,h2,if_true] at hv
      simp only [tH,pW,<-hv] at hK
      exact .done hK
    · simp only [decide_eq_false_iff_not,Int.ofNat_lt] at h2
      simp only [valL,h2,if_false] at hv
      refine ⟨by omega,by omega,by omega,aC (i + 1,10 * n + (c.toNat - 48)) 0 ⟨h1,by omega,hv⟩ (by simp only; omega) ?_ rfl⟩
      simp [go_sem]
      omega
  · simp at h1
    have hi2:i=(bl s).length:=by omega
    subst hi2
    simp only [List.drop_length,valL] at hv
    simp only [tH,pW,<-hv] at hK
    refine ⟨fun h2=>bW hK ?_,fun h2=>bW hK ?_⟩
    · subst h2
      simp [signed,iA,bA,IntKind.wrap,IntKind.signed,IntKind.bits]
      omega
    · subst h2
      simp [signed,iA,bA,IntKind.wrap,IntKind.signed,IntKind.bits,b6] at hn ⊢
      omega
 simp -dsimp only [go_sem,ZG,F4]
 refine ⟨fun h=>gL 0 rest ?_ rfl,fun h=>gL 0 rest ?_ rfl⟩
 all_goals simp [go_sem,b6,h]
def Y0:W.Spec:=wA (fun l a=>∃ c,l[a]? = some c/\(a7 c=true\/c=45)) fM
attribute [go_sem ↓] Y0
theorem KX {l:List UInt8} {i:Nat}:(cV l i == 4)=(match l[i]? with | some c=>a7 c | none=>false):=by
 unfold cV
 cases l[i]? with
 | none=>rfl
 | some c=>exact aN4 c
theorem O9 {l:List UInt8} {i:Nat}:(cV l i == 5)=(l[i]? == some 45):=by
 unfold cV
 cases hc:l[i]? with
 | none=>rfl
 | some c=>simp only [aGE]; rfl
theorem aA6 {l:List UInt8} {i:Nat}:(cV l i == 3 || cV l i == 6 || cV l i == 5)=kY l i:=by
 unfold cV kY
 cases hc:l[i]? with
 | none=>rfl
 | some c=>simp only [aGZ]
theorem aCT:Meets Tryz.prog 137 Y0:=by
 refine aE Tryz.func137 aK3 1 (by rw [Tryz.ntmps137]; decide) (aB F1 (aB GJ (aB aD8 (aA _)))) uT ?_
 intro xs H K h
 obtain ⟨s,a,rfl,rfl,h0,h1,h2,⟨c0,hc0,hc1⟩,hK⟩:=nF h
 have hlt:a.toNat < (bl s).length:=(a6.1 hc0).1
 generalize hneg:((bl s)[a.toNat]? == some 45)=neg at hK
 generalize hfe:(bif neg then a.toNat + 1 else a.toNat)=f
 have hf1:a.toNat<=f/\f<=(bl s).length:=by subst hfe; cases neg<;>simp<;>omega
 have rest:vc [(135,.s BL),(139,.s qC),(156,.s q8)] 1 pc137_5.ungh (gH [(0,.va (.c1 (.pt 0 0))),(2,.va (.c1 (.pt 1 0))),(3,iS .i64 a),(4,bS neg)]) [kW s f 0 0,.cells (mL 0 (mk []) 0 0) 71] (oB 1 vK K):=by
  simp -dsimp only [go_sem,pc137_5,vK]
  refine aL (α:=Nat) (fun i=>[(0,.va (.c1 (.pt 0 0))),(2,.va (.c1 (.pt 1 0))),(3,iS .i64 a),(4,bS neg),(5,iS .i64 f)]) (fun i=>[kW s i 0 0,.cells (mL 0 (mk []) 0 0) 71]) (fun i=>f<=i/\i<=(bl s).length/\bC a7 (bl s) i=bC a7 (bl s) f) (fun i=>(bl s).length - i) f 2 ⟨Nat.le_refl _,hf1.2,rfl⟩ ?_ ?_ ?_
  · simp -dsimp only [go_sem]
  · simp -dsimp only [go_sem]
  rintro i ⟨hai,hi,hj⟩
  simp -dsimp only [go_sem]
  refine ⟨by omega,fun h3=>?_,fun h3=>?_⟩
  · rw [KX] at h3
    split at h3
    · rename_i c hc
      have hlt':=(a6.1 hc).1
      refine ⟨by omega,aC (i + 1) 2 ⟨by omega,hlt',by rw [iJ hc h3,hj]⟩ (by omega) ?_ ?_⟩
      · simp -dsimp only [go_sem]
      · simp -dsimp only [go_sem]; simp
    · cases h3
  · have hz:bC a7 (bl s) f=i:=by
     rw [<-hj]
     refine mJ fun c hc=>?_
     rw [KX,hc] at h3
     exact h3
    have hcond:∀ c:UInt8,((List.drop f (List.take i (bl s)) == [])=false->(List.drop f (List.take i (bl s)))[0]? = some c)->
     (List.drop f (List.take i (bl s)) == [] || (c.toNat:Int) == 48 && (decide (1 < ((List.drop f (List.take i (bl s))).length:Int)) || neg)) =
     (List.drop f (List.take i (bl s)) == [] || ((List.drop f (List.take i (bl s)))[0]? == some 48 && (decide (1 < (List.drop f (List.take i (bl s))).length) || neg))):=by
     intro c hc
     cases hd:(List.drop f (List.take i (bl s))) with
     | nil=>rfl
     | cons x l=>
      rw [hd] at hc
      have:=hc rfl
      simp only [List.getElem?_cons_zero,aJ] at this
      subst this
      rw [eD 48]
      have h9:decide (1 < (((x :: l).length:Nat):Int))=decide (1 < (x :: l).length):=by rw [decide_eq_decide]; omega
      rw [h9]
      simp only [List.getElem?_cons_zero]
      rfl
    simp only [fM,hneg,hfe,hz] at hK
    refine ⟨by omega,fun h4=>⟨by omega,by cases hd:(List.drop f (List.take i (bl s)))<;>simp_all⟩,fun c hc=>⟨fun h5 h6=>by rw [h5]; simpa using h6,fun h5 h6=>by simp_all,fun h5=>?_,fun h5=>?_⟩⟩
    · rw [hcond c hc] at h5
      simp only [h5,aI,lA] at hK
      refine .sel [0] (by simp) (by simp) rfl (.done ?_)
      have:=hK 0 (mk []) 0 0 i
      rw [Int.toNat_of_nonneg h0] at this
      exact this
    · rw [hcond c hc] at h5
      simp only [h5,aD] at hK
      have hdig:∀ c ∈ List.drop f (List.take i (bl s)),a7 c=true:=by
       intro c hc
       rw [<-hz] at hc
       exact oR c hc
      refine ⟨⟨by simp; omega,hdig⟩,?_⟩
      have rest2:∀ e t:Int,(e=0/\t=0/\pW neg ((List.take i (bl s)).drop f)=true\/e=4/\t=a/\pW neg ((List.take i (bl s)).drop f)=false)->vc [(135,.s BL),(139,.s qC),(156,.s q8)] 1 pc137_15.ungh (gH [(0,.va (.c1 (.pt 0 0))),(2,.va (.c1 (.pt 1 0))),(3,iS .i64 a),(7,iS .i64 (tH neg ((List.take i (bl s)).drop f)))]) [kW s i e t,.cells (mL 0 (mk []) 0 0) 71] (oB 1 vK K):=by
       intro e t het
       simp -dsimp only [go_sem,pc137_15,vK]
       rw [aA6]
       refine ⟨by omega,fun h7=>.sel [0] (by simp) (by simp) rfl (.done ?_),fun h7=>.sel [0] (by simp) (by simp) rfl (.done ?_)⟩
       · rcases het with ⟨rfl,rfl,hb⟩ | ⟨rfl,rfl,hb⟩
         · cases hv:valL (b6 neg) 0 (List.drop f (List.take i (bl s))) with
           | none=>simp [pW,hv] at hb
           | some n=>
            simp only [hv,h7,aI,lA] at hK
            exact hK _ _ _ _ i
         · cases hv:valL (b6 neg) 0 (List.drop f (List.take i (bl s))) with
           | some n=>simp [pW,hv] at hb
           | none=>
            simp only [hv,lA] at hK
            have:=hK 2 (mk []) (tH neg (List.drop f (List.take i (bl s)))) t i
            rw [Int.toNat_of_nonneg h0] at this
            exact this
       · rcases het with ⟨rfl,rfl,hb⟩ | ⟨rfl,rfl,hb⟩
         · cases hv:valL (b6 neg) 0 (List.drop f (List.take i (bl s))) with
           | none=>simp [pW,hv] at hb
           | some n=>
            simp only [hv,h7,aD,lA] at hK
            simp only [tH,hv]
            exact hK
         · cases hv:valL (b6 neg) 0 (List.drop f (List.take i (bl s))) with
           | some n=>simp [pW,hv] at hb
           | none=>
            simp only [hv,lA] at hK
            have:=hK 2 (mk []) (tH neg (List.drop f (List.take i (bl s)))) t i
            rw [Int.toNat_of_nonneg h0] at this
            exact this
      refine ⟨fun h6=>gL 2 (rest2 4 a (.inr ⟨rfl,rfl,by simpa using h6⟩)) ?_ ?_,fun h6=>gL 2 (rest2 0 0 (.inl ⟨rfl,rfl,by simpa using h6⟩)) ?_ ?_⟩
      all_goals simp -dsimp only [go_sem]
 simp -dsimp only [go_sem,XA,vK]
 rw [O9,hneg]
 refine ⟨by omega,fun h3=>⟨by omega,gL 2 rest ?_ ?_⟩,fun h3=>gL 2 rest ?_ ?_⟩
 all_goals simp -dsimp only [go_sem]
 all_goals (subst h3; simp at hfe; subst hfe; simp; try omega)
abbrev iX (c:UInt8):List C:=[.vl (.int .u8 c.toNat)]
def kD (p:C) (n:Nat) (xs:List (List C)):Prop:=(p=.vl (.pointer none)\/p=.pt 0 0)/\n=xs.length/\(∀ r ∈ xs,∃ c:UInt8,r=iX c)/\xs.length<=1000000000
def OE:W.Spec:=fun av H K=>
 match av,H with
 | [.va (.c1 (.pt 0 0))],[.cells [p,.sl 1 n] 146,.row xs 5 1]=>kD p n xs/\K (.tu []) [.cells [.pt 0 0,.sl 1 n] 146,.row xs 5 1]
 | _,_=>False
theorem FJ {av:List S} {H:Hp} {K:S->Hp->Prop} (h:OE av H K):∃ p n xs,av=[.va (.c1 (.pt 0 0))]/\H=[.cells [p,.sl 1 n] 146,.row xs 5 1]/\kD p n xs/\
 K (.tu []) [.cells [.pt 0 0,.sl 1 n] 146,.row xs 5 1]:=by
 unfold OE at h
 split at h
 · exact ⟨_,_,_,rfl,rfl,h⟩
 · exact h.elim
attribute [go_sem ↓] OE
theorem zC:Meets Tryz.prog 147 OE:=by
 refine aE Tryz.func147 aLJ 1 (by rw [Tryz.ntmps147]; decide) (aA _) (fun av H K h=>by obtain ⟨_,_,_,rfl,_⟩:=FJ h; rfl) ?_
 intro av H K h
 obtain ⟨p,n,xs,rfl,rfl,hp,hK⟩:=FJ h
 rcases hp.1 with rfl | rfl
 · simp -dsimp only [go_sem,OF,P3] at hK ⊢
   simp only [Option.isNone,Bool.true_eq_false,false_implies,and_true,true_implies]
   exact .done hK
 · simp -dsimp only [go_sem,OF,P3] at hK ⊢
   exact .done hK
def PA:W.Spec:=fun av H K=>
 match av,H with
 | [.va (.c1 (.pt 0 0)),.va (.c1 (.vl (.int .u8 c)))],[.cells [p,.sl 1 n] 146,.row xs 5 1]=>(kD p n xs/\0<=c/\c<=255)/\
  K (.va (.c1 (.vl .nilIface))) [.cells [.pt 0 0,.sl 1 (n + 1)] 146,.row (xs ++ [[.vl (.int .u8 c)]]) 5 1]
 | _,_=>False
theorem ED {av:List S} {H:Hp} {K:S->Hp->Prop} (h:PA av H K):∃ p n xs c,av=[.va (.c1 (.pt 0 0)),iS .u8 c]/\H=[.cells [p,.sl 1 n] 146,.row xs 5 1]/\kD p n xs/\(0<=c/\c<=255)/\
 K (.va (.c1 (.vl .nilIface))) [.cells [.pt 0 0,.sl 1 (n + 1)] 146,.row (xs ++ [[.vl (.int .u8 c)]]) 5 1]:=by
 unfold PA at h
 split at h
 · exact ⟨_,_,_,_,rfl,rfl,h.1.1,h.1.2,h.2⟩
 · exact h.elim
attribute [go_sem ↓] PA
theorem y8:Meets Tryz.prog 123 PA:=by
 refine aE Tryz.func123 aJR 2 (by rw [Tryz.ntmps123]; decide) (aB zC (aA _)) (fun av H K h=>by obtain ⟨_,_,_,_,rfl,_⟩:=ED h; rfl) ?_
 intro av H K h
 obtain ⟨p,n,xs,c,rfl,rfl,hp,hc,hK⟩:=ED h
 obtain ⟨hp1,rfl,hp2,hp3⟩:=hp
 rcases hp1 with rfl | rfl
 all_goals
  simp -dsimp only [go_sem,aAA,aAL] at hK ⊢
  refine ⟨⟨by simp,rfl,hp2,hp3⟩,by omega,.sel [0,1] (by simp) (by simp) rfl (.done ?_)⟩
  simpa [go_sem] using hK
def FV:W.Spec:=fun av H K=>
 match av,H with
 | [.va (.c1 (.pt 0 0))],[.cells [p,.sl 1 n] 146,.row xs 5 1]=>kD p n xs/\K (iS .i64 n) [.cells [p,.sl 1 n] 146,.row xs 5 1]
 | _,_=>False
theorem AL {av:List S} {H:Hp} {K:S->Hp->Prop} (h:FV av H K):∃ p n xs,av=[.va (.c1 (.pt 0 0))]/\H=[.cells [p,.sl 1 n] 146,.row xs 5 1]/\kD p n xs/\
 K (iS .i64 n) [.cells [p,.sl 1 n] 146,.row xs 5 1]:=by
 unfold FV at h
 split at h
 · exact ⟨_,_,_,rfl,rfl,h⟩
 · exact h.elim
attribute [go_sem ↓] FV
theorem aDI:Meets Tryz.prog 122 FV:=by
 refine aE Tryz.func122 aLW 1 (by rw [Tryz.ntmps122]; decide) (aA _) (fun av H K h=>by obtain ⟨_,_,_,rfl,_⟩:=AL h; rfl) ?_
 intro av H K h
 obtain ⟨p,n,xs,rfl,rfl,⟨hp1,rfl,hp2,hp3⟩,hK⟩:=AL h
 simp -dsimp only [go_sem,YN,W3] at hK ⊢
 exact .done hK
def GN:W.Spec:=fun av H K=>
 match av,H with
 | [.va (.c1 (.pt 0 0))],[.cells [p,.sl 1 n] 146,.row xs 5 1]=>kD p n xs/\K (tS (mk (kZ xs))) [.cells [p,.sl 1 n] 146,.dead]
 | _,_=>False
theorem AJ {av:List S} {H:Hp} {K:S->Hp->Prop} (h:GN av H K):∃ p n xs,av=[.va (.c1 (.pt 0 0))]/\H=[.cells [p,.sl 1 n] 146,.row xs 5 1]/\kD p n xs/\
 K (tS (mk (kZ xs))) [.cells [p,.sl 1 n] 146,.dead]:=by
 unfold GN at h
 split at h
 · exact ⟨_,_,_,rfl,rfl,h⟩
 · exact h.elim
attribute [go_sem ↓] GN
theorem MS:Meets Tryz.prog 125 GN:=by
 refine aE Tryz.func125 aKI 1 (by rw [Tryz.ntmps125]; decide) (aA _) (fun av H K h=>by obtain ⟨_,_,_,rfl,_⟩:=AJ h; rfl) ?_
 intro av H K h
 obtain ⟨p,n,xs,rfl,rfl,⟨hp1,rfl,hp2,hp3⟩,hK⟩:=AJ h
 simp -dsimp only [go_sem,ZI,ZR] at hK ⊢
 exact ⟨⟨hp2,by omega⟩,.done hK⟩
def quoL:Nat->List UInt8->List UInt8->Nat × Option (List UInt8)
 | i,[],_=>(i,none)
 | i,c :: r,out=>
  bif decide (c < 32) || decide (126 < c) then (i,none)
  else bif c == 34 then (i + 1,some out)
  else bif c == 92 then match r with
   | d :: r'=>bif d == 34 || d == 92 then quoL (i + 2) r' (out ++ [d]) else (i,none)
   | []=>(i,none)
  else quoL (i + 1) r (out ++ [c])
theorem lN (i:Nat) (out:List UInt8):quoL i [] out=(i,none):=by rw [quoL.eq_def]
theorem eS (i:Nat) (c:UInt8) (r out:List UInt8):quoL i (c :: r) out=bif decide (c < 32) || decide (126 < c) then (i,none)
 else bif c == 34 then (i + 1,some out)
 else bif c == 92 then match r with
  | d :: r'=>bif d == 34 || d == 92 then quoL (i + 2) r' (out ++ [d]) else (i,none)
  | []=>(i,none)
 else quoL (i + 1) r (out ++ [c]):=by rw [quoL.eq_def]
def e7 (l:List UInt8) (a:Nat):R:=match quoL (a + 1) (l.drop (a + 1)) [] with
 | (i,none)=>.bad 2 i
 | (z,some out)=>bif decide (200 < out.length) then .bad 3 a else .ok 3 out 0 z
def SJ:W.Spec:=wA (fun l a=>l[a]? = some 34) e7
attribute [go_sem ↓] SJ
theorem aLO:Meets Tryz.prog 138 SJ:=by
 refine aE Tryz.func138 aK5 1 (by rw [Tryz.ntmps138]; decide) (aB GJ (aB y8 (aB aDI (aB MS (aA _))))) uT ?_
 intro xs H K h
 obtain ⟨s,a,rfl,rfl,h0,h1,h2,hc0,hK⟩:=nF h
 have hlt:a.toNat < (bl s).length:=(a6.1 hc0).1
 simp -dsimp only [go_sem,X4,XT] at hK ⊢
 refine ⟨by omega,dX (α:=C × Nat × List UInt8) (fun z=>[(0,.va (.c1 (.pt 0 0))),(2,.va (.c1 (.pt 1 0))),(3,iS .i64 a),(4,.va (.c1 (.pt 2 0)))])
  (fun z=>[kW s z.2.1 0 0,.cells (mL 0 (mk []) 0 0) 71,.cells [z.1,.sl 3 z.2.2.length] 146,.row (z.2.2.map iX) 5 1])
  (fun z=>(z.1=.vl (.pointer none)\/z.1=.pt 2 0)/\z.2.1<=(bl s).length/\z.2.2.length<=z.2.1/\quoL z.2.1 ((bl s).drop z.2.1) z.2.2=quoL (a.toNat + 1) ((bl s).drop (a.toNat + 1)) []) (fun z=>(bl s).length - z.2.1)
  (.nilc 2 1 5 1 _ _ rfl rfl (l9 (.vl (.pointer none),a.toNat + 1,[]) 4 ⟨.inl rfl,by simp only; omega,by simp,rfl⟩ ?_ ?_)) ?_⟩
 · simp -dsimp only [go_sem]
 · simp -dsimp only [go_sem]; simp; omega
 rintro ⟨p,i,out⟩ ⟨hp,hi,ho,hq⟩
 simp only at hp hi ho hq
 have hby:∀ r ∈ out.map iX,∃ c:UInt8,r=iX c:=fun r hr=>by obtain ⟨c,_,rfl⟩:=List.mem_map.1 hr; exact ⟨c,rfl⟩
 have hbl:(out.map iX).length<=1000000000:=by simp; omega
 have hrb:kZ (out.map iX)=out:=by
  simp only [kZ,List.map_map]
  conv=>rhs; rw [<-List.map_id out]
  apply List.map_congr_left
  intro c _
  simp [C.gi,iX]
 have hn:(bl s).length<=i->quoL i ((bl s).drop i) out=(i,none):=fun h=>by rw [List.drop_eq_nil_iff.2 h,lN]
 have hcs:∀ c:UInt8,(bl s)[i]? = some c->(bl s).drop i=c :: (bl s).drop (i + 1):=fun c hc=>cA hc
 have GZ:∀ c:UInt8,decide ((c.toNat:Int) < 32)=decide (c < 32):=fun c=>by rw [decide_eq_decide,UInt8.lt_iff_toNat_lt]; show (c.toNat:Int) < 32 ↔ c.toNat < 32; omega
 have GG:∀ c:UInt8,decide (126 < (c.toNat:Int))=decide (126 < c):=fun c=>by rw [decide_eq_decide,UInt8.lt_iff_toNat_lt]; show 126 < (c.toNat:Int) ↔ 126 < c.toNat; omega
 have e34:∀ c:UInt8,((c.toNat:Int) == 34)=(c == 34):=fun c=>eD 34
 have e92:∀ c:UInt8,((c.toNat:Int) == 92)=(c == 92):=fun c=>eD 92
 have n34:∀ c:UInt8,((c.toNat:Int) != 34)=!(c == 34):=fun c=>by rw [bne,e34]
 have n92:∀ c:UInt8,((c.toNat:Int) != 92)=!(c == 92):=fun c=>by rw [bne,e92]
 have bad:quoL (a.toNat + 1) ((bl s).drop (a.toNat + 1)) []=(i,none)->∀ k x n y,K (.va (.gs (mL k x n y))) [kW s i 2 i]:=fun h=>by
  simp only [e7,h,lA] at hK
  exact fun k x n y=>hK k x n y i
 rcases hp with rfl | rfl
 all_goals
  simp -dsimp only [go_sem,GZ,GG,e34,e92,n34,n92,hrb]
  refine ⟨fun h3=>by simp at h3; omega,fun c hc=>⟨fun h3=>by simp at h3; omega,fun c1 hc1=>⟨fun h3=>?_,fun h3=>?_⟩⟩⟩
  · refine .sel [0] (by simp) (by simp) rfl (.done (bad ?_ _ _ _ _))
    rw [<-hq]
    by_cases h4:(bl s).length<=i
    · exact hn h4
    · have h5:decide (((bl s).length:Int)<=i)=false:=by simp; omega
      have h6:=hc h5
      rw [hcs c h6,eS]
      by_cases h7:c < 32
      · simp [h7]
      · have h8:=hc1 (by rw [h5]; simp [h7])
        rw [h6] at h8
        simp only [aJ] at h8
        subst h8
        simp only [h5,h7,decide_false,Bool.false_or] at h3
        simp [h3]
  · simp only [Bool.or_eq_false_iff] at h3
    obtain ⟨⟨h4,h5⟩,h6⟩:=h3
    have hc':=hc h4
    have hc1':=hc1 (by rw [h4,h5]; rfl)
    rw [hc'] at hc1'
    simp only [aJ] at hc1'
    subst hc1'
    simp at h4
    refine ⟨by omega,fun c2 hc2=>?_⟩
    rw [hc'] at hc2
    simp only [aJ] at hc2
    subst hc2
    rw [hcs c hc',eS] at hq
    simp only [h5,h6,Bool.false_or,aD] at hq
    refine ⟨fun h7=>?_,fun h7=>?_⟩
    · simp only [h7,aI] at hq
      simp only [e7,<-hq] at hK
      refine ⟨by omega,⟨by simp,by simp,hby,hbl⟩,fun h8=>⟨⟨by simp,by simp,hby,hbl⟩,.sel [0] (by simp) (by simp) rfl (.done ?_)⟩,fun h8=>⟨⟨by simp,by simp,hby,hbl⟩,.sel [0] (by simp) (by simp) rfl (.done ?_)⟩⟩
      · have h9:decide (200 < out.length)=true:=by simp at h8 ⊢; omega
        simp only [h9,aI,lA] at hK
        have:=hK 3 (mk out) 0 a (i + 1)
        rw [Int.toNat_of_nonneg h0] at this
        exact this
      · have h9:decide (200 < out.length)=false:=by simp at h8 ⊢; omega
        simp only [h9,aD,lA] at hK
        exact hK
    · simp only [h7,aD] at hq
      have hi1:((i:Int) + 1).toNat=i + 1:=by omega
      rw [hi1]
      refine ⟨fun h8=>⟨by omega,fun _=>by omega,fun h9=>by simp at h9; omega,fun c1 hc1'=>⟨fun _=>by omega,fun h9=>by simp at h9; omega,fun c2 hc2=>⟨fun h9 h10=>by rw [h9,h10]; rfl,fun h9=>?_,fun h9=>?_⟩⟩⟩,fun h8=>?_⟩
      · refine .sel [0] (by simp) (by simp) rfl (.done (bad ?_ _ _ _ _))
        simp only [h8,aI] at hq
        rw [<-hq]
        by_cases h10:(bl s).length<=i + 1
        · rw [List.drop_eq_nil_iff.2 h10]
        · have h11:decide (((bl s).length:Int)<=i + 1)=false:=by simp; omega
          have h12:=hc1' h11
          rw [cA h12]
          simp only [h11,Bool.false_or,Bool.and_eq_true,Bool.not_eq_true'] at h9
          have h13:=hc2 (by rw [h11,h9.1]; rfl)
          rw [h12] at h13
          simp only [aJ] at h13
          subst h13
          simp only [h9.1,h9.2,Bool.or_self,aD]
      · simp only [Bool.or_eq_false_iff] at h9
        have h12:=hc1' h9.1
        have hlt1:=(a6.1 h12).1
        refine ⟨by omega,by omega,fun c3 hc3=>?_⟩
        rw [h12] at hc3
        simp only [aJ] at hc3
        subst hc3
        have h14:(c1 == 34 || c1 == 92)=true:=by
         cases h15:(c1 == 34) with
         | true=>rfl
         | false=>
          have h13:=hc2 (by rw [h9.1,h15]; rfl)
          rw [h12] at h13
          simp only [aJ] at h13
          subst h13
          rw [h15] at h9
          simpa using h9.2
        simp only [h8,aI,cA h12,h14] at hq
        refine ⟨⟨⟨by simp,by simp,hby,hbl⟩,by omega,by have:=c1.toNat_lt; omega⟩,by omega,aC (.pt 2 0,i + 2,out ++ [c1]) 4 ⟨.inr rfl,by simp only; omega,by simp; omega,hq⟩ (by simp only; omega) ?_ ?_⟩
        · simp -dsimp only [go_sem]
        · simp -dsimp only [go_sem]; simp; omega
      · simp only [h8,aD] at hq
        refine ⟨⟨⟨by simp,by simp,hby,hbl⟩,by omega,by have:=c.toNat_lt; omega⟩,by omega,aC (.pt 2 0,i + 1,out ++ [c]) 4 ⟨.inr rfl,by simp only; omega,by simp; omega,hq⟩ (by simp only; omega) ?_ ?_⟩
        · simp -dsimp only [go_sem]
        · simp -dsimp only [go_sem]; simp
def cF (l:List UInt8) (p:Nat):R:=match l[p]? with
 | none=>.ok 0 [] 0 p
 | some c=>bif bD c.toNat then fJ l p else bif a7 c || c == 45 then fM l p else bif c == 34 then e7 l p
  else bif dB c.toNat then .ok 4 [c] 0 (p + 1) else .bad 2 p
theorem aIL (c:UInt8):(dC c.toNat == 3)=bD c.toNat:=by
 have:=cN (p:=fun c=>(dC c.toNat == 3) == bD c.toNat) (by decide +kernel) c
 simpa using this
theorem XY (c:UInt8):(dC c.toNat == 4 || dC c.toNat == 5)=(a7 c || c == 45):=by
 have:=cN (p:=fun c=>(dC c.toNat == 4 || dC c.toNat == 5) == (a7 c || c == 45)) (by decide +kernel) c
 simpa using this
theorem aF9 (c:UInt8):(dC c.toNat == 7)=(c == 34):=by
 have:=cN (p:=fun c=>(dC c.toNat == 7) == (c == 34)) (by decide +kernel) c
 simpa using this
theorem aEQ (c:UInt8):(dC c.toNat == 8)=dB c.toNat:=by
 have:=cN (p:=fun c=>(dC c.toNat == 8) == dB c.toNat) (by decide +kernel) c
 simpa using this
theorem aLC (c:UInt8):(dC c.toNat == -1)=false:=by
 have:=cN (p:=fun c=>(dC c.toNat == -1) == false) (by decide +kernel) c
 simpa using this
def SG:W.Spec:=uG (fun _ _ e t=>e=0/\t=0) fun s a _ _ K=>N6 s (bI (bl s) a.toNat) K (cF (bl s) (bI (bl s) a.toNat))
attribute [go_sem ↓] SG
theorem aKR:Meets Tryz.prog 115 SG:=by
 refine aE Tryz.func115 aJ5 1 (by rw [Tryz.ntmps115]; decide)
  (aB aLN (aB F1 (aB aK2 (aB aCT (aB aLO (aB GJ (aA _))))))) yY ?_
 intro xs H K h
 obtain ⟨s,a,e,t,rfl,rfl,h0,h1,h2,⟨rfl,rfl⟩,hK⟩:=mQ h
 generalize hp:bI (bl s) a.toNat=p at hK
 have hpl:p<=(bl s).length:=by rw [<-hp]; exact lP (by omega)
 have hfin:∀ {k x n y z e t} {B2:B},Tok (cF (bl s) p) p k x n y z e t->W.Fin 1 K (.va (.gs (mL k x n y))) [kW s z e t,B2]:=fun h=>.sel [0] (by simp) (by simp) rfl (.done (hK _ _ _ _ _ _ _ h))
 have ht:cF (bl s) p=match (bl s)[p]? with
  | none=>.ok 0 [] 0 p
  | some c=>bif dC c.toNat == 3 then fJ (bl s) p else bif dC c.toNat == 4 || dC c.toNat == 5 then fM (bl s) p else bif dC c.toNat == 7 then e7 (bl s) p
   else bif dC c.toNat == 8 then .ok 4 [c] 0 (p + 1) else .bad 2 p:=by
  unfold cF
  cases (bl s)[p]? with
  | none=>rfl
  | some c=>simp only [aIL,XY,aF9,aEQ]
 rw [ht] at hfin
 simp -dsimp only [go_sem,YT,Z8,hp] at ⊢
 cases hc:(bl s)[p]? with
 | none=>
  rw [hc] at hfin
  have hk:cV (bl s) p=-1:=by rw [cV,hc]
  simp only [hk]
  refine ⟨⟨h0,h1,h2⟩,⟨by omega,by omega,h2⟩,fun _=>hfin ⟨rfl,rfl,rfl,rfl,rfl,rfl,rfl⟩,fun h=>by simp at h⟩
 | some c=>
  rw [hc] at hfin
  have hplt:p < (bl s).length:=(a6.1 hc).1
  have hk:cV (bl s) p=dC c.toNat:=by rw [cV,hc]
  have hd:(List.take (p + 1) (bl s)).drop p=[c]:=by
   rw [List.drop_take,cA hc]; simp
  simp only [hk,aLC]
  have q45:=XY c
  have q7:=aF9 c
  have hi1:((p:Int) + 1 - 1)=p:=by omega
  have hi2:((p:Int) + 1).toNat=p + 1:=by omega
  rw [hi1,hi2]
  refine ⟨⟨h0,h1,h2⟩,⟨by omega,by omega,h2⟩,fun h=>by simp at h,fun _=>?_⟩
  simp only [Int.toNat_natCast,hd]
  repeat' (first | apply And.intro | intro)
  all_goals first
   | omega
   | (refine hfin ?_; simp_all; done)
   | (exact ⟨c,rfl,by simp_all⟩)
   | (simp_all; done)
   | skip
  · rename_i g3 g4 g5 g7 g8
    refine hfin ?_
    simp only [g3,g4,g5,g7,g8,aI,aD,Bool.or_self]
    exact ⟨rfl,rfl,rfl,rfl,by simp,rfl,rfl⟩
  · rename_i g3 g4 g5 g7 g8
    refine hfin ?_
    simp only [g3,g4,g5,g7,g8,aD,Bool.or_self]
    exact ⟨rfl,rfl,p,rfl⟩
structure Tk where
 k:Int
 x:List UInt8
 n:Int
 a:Nat
abbrev dI (t:Tk):List C:=mL t.k (mk t.x) t.n t.a
inductive SR where
 | ok (l:List Tk)
 | bad (e t:Int)
def SR.cons (t:Tk):SR->SR
 | .ok l=>.ok (t :: l)
 | .bad e t=>.bad e t
def SR.app (acc:List Tk):SR->SR
 | .ok l=>.ok (acc ++ l)
 | .bad e t=>.bad e t
theorem SR.app_cons (acc:List Tk) (t:Tk) (r:SR):SR.app acc (SR.cons t r)=SR.app (acc ++ [t]) r:=by cases r<;>simp [SR.app,SR.cons]
def c8:Nat->List UInt8->Nat->SR
 | 0,_,_=>.ok []
 | f + 1,l,a=>match cF l (bI l a) with
  | .bad e t=>.bad e t
  | .ok k x n z=>bif k == 0 then .ok [⟨k,x,n,bI l a⟩] else SR.cons ⟨k,x,n,bI l a⟩ (c8 f l z)
def aQ (l:List UInt8):SR:=bif decide (4000 < l.length) then .bad 3 0 else c8 (l.length + 1) l 0
def SR.toks:SR->List Tk
 | .ok l=>l
 | .bad _ _=>[]
def SR.err:SR->Int
 | .ok _=>0
 | .bad e _=>e
def SR.off:SR->Int
 | .ok _=>0
 | .bad _ t=>t
theorem O5 {l:List UInt8} {a:Nat} {c:UInt8} (hc:l[a]? = some c) (hd:a7 c=true\/c=45):(∀ {e t},fM l a=.bad e t->e ≠ 0)/\∀ {k x n z},fM l a=.ok k x n z->k ≠ 0/\a < z/\z<=l.length:=by
 have hlt:a < l.length:=(a6.1 hc).1
 have hne:(l[a]? == some 45)=(c == 45):=by rw [hc]; rfl
 have hge:(bif c == 45 then a + 1 else a)<=l.length:=by cases (c == 45)<;>simp<;>omega
 have hz2:=nZ (p:=a7) hge
 have hz:∀ {p:UInt8->Bool} {f:Nat},f<=bC p l f:=fun {p f}=>lY
 have hz1:a < bC a7 l (bif c == 45 then a + 1 else a):=by
  rcases hd with hd | hd
  · have h45:(c == 45)=false:=by
     have:=cN (p:=fun c=>!(a7 c) || !(c == 45)) (by decide +kernel) c
     simpa [hd] using this
    simp only [h45,aD]
    rw [<-iJ hc hd]
    exact Nat.lt_of_lt_of_le (Nat.lt_succ_self a) hz
  · subst hd
    simp only [beq_self_eq_true,aI]
    exact Nat.lt_of_lt_of_le (Nat.lt_succ_self a) hz
 constructor
 · intro e t h
   unfold fM at h
   simp only at h
   revert h
   cases (List.drop (bif l[a]? == some 45 then a + 1 else a) (List.take (bC a7 l (bif l[a]? == some 45 then a + 1 else a)) l) == [] || ((List.drop (bif l[a]? == some 45 then a + 1 else a) (List.take (bC a7 l (bif l[a]? == some 45 then a + 1 else a)) l))[0]? == some 48 && (decide (1 < (List.drop (bif l[a]? == some 45 then a + 1 else a) (List.take (bC a7 l (bif l[a]? == some 45 then a + 1 else a)) l)).length) || l[a]? == some 45))) with
   | true=>intro h; simp only [aI,R.bad.injEq] at h; omega
   | false=>
    simp only [aD]
    split
    · intro h; simp only [R.bad.injEq] at h; omega
    · cases kY l (bC a7 l (bif l[a]? == some 45 then a + 1 else a))<;>simp only [aI,aD,R.bad.injEq,reduceCtorEq,false_implies]; intro h; omega
 · intro k x n z h
   unfold fM at h
   simp only at h
   rw [hne] at h
   revert h
   generalize (List.drop (bif c == 45 then a + 1 else a) (List.take (bC a7 l (bif c == 45 then a + 1 else a)) l))=q
   cases (q == [] || (q[0]? == some 48 && (decide (1 < q.length) || c == 45))) with
   | true=>intro h; simp only [aI,reduceCtorEq] at h
   | false=>
    simp only [aD]
    split
    · intro h; cases h
    · cases kY l (bC a7 l (bif c == 45 then a + 1 else a))<;>simp only [aI,aD,R.ok.injEq,reduceCtorEq,false_implies]
      rintro ⟨rfl,rfl,rfl,rfl⟩
      exact ⟨by decide,hz1,hz2⟩
theorem K8 {l:List UInt8} {a:Nat} {c:UInt8} (hc:l[a]? = some c) (hd:bD c.toNat=true):(∀ {e t},fJ l a=.bad e t->e ≠ 0)/\∀ {k x n z},fJ l a=.ok k x n z->k ≠ 0/\a < z/\z<=l.length:=by
 have hlt:a < l.length:=(a6.1 hc).1
 have hz2:=nZ (p:=aU) (Nat.le_of_lt hlt)
 have hw:aU c=true:=by simp [aU,eQ,hd]
 have hz1:a < bC aU l a:=by
  rw [<-iJ hc hw]
  exact Nat.lt_of_lt_of_le (Nat.lt_succ_self a) lY
 unfold fJ
 simp only
 cases decide (16 < bC aU l a - a)<;>cases (l[bC aU l a]? == some 45)<;>simp only [aI,aD]
 all_goals refine ⟨fun {e t} h=>?_,fun {k x n z} h=>?_⟩
 all_goals simp only [R.bad.injEq,R.ok.injEq,reduceCtorEq] at h
 all_goals first | omega | (obtain ⟨rfl,rfl,rfl,rfl⟩:=h; exact ⟨by decide,hz1,hz2⟩)
theorem LF {l:List UInt8} {a:Nat} (hc:l[a]? = some 34):(∀ {e t},e7 l a=.bad e t->e ≠ 0)/\∀ {k x n z},e7 l a=.ok k x n z->k ≠ 0/\a < z/\z<=l.length:=by
 have hlt:a < l.length:=(a6.1 hc).1
 have key:∀ (m:Nat) (r:List UInt8) (i:Nat) (out:List UInt8) (z:Nat) (o:List UInt8),r.length=m->quoL i r out=(z,some o)->i < z/\z<=i + r.length:=by
  intro m
  induction m using Nat.strongRecOn with
  | ind m ih=>
   intro r i out z o hm h
   cases r with
   | nil=>rw [lN] at h; cases h
   | cons c r=>
    rw [eS] at h
    simp only [List.length_cons] at hm
    revert h
    cases (decide (c < 32) || decide (126 < c)) with
    | true=>intro h; cases h
    | false=>
     cases (c == 34) with
     | true=>intro h; simp only [aD,aI,Prod.mk.injEq] at h; simp; omega
     | false=>
      cases (c == 92) with
      | true=>
       simp only [aD,aI]
       cases r with
       | nil=>intro h; cases h
       | cons d r'=>
        simp only
        cases (d == 34 || d == 92) with
        | true=>intro h; have:=ih r'.length (by simp at hm; omega) r' _ _ _ _ rfl h; simp; omega
        | false=>intro h; cases h
      | false=>
       simp only [aD]
       intro h; have:=ih r.length (by omega) r _ _ _ _ rfl h; simp; omega
 unfold e7
 split
 · constructor
   · intro e t h; simp only [R.bad.injEq] at h; omega
   · intro k x n z h; cases h
 · rename_i z o hq
   have:=key _ _ _ _ _ _ rfl hq
   simp only [List.length_drop] at this
   cases decide (200 < o.length)<;>simp [R.bad.injEq,R.ok.injEq]
   all_goals (intros; omega)
theorem zL {l:List UInt8} {p:Nat} (hp:p<=l.length):(∀ {e t},cF l p=.bad e t->e ≠ 0)/\∀ {k x n z},cF l p=.ok k x n z->(k=0->p=l.length)/\(k ≠ 0->p < z/\z<=l.length):=by
 unfold cF
 cases hc:l[p]? with
 | none=>
  have:l.length<=p:=List.getElem?_eq_none_iff.1 hc
  simp only [R.ok.injEq,reduceCtorEq,false_implies,implies_true,true_and]
  rintro k x n z ⟨rfl,rfl,rfl,rfl⟩
  exact ⟨fun _=>by omega,fun h=>absurd rfl h⟩
 | some c=>
  have hlt:p < l.length:=(a6.1 hc).1
  simp only
  cases h1:bD c.toNat with
  | true=>
   simp only [aI]
   obtain ⟨q1,q2⟩:=K8 hc h1
   exact ⟨q1,fun h=>⟨fun e=>absurd e (q2 h).1,fun _=>(q2 h).2⟩⟩
  | false=>
   simp only [aD]
   cases h2:(a7 c || c == 45) with
   | true=>
    simp only [aI]
    obtain ⟨q1,q2⟩:=O5 hc (by simpa using h2)
    exact ⟨q1,fun h=>⟨fun e=>absurd e (q2 h).1,fun _=>(q2 h).2⟩⟩
   | false=>
    simp only [aD]
    cases h3:(c == 34) with
    | true=>
     simp only [aI]
     have:c=34:=by simpa using h3
     subst this
     obtain ⟨q1,q2⟩:=LF hc
     exact ⟨q1,fun h=>⟨fun e=>absurd e (q2 h).1,fun _=>(q2 h).2⟩⟩
    | false=>
     simp only [aD]
     cases dB c.toNat with
     | true=>
      simp only [aI,R.ok.injEq,reduceCtorEq,false_implies,implies_true,true_and]
      rintro k x n z ⟨rfl,rfl,rfl,rfl⟩
      exact ⟨fun e=>by omega,fun _=>by omega⟩
     | false=>
      simp only [aD,R.bad.injEq,reduceCtorEq,false_implies,implies_true,and_true]
      rintro e t ⟨rfl,rfl⟩
      decide
theorem rO {l:List UInt8} {a:Nat}:a<=bI l a:=by unfold bI; omega
def mK:W.Spec:=fun xs H K=>
 match xs,H with
 | [.va (.c1 (.vl (.string s)))],[]=>K (.tu [.c1 (.fz ((aQ (bl s)).toks.map dI)),iA .i64 (aQ (bl s)).err,iA .i64 (aQ (bl s)).off]) []
 | _,_=>False
theorem l8 {xs:List S} {H:Hp} {K:S->Hp->Prop} (h:mK xs H K):∃ s,xs=[tS s]/\H=[]/\K (.tu [.c1 (.fz ((aQ (bl s)).toks.map dI)),iA .i64 (aQ (bl s)).err,iA .i64 (aQ (bl s)).off]) []:=by
 unfold mK at h
 split at h
 · exact ⟨_,rfl,rfl,h⟩
 · exact h.elim
attribute [go_sem ↓] mK
theorem aLM:Meets Tryz.prog 72 mK:=by
 refine aE Tryz.func72 aQ4 1 (by rw [Tryz.ntmps72]; decide) (aB aKR (aA _)) (fun xs H K h=>by obtain ⟨s,rfl,_⟩:=l8 h; rfl) ?_
 intro xs H K h
 obtain ⟨s,rfl,rfl,hK⟩:=l8 h
 simp -dsimp only [go_sem,aC8,aH3] at hK ⊢
 refine ⟨fun h1=>?_,fun h1=>?_⟩
 · have h2:decide (4000 < (bl s).length)=true:=by simp at h1 ⊢; omega
   simp only [aQ,h2,aI,SR.toks,SR.err,SR.off] at hK
   exact .done hK
 have h2:decide (4000 < (bl s).length)=false:=by simp at h1 ⊢; omega
 have hlen:(bl s).length<=4000:=by simpa using h2
 refine dX (α:=Nat × Nat × List Tk) (fun z=>[(5,.va (.c1 (.pt 0 0))),(6,.va (.c1 (.sl 1 z.2.2.length)))]) (fun z=>[kW s z.2.1 0 0,.row (z.2.2.map dI) 71 4])
  (fun z=>(bl s).length < z.1 + z.2.1/\z.2.1<=(bl s).length/\z.2.2.length<=z.2.1/\SR.app z.2.2 (c8 z.1 (bl s) z.2.1)=aQ (bl s)) (fun z=>z.1)
  (.nil 6 71 4 ?_ (l9 ((bl s).length + 1,0,[]) 2 ⟨by simp only; omega,by simp,by simp,?_⟩ ?_ ?_)) ?_
 · simp -dsimp only [go_sem]; rfl
 · simp only [aQ,h2,aD]
   cases c8 ((bl s).length + 1) (bl s) 0<;>rfl
 · simp -dsimp only [go_sem]
 · simp -dsimp only [go_sem]; rfl
 rintro ⟨f,a,acc⟩ ⟨hf,ha,hac,hr⟩
 simp only at hf ha hac hr
 simp -dsimp only [go_sem]
 have hpl:bI (bl s) a<=(bl s).length:=lP ha
 have hpa:a<=bI (bl s) a:=rO
 obtain ⟨hb,ho⟩:=zL hpl
 obtain ⟨f,rfl⟩:∃ g,f=g + 1:=⟨f - 1,by omega⟩
 rw [c8] at hr
 refine ⟨⟨by omega,by omega,hlen⟩,fun k x n y z e t ht=>?_⟩
 cases hR:cF (bl s) (bI (bl s) a) with
 | bad e' t'=>
  rw [hR] at ht hr
  obtain ⟨rfl,rfl,z,rfl⟩:=ht
  have he:=hb hR
  simp only [SR.app] at hr
  rw [<-hr] at hK
  simp only [SR.toks,SR.err,SR.off] at hK
  refine ⟨fun h3=>.sel [] (by simp) (by simp) rfl (.done ?_),fun h3=>absurd h3 (by simpa using he)⟩
  simpa [go_sem] using hK
 | ok k' x' n' z'=>
  rw [hR] at ht hr
  obtain ⟨rfl,rfl,rfl,rfl,rfl,rfl,rfl⟩:=ht
  obtain ⟨o1,o2⟩:=ho hR
  refine ⟨fun h3=>absurd h3 (by simp),fun _=>⟨by omega,fun h3=>?_,fun h3=>?_⟩⟩
  · simp only [h3,aI,SR.app] at hr
    rw [<-hr] at hK
    simp only [SR.toks,SR.err,SR.off,List.map_append,List.map_cons,List.map_nil] at hK
    refine .pub 1 _ _ _ rfl (.sel [] (by simp) (by simp [cW]) rfl (.done ?_))
    simpa [go_sem] using hK
  · simp only [h3,aD,SR.app_cons] at hr
    obtain ⟨o3,o4⟩:=o2 (by simpa using h3)
    refine aC (f,z',acc ++ [⟨k,x',n,bI (bl s) a⟩]) 2 ⟨by simp only; omega,o4,by simp; omega,hr⟩ (by simp only; omega) ?_ ?_
    · simp -dsimp only [go_sem]
    · simp -dsimp only [go_sem]
def cC (l:List UInt8):Bool:=match l with
 | []=>false
 | c :: _=>decide (l.length<=16) && bD c.toNat && l.all aU
def BN:List S->Prop:=fun xs=>match xs with
 | [.va (.c1 (.vl (.string _)))]=>True
 | _=>False
theorem iZ {xs:List S} (h:BN xs):∃ s,xs=[tS s]:=by
 unfold BN at h
 split at h
 · exact ⟨_,rfl⟩
 · exact h.elim
def RA (f:List UInt8->Value):List S->A:=fun xs=>match xs with
 | [.va (.c1 (.vl (.string s)))]=>.c1 (.vl (f (bl s)))
 | _=>.gs []
def u6 (f:List UInt8->Value):Fun:=⟨BN,RA f,fun xs h=>by obtain ⟨s,rfl⟩:=iZ h; trivial⟩
theorem pH {f:List UInt8->Value}:∀ xs H K,(u6 f).sp xs H K->xs.length=1:=fun xs H K h=>by obtain ⟨s,rfl⟩:=iZ h.1.1; rfl
attribute [go_sem] u6 BN RA
theorem pD {l:List UInt8} (h:16 < l.length):cC l=false:=by
 cases l with
 | nil=>rfl
 | cons c l=>
  simp only [cC]
  have:decide ((c :: l).length<=16)=false:=by simp at h ⊢; omega
  rw [this]; rfl
theorem rK {l:List UInt8} {c:UInt8} (h:l[0]? = some c) (hc:bD c.toNat=false):cC l=false:=by
 cases l with
 | nil=>rfl
 | cons d l=>simp at h; subst h; simp [cC,hc]
theorem C9 {l:List UInt8} {i:Nat} {c:UInt8} (h:l[i]? = some c) (hc:aU c=false):cC l=false:=by
 cases l with
 | nil=>rfl
 | cons d l=>
  have:(d :: l).all aU=false:=by rw [List.all_eq_false]; exact ⟨c,bJ h,by simp [hc]⟩
  simp only [cC,this,Bool.and_false]
theorem uX {l:List UInt8} {c:UInt8} (h:l[0]? = some c) (hl:l.length<=16) (hc:bD c.toNat=true) (ha:∀ (j:Nat) (x:UInt8),l[j]? = some x->aU x=true):cC l=true:=by
 cases l with
 | nil=>simp at h
 | cons d l=>
  simp at h; subst h
  have h1:(d :: l).all aU=true:=by
   rw [List.all_eq_true]; intro x hx
   obtain ⟨j,hj⟩:=List.mem_iff_getElem?.1 hx
   exact ha j x hj
  simp only [cC,h1,hc,Bool.and_true,decide_eq_true_eq]; exact hl
theorem aBK (c:UInt8):((dC c.toNat != 3) && (dC c.toNat != 4) && (dC c.toNat != 6))=!(aU c):=by
 rw [<-IW]; simp [bne,Bool.not_or]
theorem aBJ:Meets Tryz.prog 143 (u6 fun l=>.bool (cC l)).sp:=by
 refine aE Tryz.func143 aJU 1 (by rw [Tryz.ntmps143]; decide) (aH JZ (aA _)) pH ?_
 rintro xs H K ⟨⟨h,rfl⟩,hK⟩
 obtain ⟨s,rfl⟩:=iZ h
 have hn:∀ c:UInt8,(dC c.toNat != 3)=!(bD c.toNat):=fun c=>by rw [bne,aIL]
 simp -dsimp only [go_sem,XK,YB,hn] at hK ⊢
 generalize hg:(bl s == [] || decide (16 < ((bl s).length:Int)))=g
 have hg1:g=false->0 < (bl s).length/\(bl s).length<=16:=fun h=>by
  subst hg; simp at h
  exact ⟨List.length_pos_iff.2 h.1,by omega⟩
 have hg2:g=true->cC (bl s)=false:=fun h=>by
  subst hg; simp at h
  rcases h with h | h
  · rw [h]; rfl
  · exact pD (by omega)
 refine ⟨fun h=>⟨by omega,by have:=hg1 h; omega⟩,fun c hc=>⟨fun h=>?_,fun h=>?_,fun h=>?_⟩⟩
 · have:=c.toNat_lt; omega
 · refine bW hK ?_
   cases g with
   | true=>rw [hg2 rfl]
   | false=>simp at h; rw [rK (hc rfl) h]
 simp at h
 obtain ⟨rfl,h3⟩:=h
 have hc:=hc rfl
 obtain ⟨hl0,hl⟩:=hg1 rfl
 refine aL (α:=Nat) (fun i=>[(0,tS s),(19,iS .i64 (bl s).length),(20,iS .i64 i)]) (fun i=>[]) (fun i=>i<=(bl s).length/\∀ (j:Nat) (x:UInt8),j < i->(bl s)[j]? = some x->aU x=true) (fun i=>(bl s).length - i) 0 0 ⟨by omega,by omega⟩ ?_ ?_ ?_
 · simp -dsimp only [go_sem]; simp
 · simp [go_sem]
 rintro i ⟨hi,ha⟩
 simp -dsimp only [go_sem,aBK]
 have hlt:(bl s).length < 2^64:=by omega
 refine ⟨fun h1=>⟨⟨by omega,by simpa using h1⟩,fun d hd=>⟨by have:=d.toNat_lt; omega,fun h2=>?_,fun h2=>⟨by omega,?_⟩⟩⟩,fun h1=>?_⟩
 · refine bW hK ?_
   rw [C9 hd h2]
 · refine aC (i + 1) 0 ⟨by have:=(a6.1 hd).1; omega,fun j x hj hx=>?_⟩ (by have:=(a6.1 hd).1; omega) ?_ ?_
   · rcases bF j i with h4 | h4
     · exact ha j x h4 hx
     · obtain rfl:j=i:=by omega
       rw [hd] at hx; obtain rfl:=bG hx
       simpa [aU] using h2
   · simp -dsimp only [go_sem]; simp
   · simp [go_sem]
 · refine bW hK ?_
   have:i=(bl s).length:=by simp at h1; omega
   subst this
   rw [uX hc hl h3 fun j x hx=>ha j x (a6.1 hx).1 hx]
theorem UT:Meets Tryz.prog 84 (u6 fun l=>.bool (cC l)).sp:=by
 refine aE Tryz.func84 aPK 1 (by rw [Tryz.ntmps84]; decide) (aH BX (aH IJ (aA _))) pH ?_
 rintro xs H K ⟨⟨h,rfl⟩,hK⟩
 obtain ⟨s,rfl⟩:=iZ h
 simp -dsimp only [go_sem,aE1,aHT] at hK ⊢
 generalize hg:(decide (((bl s).length:Int) < 1) || decide (16 < ((bl s).length:Int)))=g
 have hg1:g=false->0 < (bl s).length/\(bl s).length<=16:=fun h=>by
  subst hg; simp at h
  exact ⟨by omega,by omega⟩
 have hg2:g=true->cC (bl s)=false:=fun h=>by
  subst hg; simp at h
  rcases h with h | h
  · have:bl s=[]:=List.eq_nil_of_length_eq_zero (by omega)
    rw [this]; rfl
  · exact pD (by omega)
 refine ⟨fun h=>⟨by omega,by have:=hg1 h; omega⟩,fun c hc=>⟨fun h=>?_,fun h=>?_,fun h=>?_⟩⟩
 · have:=c.toNat_lt; omega
 · refine bW hK ?_
   cases g with
   | true=>rw [hg2 rfl]
   | false=>simp at h; rw [rK (hc rfl) h]
 simp at h
 obtain ⟨rfl,h3⟩:=h
 have hc:=hc rfl
 obtain ⟨hl0,hl⟩:=hg1 rfl
 refine aL (α:=Nat) (fun i=>[(0,tS s),(3,iS .i64 i)]) (fun i=>[]) (fun i=>i<=(bl s).length/\∀ (j:Nat) (x:UInt8),j < i->(bl s)[j]? = some x->aU x=true) (fun i=>(bl s).length - i) 0 0 ⟨by omega,by omega⟩ ?_ ?_ ?_
 · simp -dsimp only [go_sem]; simp
 · simp [go_sem]
 rintro i ⟨hi,ha⟩
 simp -dsimp only [go_sem]
 have hlt:(bl s).length < 2^64:=by omega
 refine ⟨fun h1=>⟨⟨by omega,by simpa using h1⟩,fun d hd=>⟨by have:=d.toNat_lt; omega,fun h2=>?_,fun h2=>⟨by omega,?_⟩⟩⟩,fun h1=>?_⟩
 · refine bW hK ?_
   rw [C9 hd h2]
 · refine aC (i + 1) 0 ⟨by have:=(a6.1 hd).1; omega,fun j x hj hx=>?_⟩ (by have:=(a6.1 hd).1; omega) ?_ ?_
   · rcases bF j i with h4 | h4
     · exact ha j x h4 hx
     · obtain rfl:j=i:=by omega
       rw [hd] at hx; obtain rfl:=bG hx
       simpa [aU] using h2
   · simp -dsimp only [go_sem]; simp
   · simp [go_sem]
 · refine bW hK ?_
   have:i=(bl s).length:=by simp at h1; omega
   subst this
   rw [uX hc hl h3 fun j x hx=>ha j x (a6.1 hx).1 hx]
def qTrue:Fun:=⟨fun xs=>xs=[],fun _=>bA true,fun xs h=>trivial⟩
theorem R5:∀ xs H K,qTrue.sp xs H K->xs.length=0:=fun xs H K h=>by rw [show xs=[] from h.1.1]; rfl
attribute [go_sem] qTrue
theorem jF (l:List UInt8):bl (mk l)=l:=by simp [bl,mk]
end Go.Proofs.YtkpohmhenegkiaaGreatDoor
namespace Go.W
section
variable {P:Program} {f:FuncId} {s:Spec}
def pubB (n:Nat) (s:Spec):Spec:=fun ar H K=>match H[n]? with
 | some (.row xs _ _)=>s (ar.map (S.pub n xs)) (cW n xs H) K
 | _=>False
def dropB (s:Spec):Spec:=fun ar H K=>s (ar.map fun a=>a.nf.ren (fR [])) [] fun r H'=>K (r.ren (back [] H.length)) (oT [] H (H'.map (B.ren (back [] H.length))))
theorem Rel.rebase {X:Ctx} {E:Es} {ro:RO} {w:World} (h:Rel X E ro w):Rel ⟨w,dY E,ro,gm E⟩ E ro w:=
 ⟨h.own,h.inj,h.apart,h.rd,Ext.refl _,fun _ _ _ h=>.inl h,fun n b g blk hn en hl=>.inr (fC.2 ⟨n,g,blk,hn,en,hl⟩),.refl _,Nat.le_refl _,fun _ _ _=>rfl,rfl,rfl,rfl⟩
theorem Rel.over {X:Ctx} {E E':Es} {ro ro':RO} {w w':World} (h:Rel X E ro w) (k:Rel ⟨w,dY E,ro,gm E⟩ E' ro' w'):Rel X E' ro' w' where
 own:=k.own
 inj:=k.inj
 apart:=k.apart
 rd:=k.rd
 ro0:=h.ro0.trans k.ro0
 rob:=fun b off v hc=>by
  rcases k.rob b off v hc with q | q | q
  · exact h.rob b off v q
  · simp only at q; have:=h.sz; exact .inr (.inl (by omega))
  · obtain ⟨n,g,blk,hE,hgb,hl⟩:=fC.1 q
    exact .inr (h.par n b g blk hE hgb hl)
 par:=fun n b g blk hn en hl=>by
  rcases k.par n b g blk hn en hl with q | q
  · simp only at q; have:=h.sz; exact .inl (by omega)
  · obtain ⟨n',g',blk',hE,hgb,hl'⟩:=fC.1 q
    exact h.par n' b g' blk' hE hgb hl'
 gx:=h.gx.trans k.gx
 sz:=Nat.le_trans h.sz k.sz
 keep:=fun b hb hp=>by
  rw [k.keep b (by have:=h.sz; simp only; omega) (fun hb'=>?_)]
  · exact h.keep b hb hp
  · obtain ⟨n,g,blk,hE,hgb,hl⟩:=fC.1 hb'
    rcases h.par n b g blk hE hgb hl with q | q
    · omega
    · exact hp q
 os:=k.os.trans h.os
 tape:=k.tape.trans h.tape
 output:=k.output.trans h.output
theorem Meets.pubB (h:Meets P f s) (n:Nat):Meets P f (pubB n s):=by
 refine ⟨h.1,fun ar vs E ro w K hl hrel hr hs hG=>?_⟩
 unfold W.pubB at hs
 split at hs
 · rename_i xs T sz hn
   obtain ⟨g,hE⟩:∃ g,E[n]? = some (g,.row xs T sz):=by
    simp only [hp,List.getElem?_map] at hn
    cases hE:E[n]? with
    | none=>rw [hE] at hn; cases hn
    | some y=>rw [hE] at hn; simp at hn; exact ⟨y.1,by rw [<-hn]⟩
   obtain ⟨ro',hext,hfz,hglen,hr'⟩:=hr.pubR hE
   have hcall:=h.2 (ar.map (S.pub n xs)) vs (bT (B.pub n xs) (E.set n (g,.dead))) ro' w K (by simpa using hl) (fun i x v hx hv=>by
    rw [List.getElem?_map] at hx
    cases hi:ar[i]? with
    | none=>rw [hi] at hx; cases hx
    | some y=>
     rw [hi] at hx
     simp only [Option.map_some,aJ] at hx
     subst hx
     rw [fW,eG hE]
     exact S.rel_pub hext (cD hE) hglen hfz (hrel i y v hi hv)) hr'.rebase (by rw [iB,hp_kill]; exact hs) (hG.mono hext)
   refine hcall.mono ?_
   rintro e w' ⟨r,v,E',ro2,rfl,hrv,hR,hrel'⟩
   exact ⟨r,v,E',ro2,rfl,hrv,hR,hr'.over hrel'⟩
 · exact hs.elim
theorem Meets.dropB (h:Meets P f s):Meets P f (dropB s):=by
 refine ⟨h.1,fun ar vs E ro w K hl hrel hr hs hG=>?_⟩
 unfold W.dropB at hs
 have hnd:([]:List Nat).Nodup:=.nil
 have hlt:∀ n ∈ ([]:List Nat),n < E.length:=fun n hn=>by cases hn
 have gxl:∀ (n m:Nat) (g:Gb),fR [] n=some m->(gm E)[n]? = some g->(gm (bT (B.ren (fR [])) (dJ E [])))[m]? = some g:=fun n m g h1 h2=>by rw [fW]; exact uS n m g h1 h2
 have hloc:Rel ⟨w,dY (bT (B.ren (fR [])) (dJ E [])),ro,gm (bT (B.ren (fR [])) (dJ E []))⟩ (bT (B.ren (fR [])) (dJ E [])) ro w:=by
  have h0:Rel ⟨w,dY E,ro,[]⟩ E ro w:=⟨hr.own,hr.inj,hr.apart,hr.rd,Ext.refl _,fun _ _ _ h=>.inl h,fun n b g blk hn en hl=>.inr (fC.2 ⟨n,g,blk,hn,en,hl⟩),fun n g hn=>by simp at hn,Nat.le_refl _,fun _ _ _=>rfl,rfl,rfl,rfl⟩
  exact (h0.sel hnd hlt (fun n g hn=>by simp at hn)).here
 have hcall:=h.2 (ar.map fun s=>s.nf.ren (fR [])) vs (bT (B.ren (fR [])) (dJ E [])) ro w _ (by simpa using hl) (fun i x v hx hv=>by
  rw [List.getElem?_map] at hx
  cases hi:ar[i]? with
  | none=>rw [hi] at hx; cases hx
  | some y=>
   rw [hi] at hx
   simp only [Option.map_some,aJ] at hx
   subst hx
   exact S.rel_ren gxl (S.rel_nf (hrel i y v hi hv))) hloc (by rw [iB,wG]; exact hs) hG
 refine hcall.mono ?_
 rintro e w' ⟨r,v,E',ro',rfl,hrv,hR,hrel'⟩
 obtain ⟨q1,q2,q3⟩:=hr.back hnd hlt rfl hrel'
 refine ⟨_,v,_,ro',rfl,S.rel_ren q3 hrv,?_,q1⟩
 rw [yM,iB]
 rw [d9] at hR
 exact hR
def lend1 (s:Spec):Spec:=pubB 0 (dropB s)
theorem Meets.lend1 (h:Meets P f s):Meets P f (lend1 s):=h.dropB.pubB 0
def lend2 (s:Spec):Spec:=pubB 0 (pubB 1 (dropB s))
theorem Meets.lend2 (h:Meets P f s):Meets P f (lend2 s):=(h.dropB.pubB 1).pubB 0
attribute [go_sem ↓] pubB dropB lend1 lend2
end
end Go.W
namespace Go.Proofs.YtkpohmhenegkiaaGreatDoor
open Go.W
theorem qH {α:Type} {row:α->List C} {l:List α} {n:Nat} {c:α} (h:l[n]? = some c) (p:List C->Prop):(∀ r,(l.map row)[n]? = some r->p r)=p (row c):=by
 rw [List.getElem?_map,h]; simp
theorem aY {α:Type} {row:α->List C} {l:List α} {n:Nat} {c:α} (h:l[n]? = some c) (p:List C->Prop):(∀ r,(l.map row)[((n:Nat):Int).toNat]? = some r->p r)=p (row c):=by
 rw [Int.toNat_natCast,List.getElem?_map,h]; simp
theorem VC {α:Type} {row:α->List C} {n:Nat} (h:∀ a,(row a).length=n) (l:List α):(∀ r:List C,r ∈ l.map row->r.length=n)=True:=eq_true fun r hr=>by obtain ⟨x,_,rfl⟩:=List.mem_map.1 hr; exact h x
inductive Ty where
 | mk (k s:Int) (n:ByteArray) (e:List Ty)
instance:Inhabited Ty:=⟨.mk 0 0 ByteArray.empty []⟩
def Ty.k:Ty->Int | .mk k _ _ _=>k
def Ty.s:Ty->Int | .mk _ s _ _=>s
def Ty.n:Ty->ByteArray | .mk _ _ n _=>n
def Ty.e:Ty->List Ty | .mk _ _ _ e=>e
mutual
def aN:Ty->List C
 | .mk k s n e=>[.vl (.int .i64 k),.vl (.int .i64 s),.vl (.string n),.fz (mV e)]
def mV:List Ty->List (List C)
 | []=>[]
 | t :: r=>aN t :: mV r
end
theorem aV:∀ l:List Ty,mV l=l.map aN
 | []=>rfl
 | t :: r=>by rw [mV,aV r]; rfl
theorem aO (t:Ty):aN t=[.vl (.int .i64 t.k),.vl (.int .i64 t.s),.vl (.string t.n),.fz (t.e.map aN)]:=by
 cases t with
 | mk k s n e=>rw [aN,aV]; rfl
mutual
theorem vU:∀ {a b:Ty},aN a=aN b->a=b
 | .mk k s n e,.mk k' s' n' e',h=>by
  rw [aN,aN] at h
  simp only [List.cons.injEq,C.vl.injEq,Value.int.injEq,Value.string.injEq,C.fz.injEq,true_and,and_true] at h
  obtain ⟨rfl,rfl,rfl,h4⟩:=h
  rw [KG h4]
theorem KG:∀ {a b:List Ty},mV a=mV b->a=b
 | [],[],_=>rfl
 | [],_ :: _,h=>by rw [mV,mV] at h; cases h
 | _ :: _,[],h=>by rw [mV,mV] at h; cases h
 | x :: a,y :: b,h=>by
  rw [mV,mV] at h
  obtain ⟨h1,h2⟩:=List.cons.inj h
  rw [vU h1,KG h2]
end
mutual
def Ty.h:Ty->Nat
 | .mk _ _ _ e=>Ty.hs e + 1
def Ty.hs:List Ty->Nat
 | []=>0
 | t :: r=>max t.h (Ty.hs r)
end
theorem Ty.hs_mem:∀ {l:List Ty} {t:Ty},t ∈ l->t.h<=Ty.hs l
 | x :: l,t,h=>by
  rw [Ty.hs]
  rcases List.mem_cons.1 h with rfl | h
  · omega
  · have:=Ty.hs_mem h; omega
structure Fl where
 num:Int
 nm:ByteArray
 ty:Ty
 opt:Bool
instance:Inhabited Fl:=⟨⟨0,ByteArray.empty,default,false⟩⟩
def aZ (f:Fl):List C:=[.vl (.int .i64 f.num),.vl (.string f.nm),.vl (.int .i64 f.ty.k),.vl (.int .i64 f.ty.s),.vl (.string f.ty.n),.fz (f.ty.e.map aN),.vl (.bool f.opt)]
structure St where
 nm:ByteArray
 fs:List Fl
instance:Inhabited St:=⟨⟨ByteArray.empty,[]⟩⟩
def aP (s:St):List C:=[.vl (.string s.nm),.fz (s.fs.map aZ)]
abbrev cU (n:Int):List C:=[.vl (.int .i64 n)]
abbrev bQ (b:ByteArray):List C:=[.vl (.string b)]
structure En where
 nm:ByteArray
 ns:List ByteArray
 vs:List Int
instance:Inhabited En:=⟨⟨ByteArray.empty,[],[]⟩⟩
def bL (e:En):List C:=[.vl (.string e.nm),.fz (e.ns.map bQ),.fz (e.vs.map cU)]
structure Sc where
 ver:Int
 es:List En
 ss:List St
instance:Inhabited Sc:=⟨⟨0,[],[]⟩⟩
def aG (s:Sc):List C:=[.vl (.int .i64 s.ver),.fz (s.es.map bL),.fz (s.ss.map aP)]
theorem nW {α β:Type} {f:α->β} (hf:∀ {a b},f a=f b->a=b):∀ {l m:List α},l.map f=m.map f->l=m
 | [],[],_=>rfl
 | [],_ :: _,h=>by cases h
 | _ :: _,[],h=>by cases h
 | x :: l,y :: m,h=>by
  simp only [List.map_cons,List.cons.injEq] at h
  rw [hf h.1,nW hf h.2]
theorem CS {a b:Int} (h:cU a=cU b):a=b:=by simpa using h
theorem CR {a b:ByteArray} (h:bQ a=bQ b):a=b:=by simpa using h
theorem C2 {a b:Fl} (h:aZ a=aZ b):a=b:=by
 obtain ⟨a1,a2,a3,a4⟩:=a
 obtain ⟨b1,b2,b3,b4⟩:=b
 simp only [aZ,List.cons.injEq,C.vl.injEq,Value.int.injEq,Value.string.injEq,Value.bool.injEq,C.fz.injEq,true_and,and_true] at h
 obtain ⟨rfl,rfl,h3,h4,h5,h6,rfl⟩:=h
 have:a3=b3:=vU (by rw [aO,aO,h3,h4,h5,h6])
 rw [this]
theorem vT {a b:St} (h:aP a=aP b):a=b:=by
 obtain ⟨a1,a2⟩:=a
 obtain ⟨b1,b2⟩:=b
 simp only [aP,List.cons.injEq,C.vl.injEq,Value.string.injEq,C.fz.injEq,and_true] at h
 obtain ⟨rfl,h2⟩:=h
 rw [nW C2 h2]
theorem C0 {a b:En} (h:bL a=bL b):a=b:=by
 obtain ⟨a1,a2,a3⟩:=a
 obtain ⟨b1,b2,b3⟩:=b
 simp only [bL,List.cons.injEq,C.vl.injEq,Value.string.injEq,C.fz.injEq,and_true] at h
 obtain ⟨rfl,h2,h3⟩:=h
 rw [nW CR h2,nW CS h3]
theorem aBW {a b:Sc} (h:aG a=aG b):a=b:=by
 obtain ⟨a1,a2,a3⟩:=a
 obtain ⟨b1,b2,b3⟩:=b
 simp only [aG,List.cons.injEq,C.vl.injEq,Value.int.injEq,C.fz.injEq,true_and,and_true] at h
 obtain ⟨rfl,h2,h3⟩:=h
 rw [nW C0 h2,nW vT h3]
noncomputable def sU {α β:Type} [Inhabited α] (f:α->β) (b:β):α:=Classical.epsilon fun a=>f a=b
theorem kB {α β:Type} [Inhabited α] {f:α->β} (hf:∀ {a b},f a=f b->a=b) (a:α):sU f (f a)=a:=hf (Classical.epsilon_spec (p:=fun x=>f x=f a) ⟨a,rfl⟩)
theorem lT {α β:Type} [Inhabited α] {f:α->β} (hf:∀ {a b},f a=f b->a=b) (l:List α):(l.map f).map (sU f)=l:=by
 rw [List.map_map,show (sU f ∘ f)=id from funext fun a=>kB hf a,List.map_id]
noncomputable def C.ty:=sU aN
noncomputable def C.fl:=sU aZ
noncomputable def C.st:=sU aP
noncomputable def C.en:=sU bL
noncomputable def C.sc:=sU aG
noncomputable def C.bs:=sU bQ
noncomputable def C.it:=sU cU
@[go_sem] theorem fX (t:Ty):C.ty (aN t)=t:=kB vU t
@[go_sem] theorem aTN (t:Fl):C.fl (aZ t)=t:=kB C2 t
@[go_sem] theorem aEW (t:St):C.st (aP t)=t:=kB vT t
@[go_sem] theorem aUJ (t:En):C.en (bL t)=t:=kB C0 t
@[go_sem] theorem gT (t:Sc):C.sc (aG t)=t:=kB aBW t
@[go_sem] theorem aTX (t:ByteArray):C.bs (bQ t)=t:=kB CR t
@[go_sem] theorem aVJ (t:Int):C.it (cU t)=t:=kB CS t
@[go_sem] theorem aT9 (l:List Ty):(l.map aN).map C.ty=l:=lT vU l
@[go_sem] theorem aT2 (l:List Fl):(l.map aZ).map C.fl=l:=lT C2 l
@[go_sem] theorem aUI (l:List St):(l.map aP).map C.st=l:=lT vT l
@[go_sem] theorem aUF (l:List En):(l.map bL).map C.en=l:=lT C0 l
@[go_sem] theorem aVW (l:List ByteArray):(l.map bQ).map C.bs=l:=lT CR l
@[go_sem] theorem zZ (l:List Int):(l.map cU).map C.it=l:=lT CS l
theorem i6 (t:Ty):(aN t).length=4:=by rw [aO]; rfl
theorem mS {a b:ByteArray} (h:bl a=bl b):a=b:=by rw [<-lC a,<-lC b,h]
theorem eT (a b:ByteArray):(bl a == bl b)=decide (a=b):=by
 rw [Bool.eq_iff_iff,beq_iff_eq,decide_eq_true_eq]
 exact ⟨mS,fun h=>by rw [h]⟩
def cH (n:Int):Prop:=-9223372036854775808<=n/\n<=9223372036854775807
inductive TyOk:Ty->Prop
 | mk {k s:Int} {n:ByteArray} {e:List Ty}:cH k->cH s->n.size<=9223372036854775807->e.length<=9223372036854775807->(∀ t ∈ e,TyOk t)->TyOk (.mk k s n e)
theorem TyOk.len {t:Ty} (h:TyOk t):t.e.length<=9223372036854775807:=by cases h; assumption
theorem TyOk.k {t:Ty} (h:TyOk t):cH t.k:=by cases h; assumption
theorem TyOk.s {t:Ty} (h:TyOk t):cH t.s:=by cases h; assumption
theorem TyOk.n {t:Ty} (h:TyOk t):t.n.size<=9223372036854775807:=by cases h; assumption
theorem TyOk.e {t:Ty} (h:TyOk t):∀ u ∈ t.e,TyOk u:=by cases h; assumption
structure Fl.ok (f:Fl):Prop where
 num:cH f.num
 nm:f.nm.size<=9223372036854775807
 ty:TyOk f.ty
structure St.ok (s:St):Prop where
 nm:s.nm.size<=9223372036854775807
 len:s.fs.length<=9223372036854775807
 fs:∀ f ∈ s.fs,f.ok
structure En.ok (e:En):Prop where
 nm:e.nm.size<=9223372036854775807
 ln:e.ns.length<=9223372036854775807
 lv:e.vs.length<=9223372036854775807
 ns:∀ n ∈ e.ns,n.size<=9223372036854775807
 vs:∀ n ∈ e.vs,cH n
structure Sc.ok (s:Sc):Prop where
 ver:cH s.ver
 le:s.es.length<=9223372036854775807
 ls:s.ss.length<=9223372036854775807
 es:∀ e ∈ s.es,e.ok
 ss:∀ t ∈ s.ss,t.ok
def fL (r:List C):Prop:=∃ t,r=aN t/\TyOk t
def r8 (r:List C):Prop:=∃ s:Sc,r=aG s/\s.ok
theorem eH {t:Ty} (h:TyOk t):fL (aN t):=⟨t,rfl,h⟩
theorem MM {t:Sc} (h:t.ok):r8 (aG t):=⟨t,rfl,h⟩
def N9 (p:List C->Prop):List S->Prop:=fun av=>match av with
 | [.va (.gs r)]=>p r
 | _=>False
theorem jN {p:List C->Prop} {av:List S} (h:N9 p av):∃ r,av=[.va (.gs r)]/\p r:=by
 unfold N9 at h
 split at h
 · exact ⟨_,rfl,h⟩
 · exact h.elim
def aIS {α:Type} (d:List C->α) (f:α->A):List S->A:=fun av=>match av with
 | [.va (.gs r)]=>f (d r)
 | _=>.gs []
attribute [go_sem] N9 aIS
inductive Vl where
 | mk (k n:Int) (s:ByteArray) (l:List Vl) (f:List (Int × Vl))
instance:Inhabited Vl:=⟨.mk 0 0 ByteArray.empty [] []⟩
def Vl.k:Vl->Int | .mk k _ _ _ _=>k
def Vl.n:Vl->Int | .mk _ n _ _ _=>n
def Vl.s:Vl->ByteArray | .mk _ _ s _ _=>s
def Vl.l:Vl->List Vl | .mk _ _ _ l _=>l
def Vl.f:Vl->List (Int × Vl) | .mk _ _ _ _ f=>f
mutual
def bK:Vl->List C
 | .mk k n s l f=>[.vl (.int .i64 k),.vl (.int .i64 n),.vl (.string s),.fz (mY l),.fz (mX f)]
def mY:List Vl->List (List C)
 | []=>[]
 | v :: r=>bK v :: mY r
def mX:List (Int × Vl)->List (List C)
 | []=>[]
 | (i,v) :: r=>(.vl (.int .i64 i) :: bK v) :: mX r
end
def cJ (x:Int × Vl):List C:=.vl (.int .i64 x.1) :: bK x.2
theorem IT:∀ l:List Vl,mY l=l.map bK
 | []=>rfl
 | v :: r=>by rw [mY,IT r]; rfl
theorem H3:∀ l:List (Int × Vl),mX l=l.map cJ
 | []=>rfl
 | (i,v) :: r=>by rw [mX,H3 r]; rfl
theorem aX (v:Vl):bK v=[.vl (.int .i64 v.k),.vl (.int .i64 v.n),.vl (.string v.s),.fz (v.l.map bK),.fz (v.f.map cJ)]:=by
 cases v with
 | mk k n s l f=>rw [bK,IT,H3]; rfl
theorem TO (x:Int × Vl):cJ x=[.vl (.int .i64 x.1),.vl (.int .i64 x.2.k),.vl (.int .i64 x.2.n),.vl (.string x.2.s),.fz (x.2.l.map bK),.fz (x.2.f.map cJ)]:=by
 show C.vl (.int .i64 x.1) :: bK x.2=_
 rw [aX]
mutual
theorem vF:∀ {a b:Vl},bK a=bK b->a=b
 | .mk k n s l f,.mk k' n' s' l' f',h=>by
  rw [bK,bK] at h
  simp only [List.cons.injEq,C.vl.injEq,Value.int.injEq,Value.string.injEq,C.fz.injEq,true_and,and_true] at h
  obtain ⟨rfl,rfl,rfl,h4,h5⟩:=h
  rw [GY h4,H7 h5]
theorem GY:∀ {a b:List Vl},mY a=mY b->a=b
 | [],[],_=>rfl
 | [],_ :: _,h=>by rw [mY,mY] at h; cases h
 | _ :: _,[],h=>by rw [mY,mY] at h; cases h
 | x :: a,y :: b,h=>by
  rw [mY,mY] at h
  obtain ⟨h1,h2⟩:=List.cons.inj h
  rw [vF h1,GY h2]
theorem H7:∀ {a b:List (Int × Vl)},mX a=mX b->a=b
 | [],[],_=>rfl
 | [],(_,_) :: _,h=>by rw [mX,mX] at h; cases h
 | (_,_) :: _,[],h=>by rw [mX,mX] at h; cases h
 | (i,x) :: a,(j,y) :: b,h=>by
  rw [mX,mX] at h
  obtain ⟨h1,h2⟩:=List.cons.inj h
  obtain ⟨h3,h4⟩:=List.cons.inj h1
  have e:i=j:=by simpa using h3
  rw [e,vF h4,H7 h2]
end
noncomputable def C.vv:=sU bK
@[go_sem] theorem uD (v:Vl):C.vv (bK v)=v:=kB vF v
mutual
def Vl.h:Vl->Nat
 | .mk _ _ _ l f=>max (Vl.hl l) (Vl.hf f) + 1
def Vl.hl:List Vl->Nat
 | []=>0
 | v :: r=>max v.h (Vl.hl r)
def Vl.hf:List (Int × Vl)->Nat
 | []=>0
 | (_,v) :: r=>max v.h (Vl.hf r)
end
theorem Vl.h_pos (v:Vl):0 < v.h:=by cases v; rw [Vl.h]; omega
theorem Vl.hl_mem:∀ {l:List Vl} {v:Vl},v ∈ l->v.h<=Vl.hl l
 | x :: l,v,h=>by
  rw [Vl.hl]
  rcases List.mem_cons.1 h with rfl | h
  · omega
  · have:=Vl.hl_mem h; omega
theorem Vl.hf_mem:∀ {l:List (Int × Vl)} {x:Int × Vl},x ∈ l->x.2.h<=Vl.hf l
 | (i,y) :: l,x,h=>by
  rw [Vl.hf]
  rcases List.mem_cons.1 h with rfl | h
  · dsimp only; omega
  · have:=Vl.hf_mem h; omega
theorem Vl.h_l {v x:Vl} (h:x ∈ v.l):x.h < v.h:=by
 cases v with
 | mk k n s l f=>have:=Vl.hl_mem (show x ∈ l from h); rw [Vl.h]; omega
theorem Vl.h_f {v:Vl} {x:Int × Vl} (h:x ∈ v.f):x.2.h < v.h:=by
 cases v with
 | mk k n s l f=>have:=Vl.hf_mem (show x ∈ f from h); rw [Vl.h]; omega
inductive VlOk:Vl->Prop
 | mk {k n:Int} {s:ByteArray} {l:List Vl} {f:List (Int × Vl)}:cH k->cH n->s.size<=9223372036854775807->l.length * 80<=140737488355328->f.length * 88<=140737488355328->(∀ v ∈ l,VlOk v)->(∀ x ∈ f,cH x.1)->(∀ x ∈ f,VlOk x.2)->VlOk (.mk k n s l f)
theorem VlOk.k {v:Vl} (h:VlOk v):cH v.k:=by cases h; assumption
theorem VlOk.n {v:Vl} (h:VlOk v):cH v.n:=by cases h; assumption
theorem VlOk.s {v:Vl} (h:VlOk v):v.s.size<=9223372036854775807:=by cases h; assumption
theorem VlOk.ll {v:Vl} (h:VlOk v):v.l.length * 80<=140737488355328:=by cases h; assumption
theorem VlOk.lf {v:Vl} (h:VlOk v):v.f.length * 88<=140737488355328:=by cases h; assumption
theorem VlOk.l {v:Vl} (h:VlOk v):∀ x ∈ v.l,VlOk x:=by cases h; assumption
theorem VlOk.fn {v:Vl} (h:VlOk v):∀ x ∈ v.f,cH x.1:=by cases h; assumption
theorem VlOk.f {v:Vl} (h:VlOk v):∀ x ∈ v.f,VlOk x.2:=by cases h; assumption
def DC (r:List C):Prop:=∃ v,r=bK v/\VlOk v
theorem CF {v:Vl} (h:VlOk v):DC (bK v):=⟨v,rfl,h⟩
def w9 (l:List UInt8):Bool:=cC l && match l with | c :: _=>decide (65<=(c.toNat:Int)) && decide ((c.toNat:Int)<=90) | []=>false
def DB (rs:List (List C)):Prop:=∃ l:List ByteArray,rs=l.map bQ/\l.length<=9223372036854775807
theorem vQ {l:List ByteArray} (h:l.length<=9223372036854775807):DB (l.map bQ):=⟨l,rfl,h⟩
def GE:List S->Prop:=fun av=>match av with
 | [.va (.c1 (.fz rs)),.va (.c1 (.vl (.string _)))]=>DB rs
 | _=>False
theorem rH {av:List S} (h:GE av):∃ (l:List ByteArray) (x:ByteArray),av=[.va (.c1 (.fz (l.map bQ))),tS x]/\l.length<=9223372036854775807:=by
 unfold GE at h
 split at h
 · obtain ⟨l,rfl,h⟩:=h; exact ⟨l,_,rfl,h⟩
 · exact h.elim
noncomputable def aAU (f:List ByteArray->ByteArray->Value):List S->A:=fun av=>match av with
 | [.va (.c1 (.fz rs)),.va (.c1 (.vl (.string x)))]=>.c1 (.vl (f (rs.map C.bs) x))
 | _=>.gs []
noncomputable def ON (f:List ByteArray->ByteArray->Value):Fun:=⟨GE,aAU f,fun av h=>by obtain ⟨l,x,rfl,_⟩:=rH h; trivial⟩
theorem WQ {f}:∀ av H K,(ON f).sp av H K->av.length=2:=fun av H K h=>by obtain ⟨l,x,rfl,_⟩:=rH h.1.1; rfl
attribute [go_sem] ON GE aAU
def gD:List ByteArray->ByteArray->Nat->Int
 | [],_,_=>-1
 | y :: l,x,i=>bif decide (x=y) then (i:Int) else gD l x (i + 1)
def dG (l:List ByteArray) (x:ByteArray):Bool:=l.any fun y=>decide (x=y)
theorem qE (l:List ByteArray) (x:ByteArray):dG l x=true ↔ x ∈ l:=by
 unfold dG; rw [List.any_eq_true]
 exact ⟨fun ⟨y,hy,h⟩=>by rw [of_decide_eq_true h]; exact hy,fun h=>⟨x,h,by simp⟩⟩
theorem aCV:Meets Tryz.prog 99 (ON fun l x=>.int .i64 (gD l x 0)).sp:=by
 refine aE Tryz.func99 aQB 2 (by rw [Tryz.ntmps99]; decide) (aA _) WQ ?_
 rintro av H K ⟨⟨h,rfl⟩,hK⟩
 obtain ⟨l,x,rfl,hl⟩:=rH h
 have hK:K (iS .i64 (gD l x 0)) []:=by
  have:(ON fun l x=>.int .i64 (gD l x 0)).val [.va (.c1 (.fz (l.map bQ))),tS x]=iA .i64 (gD l x 0):=by simp -dsimp only [go_sem]
  rw [this] at hK; exact hK
 simp -dsimp only [go_sem,aIZ,aGN]
 refine aL (α:=Nat) (fun i=>[(0,.va (.c1 (.fz (l.map bQ)))),(1,tS x),(7,iS .i64 l.length),(8,iS .i64 i)]) (fun _=>[])
  (fun i=>i<=l.length/\gD (l.drop i) x i=gD l x 0) (fun i=>l.length - i) 0 0 ⟨Nat.zero_le _,rfl⟩ ?_ ?_ ?_
 · simp [go_sem]
 · simp [go_sem]
 rintro i ⟨hi,ho⟩
 rcases bF i l.length with hlt | hge
 · have hg:decide ((i:Int) < (l.length:Int))=true:=by simp; omega
   have hx:l[i]? = some l[i]:=aW hlt
   have q1:=qH (row:=bQ) hx
   have q2:=aY (row:=bQ) hx
   rw [List.drop_eq_getElem_cons hlt] at ho
   simp only [gD] at ho
   generalize l[i]=y at *
   cases hc:decide (x=y) with
   | true=>
    rw [hc,aI] at ho
    simp -dsimp only [go_sem,hg,↓q2,hc,eT]
    and_intros
    all_goals first
     | omega
     | exact .done (by rw [ho]; exact hK)
   | false=>
    rw [hc,aD] at ho
    simp -dsimp only [go_sem,hg,↓q2,hc,eT]
    and_intros
    all_goals first
     | omega
     | skip
    refine aC (i + 1) 0 ⟨by omega,ho⟩ (by omega) ?_ ?_
    · simp [go_sem]
    · simp [go_sem]
 · have hg:decide ((i:Int) < (l.length:Int))=false:=by simp; omega
   have:l.drop i=[]:=List.drop_eq_nil_iff.2 (by omega)
   rw [this] at ho
   simp -dsimp only [go_sem,hg]
   exact .done (by rw [show (-1:Int)=gD l x 0 from ho]; exact hK)
theorem aBR (b:ByteArray):(bQ b).length=1:=rfl
noncomputable def wN {α:Type} (p:List C->Prop) (d:List C->α) (f:α->Value):Fun:=⟨N9 p,aIS d fun a=>.c1 (.vl (f a)),fun av h=>by obtain ⟨r,rfl,_⟩:=jN h; trivial⟩
theorem u2 {α:Type} {p:List C->Prop} {d:List C->α} {f:α->Value}:∀ av H K,(wN p d f).sp av H K->av.length=1:=fun av H K h=>by obtain ⟨r,rfl,_⟩:=jN h.1.1; rfl
attribute [go_sem] wN
theorem iR {α:Type} {l:List α} {i:Nat} {x:α} (hx:l[i]? = some x) (p:α->Bool):(l.drop i).any p=(p x || (l.drop (i + 1)).any p):=by
 obtain ⟨h,rfl⟩:=a6.1 hx
 rw [List.drop_eq_getElem_cons h,List.any_cons]
theorem qG {α:Type} {l:List α} (p:α->Bool):(l.drop l.length).any p=false:=by rw [List.drop_length]; rfl
def eW (s:Sc):Bool:=decide (16 < s.es.length) || decide (16 < s.es.length + s.ss.length) || s.es.any (fun e=>decide (16 < e.ns.length)) || s.ss.any (fun t=>decide (16 < t.fs.length))
def fE (f:Nat->Int):Nat->Nat->Int
 | 0,_=>0
 | n + 1,i=>bif f i == 0 then fE f n (i + 1) else f i
theorem MR {f:Nat->Int} {m i:Nat} (h:i < m):fE f (m - i) i=bif f i == 0 then fE f (m - (i + 1)) (i + 1) else f i:=by
 obtain ⟨k,rfl⟩:∃ k,m=i + k + 1:=⟨m - i - 1,by omega⟩
 rw [show i + k + 1 - i=k + 1 by omega,show i + k + 1 - (i + 1)=k by omega]; rfl
theorem yZ {f:Nat->Int} {m i:Nat} (h:i < m) (h0:f i=0):fE f (m - i) i=fE f (m - (i + 1)) (i + 1):=by rw [MR h,h0]; rfl
theorem t8 {f:Nat->Int} {m i:Nat} (h:i < m) (h0:f i ≠ 0):fE f (m - i) i=f i:=by
 rw [MR h,beq_eq_false_iff_ne.2 h0]; rfl
theorem AP (f:Nat->Int) (m:Nat):fE f (m - m) m=0:=by rw [Nat.sub_self]; rfl
def lB (e:En) (k:Nat):Int:=match e.ns[k]?,e.vs[k]? with
 | some nm,some n=>bif !(cC (bl nm)) then 5 else bif dG (e.ns.take k) nm then 7 else bif decide (n < 0) || decide (127 < n) then 4 else
  bif (decide ((k:Int)=0) && decide (n ≠ 0)) || (decide (0 < (k:Int)) && match e.vs[k - 1]? with | some m=>decide (n<=m) | none=>false) then 2 else 0
 | _,_=>0
def DZ (e:En):Int:=bif decide (e.ns.length=0) || decide (e.ns.length ≠ e.vs.length) then 2 else fE (lB e) e.ns.length 0
def gK (ss:List St) (n:ByteArray):Bool:=ss.any fun s=>decide (s.nm=n)
def gJ (es:List En) (n:ByteArray):Bool:=es.any fun s=>decide (s.nm=n)
def pG (s:Sc) (i:Nat) (n:ByteArray):Int:=bif !(w9 (bl n)) then 5 else bif gJ s.es n then 7 else bif gK (s.ss.take i) n then 7 else 0
mutual
def valF (ss:List St) (es:List En):Ty->Bool
 | .mk k s n e=>bif k == 1 then s == 0 && bl n == [] && (e.length:Int) == 0
  else bif k == 2 then (s == 8 || s == 16 || s == 32 || s == 64) && bl n == [] && (e.length:Int) == 0
  else bif k == 3 then (s == 8 || s == 16 || s == 32 || (s == 64 && false)) && bl n == [] && (e.length:Int) == 0
  else bif k == 4 then decide (1<=s) && decide (s<=2000) && bl n == [] && (e.length:Int) == 0
  else bif k == 5 then decide (1<=s) && decide (s<=32) && bl n == [] && nA ss es e
  else bif k == 6 then gK ss n && s == 0 && (e.length:Int) == 0
  else bif k == 7 then gJ es n && s == 0 && (e.length:Int) == 0 else false
def nA (ss:List St) (es:List En):List Ty->Bool
 | []=>false
 | u :: r=>valF ss es u && r.isEmpty
end
def fS (ss:List St) (n:ByteArray):Option St:=ss.find? fun s=>decide (s.nm=n)
def fU (es:List En) (n:ByteArray):Option En:=es.find? fun s=>decide (s.nm=n)
theorem AA (ss:List St) (n:ByteArray):(fS ss n).isSome=gK ss n:=by unfold fS gK; rw [Bool.eq_iff_iff,List.find?_isSome,List.any_eq_true]
theorem DG (es:List En) (n:ByteArray):(fU es n).isSome=gJ es n:=by unfold fU gJ; rw [Bool.eq_iff_iff,List.find?_isSome,List.any_eq_true]
@[go_sem] theorem aO3 (t:Ty):(aN t).take 4=aN t:=by rw [aO]; rfl
@[go_sem] theorem aVM (t:Ty):(aN t).map C.nf=aN t:=by rw [aO]; rfl
@[go_sem] theorem aST (t:Ty) (f:Nat->Option Nat):(aN t).map (C.ren f)=aN t:=by rw [aO]; rfl
theorem Ty.h_pos (t:Ty):0 < t.h:=by cases t; rw [Ty.h]; omega
theorem eU {P:Program} {f:FuncId} {s:W.Spec} {ι:Type} {t:ι->W.Spec} (i0:ι) (m:∀ i,Meets P f (t i)) (h:∀ av H K,s av H K->∃ i,t i av H K):Meets P f s:=⟨(m i0).1,by
 intro xs vl E ro w K h1 h2 h3 h4
 obtain ⟨i,hi⟩:=h _ _ _ h4
 exact (m i).2 xs vl E ro w K h1 h2 h3 hi⟩
def pT (ss:List St) (es:List En) (t:St) (k:Nat):Int:=match t.fs[k]? with
 | some f=>bif decide (f.num < 1) || decide (127 < f.num) then 4 else bif decide (0 < (k:Int)) && (match t.fs[k - 1]? with | some g=>decide (f.num<=g.num) | none=>false) then 2 else
  bif !(cC (bl f.nm)) then 5 else bif (t.fs.take k).any (fun g=>decide (g.nm=f.nm)) then 7 else bif !(valF ss es f.ty) then 13 else 0
 | none=>0
def DU (ss:List St) (es:List En) (t:St):Int:=fE (pT ss es t) (t.fs.length - 0) 0
theorem wE (f:Fl):[C.vl (.int .i64 f.ty.k),.vl (.int .i64 f.ty.s),.vl (.string f.ty.n),.fz (f.ty.e.map aN)]=aN f.ty:=(aO f.ty).symm
def aIK:PC:=.seq (.reg [.e 2 (.bx 32 (.t 0)),.e 3 (.bx 32 (.t 1)),.q 4 (.mv (.k (.bool false)))]) (.seq (.reg [.l 5 (.ldn 5 (.t 2)),.l 6 (.ldn 5 (.t 3)),.a 7 (.cq 34 [(.t 5),(.t 6)]),.q 8 (.bin .eql true (.t 7) (.i 0)),.v 4 8]) .ret)
def aE4:List RV:=[.mv (.t 4)]
theorem aO9:aM Tryz.prog true ⟨fun r k=>if r=1/\k=2 then .q else .own [],fun _=>false⟩ Tryz.f15=some (aIK,aE4):=by kernel_rfl
def aF6:PC:=.seq (.reg [.e 2 (.bx 32 (.t 0)),.e 3 (.bx 32 (.t 1)),.q 4 (.mv (.i 0))]) (.seq (.seq (.reg [.q 10 (.fa 0 (.t 2)),.l 11 (.ld1 (.t 10)),.q 12 (.fa 0 (.t 3)),.l 13 (.ld1 (.t 12)),.q 14 (.bin .neq true (.t 11) (.t 13))]) (.cond (.t 14) (.seq (.reg [.q 15 (.fa 0 (.t 2)),.l 16 (.ld1 (.t 15)),.q 17 (.fa 0 (.t 3)),.l 18 (.ld1 (.t 17)),.a 19 (.cq 80 [(.t 16),(.t 18)]),.v 4 19]) .ret) .skip)) (.seq (.seq (.reg [.q 20 (.fa 1 (.t 2)),.l 21 (.ld1 (.t 20)),.q 22 (.fa 1 (.t 3)),.l 23 (.ld1 (.t 22)),.q 24 (.bin .lss true (.t 21) (.t 23))]) (.cond (.t 24) (.seq (.reg [.q 4 (.mv (.i (-1)))]) .ret) .skip)) (.seq (.seq (.reg [.q 25 (.fa 1 (.t 2)),.l 26 (.ld1 (.t 25)),.q 27 (.fa 1 (.t 3)),.l 28 (.ld1 (.t 27)),.q 29 (.bin .gtr true (.t 26) (.t 28))]) (.cond (.t 29) (.seq (.reg [.q 4 (.mv (.i 1))]) .ret) .skip)) (.seq (.seq (.reg [.q 30 (.fa 2 (.t 2)),.l 31 (.ld1 (.t 30)),.q 32 (.fa 2 (.t 3)),.l 33 (.ld1 (.t 32)),.a 34 (.cq 81 [(.t 31),(.t 33)]),.v 5 34]) (.seq (.reg [.v 35 5,.q 36 (.bin .neq true (.t 35) (.i 0))]) (.cond (.t 36) (.seq (.reg [.v 37 5,.v 4 37]) .ret) .skip))) (.seq (.seq (.reg [.q 6 (.mv (.i 0))]) (.block 0 (.loop (.seq (.seq (.reg [.v 38 6,.q 39 (.fa 3 (.t 2)),.l 40 (.ld1 (.t 39)),.q 41 (.lnL (.t 40)),.q 42 (.bin .lss true (.t 38) (.t 41)),.v 43 42,⟨some 44,(some (43,true)),.q (.mv (.t 6))⟩,⟨some 45,(some (43,true)),.q (.fa 3 (.t 3))⟩,⟨some 46,(some (43,true)),.l (.ld1 (.t 45))⟩,⟨some 47,(some (43,true)),.q (.lnL (.t 46))⟩,⟨some 48,(some (43,true)),.q (.bin .lss true (.t 44) (.t 47))⟩,.a 49 (.pick (.t 43) (.t 48) (.k (.bool false)))]) (.cond (.t 49) .skip (.exit 0))) (.seq (.block 1 (.seq (.reg [.q 52 (.fa 3 (.t 2)),.l 53 (.ld1 (.t 52)),.v 54 6,.l 55 (.ia 5 (.t 53) (.t 54)),.l 56 (.ldn 5 (.t 55)),.q 57 (.fa 3 (.t 3)),.l 58 (.ld1 (.t 57)),.v 59 6,.l 60 (.ia 5 (.t 58) (.t 59)),.l 61 (.ldn 5 (.t 60)),.a 62 (.cq 34 [(.t 56),(.t 61)]),.v 7 62]) (.seq (.reg [.v 63 7,.q 64 (.bin .neq true (.t 63) (.i 0))]) (.cond (.t 64) (.seq (.reg [.v 65 7,.v 4 65]) .ret) .skip)))) (.reg [.v 50 6,.q 51 (.bin .add true (.t 50) (.i 1)),.v 6 51])))))) (.seq (.seq (.reg [.q 66 (.fa 3 (.t 2)),.l 67 (.ld1 (.t 66)),.q 68 (.lnL (.t 67)),.q 69 (.fa 3 (.t 3)),.l 70 (.ld1 (.t 69)),.q 71 (.lnL (.t 70)),.q 72 (.bin .neq true (.t 68) (.t 71))]) (.cond (.t 72) (.seq (.reg [.q 73 (.fa 3 (.t 2)),.l 74 (.ld1 (.t 73)),.q 75 (.lnL (.t 74)),.q 76 (.fa 3 (.t 3)),.l 77 (.ld1 (.t 76)),.q 78 (.lnL (.t 77)),.a 79 (.cq 80 [(.t 75),(.t 78)]),.v 4 79]) .ret) .skip)) (.seq (.seq (.reg [.q 8 (.mv (.i 0))]) (.block 2 (.loop (.seq (.seq (.reg [.v 80 8,.q 81 (.fa 4 (.t 2)),.l 82 (.ld1 (.t 81)),.q 83 (.lnL (.t 82)),.q 84 (.bin .lss true (.t 80) (.t 83)),.v 85 84,⟨some 86,(some (85,true)),.q (.mv (.t 8))⟩,⟨some 87,(some (85,true)),.q (.fa 4 (.t 3))⟩,⟨some 88,(some (85,true)),.l (.ld1 (.t 87))⟩,⟨some 89,(some (85,true)),.q (.lnL (.t 88))⟩,⟨some 90,(some (85,true)),.q (.bin .lss true (.t 86) (.t 89))⟩,.a 91 (.pick (.t 85) (.t 90) (.k (.bool false)))]) (.cond (.t 91) .skip (.exit 2))) (.seq (.block 3 (.seq (.seq (.reg [.q 94 (.fa 4 (.t 2)),.l 95 (.ld1 (.t 94)),.v 96 8,.l 97 (.ia 6 (.t 95) (.t 96)),.q 98 (.fa 0 (.t 97)),.l 99 (.ld1 (.t 98)),.q 100 (.fa 4 (.t 3)),.l 101 (.ld1 (.t 100)),.v 102 8,.l 103 (.ia 6 (.t 101) (.t 102)),.q 104 (.fa 0 (.t 103)),.l 105 (.ld1 (.t 104)),.q 106 (.bin .neq true (.t 99) (.t 105))]) (.cond (.t 106) (.seq (.reg [.q 107 (.fa 4 (.t 2)),.l 108 (.ld1 (.t 107)),.v 109 8,.l 110 (.ia 6 (.t 108) (.t 109)),.q 111 (.fa 0 (.t 110)),.l 112 (.ld1 (.t 111)),.q 113 (.fa 4 (.t 3)),.l 114 (.ld1 (.t 113)),.v 115 8,.l 116 (.ia 6 (.t 114) (.t 115)),.q 117 (.fa 0 (.t 116)),.l 118 (.ld1 (.t 117)),.a 119 (.cq 80 [(.t 112),(.t 118)]),.v 4 119]) .ret) .skip)) (.seq (.reg [.q 120 (.fa 4 (.t 2)),.l 121 (.ld1 (.t 120)),.v 122 8,.l 123 (.ia 6 (.t 121) (.t 122)),.q 124 (.fa 1 (.t 123)),.l 125 (.ldn 5 (.t 124)),.q 126 (.fa 4 (.t 3)),.l 127 (.ld1 (.t 126)),.v 128 8,.l 129 (.ia 6 (.t 127) (.t 128)),.q 130 (.fa 1 (.t 129)),.l 131 (.ldn 5 (.t 130)),.a 132 (.cq 34 [(.t 125),(.t 131)]),.v 9 132]) (.seq (.reg [.v 133 9,.q 134 (.bin .neq true (.t 133) (.i 0))]) (.cond (.t 134) (.seq (.reg [.v 135 9,.v 4 135]) .ret) .skip))))) (.reg [.v 92 8,.q 93 (.bin .add true (.t 92) (.i 1)),.v 8 93])))))) (.seq (.reg [.q 136 (.fa 4 (.t 2)),.l 137 (.ld1 (.t 136)),.q 138 (.lnL (.t 137)),.q 139 (.fa 4 (.t 3)),.l 140 (.ld1 (.t 139)),.q 141 (.lnL (.t 140)),.a 142 (.cq 80 [(.t 138),(.t 141)]),.v 4 142]) .ret))))))))
def aF1:List RV:=[.mv (.t 4)]
theorem aOH:aM Tryz.prog true ⟨fun r k=>if r=2/\k=4 then .q else if r=7/\k=4 then .q else if r=13/\k=10 then .q else if r=17/\k=6 then .q else if r=22/\k=12 then .q else if r=23/\k=12 then .q else if r=26/\k=6 then .q else .own [],fun _=>false⟩ Tryz.f34=some (aF6,aF1):=by kernel_rfl
def aGC:PC:=.seq (.reg [.q 4 (.mv (.i 0))]) (.seq (.seq (.reg [.v 5 0,.v 6 1,.q 7 (.bin .lss true (.t 5) (.t 6))]) (.cond (.t 7) (.seq (.reg [.q 4 (.mv (.i (-1)))]) .ret) .skip)) (.seq (.seq (.reg [.v 8 0,.v 9 1,.q 10 (.bin .gtr true (.t 8) (.t 9))]) (.cond (.t 10) (.seq (.reg [.q 4 (.mv (.i 1))]) .ret) .skip)) (.seq (.reg [.q 4 (.mv (.i 0))]) .ret)))
def aFB:List RV:=[.mv (.t 4)]
theorem aOP:aM Tryz.prog true ⟨fun _ _=>.own [],fun _=>false⟩ Tryz.f80=some (aGC,aFB):=by kernel_rfl
def aHY:PC:=.seq (.reg [.q 4 (.mv (.i 0))]) (.seq (.seq (.reg [.q 5 (.mv (.i 0))]) (.block 0 (.loop (.seq (.seq (.reg [.v 6 5,.v 7 0,.q 8 (.lnS (.t 7)),.q 9 (.bin .lss true (.t 6) (.t 8)),.v 10 9,⟨some 11,(some (10,true)),.q (.mv (.t 5))⟩,⟨some 12,(some (10,true)),.q (.mv (.t 1))⟩,⟨some 13,(some (10,true)),.q (.lnS (.t 12))⟩,⟨some 14,(some (10,true)),.q (.bin .lss true (.t 11) (.t 13))⟩,.a 15 (.pick (.t 10) (.t 14) (.k (.bool false)))]) (.cond (.t 15) .skip (.exit 0))) (.seq (.block 1 (.seq (.seq (.reg [.v 18 0,.v 19 5,.a 20 (.ix (.t 18) (.t 19)),.v 21 1,.v 22 5,.a 23 (.ix (.t 21) (.t 22)),.q 24 (.bin .lss true (.t 20) (.t 23))]) (.cond (.t 24) (.seq (.reg [.q 4 (.mv (.i (-1)))]) .ret) .skip)) (.seq (.reg [.v 25 0,.v 26 5,.a 27 (.ix (.t 25) (.t 26)),.v 28 1,.v 29 5,.a 30 (.ix (.t 28) (.t 29)),.q 31 (.bin .gtr true (.t 27) (.t 30))]) (.cond (.t 31) (.seq (.reg [.q 4 (.mv (.i 1))]) .ret) .skip)))) (.reg [.v 16 5,.q 17 (.bin .add true (.t 16) (.i 1)),.v 5 17])))))) (.seq (.reg [.v 32 0,.q 33 (.lnS (.t 32)),.v 34 1,.q 35 (.lnS (.t 34)),.a 36 (.cq 80 [(.t 33),(.t 35)]),.v 4 36]) .ret))
def aHE:List RV:=[.mv (.t 4)]
theorem aN8:aM Tryz.prog true ⟨fun r k=>if r=8/\k=4 then .q else .own [],fun _=>false⟩ Tryz.f81=some (aHY,aHE):=by kernel_rfl
def SY (a b:Int):Int:=bif decide (a < b) then -1 else bif decide (b < a) then 1 else 0
theorem KS (a:Int):SY a a=0:=by unfold SY; simp
def GD:List S->Prop:=fun av=>match av with
 | [.va (.c1 (.vl (.int .i64 _))),.va (.c1 (.vl (.int .i64 _)))]=>True
 | _=>False
theorem rG {av:List S} (h:GD av):∃ a b:Int,av=[iS .i64 a,iS .i64 b]:=by
 unfold GD at h
 split at h
 · exact ⟨_,_,rfl⟩
 · exact h.elim
def YD:List S->A:=fun av=>match av with
 | [.va (.c1 (.vl (.int _ a))),.va (.c1 (.vl (.int _ b)))]=>iA .i64 (SY a b)
 | _=>.gs []
def sgFn:Fun:=⟨GD,YD,fun av h=>by obtain ⟨a,b,rfl⟩:=rG h; trivial⟩
theorem WH:∀ av H K,sgFn.sp av H K->av.length=2:=fun av H K h=>by obtain ⟨a,b,rfl⟩:=rG h.1.1; rfl
attribute [go_sem] sgFn GD YD
theorem YS:Meets Tryz.prog 80 sgFn.sp:=by
 refine aE Tryz.func80 aOP 2 (by rw [Tryz.ntmps80]; decide) (aA _) WH ?_
 rintro av H K ⟨⟨h,rfl⟩,hK⟩
 obtain ⟨a,b,rfl⟩:=rG h
 have hK:K (iS .i64 (SY a b)) []:=hK
 clear h
 unfold SY at hK
 simp (maxSteps:=1000000) -dsimp only [go_sem,aGC,aFB]
 refine ⟨fun h1=>?_,fun h1=>⟨fun h2=>?_,fun h2=>?_⟩⟩
 · rw [h1] at hK; exact .done hK
 · rw [h1,h2] at hK; exact .done hK
 · rw [h1,h2] at hK; exact .done hK
def zU:List S->Prop:=fun av=>match av with
 | [.va (.c1 (.vl (.string a))),.va (.c1 (.vl (.string b)))]=>a=b/\a.size<=9223372036854775807
 | _=>False
theorem wQ {av:List S} (h:zU av):∃ a:ByteArray,av=[tS a,tS a]/\a.size<=9223372036854775807:=by
 unfold zU at h
 split at h
 · obtain ⟨rfl,h⟩:=h; exact ⟨_,rfl,h⟩
 · exact h.elim
def ordFn:Fun:=⟨zU,fun _=>iA .i64 0,fun _ _=>trivial⟩
theorem TA:∀ av H K,ordFn.sp av H K->av.length=2:=fun av H K h=>by obtain ⟨a,rfl,_⟩:=wQ h.1.1; rfl
attribute [go_sem] ordFn zU
theorem aFU:Meets Tryz.prog 81 ordFn.sp:=by
 refine aE Tryz.func81 aN8 2 (by rw [Tryz.ntmps81]; decide) (aH YS (aA _)) TA ?_
 rintro av H K ⟨⟨h,rfl⟩,hK⟩
 obtain ⟨a,rfl,hs⟩:=wQ h
 have hK:K (iS .i64 0) []:=hK
 clear h
 rw [iE] at hs
 simp (maxSteps:=1000000) -dsimp only [go_sem,aHY,aHE]
 refine aL (α:=Nat) (fun i=>[(0,tS a),(1,tS a),(5,iS .i64 i)]) (fun _=>[])
  (fun i=>i<=(bl a).length) (fun i=>(bl a).length - i) 0 0 (Nat.zero_le _) ?_ ?_ ?_
 · simp -dsimp only [go_sem]<;>simp
 · simp -dsimp only [go_sem]<;>simp
 intro i hi
 rcases bF i (bl a).length with hlt | hge
 · have hg:decide ((i:Int) < ((bl a).length:Int))=true:=by simp; omega
   obtain ⟨c,hc⟩:∃ c,(bl a)[i]? = some c:=⟨_,aW hlt⟩
   have hcc:decide ((c.toNat:Int) < (c.toNat:Int))=false:=by simp
   simp (maxSteps:=1000000) -dsimp only [go_sem,hg,hc,aJ,forall_eq',hcc]
   refine ⟨by omega,by omega,by omega,by omega,by omega,aC (i + 1) 0 (by omega) (by omega) ?_ ?_⟩
   · simp -dsimp only [go_sem]<;>simp
   · simp -dsimp only [go_sem]<;>simp
 · have hg:decide ((i:Int) < ((bl a).length:Int))=false:=by simp; omega
   obtain rfl:i=(bl a).length:=by omega
   simp (maxSteps:=1000000) -dsimp only [go_sem,hg,KS]
   exact .done hK
def FY (N:Nat):List S->Prop:=fun av=>match av with
 | [.va (.gs r),.va (.gs q)]=>r=q/\DC r/\(C.vv r).h<=N
 | _=>False
theorem rD {N:Nat} {av:List S} (h:FY N av):∃ v,av=[.va (.gs (bK v)),.va (.gs (bK v))]/\VlOk v/\v.h<=N:=by
 unfold FY at h
 split at h
 · obtain ⟨rfl,⟨v,rfl,hv⟩,h⟩:=h
   rw [uD] at h
   exact ⟨v,rfl,hv,h⟩
 · exact h.elim
def VB:List S->A:=fun _=>iA .i64 0
noncomputable def UQ (N:Nat):Fun:=⟨FY N,VB,fun _ _=>trivial⟩
theorem TS {N:Nat}:∀ av H K,(UQ N).sp av H K->av.length=2:=fun av H K h=>by obtain ⟨v,rfl,_⟩:=rD h.1.1; rfl
attribute [go_sem] UQ FY VB
def bO (v:Vl):List C:=[.vl (.int .i64 v.k),.vl (.int .i64 v.n),.vl (.string v.s),.fz (v.l.map bK),.fz (v.f.map cJ)]
theorem PS {l:List Vl} {i:Nat} {x:Vl} (h:l[i]? = some x) (p:List C->Prop):(∀ r,(l.map bK)[((i:Nat):Int).toNat]? = some r->p r)=p [.vl (.int .i64 x.k),.vl (.int .i64 x.n),.vl (.string x.s),.fz (x.l.map bK),.fz (x.f.map cJ)]:=by
 rw [<-aX]; exact aY (row:=bK) h p
theorem AU {l:List (Int × Vl)} {i:Nat} {x:Int × Vl} (h:l[i]? = some x) (p:List C->Prop):(∀ r,(l.map cJ)[((i:Nat):Int).toNat]? = some r->p r)=p [.vl (.int .i64 x.1),.vl (.int .i64 x.2.k),.vl (.int .i64 x.2.n),.vl (.string x.2.s),.fz (x.2.l.map bK),.fz (x.2.f.map cJ)]:=by
 rw [<-TO]; exact aY (row:=cJ) h p
theorem f6 {v:Vl} (h:VlOk v):DC [.vl (.int .i64 v.k),.vl (.int .i64 v.n),.vl (.string v.s),.fz (v.l.map bK),.fz (v.f.map cJ)]:=by rw [<-aX]; exact CF h
theorem lK (v:Vl):C.vv [.vl (.int .i64 v.k),.vl (.int .i64 v.n),.vl (.string v.s),.fz (v.l.map bK),.fz (v.f.map cJ)]=v:=by rw [<-aX,uD]
theorem D9:∀ N,Meets Tryz.prog 34 (UQ N).sp
 | 0=>⟨by kernel_rfl,by rintro xs vs E ro w K _ _ _ ⟨⟨h,_⟩,_⟩; obtain ⟨v,_,_,h⟩:=rD h; have:=v.h_pos; omega⟩
 | N + 1=>by
  refine aE Tryz.func34 aOH 2 (by rw [Tryz.ntmps34]; decide) (aH (D9 N) (aH YS (aH aFU (aA _)))) TS ?_
  rintro av H K ⟨⟨h,rfl⟩,hK⟩
  obtain ⟨v,rfl,hv,hh⟩:=rD h
  have hK:K (iS .i64 0) []:=hK
  clear h
  have fin:∀ R:Hp,W.Fin 0 K (iS .i64 0) R:=fun R=>.sel [] (by simp) (by simp) rfl (.done (by simpa [go_sem] using hK))
  have hll:=hv.ll
  have hlf:=hv.lf
  have hs:=hv.s
  have h0:decide (v.n < v.n)=false:=by simp
  simp (maxSteps:=1000000) -dsimp only [go_sem,aX v,aF6,aF1,bne_self_eq_false,h0,hs]
  refine aL (α:=Nat) (fun i=>[(2,.va (.c1 (.pt 0 0))),(3,.va (.c1 (.pt 1 0))),(6,iS .i64 i)]) (fun _=>[.cells (bO v) 32,.cells (bO v) 32])
   (fun i=>i<=v.l.length) (fun i=>v.l.length - i) 0 2 (Nat.zero_le _) ?_ ?_ ?_
  · simp -dsimp only [go_sem]<;>simp
  · simp -dsimp only [go_sem,bO]<;>simp
  intro i hi
  rcases bF i v.l.length with hlt | hge
  · have hg:decide ((i:Int) < (v.l.length:Int))=true:=by simp; omega
    obtain ⟨x,hx⟩:∃ t,v.l[i]? = some t:=⟨_,aW hlt⟩
    have q1:=PS hx
    have hxm:=bJ hx
    have k1:=f6 (hv.l x hxm)
    have k2:=lK x
    have k3:x.h<=N:=by have:=Vl.h_l hxm; omega
    simp (maxSteps:=1000000) -dsimp only [go_sem,hg,↓q1,bO,k1,k2,k3,bne_self_eq_false]
    refine ⟨by omega,by omega,by omega,aC (i + 1) 2 (by omega) (by omega) ?_ ?_⟩
    · simp -dsimp only [go_sem]<;>simp
    · simp -dsimp only [go_sem,bO]<;>simp [bO]
  · have hg:decide ((i:Int) < (v.l.length:Int))=false:=by simp; omega
    obtain rfl:i=v.l.length:=by omega
    simp (maxSteps:=1000000) -dsimp only [go_sem,hg,bO,bne_self_eq_false]
    clear hi hge hg
    refine aL (α:=Nat) (fun i=>[(2,.va (.c1 (.pt 0 0))),(3,.va (.c1 (.pt 1 0))),(8,iS .i64 i)]) (fun _=>[.cells (bO v) 32,.cells (bO v) 32])
     (fun i=>i<=v.f.length) (fun i=>v.f.length - i) 0 2 (Nat.zero_le _) ?_ ?_ ?_
    · simp -dsimp only [go_sem]<;>simp
    · simp -dsimp only [go_sem,bO]<;>simp
    intro i hi
    rcases bF i v.f.length with hlt | hge
    · have hg:decide ((i:Int) < (v.f.length:Int))=true:=by simp; omega
      obtain ⟨x,hx⟩:∃ t,v.f[i]? = some t:=⟨_,aW hlt⟩
      have q1:=AU hx
      have hxm:=bJ hx
      have k1:=f6 (hv.f x hxm)
      have k2:=lK x.2
      have k3:x.2.h<=N:=by have:=Vl.h_f hxm; omega
      simp (maxSteps:=1000000) -dsimp only [go_sem,hg,↓q1,bO,k1,k2,k3,bne_self_eq_false]
      and_intros
      all_goals first
       | omega
       | skip
      refine aC (i + 1) 2 (by omega) (by omega) ?_ ?_
      · simp -dsimp only [go_sem]<;>simp
      · simp -dsimp only [go_sem,bO]<;>simp [bO]
    · have hg:decide ((i:Int) < (v.f.length:Int))=false:=by simp; omega
      obtain rfl:i=v.f.length:=by omega
      simp (maxSteps:=1000000) -dsimp only [go_sem,hg,bO,KS]
      exact fin _
def tC:List S->Prop:=fun av=>match av with
 | [.va (.gs r),.va (.gs q)]=>r=q/\DC r
 | _=>False
theorem pQ {av:List S} (h:tC av):∃ v,av=[.va (.gs (bK v)),.va (.gs (bK v))]/\VlOk v:=by
 unfold tC at h
 split at h
 · obtain ⟨rfl,v,rfl,hv⟩:=h; exact ⟨v,rfl,hv⟩
 · exact h.elim
noncomputable def ceFn:Fun:=⟨tC,VB,fun _ _=>trivial⟩
theorem R7:Meets Tryz.prog 34 ceFn.sp:=eU 0 D9 fun av H K ⟨⟨h,e⟩,hK⟩=>by
 obtain ⟨v,rfl,hv⟩:=pQ h
 exact ⟨v.h,⟨⟨⟨rfl,CF hv,by rw [uD]; exact Nat.le_refl _⟩,e⟩,hK⟩⟩
noncomputable def eqFn:Fun:=⟨tC,fun _=>bA true,fun _ _=>trivial⟩
theorem U0:∀ av H K,eqFn.sp av H K->av.length=2:=fun av H K h=>by obtain ⟨v,rfl,_⟩:=pQ h.1.1; rfl
attribute [go_sem] ceFn eqFn tC
theorem aB3:Meets Tryz.prog 15 eqFn.sp:=by
 refine aE Tryz.func15 aO9 2 (by rw [Tryz.ntmps15]; decide) (aH R7 (aA _)) U0 ?_
 rintro av H K ⟨⟨h,rfl⟩,hK⟩
 obtain ⟨v,rfl,hv⟩:=pQ h
 have hK:K (bS true) []:=hK
 clear h
 have k1:=f6 hv
 simp (maxSteps:=1000000) -dsimp only [go_sem,aX v,aIK,aE4,k1]
 exact .sel [] (by simp) (by simp) rfl (.done (by simpa [go_sem] using hK))
mutual
def szW:Vl->Int
 | .mk _ _ _ l f=>szF (szL 1 l) f
def szL:Int->List Vl->Int
 | a,[]=>a
 | a,v :: r=>szL (IntKind.i64.wrap (a + szW v)) r
def szF:Int->List (Int × Vl)->Int
 | a,[]=>a
 | a,(_,v) :: r=>szF (IntKind.i64.wrap (a + szW v)) r
end
mutual
def fZ:Ty->Ty
 | .mk k s n e=>bif k == 5 then H4 e (.mk k s n e) else .mk k s n e
def H4:List Ty->Ty->Ty
 | [],d=>d
 | u :: r,d=>bif r.isEmpty then fZ u else d
end
def bX (t:Ty):Bool:=(fZ t).k == 6 || (fZ t).k == 7
def bY (t:Ty):ByteArray:=(fZ t).n
theorem ET {s:Int} {n:ByteArray} {u:Ty}:fZ (.mk 5 s n [u])=fZ u:=by simp [fZ,H4]
theorem y5 {k s:Int} {n:ByteArray} {e:List Ty} (h:(k == 5 && (e.length:Int) == 1)=false):fZ (.mk k s n e)=.mk k s n e:=by
 rw [fZ]
 cases hk:k == 5 with
 | false=>rfl
 | true=>
  rw [hk,Bool.true_and] at h
  match e,h with
  | [],_=>rfl
  | [u],h=>simp at h
  | u :: v :: r,_=>simp [H4]
theorem aA3 (t:Ty):∀ c ∈ aN t,c.one:=by rw [aO]; simp [go_sem]
def b5 (go:St->List ByteArray->List ByteArray) (ss:List St) (o:List ByteArray) (f:Fl):List ByteArray:=
 bif !(bX f.ty) || dG o (bY f.ty) then o else match fS ss (bY f.ty) with
  | some t=>go t (o ++ [bY f.ty])
  | none=>o ++ [bY f.ty]
def dV (ss:List St):Nat->St->List ByteArray->List ByteArray
 | 0,_,o=>o
 | N + 1,t,o=>t.fs.foldl (b5 (dV ss N) ss) o
def fresh:List St->List ByteArray->Nat
 | [],_=>0
 | s :: ss,o=>(bif dG o s.nm then 0 else 1) + fresh ss o
theorem M0 (o p:List ByteArray) (n:ByteArray):dG (o ++ p) n=(dG o n || dG p n):=by simp [dG]
theorem uB (o p:List ByteArray):∀ ss:List St,fresh ss (o ++ p)<=fresh ss o
 | []=>Nat.le_refl _
 | s :: ss=>by
  have:=uB o p ss
  simp only [fresh,M0]
  cases dG o s.nm<;>cases dG p s.nm<;>simp only [Bool.or_true,Bool.or_false,aI,aD]<;>omega
theorem KZ {o:List ByteArray} {n:ByteArray} {t:St} (hn:dG o n=false):∀ {ss:List St},fS ss n=some t->fresh ss (o ++ [n]) < fresh ss o
 | [],h=>by cases h
 | s :: ss,h=>by
  unfold fS at h
  rw [List.find?_cons] at h
  simp only [fresh,M0]
  by_cases hs:s.nm=n
  · have h1:=uB o [n] ss
    have h2:dG [n] s.nm=true:=by simp [dG,hs]
    have h3:dG o s.nm=false:=by rw [hs]; exact hn
    rw [h2,h3]; simp only [Bool.or_true,aI,aD]; omega
  · simp only [hs,decide_false] at h
    have:=KZ hn h
    have h2:dG [n] s.nm=false:=by simp [dG,hs]
    rw [h2,Bool.or_false]
    omega
def Pfx (o p:List ByteArray):Prop:=∃ q,p=o ++ q
theorem Pfx.refl (o:List ByteArray):Pfx o o:=⟨[],by simp⟩
theorem Pfx.trans {a b c:List ByteArray} (h:Pfx a b) (k:Pfx b c):Pfx a c:=by
 obtain ⟨p,rfl⟩:=h; obtain ⟨q,rfl⟩:=k; exact ⟨p ++ q,by simp⟩
theorem Pfx.len {a b:List ByteArray} (h:Pfx a b):a.length<=b.length:=by obtain ⟨p,rfl⟩:=h; simp
theorem Pfx.fresh {ss:List St} {a b:List ByteArray} (h:Pfx a b):fresh ss b<=fresh ss a:=by obtain ⟨p,rfl⟩:=h; exact uB _ _ _
theorem uM {go:St->List ByteArray->List ByteArray} (hg:∀ t o,Pfx o (go t o)) (ss:List St) (o:List ByteArray) (f:Fl):Pfx o (b5 go ss o f):=by
 unfold b5
 cases !(bX f.ty) || dG o (bY f.ty) with
 | true=>exact .refl _
 | false=>
  cases fS ss (bY f.ty) with
  | none=>exact ⟨_,rfl⟩
  | some t=>exact Pfx.trans ⟨_,rfl⟩ (hg _ _)
theorem xQ {g:List ByteArray->Fl->List ByteArray} (hg:∀ o f,Pfx o (g o f)):∀ (l:List Fl) (o:List ByteArray),Pfx o (l.foldl g o)
 | [],_o=>.refl _
 | f :: l,o=>(hg o f).trans (xQ hg l _)
theorem uY (ss:List St):∀ (N:Nat) (t:St) (o:List ByteArray),Pfx o (dV ss N t o)
 | 0,_,_o=>.refl _
 | N + 1,t,o=>xQ (fun o f=>uM (uY ss N) ss o f) t.fs o
def xI (l:List ByteArray):List ByteArray:=((l.map bl).mergeSort fun x y=>decide (x<=y)).map mk
theorem UZ (l:List ByteArray):(xI l).length=l.length:=by simp [xI]
def oU (ss:List St) (n:ByteArray):List ByteArray:=dV ss (ss.length + 1) ((fS ss n).getD default) []
def gO (ss:List St) (n:ByteArray):List ByteArray:=xI (oU ss n)
theorem V9 (ss:List St) (o:List ByteArray):fresh ss o<=ss.length:=by
 induction ss with
 | nil=>exact Nat.le_refl _
 | cons s ss ih=>simp only [fresh,List.length_cons]; cases dG o s.nm<;>simp only [aI,aD]<;>omega
theorem St.ok_default:(default:St).ok:=⟨by decide,by decide,fun f h=>by cases h⟩
mutual
def cP:Ty->Nat × Ty
 | .mk k s n e=>bif k == 5 then ZF e (.mk k s n e) else (0,.mk k s n e)
def ZF:List Ty->Ty->Nat × Ty
 | [],d=>(0,d)
 | u :: _,_=>((cP u).1 + 1,(cP u).2)
end
def b8 (dp:ByteArray->Int) (t:Ty):Int:=(cP t).1 + bif (cP t).2.k == 6 then dp (cP t).2.n else 0
def gG (dp:ByteArray->Int) (fs:List Fl):Int:=fs.foldl (fun m f=>max m (b8 dp f.ty)) 0
def dN (ss:List St):Nat->ByteArray->Int
 | 0,_=>1
 | N + 1,n=>gG (dN ss N) ((fS ss n).getD default).fs + 1
inductive LOk:Ty->Prop
 | stop {k s n e}:(k == 5)=false->LOk (.mk k s n e)
 | list {s n u r}:LOk u->LOk (.mk 5 s n (u :: r))
structure Dp (ss:List St) (D:ByteArray->Int) (r:ByteArray->Nat):Prop where
 ok:∀ s ∈ ss,s.ok
 eq:∀ n t,fS ss n=some t->D n=gG D t.fs + 1
 lo:∀ n,0<=D n
 hi:∀ n,D n<=1000000000000
 ls:∀ n t,fS ss n=some t->∀ f ∈ t.fs,LOk f.ty
 rf:∀ n t,fS ss n=some t->∀ f ∈ t.fs,((cP f.ty).2.k == 6)=true->∃ u,fS ss (cP f.ty).2.n=some u/\r (cP f.ty).2.n < r n
abbrev gF (D:ByteArray->Int):Int->Fl->Int:=fun m f=>max m (b8 D f.ty)
theorem OC (D:ByteArray->Int):∀ (l:List Fl) (m:Int),m<=l.foldl (gF D) m
 | [],_=>Int.le_refl _
 | f :: l,m=>by
  have:=OC D l (max m (b8 D f.ty))
  show m<=l.foldl (gF D) (max m (b8 D f.ty)); omega
def CT (t:St) (b:ByteArray):Prop:=∃ f ∈ t.fs,bX f.ty=true/\bY f.ty=b
def eF (ss:List St) (a b:ByteArray):Prop:=CT ((fS ss a).getD default) b
inductive Reach (ss:List St):ByteArray->ByteArray->Prop
 | one {a b:ByteArray}:eF ss a b->Reach ss a b
 | more {a b c:ByteArray}:Reach ss a b->eF ss b c->Reach ss a c
theorem Reach.head {ss:List St} {a b c:ByteArray} (h:eF ss a b) (r:Reach ss b c):Reach ss a c:=by
 induction r with
 | one h2=>exact .more (.one h) h2
 | more _ h2 ih=>exact .more ih h2
theorem Reach.trans {ss:List St} {a b c:ByteArray} (h:Reach ss a b) (r:Reach ss b c):Reach ss a c:=by
 induction r with
 | one h2=>exact .more h h2
 | more _ h2 ih=>exact .more ih h2
theorem Reach.first {ss:List St} {a c:ByteArray} (r:Reach ss a c):∃ b,eF ss a b/\(c=b\/Reach ss b c):=by
 induction r with
 | one h=>exact ⟨_,h,.inl rfl⟩
 | more _ h2 ih=>
  obtain ⟨b,h3,h4⟩:=ih
  refine ⟨b,h3,.inr ?_⟩
  rcases h4 with rfl | h4
  · exact .one h2
  · exact .more h4 h2
theorem vH {o:List ByteArray} {n:ByteArray}:dG o n=false ↔ n ∉ o:=by
 rw [<-Bool.not_eq_true,qE]
theorem VY (ss:List St) {N:Nat} (ih:∀ t o,fresh ss o < N->(∀ b,CT t b->b ∈ dV ss N t o)/\∀ x ∈ dV ss N t o,x ∉ o->∀ y,eF ss x y->y ∈ dV ss N t o) (o:List ByteArray) (f:Fl) (h:fresh ss o < N + 1) :
 (bX f.ty=true->bY f.ty ∈ b5 (dV ss N) ss o f)/\∀ x ∈ b5 (dV ss N) ss o f,x ∉ o->∀ y,eF ss x y->y ∈ b5 (dV ss N) ss o f:=by
 cases c1:bX f.ty with
 | false=>
  have:b5 (dV ss N) ss o f=o:=by unfold b5; rw [c1]; rfl
  rw [this]; exact ⟨fun h=>by simp at h,fun x hx hn=>absurd hx hn⟩
 | true=>
 cases c2:dG o (bY f.ty) with
 | true=>
  have:b5 (dV ss N) ss o f=o:=by unfold b5; rw [c1,c2]; rfl
  rw [this]; exact ⟨fun _=>(qE _ _).1 c2,fun x hx hn=>absurd hx hn⟩
 | false=>
  cases hs:fS ss (bY f.ty) with
  | none=>
   have:b5 (dV ss N) ss o f=o ++ [bY f.ty]:=by unfold b5; rw [c1,c2,hs]; rfl
   rw [this]
   refine ⟨fun _=>by simp,fun x hx hn y hy=>?_⟩
   have:x=bY f.ty:=by simpa [hn] using hx
   subst this
   unfold eF at hy; rw [hs] at hy
   obtain ⟨g,hg,_⟩:=hy; cases hg
  | some d=>
   have:b5 (dV ss N) ss o f=dV ss N d (o ++ [bY f.ty]):=by unfold b5; rw [c1,c2,hs]; rfl
   rw [this]
   have hl:=KZ c2 hs
   obtain ⟨i1,i2⟩:=ih d (o ++ [bY f.ty]) (by omega)
   obtain ⟨q,hq⟩:=uY ss N d (o ++ [bY f.ty])
   refine ⟨fun _=>by rw [hq]; simp,fun x hx hn y hy=>?_⟩
   by_cases hxn:x=bY f.ty
   · subst hxn
     unfold eF at hy; rw [hs] at hy
     exact i1 y hy
   · exact i2 x hx (by simp [hn,hxn]) y hy
theorem G1 (ss:List St) {N:Nat} (ih:∀ t o,fresh ss o < N->(∀ b,CT t b->b ∈ dV ss N t o)/\∀ x ∈ dV ss N t o,x ∉ o->∀ y,eF ss x y->y ∈ dV ss N t o):∀ (l:List Fl) (o:List ByteArray),fresh ss o < N + 1->
 (∀ f ∈ l,bX f.ty=true->bY f.ty ∈ l.foldl (b5 (dV ss N) ss) o)/\∀ x ∈ l.foldl (b5 (dV ss N) ss) o,x ∉ o->∀ y,eF ss x y->y ∈ l.foldl (b5 (dV ss N) ss) o
 | [],o,_=>⟨fun f h=>(List.not_mem_nil h).elim,fun x hx hn=>absurd hx hn⟩
 | f :: l,o,h=>by
  obtain ⟨s1,s2⟩:=VY ss ih o f h
  have hp:=uM (uY ss N) ss o f
  obtain ⟨r1,r2⟩:=G1 ss ih l (b5 (dV ss N) ss o f) (by have:=hp.fresh (ss:=ss); omega)
  obtain ⟨q,hq⟩:=xQ (fun o f=>uM (uY ss N) ss o f) l (b5 (dV ss N) ss o f)
  have hin:∀ x,x ∈ b5 (dV ss N) ss o f->x ∈ l.foldl (b5 (dV ss N) ss) (b5 (dV ss N) ss o f):=fun x hx=>by rw [hq]; simp [hx]
  rw [List.foldl_cons]
  refine ⟨fun g hg hn=>?_,fun x hx hn y hy=>?_⟩
  · rcases List.mem_cons.1 hg with rfl | hg
    · exact hin _ (s1 hn)
    · exact r1 g hg hn
  · by_cases hx2:x ∈ b5 (dV ss N) ss o f
    · exact hin _ (s2 x hx2 hn y hy)
    · exact r2 x hx hx2 y hy
theorem QX (ss:List St):∀ (N:Nat) (t:St) (o:List ByteArray),fresh ss o < N->(∀ b,CT t b->b ∈ dV ss N t o)/\∀ x ∈ dV ss N t o,x ∉ o->∀ y,eF ss x y->y ∈ dV ss N t o
 | 0,_,_,h=>absurd h (Nat.not_lt_zero _)
 | N + 1,t,o,h=>by
  obtain ⟨r1,r2⟩:=G1 ss (QX ss N) t.fs o h
  exact ⟨fun b ⟨f,hf,hn,hb⟩=>hb ▸ r1 f hf hn,r2⟩
theorem FE (ss:List St):∀ (N:Nat) (t:St) (o:List ByteArray),∀ x ∈ dV ss N t o,x ∈ o\/∃ b,CT t b/\(x=b\/Reach ss b x)
 | 0,_,o=>fun x hx=>.inl hx
 | N + 1,t,o=>by
  have step:∀ (o:List ByteArray) (f:Fl),∀ x ∈ b5 (dV ss N) ss o f,x ∈ o\/(bX f.ty=true/\(x=bY f.ty\/Reach ss (bY f.ty) x)):=fun o f x hx=>by
   cases c1:bX f.ty with
   | false=>
    have:b5 (dV ss N) ss o f=o:=by unfold b5; rw [c1]; rfl
    rw [this] at hx; exact .inl hx
   | true=>
   cases c2:dG o (bY f.ty) with
   | true=>
    have:b5 (dV ss N) ss o f=o:=by unfold b5; rw [c1,c2]; rfl
    rw [this] at hx; exact .inl hx
   | false=>
    cases hs:fS ss (bY f.ty) with
    | none=>
     have:b5 (dV ss N) ss o f=o ++ [bY f.ty]:=by unfold b5; rw [c1,c2,hs]; rfl
     rw [this] at hx
     rcases List.mem_append.1 hx with h | h
     · exact .inl h
     · exact .inr ⟨rfl,.inl (by simpa using h)⟩
    | some d=>
     have:b5 (dV ss N) ss o f=dV ss N d (o ++ [bY f.ty]):=by unfold b5; rw [c1,c2,hs]; rfl
     rw [this] at hx
     rcases FE ss N d _ x hx with h | ⟨b,hb,h⟩
     · rcases List.mem_append.1 h with h | h
       · exact .inl h
       · exact .inr ⟨rfl,.inl (by simpa using h)⟩
     · have hr:eF ss (bY f.ty) b:=by unfold eF; rw [hs]; exact hb
       refine .inr ⟨rfl,.inr ?_⟩
       rcases h with rfl | h
       · exact .one hr
       · exact .head hr h
  have fold:∀ (l:List Fl) (o:List ByteArray),∀ x ∈ l.foldl (b5 (dV ss N) ss) o,x ∈ o\/∃ f ∈ l,bX f.ty=true/\(x=bY f.ty\/Reach ss (bY f.ty) x):=by
   intro l
   induction l with
   | nil=>exact fun o x hx=>.inl hx
   | cons f l ih=>
    intro o x hx
    rw [List.foldl_cons] at hx
    rcases ih _ x hx with h | ⟨g,hg,h⟩
    · rcases step o f x h with h | h
      · exact .inl h
      · exact .inr ⟨f,List.mem_cons_self,h⟩
    · exact .inr ⟨g,List.mem_cons_of_mem _ hg,h⟩
  intro x hx
  rcases fold t.fs o x hx with h | ⟨f,hf,hn,h⟩
  · exact .inl h
  · exact .inr ⟨bY f.ty,⟨f,hf,hn,rfl⟩,h⟩
theorem EW (ss:List St):∀ (N:Nat) (t:St) (o:List ByteArray),o.Nodup->(dV ss N t o).Nodup
 | 0,_,_=>id
 | N + 1,t,o=>by
  have step:∀ (o:List ByteArray) (f:Fl),o.Nodup->(b5 (dV ss N) ss o f).Nodup:=fun o f ho=>by
   have app:dG o (bY f.ty)=false->(o ++ [bY f.ty]).Nodup:=fun c2=>by
    rw [vH] at c2
    rw [List.nodup_append]
    exact ⟨ho,by simp,fun a ha b hb=>by simp at hb; subst hb; exact fun e=>c2 (e ▸ ha)⟩
   unfold b5
   cases c1:bX f.ty with
   | false=>exact ho
   | true=>
   cases c2:dG o (bY f.ty) with
   | true=>exact ho
   | false=>
    cases hs:fS ss (bY f.ty) with
    | none=>exact app c2
    | some d=>exact EW ss N d _ (app c2)
  show o.Nodup->(t.fs.foldl (b5 (dV ss N) ss) o).Nodup
  generalize t.fs=l
  induction l generalizing o with
  | nil=>exact id
  | cons f l ih=>exact fun h=>ih _ (step o f h)
theorem jY (ss:List St) (n x:ByteArray):x ∈ oU ss n ↔ Reach ss n x:=by
 unfold oU
 constructor
 · intro h
   rcases FE ss _ _ _ x h with h | ⟨b,hb,h⟩
   · cases h
   · rcases h with rfl | h
     · exact .one hb
     · exact .head hb h
 · intro h
   obtain ⟨c1,c2⟩:=QX ss (ss.length + 1) ((fS ss n).getD default) [] (Nat.lt_succ_of_le (V9 ss []))
   induction h with
   | one h=>exact c1 _ h
   | more _ h2 ih=>exact c2 _ ih (by simp) _ h2
theorem tM (ss:List St) (n:ByteArray):(oU ss n).Nodup:=EW ss _ _ _ .nil
theorem TU {l:List ByteArray} {x:ByteArray}:x ∈ xI l ↔ x ∈ l:=by
 unfold xI
 rw [List.mem_map]
 constructor
 · rintro ⟨y,hy,rfl⟩
   rw [List.mem_mergeSort,List.mem_map] at hy
   obtain ⟨z,hz,rfl⟩:=hy
   rw [lC]; exact hz
 · intro h
   exact ⟨bl x,by rw [List.mem_mergeSort]; exact List.mem_map_of_mem h,lC x⟩
theorem EA {ss:List St} {n x:ByteArray}:x ∈ gO ss n ↔ Reach ss n x:=by unfold gO; rw [TU,jY]
theorem FA (ss:List St) (n:ByteArray):(gO ss n).length=(oU ss n).length:=UZ _
structure Gd (ss:List St) (es:List En):Prop where
 ok:∀ s ∈ ss,s.ok
 n:ss.length<=16
 m:es.length<=16
 val:∀ s ∈ ss,∀ f ∈ s.fs,valF ss es f.ty=true
 lv:∀ s ∈ ss,∀ f ∈ s.fs,(cP f.ty).1<=1000000000
 nd:∀ s ∈ ss,fS ss s.nm=some s
def w6 (ss:List St):Prop:=∀ s ∈ ss,dG (gO ss s.nm) s.nm=false
theorem yJ {ss:List St} {es:List En} {s:Int} {n:ByteArray} {e:List Ty} (h:valF ss es (.mk 5 s n e)=true):∃ u,e=[u]/\valF ss es u=true:=by
 rw [valF] at h
 simp only [show ((5:Int) == 1)=false from rfl,show ((5:Int) == 2)=false from rfl,show ((5:Int) == 3)=false from rfl,show ((5:Int) == 4)=false from rfl,show ((5:Int) == 5)=true from rfl,aI,aD,Bool.and_eq_true] at h
 obtain ⟨_,h⟩:=h
 match e,h with
 | [],h=>simp [nA] at h
 | [u],h=>exact ⟨u,rfl,by simpa [nA] using h⟩
 | u :: v :: r,h=>simp [nA] at h
theorem A4 (ss:List St) (es:List En):∀ (N:Nat) (t:Ty),t.h<=N->valF ss es t=true->LOk t/\fZ t=(cP t).2/\((fZ t).k == 5)=false/\valF ss es (fZ t)=true
 | 0,t,h,_=>absurd h (by have:=t.h_pos; omega)
 | N + 1,.mk k s n e,h,hv=>by
  cases k5:k == 5 with
  | true=>
   obtain rfl:k=5:=by simpa using k5
   obtain ⟨u,rfl,hu⟩:=yJ hv
   obtain ⟨i1,i2,i3,i4⟩:=A4 ss es N u (by rw [Ty.h,Ty.hs,Ty.hs] at h; omega) hu
   rw [ET]
   exact ⟨.list i1,by rw [i2]; simp [cP,ZF],i3,i4⟩
  | false=>
   have h1:fZ (.mk k s n e)=.mk k s n e:=y5 (by rw [k5]; rfl)
   rw [h1]
   exact ⟨.stop k5,by rw [cP,k5]; rfl,k5,hv⟩
theorem aIV {ss:List St} {es:List En} {t:Ty} (hv:valF ss es t=true) (hn:bX t=true):gK ss (bY t)=true\/gJ es (bY t)=true:=by
 obtain ⟨_,_,_,h⟩:=A4 ss es t.h t (Nat.le_refl _) hv
 unfold bX at hn
 unfold bY
 revert h hn
 generalize fZ t=u
 cases u with
 | mk k s n e=>
 intro hn h
 simp only [Ty.k,Bool.or_eq_true,beq_iff_eq] at hn
 rcases hn with rfl | rfl
 · left; rw [valF] at h; simp at h; exact h.1.1
 · right; rw [valF] at h; simp at h; exact h.1.1
theorem aB2 {ss:List St} {es:List En} {t:Ty} (hv:valF ss es t=true) (hk:((cP t).2.k == 6)=true):bX t=true/\bY t=(cP t).2.n/\gK ss (cP t).2.n=true/\LOk t:=by
 obtain ⟨h1,h2,_,h⟩:=A4 ss es t.h t (Nat.le_refl _) hv
 unfold bX bY
 rw [h2] at h ⊢
 refine ⟨by rw [hk]; rfl,rfl,?_,h1⟩
 revert h hk
 generalize (cP t).2=u
 cases u with
 | mk k s n e=>
 intro hk h
 obtain rfl:k=6:=by simpa [Ty.k] using hk
 rw [valF] at h; simp at h; exact h.1.1
theorem iF {ss:List St} {n:ByteArray} {t:St} (h:fS ss n=some t):t ∈ ss/\t.nm=n:=⟨List.mem_of_find?_eq_some h,by have:=List.find?_some h; simpa using this⟩
theorem NZ {ss:List En} {n:ByteArray} {t:En} (h:fU ss n=some t):t ∈ ss/\t.nm=n:=⟨List.mem_of_find?_eq_some h,by have:=List.find?_some h; simpa using this⟩
theorem aBI {ss:List St} {a b:ByteArray} (h:eF ss a b):∃ t f,fS ss a=some t/\t ∈ ss/\f ∈ t.fs/\bX f.ty=true/\bY f.ty=b:=by
 obtain ⟨f,hf,hn,hb⟩:=h
 cases hs:fS ss a with
 | none=>rw [hs] at hf; cases hf
 | some t=>rw [hs] at hf; exact ⟨t,f,rfl,(iF hs).1,hf,hn,hb⟩
theorem VS {ss:List St} {es:List En} (g:Gd ss es) {a b:ByteArray} (h:Reach ss a b):gK ss b=true\/gJ es b=true:=by
 have:∃ c,eF ss c b:=by cases h with
  | one h=>exact ⟨_,h⟩
  | more _ h=>exact ⟨_,h⟩
 obtain ⟨c,h⟩:=this
 obtain ⟨t,f,_,ht,hf,hn,rfl⟩:=aBI h
 exact aIV (g.val t ht f hf) hn
theorem tX {α:Type} [DecidableEq α]:∀ {l m:List α},l.Nodup->(∀ x ∈ l,x ∈ m)->l.length<=m.length
 | [],_,_,_=>Nat.zero_le _
 | x :: l,m,h,hs=>by
  have h2:=List.nodup_cons.1 h
  have hx:=hs x List.mem_cons_self
  have:=tX (m:=m.erase x) h2.2 fun y hy=>(List.mem_erase_of_ne (fun e=>h2.1 (by rw [<-e]; exact hy))).2 (hs y (List.mem_cons_of_mem _ hy))
  rw [List.length_erase_of_mem hx] at this
  have hp:=List.length_pos_of_mem hx
  simp only [List.length_cons]; omega
theorem Gd.vlen {ss:List St} {es:List En} (g:Gd ss es) (n:ByteArray):(oU ss n).length<=32:=by
 have h:=tX (m:=ss.map (·.nm) ++ es.map (·.nm)) (tM ss n) fun x hx=>by
  rw [jY] at hx
  rw [List.mem_append,List.mem_map,List.mem_map]
  rcases VS g hx with h | h
  · left; unfold gK at h; rw [List.any_eq_true] at h; obtain ⟨t,h1,h2⟩:=h; exact ⟨t,h1,of_decide_eq_true h2⟩
  · right; unfold gJ at h; rw [List.any_eq_true] at h; obtain ⟨t,h1,h2⟩:=h; exact ⟨t,h1,of_decide_eq_true h2⟩
 have h1:=g.n
 have h2:=g.m
 simp only [List.length_append,List.length_map] at h
 omega
def sA (ss:List St) (n:ByteArray):Nat:=ss.countP fun s=>dG (oU ss n) s.nm
theorem FD {α:Type} {p q:α->Bool}:∀ {l:List α},(∀ x ∈ l,p x=true->q x=true)->(∃ x ∈ l,q x=true/\p x=false)->l.countP p < l.countP q
 | [],_,⟨_,h,_⟩=>by cases h
 | y :: l,h,⟨x,hx,h1,h2⟩=>by
  have hm:=List.countP_mono_left fun z hz=>h z (List.mem_cons_of_mem _ hz)
  have hy:=h y List.mem_cons_self
  rw [List.countP_cons,List.countP_cons]
  rcases List.mem_cons.1 hx with rfl | hx
  · rw [h1,h2]; simp; omega
  · have:=FD (fun z hz=>h z (List.mem_cons_of_mem _ hz)) ⟨x,hx,h1,h2⟩
    cases hp:p y with
    | true=>rw [hy hp]; simp; exact this
    | false=>cases q y<;>simp<;>omega
theorem N1 (ss:List St) (n:ByteArray):sA ss n<=ss.length:=List.countP_le_length
theorem CU {ss:List St} {n m:ByteArray} {u:St} (h:eF ss n m) (hu:fS ss m=some u) (ha:w6 ss):sA ss m < sA ss n:=by
 obtain ⟨h1,h2⟩:=iF hu
 refine FD (fun s _ hs=>?_) ⟨u,h1,?_,?_⟩
 · rw [qE,jY] at hs ⊢; exact .head h hs
 · rw [qE,jY,h2]; exact .one h
 · rw [vH,jY,<-EA,<-vH]
   have:=ha u h1
   rw [h2] at this ⊢; exact this
theorem M4 {dp:ByteArray->Int} {B:Int} (hB:0<=B) {l:List Fl} (h:∀ f ∈ l,b8 dp f.ty<=B):gG dp l<=B:=by
 have key:∀ (l:List Fl) (m:Int),m<=B->(∀ f ∈ l,b8 dp f.ty<=B)->l.foldl (gF dp) m<=B:=by
  intro l
  induction l with
  | nil=>exact fun m hm _=>hm
  | cons f l ih=>exact fun m hm h=>ih _ (by have:=h f List.mem_cons_self; show max m (b8 dp f.ty)<=B; omega) fun g hg=>h g (List.mem_cons_of_mem _ hg)
 exact key l 0 hB h
theorem j8 (dp:ByteArray->Int) (l:List Fl):0<=gG dp l:=OC dp l 0
theorem NM {dp:ByteArray->Int} {l:List Fl} {f:Fl} (h:f ∈ l):b8 dp f.ty<=gG dp l:=by
 have key:∀ (l:List Fl) (m:Int),f ∈ l->b8 dp f.ty<=l.foldl (gF dp) m:=by
  intro l
  induction l with
  | nil=>exact fun m h=>by cases h
  | cons g l ih=>
   intro m h
   rcases List.mem_cons.1 h with rfl | h
   · refine Int.le_trans ?_ (OC dp l (max m (b8 dp f.ty)))
     omega
   · exact ih _ h
 exact key l 0 h
theorem rX {dp dq:ByteArray->Int} {l:List Fl} (h:∀ f ∈ l,b8 dp f.ty=b8 dq f.ty):gG dp l=gG dq l:=by
 have key:∀ (l:List Fl) (m:Int),(∀ f ∈ l,b8 dp f.ty=b8 dq f.ty)->l.foldl (gF dp) m=l.foldl (gF dq) m:=by
  intro l
  induction l with
  | nil=>exact fun _ _=>rfl
  | cons f l ih=>exact fun m h=>by rw [List.foldl_cons,List.foldl_cons,gF,h f List.mem_cons_self]; exact ih _ fun g hg=>h g (List.mem_cons_of_mem _ hg)
 exact key l 0 h
def dK:Nat:=99
def dD (ss:List St) (n:ByteArray):Int:=dN ss (dK + 1) n
theorem aAZ (ss:List St) (N:Nat) (n:ByteArray):dN ss (N + 1) n=gG (dN ss N) ((fS ss n).getD default).fs + 1:=rfl
theorem ZS:dK=99:=rfl
theorem S8 (ss:List St) (n:ByteArray):dD ss n=dN ss (dK + 1) n:=rfl
attribute [irreducible] dK
theorem aEM (ss:List St):∀ (N:Nat) (n:ByteArray),1<=dN ss N n
 | 0,_=>Int.le_refl _
 | N + 1,n=>by have:=j8 (dN ss N) ((fS ss n).getD default).fs; rw [dN]; omega
theorem aAO {ss:List St} {es:List En} (g:Gd ss es):∀ (N:Nat) (n:ByteArray),dN ss N n<=1 + N * 1000000001
 | 0,_=>by rw [dN]; omega
 | N + 1,n=>by
  have:gG (dN ss N) ((fS ss n).getD default).fs<=1000000001 + N * 1000000001:=by
   refine M4 (by omega) fun f hf=>?_
   cases hs:fS ss n with
   | none=>rw [hs] at hf; cases hf
   | some t=>
    rw [hs] at hf
    have h1:=g.lv t (iF hs).1 f hf
    have h2:=aAO g N (cP f.ty).2.n
    unfold b8
    cases (cP f.ty).2.k == 6<;>simp only [aI,aD]<;>omega
  rw [dN]; omega
theorem C1 {ss:List St} {es:List En} (g:Gd ss es) {n:ByteArray} {t:St} (hs:fS ss n=some t) {f:Fl} (hf:f ∈ t.fs) (hk:((cP f.ty).2.k == 6)=true):eF ss n (cP f.ty).2.n/\∃ u,fS ss (cP f.ty).2.n=some u:=by
 obtain ⟨h1,h2,h3,_⟩:=aB2 (g.val t (iF hs).1 f hf) hk
 refine ⟨⟨f,by rw [hs]; exact hf,h1,h2⟩,?_⟩
 rw [<-AA] at h3
 exact Option.isSome_iff_exists.1 h3
theorem EO {ss:List St} {es:List En} (g:Gd ss es) (ha:w6 ss):∀ (N:Nat) (n:ByteArray),sA ss n < N->dN ss (N + 1) n=dN ss N n
 | 0,_,h=>absurd h (Nat.not_lt_zero _)
 | N + 1,n,h=>by
  rw [dN,dN]
  congr 1
  refine rX fun f hf=>?_
  cases hs:fS ss n with
  | none=>rw [hs] at hf; cases hf
  | some t=>
   rw [hs] at hf
   unfold b8
   cases hk:(cP f.ty).2.k == 6 with
   | false=>rfl
   | true=>
    obtain ⟨h1,u,h2⟩:=C1 g hs hf hk
    have:=CU h1 h2 ha
    rw [EO g ha N _ (by omega)]
theorem GQ (ss:List St) (n:ByteArray):0<=dD ss n:=Int.le_trans (by decide) (aEM ss (dK + 1) n)
theorem N3 {ss:List St} {es:List En} (g:Gd ss es) (n:ByteArray):dD ss n<=1000000000000:=by
 refine Int.le_trans (aAO g (dK + 1) n) ?_
 have:=ZS
 generalize dK=k at *
 subst this
 decide
theorem aJN {ss:List St} {es:List En} (g:Gd ss es) (ha:w6 ss) (f:Fl):b8 (dN ss dK) f.ty=b8 (dD ss) f.ty:=by
 have h2:=N1 ss (cP f.ty).2.n
 have h3:=g.n
 have h4:=ZS
 have h5:=EO g ha dK (cP f.ty).2.n (by omega)
 unfold b8
 rw [S8,h5]
theorem F9 {ss:List St} {es:List En} (g:Gd ss es) (ha:w6 ss) {n:ByteArray} {t:St} (hs:fS ss n=some t):dD ss n=gG (dD ss) t.fs + 1:=by
 have h1:=aAZ ss dK n
 have h2:gG (dN ss dK) t.fs=gG (dD ss) t.fs:=rX fun f _=>aJN g ha f
 rw [hs,Option.getD_some,h2] at h1
 rw [S8]
 exact h1
theorem Gd.dp {ss:List St} {es:List En} (g:Gd ss es) (ha:w6 ss):Dp ss (dD ss) (sA ss):=by
 refine ⟨g.ok,fun n t hs=>F9 g ha hs,GQ ss,N3 g,fun n t hs f hf=>(A4 ss es _ _ (Nat.le_refl _) (g.val t (iF hs).1 f hf)).1,fun n t hs f hf hk=>?_⟩
 obtain ⟨h1,u,h2⟩:=C1 g hs hf hk
 exact ⟨u,h2,CU h1 h2 ha⟩
def u7 (ss:List St):Int:=bif ss.any (fun t=>dG (gO ss t.nm) t.nm) then 19 else bif ss.any (fun t=>decide (6 < dD ss t.nm)) then 9 else 0
theorem fT {α:Type} {l:List α} {p:α->Bool} (h:l.any p=false):∀ x ∈ l,p x=false:=fun x hx=>by
 rw [List.any_eq_false] at h; simpa using h x hx
end Go.Proofs.YtkpohmhenegkiaaGreatDoor
