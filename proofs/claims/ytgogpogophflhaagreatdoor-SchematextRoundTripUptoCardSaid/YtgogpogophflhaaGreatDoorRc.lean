/- Lemmas and walks for the proof. -/
import Derived.Test.YtgogpogophflhaaGreatDoorRb
import Derived.Test.YtgogpogophflhaaGreatDoorProg
import Derived.Shelf.Strings.Search1
import Derived.Shelf.Small.Strs
import Derived.Shelf.Sort.Plain
import Derived.Shelf.Slices.In.SortNone
set_option maxRecDepth 100000
set_option maxHeartbeats 8000000
namespace Go.W
abbrev J.a (d:Nat) (i:I):J:=⟨some d,none,i⟩
abbrev J.q (d:Nat) (i:QI):J:=⟨some d,none,.q i⟩
abbrev J.v (d i:Nat):J:=⟨some d,none,.q (.mv (.t i))⟩
abbrev J.l (d:Nat) (i:LI):J:=⟨some d,none,.l i⟩
abbrev J.e (d:Nat) (i:EI):J:=⟨some d,none,.e i⟩
abbrev J.s (i:EI):J:=⟨none,none,.e i⟩
abbrev O.i (n:Int):O:=.k (.int .i64 n)
abbrev cW (p:PC):Prop:=∀(Γ:dH) (k0:Nat) (fr:Fr) (H:Hp) (K:Ex->Fr->Hp->Prop),vc Γ k0 p fr H K=vcn Γ k0 p fr H K ⟨⟩
abbrev zv5:Array Value:=#[(.int .i64 0), (.int .i64 0), (.string (mk [])), (.slice none 0 0), (.slice none 0 0)]
theorem Fin.z {K:S->Hp->Prop} {r:S} {H:Hp} (h:K (r.ren (loc [])) ((p5 H []).map (B.ren (loc [])))):Fin 0 K r H:=.sel [] (by simp) (by simp) rfl (.done h)
theorem cZ (p:PC):cW p:=fun _ _ _ _ _=>rfl
end Go.W
namespace Go.Proofs.YtgogpogophflhaaGreatDoor
open Go.W
def WY:PC:=.seq (.reg [.q 2 (.mv (.k (.slice none 0 0))),.q 3 (.mv (.i 0)),.q 4 (.mv (.i 0))]) (.seq (.seq (.reg [.v 8 0,.q 9 (.lnS (.t 8)),.q 10 (.bin .gtr true (.t 9) (.i 4000))]) (.cond (.t 10) (.seq (.reg [.q 2 (.mv (.k (.slice none 0 0))),.q 3 (.mv (.i 3)),.q 4 (.mv (.i 0))]) .ret) .skip)) (.seq (.reg [.v 11 0,.q 12 (.bd [(.string (mk [])),(.int .i64 0),(.int .i64 0),(.int .i64 0)] [(0,1,(.t 11))]),.e 13 (.bx 92 (.t 12)),.v 5 13]) (.seq (.reg [.q 6 (.mv (.k (.slice none 0 0)))]) (.block 0 (.loop (.block 1 (.seq (.reg [.v 14 5,.a 15 (.cl 58 [(.t 14)] [0]),.e 7 (.al (.agg #[(.int .i64 0),(.string (mk [])),(.int .i64 0),(.int .i64 0)]) 74),.s (.st 4 (.t 7) (.t 15))]) (.seq (.seq (.reg [.v 16 5,.q 17 (.nc (.t 16)),.q 18 (.fa 2 (.t 17)),.l 19 (.ld1 (.t 18)),.q 20 (.bin .neq true (.t 19) (.i 0))]) (.cond (.t 20) (.seq (.reg [.v 21 5,.q 22 (.nc (.t 21)),.q 23 (.fa 2 (.t 22)),.l 24 (.ld1 (.t 23)),.v 25 5,.q 26 (.nc (.t 25)),.q 27 (.fa 3 (.t 26)),.l 28 (.ld1 (.t 27)),.q 2 (.mv (.k (.slice none 0 0))),.v 3 24,.v 4 28]) .ret) .skip)) (.seq (.reg [.v 29 6,.l 30 (.ldn 4 (.t 7)),.e 31 (.bsl 74 4 [(.t 30)]),.e 32 (.ap 74 4 40 (.t 29) (.t 31)),.v 6 32]) (.seq (.reg [.q 33 (.fa 0 (.t 7)),.l 34 (.ld1 (.t 33)),.q 35 (.bin .eql true (.t 34) (.i 0))]) (.cond (.t 35) (.seq (.reg [.v 36 6,.v 2 36,.q 3 (.mv (.i 0)),.q 4 (.mv (.i 0))]) .ret) .skip)))))))))))
def UY:List RV:=[.mv (.t 2),.mv (.t 3),.mv (.t 4)]
theorem aBN:aY Tryz.prog true ⟨fun r k=>if r=5/\k=1 then .own [0] else .own [],fun _=>false⟩ Tryz.f22=some (WY,UY):=by kernel_rfl
def SU:PC:=.seq (.reg [.q 2 (.mv (.k (.pointer none))),.q 3 (.mv (.i 0)),.q 4 (.mv (.i 0))]) (.seq (.reg [.v 9 0,.a 10 (.cl 22 [(.t 9)] []),.v 8 10,.q 11 (.ex (.t 8) 0),.q 12 (.ex (.t 8) 1),.q 13 (.ex (.t 8) 2),.v 5 11,.v 6 12,.v 7 13]) (.seq (.seq (.reg [.v 14 6,.q 15 (.bin .neq true (.t 14) (.i 0))]) (.cond (.t 15) (.seq (.reg [.v 16 6,.v 17 7,.q 2 (.mv (.k (.pointer none))),.v 3 16,.v 4 17]) .ret) .skip)) (.seq (.reg [.v 18 5,.q 19 (.bd [(.slice none 0 0),(.int .i64 0)] [(0,1,(.t 18))]),.e 20 (.bx 123 (.t 19)),.v 2 20,.q 3 (.mv (.i 0)),.q 4 (.mv (.i 0))]) .ret)))
def T8:List RV:=[.mv (.t 2),.mv (.t 3),.mv (.t 4)]
theorem aEH:aY Tryz.prog true ⟨fun _ _=>.own [],fun _=>false⟩ Tryz.f33=some (SU,T8):=by kernel_rfl
def TQ:PC:=.seq (.reg [.e 2 (.al (.agg #[(.int .i64 0),(.string (mk [])),(.int .i64 0),(.int .i64 0)]) 74)]) (.seq (.seq (.reg [.v 3 0,.q 4 (.eqP false (.t 3) (.k (.pointer none))),.v 5 4,⟨some 6,(some (5,false)),.q (.mv (.t 0))⟩,⟨some 7,(some (5,false)),.q (.nc (.t 6))⟩,⟨some 8,(some (5,false)),.q (.fa 0 (.t 7))⟩,⟨some 9,(some (5,false)),.l (.ld1 (.t 8))⟩,⟨some 10,(some (5,false)),.q (.lnL (.t 9))⟩,⟨some 11,(some (5,false)),.q (.bin .eql true (.t 10) (.i 0))⟩,.a 12 (.pick (.t 5) (.k (.bool true)) (.t 11))]) (.cond (.t 12) (.seq (.reg [.q 13 (.bd [(.int .i64 0),(.string (mk [])),(.int .i64 0),(.int .i64 0)] []),.s (.st 4 (.t 2) (.t 13))]) .ret) .skip)) (.seq (.reg [.v 14 0,.q 15 (.nc (.t 14)),.q 16 (.fa 0 (.t 15)),.l 17 (.ld1 (.t 16)),.v 18 0,.q 19 (.nc (.t 18)),.q 20 (.fa 1 (.t 19)),.l 21 (.ld1 (.t 20)),.l 22 (.ia 4 (.t 17) (.t 21)),.l 23 (.ldn 4 (.t 22)),.s (.st 4 (.t 2) (.t 23))]) .ret))
def TH:List RV:=[.ld (.ldn 4 (.t 2))]
theorem aB9:aY Tryz.prog true ⟨fun _ _=>.own [],fun _=>false⟩ Tryz.f38=some (TQ,TH):=by kernel_rfl
def U5:PC:=.seq (.reg [.e 2 (.al (.agg #[(.int .i64 0),(.string (mk [])),(.int .i64 0),(.int .i64 0)]) 74)]) (.seq (.reg [.v 3 0,.a 4 (.cl 100 [(.t 3)] [0])]) (.seq (.seq (.reg [.v 5 0,.a 6 (.cl 101 [(.t 5)] [0])]) (.block 0 (.seq (.reg [.q 8 (.bin .eql true (.t 6) (.i (-1))),.v 7 8]) (.cond (.t 7) (.seq (.reg [.v 9 0,.q 10 (.nc (.t 9)),.q 11 (.fa 1 (.t 10)),.l 12 (.ld1 (.t 11)),.q 13 (.bd [(.int .i64 0),(.string (mk [])),(.int .i64 0),(.int .i64 0)] [(3,1,(.t 12))]),.s (.st 4 (.t 2) (.t 13))]) .ret) (.seq (.reg [.q 15 (.bin .eql true (.t 6) (.i 3)),.v 14 15]) (.cond (.t 14) (.seq (.reg [.v 16 0,.a 17 (.cl 102 [(.t 16)] [0]),.s (.st 4 (.t 2) (.t 17))]) .ret) (.seq (.seq (.reg [.q 19 (.bin .eql true (.t 6) (.i 4)),.v 18 19]) (.cond (.t 18) .skip (.reg [.q 20 (.bin .eql true (.t 6) (.i 5)),.v 18 20]))) (.cond (.t 18) (.seq (.reg [.v 21 0,.a 22 (.cl 103 [(.t 21)] [0]),.s (.st 4 (.t 2) (.t 22))]) .ret) (.seq (.reg [.q 24 (.bin .eql true (.t 6) (.i 7)),.v 23 24]) (.cond (.t 23) (.seq (.reg [.v 25 0,.a 26 (.cl 104 [(.t 25)] [0]),.s (.st 4 (.t 2) (.t 26))]) .ret) (.seq (.reg [.q 28 (.bin .eql true (.t 6) (.i 8)),.v 27 28]) (.cond (.t 27) (.seq (.reg [.v 29 0,.q 30 (.nc (.t 29)),.q 31 (.fa 1 (.t 30)),.l 32 (.ld1 (.t 31)),.q 33 (.bin .add true (.t 32) (.i 1)),.q 34 (.nc (.t 29)),.q 35 (.fa 1 (.t 34)),.s (.st 1 (.t 35) (.t 33))]) (.seq (.reg [.v 36 0,.q 37 (.nc (.t 36)),.q 38 (.fa 0 (.t 37)),.l 39 (.ld1 (.t 38)),.v 40 0,.q 41 (.nc (.t 40)),.q 42 (.fa 1 (.t 41)),.l 43 (.ld1 (.t 42)),.q 44 (.bin .sub true (.t 43) (.i 1)),.v 45 0,.q 46 (.nc (.t 45)),.q 47 (.fa 1 (.t 46)),.l 48 (.ld1 (.t 47)),.q 49 (.ss (.t 39) (some (.t 44)) (some (.t 48))),.v 50 0,.q 51 (.nc (.t 50)),.q 52 (.fa 1 (.t 51)),.l 53 (.ld1 (.t 52)),.q 54 (.bin .sub true (.t 53) (.i 1)),.q 55 (.bd [(.int .i64 0),(.string (mk [])),(.int .i64 0),(.int .i64 0)] [(0,1,(.i 4)),(1,1,(.t 49)),(3,1,(.t 54))]),.s (.st 4 (.t 2) (.t 55))]) .ret)) .skip)))))))))))) (.seq (.reg [.v 56 0,.v 57 0,.q 58 (.nc (.t 57)),.q 59 (.fa 1 (.t 58)),.l 60 (.ld1 (.t 59)),.a 61 (.cl 105 [(.t 56),(.i 2),(.t 60)] [0])]) (.seq (.reg [.q 62 (.bd [(.int .i64 0),(.string (mk [])),(.int .i64 0),(.int .i64 0)] []),.s (.st 4 (.t 2) (.t 62))]) .ret))))
def UP:List RV:=[.ld (.ldn 4 (.t 2))]
theorem aEE:aY Tryz.prog true ⟨fun r k=>if r=1/\k=1 then .own [0] else if r=2/\k=1 then .own [0] else if r=6/\k=1 then .own [0] else if r=9/\k=1 then .own [0] else if r=11/\k=1 then .own [0] else if r=15/\k=5 then .own [0] else .own [],fun _=>false⟩ Tryz.f58=some (U5,UP):=by kernel_rfl
def V6:PC:=.seq (.reg [.q 2 (.mv (.i 0))]) (.seq (.reg [.v 3 0,.q 4 (.nc (.t 3)),.q 5 (.fa 1 (.t 4)),.l 6 (.ld1 (.t 5)),.q 7 (.lnL (.t 6)),.v 2 7]) .ret)
def VX:List RV:=[.mv (.t 2)]
theorem aCN:aY Tryz.prog true ⟨fun _ _=>.own [],fun _=>false⟩ Tryz.f60=some (V6,VX):=by kernel_rfl
def W4:PC:=.seq (.reg [.q 4 (.mv (.k .nilIface))]) (.seq (.reg [.v 5 0,.a 6 (.cl 109 [(.t 5)] [0,1])]) (.seq (.reg [.v 7 0,.v 8 0,.q 9 (.nc (.t 8)),.q 10 (.fa 1 (.t 9)),.l 11 (.ld1 (.t 10)),.v 12 1,.e 13 (.bsl 5 1 [(.t 12)]),.e 14 (.ap 5 1 1 (.t 11) (.t 13)),.q 15 (.nc (.t 7)),.q 16 (.fa 1 (.t 15)),.s (.st 1 (.t 16) (.t 14))]) (.seq (.reg [.q 4 (.mv (.k .nilIface))]) .ret)))
def ST:List RV:=[.mv (.t 4)]
theorem aDY:aY Tryz.prog true ⟨fun r k=>if r=1/\k=1 then .own [0,1] else .own [],fun _=>false⟩ Tryz.f61=some (W4,ST):=by kernel_rfl
def VK:PC:=.seq (.reg [.q 2 (.mv (.k (.string (mk []))))]) (.seq (.reg [.v 3 0,.q 4 (.nc (.t 3)),.q 5 (.fa 1 (.t 4)),.l 6 (.ld1 (.t 5)),.q 7 (.usd (.t 6)),.v 8 0,.q 9 (.nc (.t 8)),.q 10 (.fa 1 (.t 9)),.l 11 (.ld1 (.t 10)),.q 12 (.lnL (.t 11)),.e 13 (.us 5 (.t 7) (.t 12)),.v 2 13]) .ret)
def WD:List RV:=[.mv (.t 2)]
theorem aDE:aY Tryz.prog true ⟨fun _ _=>.own [],fun _=>false⟩ Tryz.f63=some (VK,WD):=by kernel_rfl
def VR:PC:=.seq (.reg [.q 4 (.mv (.k (.bool false)))]) (.seq (.reg [.v 5 0,.v 6 1,.a 7 (.cl 116 [(.t 5),(.i 1),(.t 6)] [0]),.v 4 7]) .ret)
def U2:List RV:=[.mv (.t 4)]
theorem aCO:aY Tryz.prog true ⟨fun r k=>if r=1/\k=2 then .own [0] else .own [],fun _=>false⟩ Tryz.f80=some (VR,U2):=by kernel_rfl
def W6:PC:=.seq (.reg [.e 2 (.al (.agg #[(.int .i64 0),(.string (mk [])),(.int .i64 0),(.int .i64 0)]) 74)]) (.seq (.reg [.v 4 0,.a 5 (.cl 38 [(.t 4)] [0]),.e 3 (.al (.agg #[(.int .i64 0),(.string (mk [])),(.int .i64 0),(.int .i64 0)]) 74),.s (.st 4 (.t 3) (.t 5))]) (.seq (.seq (.reg [.v 6 0,.q 7 (.eqP true (.t 6) (.k (.pointer none))),.v 8 7,⟨some 9,(some (8,true)),.q (.mv (.t 0))⟩,⟨some 10,(some (8,true)),.q (.nc (.t 9))⟩,⟨some 11,(some (8,true)),.q (.fa 1 (.t 10))⟩,⟨some 12,(some (8,true)),.l (.ld1 (.t 11))⟩,⟨some 13,(some (8,true)),.q (.mv (.t 0))⟩,⟨some 14,(some (8,true)),.q (.nc (.t 13))⟩,⟨some 15,(some (8,true)),.q (.fa 0 (.t 14))⟩,⟨some 16,(some (8,true)),.l (.ld1 (.t 15))⟩,⟨some 17,(some (8,true)),.q (.lnL (.t 16))⟩,⟨some 18,(some (8,true)),.q (.bin .sub true (.t 17) (.i 1))⟩,⟨some 19,(some (8,true)),.q (.bin .lss true (.t 12) (.t 18))⟩,.a 20 (.pick (.t 8) (.t 19) (.k (.bool false)))]) (.cond (.t 20) (.reg [.v 21 0,.q 22 (.nc (.t 21)),.q 23 (.fa 1 (.t 22)),.l 24 (.ld1 (.t 23)),.q 25 (.bin .add true (.t 24) (.i 1)),.q 26 (.nc (.t 21)),.q 27 (.fa 1 (.t 26)),.s (.st 1 (.t 27) (.t 25))]) .skip)) (.seq (.reg [.l 28 (.ldn 4 (.t 3)),.s (.st 4 (.t 2) (.t 28))]) .ret)))
def WK:List RV:=[.ld (.ldn 4 (.t 2))]
theorem aB8:aY Tryz.prog true ⟨fun r k=>if r=1/\k=1 then .own [0] else .own [],fun _=>false⟩ Tryz.f81=some (W6,WK):=by kernel_rfl
def X7:PC:=.seq (.reg [.q 4 (.mv (.k (.bool false)))]) (.seq (.reg [.v 5 0,.v 6 1,.a 7 (.cl 116 [(.t 5),(.i 4),(.t 6)] [0]),.v 4 7]) .ret)
def VL:List RV:=[.mv (.t 4)]
theorem aBJ:aY Tryz.prog true ⟨fun r k=>if r=1/\k=2 then .own [0] else .own [],fun _=>false⟩ Tryz.f82=some (X7,VL):=by kernel_rfl
def S2:PC:=.seq (.reg [.q 2 (.mv (.k (.bool false)))]) (.seq (.seq (.reg [.v 5 0,.q 6 (.bin .eql true (.t 5) (.k (.string (mk [])))),.v 7 6,⟨some 8,(some (7,false)),.q (.mv (.t 0))⟩,⟨some 9,(some (7,false)),.q (.lnS (.t 8))⟩,⟨some 10,(some (7,false)),.q (.bin .gtr true (.t 9) (.i 16))⟩,.a 11 (.pick (.t 7) (.k (.bool true)) (.t 10)),.v 12 11,⟨some 13,(some (12,false)),.q (.mv (.t 0))⟩,⟨some 14,(some (12,false)),.ix (.t 13) (.i 0)⟩,⟨some 15,(some (12,false)),.cq 108 [(.t 14)]⟩,⟨some 16,(some (12,false)),.q (.bin .neq true (.t 15) (.i 3))⟩,.a 17 (.pick (.t 12) (.k (.bool true)) (.t 16))]) (.cond (.t 17) (.seq (.reg [.q 2 (.mv (.k (.bool false)))]) .ret) .skip)) (.seq (.seq (.reg [.v 18 0,.q 19 (.lnS (.t 18)),.q 20 (.mv (.i 0))]) (.block 0 (.loop (.seq (.reg [.q 21 (.bin .lss true (.t 20) (.t 19))]) (.seq (.cond (.t 21) .skip (.exit 0)) (.seq (.block 1 (.seq (.reg [.v 22 20,.v 3 22]) (.seq (.reg [.v 23 0,.v 24 3,.a 25 (.ix (.t 23) (.t 24)),.a 26 (.cq 108 [(.t 25)]),.v 4 26]) (.seq (.reg [.v 27 4,.q 28 (.bin .neq true (.t 27) (.i 3)),.v 29 28,⟨some 30,(some (29,true)),.q (.mv (.t 4))⟩,⟨some 31,(some (29,true)),.q (.bin .neq true (.t 30) (.i 4))⟩,.a 32 (.pick (.t 29) (.t 31) (.k (.bool false))),.v 33 32,⟨some 34,(some (33,true)),.q (.mv (.t 4))⟩,⟨some 35,(some (33,true)),.q (.bin .neq true (.t 34) (.i 6))⟩,.a 36 (.pick (.t 33) (.t 35) (.k (.bool false)))]) (.cond (.t 36) (.seq (.reg [.q 2 (.mv (.k (.bool false)))]) .ret) .skip))))) (.reg [.q 37 (.bin .add true (.t 20) (.i 1)),.v 20 37]))))))) (.seq (.reg [.q 2 (.mv (.k (.bool true)))]) .ret)))
def WN:List RV:=[.mv (.t 2)]
theorem aBX:aY Tryz.prog true ⟨fun r k=>if r=1/\k=10 then .q else if r=6/\k=3 then .q else .own [],fun _=>false⟩ Tryz.f95=some (S2,WN):=by kernel_rfl
def P7:PC:=.block 0 (.loop (.seq (.seq (.reg [.v 3 0,.q 4 (.nc (.t 3)),.q 5 (.fa 1 (.t 4)),.l 6 (.ld1 (.t 5)),.v 7 0,.q 8 (.nc (.t 7)),.q 9 (.fa 0 (.t 8)),.l 10 (.ld1 (.t 9)),.q 11 (.lnS (.t 10)),.q 12 (.bin .lss true (.t 6) (.t 11))]) (.cond (.t 12) .skip (.exit 0))) (.block 1 (.seq (.reg [.v 13 0,.a 14 (.cl 101 [(.t 13)] [0])]) (.block 2 (.seq (.reg [.q 16 (.bin .eql true (.t 14) (.i 1)),.v 15 16]) (.cond (.t 15) (.reg [.v 17 0,.q 18 (.nc (.t 17)),.q 19 (.fa 1 (.t 18)),.l 20 (.ld1 (.t 19)),.q 21 (.bin .add true (.t 20) (.i 1)),.q 22 (.nc (.t 17)),.q 23 (.fa 1 (.t 22)),.s (.st 1 (.t 23) (.t 21))]) (.seq (.reg [.q 25 (.bin .eql true (.t 14) (.i 2)),.v 24 25]) (.cond (.t 24) (.seq (.reg [.v 26 0,.q 27 (.nc (.t 26)),.q 28 (.fa 0 (.t 27)),.l 29 (.ld1 (.t 28)),.v 30 0,.q 31 (.nc (.t 30)),.q 32 (.fa 1 (.t 31)),.l 33 (.ld1 (.t 32)),.q 34 (.ss (.t 29) (some (.t 33)) none),.a 35 (.cq 119 [(.t 34),(.k (.int .u8 10))]),.v 2 35]) (.seq (.reg [.v 36 2,.q 37 (.bin .geq true (.t 36) (.i 0))]) (.cond (.t 37) (.reg [.v 38 0,.q 39 (.nc (.t 38)),.q 40 (.fa 1 (.t 39)),.l 41 (.ld1 (.t 40)),.v 42 2,.q 43 (.bin .add true (.t 41) (.t 42)),.q 44 (.nc (.t 38)),.q 45 (.fa 1 (.t 44)),.s (.st 1 (.t 45) (.t 43))]) (.reg [.v 46 0,.v 47 0,.q 48 (.nc (.t 47)),.q 49 (.fa 0 (.t 48)),.l 50 (.ld1 (.t 49)),.q 51 (.lnS (.t 50)),.q 52 (.nc (.t 46)),.q 53 (.fa 1 (.t 52)),.s (.st 1 (.t 53) (.t 51))])))) .ret)))))))))
def OG:List RV:=[]
theorem YW:aY Tryz.prog true ⟨fun r k=>if r=1/\k=1 then .own [0] else if r=5/\k=9 then .q else .own [],fun _=>false⟩ Tryz.f100=some (P7,OG):=by kernel_rfl
def OX:PC:=.seq (.reg [.q 2 (.mv (.i 0))]) (.seq (.seq (.reg [.v 3 0,.q 4 (.nc (.t 3)),.q 5 (.fa 1 (.t 4)),.l 6 (.ld1 (.t 5)),.v 7 0,.q 8 (.nc (.t 7)),.q 9 (.fa 0 (.t 8)),.l 10 (.ld1 (.t 9)),.q 11 (.lnS (.t 10)),.q 12 (.bin .geq true (.t 6) (.t 11))]) (.cond (.t 12) (.seq (.reg [.q 2 (.mv (.i (-1)))]) .ret) .skip)) (.seq (.reg [.v 13 0,.q 14 (.nc (.t 13)),.q 15 (.fa 0 (.t 14)),.l 16 (.ld1 (.t 15)),.v 17 0,.q 18 (.nc (.t 17)),.q 19 (.fa 1 (.t 18)),.l 20 (.ld1 (.t 19)),.a 21 (.ix (.t 16) (.t 20)),.a 22 (.cq 108 [(.t 21)]),.v 2 22]) .ret))
def N1:List RV:=[.mv (.t 2)]
theorem YS:aY Tryz.prog true ⟨fun r k=>if r=3/\k=9 then .q else .own [],fun _=>false⟩ Tryz.f101=some (OX,N1):=by kernel_rfl
def ON:PC:=.seq (.reg [.e 2 (.al (.agg #[(.int .i64 0),(.string (mk [])),(.int .i64 0),(.int .i64 0)]) 74)]) (.seq (.reg [.v 5 0,.q 6 (.nc (.t 5)),.q 7 (.fa 1 (.t 6)),.l 8 (.ld1 (.t 7)),.v 3 8]) (.seq (.seq (.reg [.v 9 0,.a 10 (.cl 101 [(.t 9)] [0]),.v 4 10]) (.block 0 (.loop (.seq (.seq (.reg [.v 11 4,.q 12 (.bin .eql true (.t 11) (.i 3)),.v 13 12,⟨some 14,(some (13,false)),.q (.mv (.t 4))⟩,⟨some 15,(some (13,false)),.q (.bin .eql true (.t 14) (.i 4))⟩,.a 16 (.pick (.t 13) (.k (.bool true)) (.t 15)),.v 17 16,⟨some 18,(some (17,false)),.q (.mv (.t 4))⟩,⟨some 19,(some (17,false)),.q (.bin .eql true (.t 18) (.i 6))⟩,.a 20 (.pick (.t 17) (.k (.bool true)) (.t 19))]) (.cond (.t 20) .skip (.exit 0))) (.seq (.block 1 (.reg [.v 23 0,.q 24 (.nc (.t 23)),.q 25 (.fa 1 (.t 24)),.l 26 (.ld1 (.t 25)),.q 27 (.bin .add true (.t 26) (.i 1)),.q 28 (.nc (.t 23)),.q 29 (.fa 1 (.t 28)),.s (.st 1 (.t 29) (.t 27))])) (.reg [.v 21 0,.a 22 (.cl 101 [(.t 21)] [0]),.v 4 22])))))) (.seq (.seq (.reg [.v 30 0,.q 31 (.nc (.t 30)),.q 32 (.fa 1 (.t 31)),.l 33 (.ld1 (.t 32)),.v 34 3,.q 35 (.bin .sub true (.t 33) (.t 34)),.q 36 (.bin .gtr true (.t 35) (.i 16))]) (.cond (.t 36) (.reg [.v 37 0,.v 38 3,.a 39 (.cl 105 [(.t 37),(.i 3),(.t 38)] [0])]) .skip)) (.seq (.seq (.reg [.v 40 0,.a 41 (.cl 101 [(.t 40)] [0]),.q 42 (.bin .eql true (.t 41) (.i 5))]) (.cond (.t 42) (.reg [.v 43 0,.v 44 0,.q 45 (.nc (.t 44)),.q 46 (.fa 1 (.t 45)),.l 47 (.ld1 (.t 46)),.a 48 (.cl 105 [(.t 43),(.i 2),(.t 47)] [0])]) .skip)) (.seq (.reg [.v 49 0,.q 50 (.nc (.t 49)),.q 51 (.fa 0 (.t 50)),.l 52 (.ld1 (.t 51)),.v 53 3,.v 54 0,.q 55 (.nc (.t 54)),.q 56 (.fa 1 (.t 55)),.l 57 (.ld1 (.t 56)),.q 58 (.ss (.t 52) (some (.t 53)) (some (.t 57))),.v 59 3,.q 60 (.bd [(.int .i64 0),(.string (mk [])),(.int .i64 0),(.int .i64 0)] [(0,1,(.i 1)),(1,1,(.t 58)),(3,1,(.t 59))]),.s (.st 4 (.t 2) (.t 60))]) .ret)))))
def PH:List RV:=[.ld (.ldn 4 (.t 2))]
theorem Z4:aY Tryz.prog true ⟨fun r k=>if r=2/\k=1 then .own [0] else if r=4/\k=1 then .own [0] else if r=7/\k=2 then .own [0] else if r=8/\k=1 then .own [0] else if r=9/\k=5 then .own [0] else .own [],fun _=>false⟩ Tryz.f102=some (ON,PH):=by kernel_rfl
def pc103_15:PC:=.seq (.seq (.gh (.reg [.v 79 0,.a 80 (.cl 101 [(.t 79)] [0]),.v 9 80])) (.seq (.reg [.v 81 9,.q 82 (.bin .eql true (.t 81) (.i 3)),.v 83 82,⟨some 84,(some (83,false)),.q (.mv (.t 9))⟩,⟨some 85,(some (83,false)),.q (.bin .eql true (.t 84) (.i 6))⟩,.a 86 (.pick (.t 83) (.k (.bool true)) (.t 85)),.v 87 86,⟨some 88,(some (87,false)),.q (.mv (.t 9))⟩,⟨some 89,(some (87,false)),.q (.bin .eql true (.t 88) (.i 5))⟩,.a 90 (.pick (.t 87) (.k (.bool true)) (.t 89))]) (.cond (.t 90) (.reg [.v 91 0,.v 92 0,.q 93 (.nc (.t 92)),.q 94 (.fa 1 (.t 93)),.l 95 (.ld1 (.t 94)),.a 96 (.cl 105 [(.t 91),(.i 2),(.t 95)] [0])]) .skip))) (.seq (.reg [.v 97 7,.v 98 3,.q 99 (.bd [(.int .i64 0),(.string (mk [])),(.int .i64 0),(.int .i64 0)] [(0,1,(.i 2)),(2,1,(.t 97)),(3,1,(.t 98))]),.s (.st 4 (.t 2) (.t 99))]) .ret)
@[go_sem ↓] theorem ZF:cW pc103_15:=cZ _
def pc103_5:PC:=.seq (.gh (.reg [.v 25 0,.q 26 (.nc (.t 25)),.q 27 (.fa 1 (.t 26)),.l 28 (.ld1 (.t 27)),.v 5 28])) (.seq (.block 0 (.loop (.seq (.seq (.reg [.v 29 0,.a 30 (.cl 101 [(.t 29)] [0]),.q 31 (.bin .eql true (.t 30) (.i 4))]) (.cond (.t 31) .skip (.exit 0))) (.block 1 (.reg [.v 32 0,.q 33 (.nc (.t 32)),.q 34 (.fa 1 (.t 33)),.l 35 (.ld1 (.t 34)),.q 36 (.bin .add true (.t 35) (.i 1)),.q 37 (.nc (.t 32)),.q 38 (.fa 1 (.t 37)),.s (.st 1 (.t 38) (.t 36))]))))) (.seq (.reg [.v 39 0,.q 40 (.nc (.t 39)),.q 41 (.fa 0 (.t 40)),.l 42 (.ld1 (.t 41)),.v 43 5,.v 44 0,.q 45 (.nc (.t 44)),.q 46 (.fa 1 (.t 45)),.l 47 (.ld1 (.t 46)),.q 48 (.ss (.t 42) (some (.t 43)) (some (.t 47))),.v 6 48]) (.seq (.seq (.reg [.v 49 6,.q 50 (.bin .eql true (.t 49) (.k (.string (mk [])))),.v 51 50,⟨some 52,(some (51,false)),.q (.mv (.t 6))⟩,⟨some 53,(some (51,false)),.ix (.t 52) (.i 0)⟩,⟨some 54,(some (51,false)),.q (.bin .eql true (.t 53) (.k (.int .u8 48)))⟩,⟨some 55,(some (51,false)),.q (.mv (.t 54))⟩,⟨some 56,(some (55,true)),.q (.mv (.t 6))⟩,⟨some 57,(some (55,true)),.q (.lnS (.t 56))⟩,⟨some 58,(some (55,true)),.q (.bin .gtr true (.t 57) (.i 1))⟩,⟨some 59,(some (55,true)),.q (.mv (.t 58))⟩,⟨some 60,(some (59,false)),.q (.mv (.t 4))⟩,⟨some 61,(some (55,true)),.pick (.t 59) (.k (.bool true)) (.t 60)⟩,⟨some 62,(some (51,false)),.pick (.t 55) (.t 61) (.k (.bool false))⟩,.a 63 (.pick (.t 51) (.k (.bool true)) (.t 62))]) (.cond (.t 63) (.seq (.reg [.v 64 0,.v 65 3,.a 66 (.cl 105 [(.t 64),(.i 2),(.t 65)] [0])]) (.seq (.reg [.q 67 (.bd [(.int .i64 0),(.string (mk [])),(.int .i64 0),(.int .i64 0)] []),.s (.st 4 (.t 2) (.t 67))]) .ret)) .skip)) (.seq (.reg [.v 69 4,.v 70 6,.a 71 (.cl 120 [(.t 69),(.t 70)] []),.v 68 71,.q 72 (.ex (.t 68) 0),.q 73 (.ex (.t 68) 1),.v 7 72,.v 8 73]) (.seq (.seq (.reg [.v 74 8,.q 75 (.not (.t 74))]) (.cond (.t 75) (.reg [.v 76 0,.v 77 3,.a 78 (.cl 105 [(.t 76),(.i 4),(.t 77)] [0])]) .skip)) (pc103_15))))))
@[go_sem ↓] theorem aA4:cW pc103_5:=cZ _
def O9:PC:=.seq (.reg [.e 2 (.al (.agg #[(.int .i64 0),(.string (mk [])),(.int .i64 0),(.int .i64 0)]) 74)]) (.seq (.reg [.v 10 0,.q 11 (.nc (.t 10)),.q 12 (.fa 1 (.t 11)),.l 13 (.ld1 (.t 12)),.v 3 13]) (.seq (.reg [.v 14 0,.a 15 (.cl 101 [(.t 14)] [0]),.q 16 (.bin .eql true (.t 15) (.i 5)),.v 4 16]) (.seq (.seq (.reg [.v 17 4]) (.cond (.t 17) (.reg [.v 18 0,.q 19 (.nc (.t 18)),.q 20 (.fa 1 (.t 19)),.l 21 (.ld1 (.t 20)),.q 22 (.bin .add true (.t 21) (.i 1)),.q 23 (.nc (.t 18)),.q 24 (.fa 1 (.t 23)),.s (.st 1 (.t 24) (.t 22))]) .skip)) (pc103_5))))
def tC:List RV:=[.ld (.ldn 4 (.t 2))]
theorem YI:aY Tryz.prog true ⟨fun r k=>if r=2/\k=1 then .own [0] else if r=6/\k=1 then .own [0] else if r=10/\k=2 then .own [0] else if r=14/\k=2 then .own [0] else if r=15/\k=1 then .own [0] else if r=17/\k=5 then .own [0] else .own [],fun r=>[5,15].contains r⟩ Tryz.f103=some (O9,tC):=by kernel_rfl
def PL:PC:=.seq (.reg [.e 2 (.al (.agg #[(.int .i64 0),(.string (mk [])),(.int .i64 0),(.int .i64 0)]) 74)]) (.seq (.reg [.v 6 0,.q 7 (.nc (.t 6)),.q 8 (.fa 1 (.t 7)),.l 9 (.ld1 (.t 8)),.v 3 9]) (.seq (.reg [.e 4 (.al (.agg #[(.pointer none),(.slice none 0 0)]) 95)]) (.seq (.seq (.reg [.v 10 0,.q 11 (.nc (.t 10)),.q 12 (.fa 1 (.t 11)),.l 13 (.ld1 (.t 12)),.q 14 (.bin .add true (.t 13) (.i 1)),.q 15 (.nc (.t 10)),.q 16 (.fa 1 (.t 15)),.s (.st 1 (.t 16) (.t 14))]) (.block 0 (.loop (.seq (.block 1 (.seq (.seq (.reg [.v 24 0,.q 25 (.nc (.t 24)),.q 26 (.fa 1 (.t 25)),.l 27 (.ld1 (.t 26)),.v 28 0,.q 29 (.nc (.t 28)),.q 30 (.fa 0 (.t 29)),.l 31 (.ld1 (.t 30)),.q 32 (.lnS (.t 31)),.q 33 (.bin .geq true (.t 27) (.t 32)),.v 34 33,⟨some 35,(some (34,false)),.q (.mv (.t 0))⟩,⟨some 36,(some (34,false)),.q (.nc (.t 35))⟩,⟨some 37,(some (34,false)),.q (.fa 0 (.t 36))⟩,⟨some 38,(some (34,false)),.l (.ld1 (.t 37))⟩,⟨some 39,(some (34,false)),.q (.mv (.t 0))⟩,⟨some 40,(some (34,false)),.q (.nc (.t 39))⟩,⟨some 41,(some (34,false)),.q (.fa 1 (.t 40))⟩,⟨some 42,(some (34,false)),.l (.ld1 (.t 41))⟩,⟨some 43,(some (34,false)),.ix (.t 38) (.t 42)⟩,⟨some 44,(some (34,false)),.q (.bin .lss true (.t 43) (.k (.int .u8 32)))⟩,.a 45 (.pick (.t 34) (.k (.bool true)) (.t 44)),.v 46 45,⟨some 47,(some (46,false)),.q (.mv (.t 0))⟩,⟨some 48,(some (46,false)),.q (.nc (.t 47))⟩,⟨some 49,(some (46,false)),.q (.fa 0 (.t 48))⟩,⟨some 50,(some (46,false)),.l (.ld1 (.t 49))⟩,⟨some 51,(some (46,false)),.q (.mv (.t 0))⟩,⟨some 52,(some (46,false)),.q (.nc (.t 51))⟩,⟨some 53,(some (46,false)),.q (.fa 1 (.t 52))⟩,⟨some 54,(some (46,false)),.l (.ld1 (.t 53))⟩,⟨some 55,(some (46,false)),.ix (.t 50) (.t 54)⟩,⟨some 56,(some (46,false)),.q (.bin .gtr true (.t 55) (.k (.int .u8 126)))⟩,.a 57 (.pick (.t 46) (.k (.bool true)) (.t 56))]) (.cond (.t 57) (.seq (.reg [.v 58 0,.v 59 0,.q 60 (.nc (.t 59)),.q 61 (.fa 1 (.t 60)),.l 62 (.ld1 (.t 61)),.a 63 (.cl 105 [(.t 58),(.i 2),(.t 62)] [0])]) (.seq (.reg [.q 64 (.bd [(.int .i64 0),(.string (mk [])),(.int .i64 0),(.int .i64 0)] []),.s (.st 4 (.t 2) (.t 64))]) .ret)) .skip)) (.seq (.reg [.v 65 0,.q 66 (.nc (.t 65)),.q 67 (.fa 0 (.t 66)),.l 68 (.ld1 (.t 67)),.v 69 0,.q 70 (.nc (.t 69)),.q 71 (.fa 1 (.t 70)),.l 72 (.ld1 (.t 71)),.a 73 (.ix (.t 68) (.t 72)),.v 5 73]) (.seq (.seq (.reg [.v 74 5,.q 75 (.bin .eql true (.t 74) (.k (.int .u8 34)))]) (.cond (.t 75) (.seq (.reg [.v 76 0,.q 77 (.nc (.t 76)),.q 78 (.fa 1 (.t 77)),.l 79 (.ld1 (.t 78)),.q 80 (.bin .add true (.t 79) (.i 1)),.q 81 (.nc (.t 76)),.q 82 (.fa 1 (.t 81)),.s (.st 1 (.t 82) (.t 80))]) (.exit 0)) .skip)) (.seq (.seq (.reg [.v 83 5,.q 84 (.bin .eql true (.t 83) (.k (.int .u8 92)))]) (.cond (.t 84) (.seq (.seq (.reg [.v 85 0,.q 86 (.nc (.t 85)),.q 87 (.fa 1 (.t 86)),.l 88 (.ld1 (.t 87)),.q 89 (.bin .add true (.t 88) (.i 1)),.v 90 0,.q 91 (.nc (.t 90)),.q 92 (.fa 0 (.t 91)),.l 93 (.ld1 (.t 92)),.q 94 (.lnS (.t 93)),.q 95 (.bin .geq true (.t 89) (.t 94)),.v 96 95,⟨some 97,(some (96,false)),.q (.mv (.t 0))⟩,⟨some 98,(some (96,false)),.q (.nc (.t 97))⟩,⟨some 99,(some (96,false)),.q (.fa 0 (.t 98))⟩,⟨some 100,(some (96,false)),.l (.ld1 (.t 99))⟩,⟨some 101,(some (96,false)),.q (.mv (.t 0))⟩,⟨some 102,(some (96,false)),.q (.nc (.t 101))⟩,⟨some 103,(some (96,false)),.q (.fa 1 (.t 102))⟩,⟨some 104,(some (96,false)),.l (.ld1 (.t 103))⟩,⟨some 105,(some (96,false)),.q (.bin .add true (.t 104) (.i 1))⟩,⟨some 106,(some (96,false)),.ix (.t 100) (.t 105)⟩,⟨some 107,(some (96,false)),.q (.bin .neq true (.t 106) (.k (.int .u8 34)))⟩,⟨some 108,(some (96,false)),.q (.mv (.t 107))⟩,⟨some 109,(some (108,true)),.q (.mv (.t 0))⟩,⟨some 110,(some (108,true)),.q (.nc (.t 109))⟩,⟨some 111,(some (108,true)),.q (.fa 0 (.t 110))⟩,⟨some 112,(some (108,true)),.l (.ld1 (.t 111))⟩,⟨some 113,(some (108,true)),.q (.mv (.t 0))⟩,⟨some 114,(some (108,true)),.q (.nc (.t 113))⟩,⟨some 115,(some (108,true)),.q (.fa 1 (.t 114))⟩,⟨some 116,(some (108,true)),.l (.ld1 (.t 115))⟩,⟨some 117,(some (108,true)),.q (.bin .add true (.t 116) (.i 1))⟩,⟨some 118,(some (108,true)),.ix (.t 112) (.t 117)⟩,⟨some 119,(some (108,true)),.q (.bin .neq true (.t 118) (.k (.int .u8 92)))⟩,⟨some 120,(some (96,false)),.pick (.t 108) (.t 119) (.k (.bool false))⟩,.a 121 (.pick (.t 96) (.k (.bool true)) (.t 120))]) (.cond (.t 121) (.seq (.reg [.v 122 0,.v 123 0,.q 124 (.nc (.t 123)),.q 125 (.fa 1 (.t 124)),.l 126 (.ld1 (.t 125)),.a 127 (.cl 105 [(.t 122),(.i 2),(.t 126)] [0])]) (.seq (.reg [.q 128 (.bd [(.int .i64 0),(.string (mk [])),(.int .i64 0),(.int .i64 0)] []),.s (.st 4 (.t 2) (.t 128))]) .ret)) .skip)) (.seq (.reg [.v 129 0,.q 130 (.nc (.t 129)),.q 131 (.fa 1 (.t 130)),.l 132 (.ld1 (.t 131)),.q 133 (.bin .add true (.t 132) (.i 1)),.q 134 (.nc (.t 129)),.q 135 (.fa 1 (.t 134)),.s (.st 1 (.t 135) (.t 133))]) (.reg [.v 136 0,.q 137 (.nc (.t 136)),.q 138 (.fa 0 (.t 137)),.l 139 (.ld1 (.t 138)),.v 140 0,.q 141 (.nc (.t 140)),.q 142 (.fa 1 (.t 141)),.l 143 (.ld1 (.t 142)),.a 144 (.ix (.t 139) (.t 143)),.v 5 144]))) .skip)) (.reg [.v 145 5,.a 146 (.cl 61 [(.t 4),(.t 145)] [2,3])])))))) (.reg [.v 17 0,.q 18 (.nc (.t 17)),.q 19 (.fa 1 (.t 18)),.l 20 (.ld1 (.t 19)),.q 21 (.bin .add true (.t 20) (.i 1)),.q 22 (.nc (.t 17)),.q 23 (.fa 1 (.t 22)),.s (.st 1 (.t 23) (.t 21))]))))) (.seq (.seq (.reg [.a 147 (.cl 60 [(.t 4)] [2,3]),.q 148 (.bin .gtr true (.t 147) (.i 200))]) (.cond (.t 148) (.reg [.v 149 0,.v 150 3,.a 151 (.cl 105 [(.t 149),(.i 3),(.t 150)] [0])]) .skip)) (.seq (.reg [.a 152 (.cl 63 [(.t 4)] [2,3]),.v 153 3,.q 154 (.bd [(.int .i64 0),(.string (mk [])),(.int .i64 0),(.int .i64 0)] [(0,1,(.i 3)),(1,1,(.t 152)),(3,1,(.t 153))]),.s (.st 4 (.t 2) (.t 154))]) .ret)))))
def OU:List RV:=[.ld (.ldn 4 (.t 2))]
theorem Y0:aY Tryz.prog true ⟨fun r k=>if r=6/\k=5 then .own [0] else if r=13/\k=5 then .own [0] else if r=17/\k=1 then .own [2,3] else if r=18/\k=0 then .own [2,3] else if r=19/\k=2 then .own [0] else if r=20/\k=0 then .own [2,3] else .own [],fun _=>false⟩ Tryz.f104=some (PL,OU):=by kernel_rfl
def PV:PC:=.seq (.reg [.v 6 0,.q 7 (.nc (.t 6)),.q 8 (.fa 2 (.t 7)),.l 9 (.ld1 (.t 8)),.q 10 (.bin .eql true (.t 9) (.i 0))]) (.cond (.t 10) (.reg [.v 11 0,.v 12 0,.v 13 1,.v 14 2,.q 15 (.nc (.t 11)),.q 16 (.fa 2 (.t 15)),.s (.st 1 (.t 16) (.t 13)),.q 17 (.nc (.t 12)),.q 18 (.fa 3 (.t 17)),.s (.st 1 (.t 18) (.t 14))]) .skip)
def NZ:List RV:=[]
theorem ZN:aY Tryz.prog true ⟨fun _ _=>.own [],fun _=>false⟩ Tryz.f105=some (PV,NZ):=by kernel_rfl
def OM:PC:=.seq (.reg [.q 2 (.mv (.i 0))]) (.seq (.seq (.reg [.v 4 0,.q 5 (.cvt .i32 (.t 4)),.v 3 5]) (.block 0 (.seq (.reg [.v 7 3,.q 8 (.bin .eql true (.t 7) (.k (.int .i32 32))),.v 9 8,⟨some 10,(some (9,false)),.q (.mv (.t 3))⟩,⟨some 11,(some (9,false)),.q (.bin .eql true (.t 10) (.k (.int .i32 9)))⟩,.a 12 (.pick (.t 9) (.k (.bool true)) (.t 11)),.v 13 12,⟨some 14,(some (13,false)),.q (.mv (.t 3))⟩,⟨some 15,(some (13,false)),.q (.bin .eql true (.t 14) (.k (.int .i32 10)))⟩,.a 16 (.pick (.t 13) (.k (.bool true)) (.t 15)),.v 6 16]) (.cond (.t 6) (.seq (.reg [.q 2 (.mv (.i 1))]) .ret) (.seq (.reg [.v 18 3,.q 19 (.bin .eql true (.t 18) (.k (.int .i32 35))),.v 17 19]) (.cond (.t 17) (.seq (.reg [.q 2 (.mv (.i 2))]) .ret) (.seq (.reg [.v 21 3,.q 22 (.bin .geq true (.t 21) (.k (.int .i32 97))),.v 23 22,⟨some 24,(some (23,true)),.q (.mv (.t 3))⟩,⟨some 25,(some (23,true)),.q (.bin .leq true (.t 24) (.k (.int .i32 122)))⟩,.a 26 (.pick (.t 23) (.t 25) (.k (.bool false))),.v 27 26,⟨some 28,(some (27,false)),.q (.mv (.t 3))⟩,⟨some 29,(some (27,false)),.q (.bin .geq true (.t 28) (.k (.int .i32 65)))⟩,⟨some 30,(some (27,false)),.q (.mv (.t 29))⟩,⟨some 31,(some (30,true)),.q (.mv (.t 3))⟩,⟨some 32,(some (30,true)),.q (.bin .leq true (.t 31) (.k (.int .i32 90)))⟩,⟨some 33,(some (27,false)),.pick (.t 30) (.t 32) (.k (.bool false))⟩,.a 34 (.pick (.t 27) (.k (.bool true)) (.t 33)),.v 20 34]) (.cond (.t 20) (.seq (.reg [.q 2 (.mv (.i 3))]) .ret) (.seq (.reg [.v 36 3,.q 37 (.bin .geq true (.t 36) (.k (.int .i32 48))),.v 38 37,⟨some 39,(some (38,true)),.q (.mv (.t 3))⟩,⟨some 40,(some (38,true)),.q (.bin .leq true (.t 39) (.k (.int .i32 57)))⟩,.a 41 (.pick (.t 38) (.t 40) (.k (.bool false))),.v 35 41]) (.cond (.t 35) (.seq (.reg [.q 2 (.mv (.i 4))]) .ret) (.seq (.reg [.v 43 3,.q 44 (.bin .eql true (.t 43) (.k (.int .i32 45))),.v 42 44]) (.cond (.t 42) (.seq (.reg [.q 2 (.mv (.i 5))]) .ret) (.seq (.reg [.v 46 3,.q 47 (.bin .eql true (.t 46) (.k (.int .i32 95))),.v 45 47]) (.cond (.t 45) (.seq (.reg [.q 2 (.mv (.i 6))]) .ret) (.seq (.reg [.v 49 3,.q 50 (.bin .eql true (.t 49) (.k (.int .i32 34))),.v 48 50]) (.cond (.t 48) (.seq (.reg [.q 2 (.mv (.i 7))]) .ret) (.seq (.reg [.v 52 0,.a 53 (.cq 119 [(.k (.string (mk [123,125,40,41,91,93,58,59,44,61,46,63,33,38,124,64]))),(.t 52)]),.q 54 (.bin .geq true (.t 53) (.i 0)),.v 51 54]) (.cond (.t 51) (.seq (.reg [.q 2 (.mv (.i 8))]) .ret) .skip)))))))))))))))))) (.seq (.reg [.q 2 (.mv (.i 0))]) .ret))
def OO:List RV:=[.mv (.t 2)]
theorem ZQ:aY Tryz.prog true ⟨fun r k=>if r=16/\k=1 then .q else .own [],fun _=>false⟩ Tryz.f108=some (OM,OO):=by kernel_rfl
def I4:PC:=.seq (.reg [.v 2 0,.q 3 (.nc (.t 2)),.q 4 (.fa 0 (.t 3)),.l 5 (.ld1 (.t 4)),.q 6 (.eqP false (.t 5) (.k (.pointer none)))]) (.cond (.t 6) (.reg [.v 7 0,.v 8 0,.q 9 (.cu (.t 8)),.v 10 9,.q 11 (.c4u 95 2 (.t 10)),.q 12 (.nc (.t 7)),.q 13 (.fa 0 (.t 12)),.s (.st 1 (.t 13) (.t 11))]) (.seq (.reg [.v 14 0,.q 15 (.nc (.t 14)),.q 16 (.fa 0 (.t 15)),.l 17 (.ld1 (.t 16)),.v 18 0,.q 19 (.eqP true (.t 17) (.t 18))]) (.cond (.t 19) (.no) .skip)))
def JE:List RV:=[]
theorem Z2:aY Tryz.prog true ⟨fun _ _=>.own [],fun _=>false⟩ Tryz.f109=some (I4,JE):=by kernel_rfl
def OP:PC:=.seq (.reg [.q 6 (.mv (.k (.bool false)))]) (.seq (.seq (.reg [.v 8 0,.a 9 (.cl 38 [(.t 8)] [0]),.e 7 (.al (.agg #[(.int .i64 0),(.string (mk [])),(.int .i64 0),(.int .i64 0)]) 74),.s (.st 4 (.t 7) (.t 9))]) (.seq (.reg [.q 10 (.fa 0 (.t 7)),.l 11 (.ld1 (.t 10)),.v 12 1,.q 13 (.bin .neq true (.t 11) (.t 12)),.v 14 13,⟨some 15,(some (14,false)),.q (.fa 1 (.t 7))⟩,⟨some 16,(some (14,false)),.l (.ld1 (.t 15))⟩,⟨some 17,(some (14,false)),.q (.mv (.t 2))⟩,⟨some 18,(some (14,false)),.q (.bin .neq true (.t 16) (.t 17))⟩,.a 19 (.pick (.t 14) (.k (.bool true)) (.t 18))]) (.cond (.t 19) (.seq (.reg [.q 6 (.mv (.k (.bool false)))]) .ret) .skip))) (.seq (.reg [.v 20 0,.a 21 (.cl 81 [(.t 20)] [0])]) (.seq (.reg [.q 6 (.mv (.k (.bool true)))]) .ret)))
def O5:List RV:=[.mv (.t 6)]
theorem Y1:aY Tryz.prog true ⟨fun r k=>if r=1/\k=1 then .own [0] else if r=4/\k=1 then .own [0] else .own [],fun _=>false⟩ Tryz.f116=some (OP,O5):=by kernel_rfl
def pc120_4:PC:=.seq (.gh (.reg [.q 7 (.mv (.k (.int .u64 0)))])) (.seq (.seq (.reg [.v 11 1,.q 12 (.lnS (.t 11)),.q 13 (.mv (.i 0))]) (.block 0 (.loop (.seq (.reg [.q 14 (.bin .lss true (.t 13) (.t 12))]) (.seq (.cond (.t 14) .skip (.exit 0)) (.seq (.block 1 (.seq (.reg [.v 15 13,.v 8 15]) (.seq (.reg [.v 16 1,.v 17 8,.a 18 (.ix (.t 16) (.t 17)),.q 19 (.bin .sub true (.t 18) (.k (.int .u8 48))),.q 20 (.cvt .u64 (.t 19)),.v 9 20]) (.seq (.seq (.reg [.v 21 7,.v 22 6,.v 23 9,.q 24 (.bin .sub true (.t 22) (.t 23)),.q 25 (.bin .quo true (.t 24) (.k (.int .u64 10))),.q 26 (.bin .gtr true (.t 21) (.t 25))]) (.cond (.t 26) (.seq (.reg [.q 4 (.mv (.i 0)),.q 5 (.mv (.k (.bool false)))]) .ret) .skip)) (.reg [.v 27 7,.q 28 (.bin .mul true (.k (.int .u64 10)) (.t 27)),.v 29 9,.q 30 (.bin .add true (.t 28) (.t 29)),.v 7 30]))))) (.reg [.q 31 (.bin .add true (.t 13) (.i 1)),.v 13 31]))))))) (.seq (.seq (.reg [.v 32 0]) (.cond (.t 32) (.seq (.reg [.v 33 7,.q 34 (.neg false (.t 33)),.q 35 (.cvt .i64 (.t 34)),.v 4 35,.q 5 (.mv (.k (.bool true)))]) .ret) .skip)) (.seq (.reg [.v 36 7,.q 37 (.cvt .i64 (.t 36)),.v 4 37,.q 5 (.mv (.k (.bool true)))]) .ret)))
@[go_sem ↓] theorem aBC:cW pc120_4:=cZ _
def P5:PC:=.seq (.reg [.q 4 (.mv (.i 0)),.q 5 (.mv (.k (.bool false)))]) (.seq (.reg [.q 6 (.mv (.k (.int .u64 9223372036854775807)))]) (.seq (.seq (.reg [.v 10 0]) (.cond (.t 10) (.reg [.q 6 (.mv (.k (.int .u64 9223372036854775808)))]) .skip)) (pc120_4)))
def BM:List RV:=[.mv (.t 4),.mv (.t 5)]
theorem aAK:aY Tryz.prog true ⟨fun _ _=>.own [],fun r=>[4].contains r⟩ Tryz.f120=some (P5,BM):=by kernel_rfl
def OT:PC:=.seq (.reg [.q 4 (.mv (.k (.bool false)))]) (.seq (.reg [.v 5 0,.v 6 1,.a 7 (.cq 122 [(.t 5),(.t 6)]),.q 8 (.bin .geq true (.t 7) (.i 0)),.v 4 8]) .ret)
def N3:List RV:=[.mv (.t 4)]
theorem aAT:aY Tryz.prog true ⟨fun r k=>if r=1/\k=2 then .q else .own [],fun _=>false⟩ Tryz.f111=some (OT,N3):=by kernel_rfl
def OV:PC:=.seq (.reg [.q 4 (.mv (.i 0))]) (.seq (.seq (.reg [.v 6 0,.q 7 (.lnL (.t 6)),.q 8 (.mv (.i 0))]) (.block 0 (.loop (.seq (.reg [.q 9 (.bin .lss true (.t 8) (.t 7))]) (.seq (.cond (.t 9) .skip (.exit 0)) (.seq (.block 1 (.seq (.reg [.v 10 8,.v 5 10]) (.seq (.reg [.v 11 1,.v 12 0,.v 13 5,.l 14 (.ia 1 (.t 12) (.t 13)),.l 15 (.ld1 (.t 14)),.q 16 (.bin .eql true (.t 11) (.t 15))]) (.cond (.t 16) (.seq (.reg [.v 17 5,.v 4 17]) .ret) .skip)))) (.reg [.q 18 (.bin .add true (.t 8) (.i 1)),.v 8 18]))))))) (.seq (.reg [.q 4 (.mv (.i (-1)))]) .ret))
def NX:List RV:=[.mv (.t 4)]
theorem aAW:aY Tryz.prog true ⟨fun _ _=>.own [],fun _=>false⟩ Tryz.f122=some (OV,NX):=by kernel_rfl
def TO:PC:=.seq (.reg [.e 1 (.bx 25 (.t 0)),.q 2 (.mv (.i 0))]) (.seq (.seq (.reg [.q 13 (.fa 0 (.t 1)),.l 14 (.ld1 (.t 13)),.q 15 (.bin .lss true (.t 14) (.i 1)),.v 16 15,⟨some 17,(some (16,false)),.q (.fa 0 (.t 1))⟩,⟨some 18,(some (16,false)),.l (.ld1 (.t 17))⟩,⟨some 19,(some (16,false)),.q (.bin .gtr true (.t 18) (.i 999))⟩,.a 20 (.pick (.t 16) (.k (.bool true)) (.t 19))]) (.cond (.t 20) (.seq (.reg [.q 2 (.mv (.i 4))]) .ret) .skip)) (.seq (.seq (.reg [.l 21 (.ldn 3 (.t 1)),.a 22 (.cq 72 [(.t 21)])]) (.cond (.t 22) (.seq (.reg [.q 2 (.mv (.i 3))]) .ret) .skip)) (.seq (.seq (.reg [.q 23 (.fa 1 (.t 1)),.l 24 (.ld1 (.t 23)),.q 25 (.lnL (.t 24)),.q 26 (.mv (.i 0))]) (.block 0 (.loop (.seq (.reg [.q 27 (.bin .lss true (.t 26) (.t 25))]) (.seq (.cond (.t 27) .skip (.exit 0)) (.seq (.block 1 (.seq (.reg [.v 28 26,.l 29 (.ia 3 (.t 24) (.t 26)),.l 30 (.ldn 3 (.t 29)),.e 4 (.al (.agg #[(.string (mk [])),(.slice none 0 0),(.slice none 0 0)]) 62),.v 3 28,.s (.st 3 (.t 4) (.t 30))]) (.seq (.seq (.reg [.q 31 (.fa 0 (.t 4)),.l 32 (.ld1 (.t 31)),.a 33 (.cq 73 [(.t 32)]),.q 34 (.not (.t 33))]) (.cond (.t 34) (.seq (.reg [.q 2 (.mv (.i 5))]) .ret) .skip)) (.seq (.seq (.reg [.q 35 (.fa 1 (.t 1)),.l 36 (.ld1 (.t 35)),.v 37 3,.q 38 (.sf 3 (.t 36) none (some (.t 37))),.q 39 (.lnL (.t 38)),.q 40 (.mv (.i 0))]) (.block 2 (.loop (.seq (.reg [.q 41 (.bin .lss true (.t 40) (.t 39))]) (.seq (.cond (.t 41) .skip (.exit 2)) (.seq (.block 3 (.seq (.reg [.l 42 (.ia 3 (.t 38) (.t 40)),.l 43 (.ldn 3 (.t 42)),.e 6 (.al (.agg #[(.string (mk [])),(.slice none 0 0),(.slice none 0 0)]) 62),.s (.st 3 (.t 6) (.t 43))]) (.seq (.reg [.q 44 (.fa 0 (.t 6)),.l 45 (.ld1 (.t 44)),.q 46 (.fa 0 (.t 4)),.l 47 (.ld1 (.t 46)),.q 48 (.bin .eql true (.t 45) (.t 47))]) (.cond (.t 48) (.seq (.reg [.q 2 (.mv (.i 7))]) .ret) .skip)))) (.reg [.q 49 (.bin .add true (.t 40) (.i 1)),.v 40 49]))))))) (.seq (.reg [.l 50 (.ldn 3 (.t 4)),.a 51 (.cq 74 [(.t 50)]),.v 7 51]) (.seq (.reg [.v 52 7,.q 53 (.bin .neq true (.t 52) (.i 0))]) (.cond (.t 53) (.seq (.reg [.v 54 7,.v 2 54]) .ret) .skip))))))) (.reg [.q 55 (.bin .add true (.t 26) (.i 1)),.v 26 55]))))))) (.seq (.reg [.l 56 (.ldn 3 (.t 1)),.a 57 (.cl 75 [(.t 56)] []),.e 8 (.al (.agg #[(.map none),(.map none)]) 117),.s (.st 2 (.t 8) (.t 57))]) (.seq (.seq (.reg [.q 58 (.fa 2 (.t 1)),.l 59 (.ld1 (.t 58)),.q 60 (.lnL (.t 59)),.q 61 (.mv (.i 0))]) (.block 4 (.loop (.seq (.reg [.q 62 (.bin .lss true (.t 61) (.t 60))]) (.seq (.cond (.t 62) .skip (.exit 4)) (.seq (.block 5 (.seq (.reg [.v 63 61,.l 64 (.ia 2 (.t 59) (.t 61)),.l 65 (.ldn 2 (.t 64)),.e 10 (.al (.agg #[(.string (mk [])),(.slice none 0 0)]) 56),.v 9 63,.s (.st 2 (.t 10) (.t 65))]) (.seq (.seq (.reg [.l 66 (.ldn 3 (.t 1)),.v 67 9,.q 68 (.fa 0 (.t 10)),.l 69 (.ld1 (.t 68)),.a 70 (.cq 76 [(.t 66),(.t 67),(.t 69)]),.v 11 70]) (.seq (.reg [.v 71 11,.q 72 (.bin .neq true (.t 71) (.i 0))]) (.cond (.t 72) (.seq (.reg [.v 73 11,.v 2 73]) .ret) .skip))) (.seq (.reg [.l 74 (.ldn 2 (.t 8)),.l 75 (.ldn 2 (.t 10)),.a 76 (.cl 77 [(.t 74),(.t 75)] [1,2]),.v 12 76]) (.seq (.reg [.v 77 12,.q 78 (.bin .neq true (.t 77) (.i 0))]) (.cond (.t 78) (.seq (.reg [.v 79 12,.v 2 79]) .ret) .skip)))))) (.reg [.q 80 (.bin .add true (.t 61) (.i 1)),.v 61 80]))))))) (.seq (.reg [.l 81 (.ldn 3 (.t 1)),.l 82 (.ldn 2 (.t 8)),.a 83 (.cl 78 [(.t 81),(.t 82)] [1,2]),.v 2 83]) .ret))))))
def UK:List RV:=[.mv (.t 2)]
theorem aBQ:aY Tryz.prog true ⟨fun r k=>if r=3/\k=1 then .q else if r=8/\k=2 then .q else if r=16/\k=1 then .q else if r=24/\k=4 then .q else if r=27/\k=2 then .own [1,2] else if r=31/\k=2 then .own [1,2] else .own [],fun _=>false⟩ Tryz.f31=some (TO,UK):=by kernel_rfl
def SW:PC:=.seq (.reg [.e 1 (.bx 25 (.t 0)),.q 2 (.mv (.k (.bool false)))]) (.seq (.seq (.reg [.q 7 (.fa 1 (.t 1)),.l 8 (.ld1 (.t 7)),.q 9 (.lnL (.t 8)),.q 10 (.bin .gtr true (.t 9) (.i 16)),.v 11 10,⟨some 12,(some (11,false)),.q (.fa 2 (.t 1))⟩,⟨some 13,(some (11,false)),.l (.ld1 (.t 12))⟩,⟨some 14,(some (11,false)),.q (.lnL (.t 13))⟩,⟨some 15,(some (11,false)),.q (.fa 1 (.t 1))⟩,⟨some 16,(some (11,false)),.l (.ld1 (.t 15))⟩,⟨some 17,(some (11,false)),.q (.lnL (.t 16))⟩,⟨some 18,(some (11,false)),.q (.bin .sub true (.i 16) (.t 17))⟩,⟨some 19,(some (11,false)),.q (.bin .gtr true (.t 14) (.t 18))⟩,.a 20 (.pick (.t 11) (.k (.bool true)) (.t 19))]) (.cond (.t 20) (.seq (.reg [.q 2 (.mv (.k (.bool true)))]) .ret) .skip)) (.seq (.seq (.reg [.q 21 (.fa 1 (.t 1)),.l 22 (.ld1 (.t 21)),.q 23 (.lnL (.t 22)),.q 24 (.mv (.i 0))]) (.block 0 (.loop (.seq (.reg [.q 25 (.bin .lss true (.t 24) (.t 23))]) (.seq (.cond (.t 25) .skip (.exit 0)) (.seq (.block 1 (.seq (.reg [.l 26 (.ia 3 (.t 22) (.t 24)),.l 27 (.ldn 3 (.t 26)),.e 4 (.al (.agg #[(.string (mk [])),(.slice none 0 0),(.slice none 0 0)]) 62),.s (.st 3 (.t 4) (.t 27))]) (.seq (.reg [.q 28 (.fa 1 (.t 4)),.l 29 (.ld1 (.t 28)),.q 30 (.lnL (.t 29)),.q 31 (.bin .gtr true (.t 30) (.i 16))]) (.cond (.t 31) (.seq (.reg [.q 2 (.mv (.k (.bool true)))]) .ret) .skip)))) (.reg [.q 32 (.bin .add true (.t 24) (.i 1)),.v 24 32]))))))) (.seq (.seq (.reg [.q 33 (.fa 2 (.t 1)),.l 34 (.ld1 (.t 33)),.q 35 (.lnL (.t 34)),.q 36 (.mv (.i 0))]) (.block 2 (.loop (.seq (.reg [.q 37 (.bin .lss true (.t 36) (.t 35))]) (.seq (.cond (.t 37) .skip (.exit 2)) (.seq (.block 3 (.seq (.reg [.l 38 (.ia 2 (.t 34) (.t 36)),.l 39 (.ldn 2 (.t 38)),.e 6 (.al (.agg #[(.string (mk [])),(.slice none 0 0)]) 56),.s (.st 2 (.t 6) (.t 39))]) (.seq (.reg [.q 40 (.fa 1 (.t 6)),.l 41 (.ld1 (.t 40)),.q 42 (.lnL (.t 41)),.q 43 (.bin .gtr true (.t 42) (.i 16))]) (.cond (.t 43) (.seq (.reg [.q 2 (.mv (.k (.bool true)))]) .ret) .skip)))) (.reg [.q 44 (.bin .add true (.t 36) (.i 1)),.v 36 44]))))))) (.seq (.reg [.q 2 (.mv (.k (.bool false)))]) .ret))))
def XF:List RV:=[.mv (.t 2)]
theorem aD8:aY Tryz.prog true ⟨fun _ _=>.own [],fun _=>false⟩ Tryz.f72=some (SW,XF):=by kernel_rfl
def MU:PC:=.seq (.reg [.q 2 (.mv (.k (.bool false)))]) (.seq (.reg [.v 3 0,.a 4 (.cq 95 [(.t 3)]),.v 5 4,⟨some 6,(some (5,true)),.q (.mv (.t 0))⟩,⟨some 7,(some (5,true)),.ix (.t 6) (.i 0)⟩,⟨some 8,(some (5,true)),.q (.bin .geq true (.t 7) (.k (.int .u8 65)))⟩,.a 9 (.pick (.t 5) (.t 8) (.k (.bool false))),.v 10 9,⟨some 11,(some (10,true)),.q (.mv (.t 0))⟩,⟨some 12,(some (10,true)),.ix (.t 11) (.i 0)⟩,⟨some 13,(some (10,true)),.q (.bin .leq true (.t 12) (.k (.int .u8 90)))⟩,.a 14 (.pick (.t 10) (.t 13) (.k (.bool false))),.v 2 14]) .ret)
def NW:List RV:=[.mv (.t 2)]
theorem aCV:aY Tryz.prog true ⟨fun r k=>if r=1/\k=1 then .q else .own [],fun _=>false⟩ Tryz.f73=some (MU,NW):=by kernel_rfl
def TD:PC:=.seq (.reg [.e 1 (.bx 62 (.t 0)),.q 2 (.mv (.i 0))]) (.seq (.seq (.reg [.q 6 (.fa 1 (.t 1)),.l 7 (.ld1 (.t 6)),.q 8 (.lnL (.t 7)),.q 9 (.bin .eql true (.t 8) (.i 0)),.v 10 9,⟨some 11,(some (10,false)),.q (.fa 1 (.t 1))⟩,⟨some 12,(some (10,false)),.l (.ld1 (.t 11))⟩,⟨some 13,(some (10,false)),.q (.lnL (.t 12))⟩,⟨some 14,(some (10,false)),.q (.fa 2 (.t 1))⟩,⟨some 15,(some (10,false)),.l (.ld1 (.t 14))⟩,⟨some 16,(some (10,false)),.q (.lnL (.t 15))⟩,⟨some 17,(some (10,false)),.q (.bin .neq true (.t 13) (.t 16))⟩,.a 18 (.pick (.t 10) (.k (.bool true)) (.t 17))]) (.cond (.t 18) (.seq (.reg [.q 2 (.mv (.i 2))]) .ret) .skip)) (.seq (.seq (.reg [.q 19 (.fa 1 (.t 1)),.l 20 (.ld1 (.t 19)),.q 21 (.lnL (.t 20)),.q 22 (.mv (.i 0))]) (.block 0 (.loop (.seq (.reg [.q 23 (.bin .lss true (.t 22) (.t 21))]) (.seq (.cond (.t 23) .skip (.exit 0)) (.seq (.block 1 (.seq (.reg [.v 24 22,.l 25 (.ia 1 (.t 20) (.t 22)),.l 26 (.ld1 (.t 25)),.v 3 24,.v 4 26]) (.seq (.reg [.q 27 (.fa 2 (.t 1)),.l 28 (.ld1 (.t 27)),.v 29 3,.l 30 (.ia 1 (.t 28) (.t 29)),.l 31 (.ld1 (.t 30)),.v 5 31]) (.block 2 (.seq (.reg [.v 33 4,.a 34 (.cq 95 [(.t 33)]),.q 35 (.not (.t 34)),.v 32 35]) (.cond (.t 32) (.seq (.reg [.q 2 (.mv (.i 5))]) .ret) (.seq (.reg [.q 37 (.fa 1 (.t 1)),.l 38 (.ld1 (.t 37)),.v 39 3,.q 40 (.sf 1 (.t 38) none (some (.t 39))),.v 41 4,.a 42 (.cq 111 [(.t 40),(.t 41)]),.v 36 42]) (.cond (.t 36) (.seq (.reg [.q 2 (.mv (.i 7))]) .ret) (.seq (.reg [.v 44 5,.q 45 (.bin .lss true (.t 44) (.i 0)),.v 46 45,⟨some 47,(some (46,false)),.q (.mv (.t 5))⟩,⟨some 48,(some (46,false)),.q (.bin .gtr true (.t 47) (.i 127))⟩,.a 49 (.pick (.t 46) (.k (.bool true)) (.t 48)),.v 43 49]) (.cond (.t 43) (.seq (.reg [.q 2 (.mv (.i 4))]) .ret) (.seq (.reg [.v 51 3,.q 52 (.bin .eql true (.t 51) (.i 0)),.v 53 52,⟨some 54,(some (53,true)),.q (.mv (.t 5))⟩,⟨some 55,(some (53,true)),.q (.bin .neq true (.t 54) (.i 0))⟩,.a 56 (.pick (.t 53) (.t 55) (.k (.bool false))),.v 57 56,⟨some 58,(some (57,false)),.q (.mv (.t 3))⟩,⟨some 59,(some (57,false)),.q (.bin .gtr true (.t 58) (.i 0))⟩,⟨some 60,(some (57,false)),.q (.mv (.t 59))⟩,⟨some 61,(some (60,true)),.q (.mv (.t 5))⟩,⟨some 62,(some (60,true)),.q (.fa 2 (.t 1))⟩,⟨some 63,(some (60,true)),.l (.ld1 (.t 62))⟩,⟨some 64,(some (60,true)),.q (.mv (.t 3))⟩,⟨some 65,(some (60,true)),.q (.bin .sub true (.t 64) (.i 1))⟩,⟨some 66,(some (60,true)),.l (.ia 1 (.t 63) (.t 65))⟩,⟨some 67,(some (60,true)),.l (.ld1 (.t 66))⟩,⟨some 68,(some (60,true)),.q (.bin .leq true (.t 61) (.t 67))⟩,⟨some 69,(some (57,false)),.pick (.t 60) (.t 68) (.k (.bool false))⟩,.a 70 (.pick (.t 57) (.k (.bool true)) (.t 69)),.v 50 70]) (.cond (.t 50) (.seq (.reg [.q 2 (.mv (.i 2))]) .ret) .skip)))))))))))) (.reg [.q 71 (.bin .add true (.t 22) (.i 1)),.v 22 71]))))))) (.seq (.reg [.q 2 (.mv (.i 0))]) .ret)))
def YB:List RV:=[.mv (.t 2)]
theorem aCK:aY Tryz.prog true ⟨fun r k=>if r=7/\k=1 then .q else if r=9/\k=5 then .q else .own [],fun _=>false⟩ Tryz.f74=some (TD,YB):=by kernel_rfl
def VS:PC:=.seq (.reg [.e 1 (.bx 25 (.t 0)),.e 2 (.al (.agg #[(.map none),(.map none)]) 117)]) (.seq (.reg [.e 6 (.mm .string),.e 7 (.mm .string),.q 8 (.bd [(.map none),(.map none)] [(0,1,(.t 6)),(1,1,(.t 7))]),.e 3 (.al (.agg #[(.map none),(.map none)]) 117),.s (.st 2 (.t 3) (.t 8))]) (.seq (.seq (.reg [.q 9 (.fa 2 (.t 1)),.l 10 (.ld1 (.t 9)),.q 11 (.lnL (.t 10)),.q 12 (.bin .sub true (.t 11) (.i 1)),.v 4 12]) (.block 0 (.loop (.seq (.seq (.reg [.v 13 4,.q 14 (.bin .geq true (.t 13) (.i 0))]) (.cond (.t 14) .skip (.exit 0))) (.seq (.block 1 (.reg [.q 17 (.fa 0 (.t 3)),.l 18 (.ld1 (.t 17)),.q 19 (.fa 2 (.t 1)),.l 20 (.ld1 (.t 19)),.v 21 4,.l 22 (.ia 2 (.t 20) (.t 21)),.q 23 (.fa 0 (.t 22)),.l 24 (.ld1 (.t 23)),.q 25 (.fa 2 (.t 1)),.l 26 (.ld1 (.t 25)),.v 27 4,.l 28 (.ia 2 (.t 26) (.t 27)),.l 29 (.ldn 2 (.t 28)),.s (.mu .string (.t 18) (.t 24) (.t 29))])) (.reg [.v 15 4,.q 16 (.bin .sub true (.t 15) (.i 1)),.v 4 16])))))) (.seq (.seq (.reg [.q 30 (.fa 1 (.t 1)),.l 31 (.ld1 (.t 30)),.q 32 (.lnL (.t 31)),.q 33 (.bin .sub true (.t 32) (.i 1)),.v 5 33]) (.block 2 (.loop (.seq (.seq (.reg [.v 34 5,.q 35 (.bin .geq true (.t 34) (.i 0))]) (.cond (.t 35) .skip (.exit 2))) (.seq (.block 3 (.reg [.q 38 (.fa 1 (.t 3)),.l 39 (.ld1 (.t 38)),.q 40 (.fa 1 (.t 1)),.l 41 (.ld1 (.t 40)),.v 42 5,.l 43 (.ia 3 (.t 41) (.t 42)),.q 44 (.fa 0 (.t 43)),.l 45 (.ld1 (.t 44)),.q 46 (.fa 1 (.t 1)),.l 47 (.ld1 (.t 46)),.v 48 5,.l 49 (.ia 3 (.t 47) (.t 48)),.l 50 (.ldn 3 (.t 49)),.s (.mu .string (.t 39) (.t 45) (.t 50))])) (.reg [.v 36 5,.q 37 (.bin .sub true (.t 36) (.i 1)),.v 5 37])))))) (.seq (.reg [.l 51 (.ldn 2 (.t 3)),.s (.st 2 (.t 2) (.t 51))]) .ret))))
def VI:List RV:=[.ld (.ldn 2 (.t 2))]
theorem aDJ:aY Tryz.prog true ⟨fun _ _=>.own [],fun _=>false⟩ Tryz.f75=some (VS,VI):=by kernel_rfl
def WC:PC:=.seq (.reg [.e 3 (.bx 25 (.t 0)),.q 6 (.mv (.i 0))]) (.seq (.seq (.reg [.v 11 2,.a 12 (.cq 73 [(.t 11)]),.q 13 (.not (.t 12))]) (.cond (.t 13) (.seq (.reg [.q 6 (.mv (.i 5))]) .ret) .skip)) (.seq (.seq (.reg [.q 14 (.fa 1 (.t 3)),.l 15 (.ld1 (.t 14)),.q 16 (.lnL (.t 15)),.q 17 (.mv (.i 0))]) (.block 0 (.loop (.seq (.reg [.q 18 (.bin .lss true (.t 17) (.t 16))]) (.seq (.cond (.t 18) .skip (.exit 0)) (.seq (.block 1 (.seq (.reg [.l 19 (.ia 3 (.t 15) (.t 17)),.l 20 (.ldn 3 (.t 19)),.e 8 (.al (.agg #[(.string (mk [])),(.slice none 0 0),(.slice none 0 0)]) 62),.s (.st 3 (.t 8) (.t 20))]) (.seq (.reg [.q 21 (.fa 0 (.t 8)),.l 22 (.ld1 (.t 21)),.v 23 2,.q 24 (.bin .eql true (.t 22) (.t 23))]) (.cond (.t 24) (.seq (.reg [.q 6 (.mv (.i 7))]) .ret) .skip)))) (.reg [.q 25 (.bin .add true (.t 17) (.i 1)),.v 17 25]))))))) (.seq (.seq (.reg [.q 26 (.fa 2 (.t 3)),.l 27 (.ld1 (.t 26)),.v 28 1,.q 29 (.sf 2 (.t 27) none (some (.t 28))),.q 30 (.lnL (.t 29)),.q 31 (.mv (.i 0))]) (.block 2 (.loop (.seq (.reg [.q 32 (.bin .lss true (.t 31) (.t 30))]) (.seq (.cond (.t 32) .skip (.exit 2)) (.seq (.block 3 (.seq (.reg [.l 33 (.ia 2 (.t 29) (.t 31)),.l 34 (.ldn 2 (.t 33)),.e 10 (.al (.agg #[(.string (mk [])),(.slice none 0 0)]) 56),.s (.st 2 (.t 10) (.t 34))]) (.seq (.reg [.q 35 (.fa 0 (.t 10)),.l 36 (.ld1 (.t 35)),.v 37 2,.q 38 (.bin .eql true (.t 36) (.t 37))]) (.cond (.t 38) (.seq (.reg [.q 6 (.mv (.i 7))]) .ret) .skip)))) (.reg [.q 39 (.bin .add true (.t 31) (.i 1)),.v 31 39]))))))) (.seq (.reg [.q 6 (.mv (.i 0))]) .ret))))
def WB:List RV:=[.mv (.t 6)]
theorem aDC:aY Tryz.prog true ⟨fun r k=>if r=1/\k=1 then .q else .own [],fun _=>false⟩ Tryz.f76=some (WC,WB):=by kernel_rfl
def VG:PC:=.seq (.reg [.e 2 (.bx 117 (.t 0)),.e 3 (.bx 56 (.t 1)),.q 4 (.mv (.i 0))]) (.seq (.seq (.reg [.q 9 (.fa 1 (.t 3)),.l 10 (.ld1 (.t 9)),.q 11 (.lnL (.t 10)),.q 12 (.mv (.i 0))]) (.block 0 (.loop (.seq (.reg [.q 13 (.bin .lss true (.t 12) (.t 11))]) (.seq (.cond (.t 13) .skip (.exit 0)) (.seq (.block 1 (.seq (.reg [.v 14 12,.l 15 (.ia 7 (.t 10) (.t 12)),.l 16 (.ldn 7 (.t 15)),.e 6 (.al (.agg #[(.int .i64 0),(.string (mk [])),(.int .i64 0),(.int .i64 0),(.string (mk [])),(.slice none 0 0),(.bool false)]) 64),.v 5 14,.s (.st 7 (.t 6) (.t 16))]) (.seq (.block 2 (.seq (.reg [.q 18 (.fa 0 (.t 6)),.l 19 (.ld1 (.t 18)),.q 20 (.bin .lss true (.t 19) (.i 1)),.v 21 20,⟨some 22,(some (21,false)),.q (.fa 0 (.t 6))⟩,⟨some 23,(some (21,false)),.l (.ld1 (.t 22))⟩,⟨some 24,(some (21,false)),.q (.bin .gtr true (.t 23) (.i 127))⟩,.a 25 (.pick (.t 21) (.k (.bool true)) (.t 24)),.v 17 25]) (.cond (.t 17) (.seq (.reg [.q 4 (.mv (.i 4))]) .ret) (.seq (.reg [.v 27 5,.q 28 (.bin .gtr true (.t 27) (.i 0)),.v 29 28,⟨some 30,(some (29,true)),.q (.fa 0 (.t 6))⟩,⟨some 31,(some (29,true)),.l (.ld1 (.t 30))⟩,⟨some 32,(some (29,true)),.q (.fa 1 (.t 3))⟩,⟨some 33,(some (29,true)),.l (.ld1 (.t 32))⟩,⟨some 34,(some (29,true)),.q (.mv (.t 5))⟩,⟨some 35,(some (29,true)),.q (.bin .sub true (.t 34) (.i 1))⟩,⟨some 36,(some (29,true)),.l (.ia 7 (.t 33) (.t 35))⟩,⟨some 37,(some (29,true)),.q (.fa 0 (.t 36))⟩,⟨some 38,(some (29,true)),.l (.ld1 (.t 37))⟩,⟨some 39,(some (29,true)),.q (.bin .leq true (.t 31) (.t 38))⟩,.a 40 (.pick (.t 29) (.t 39) (.k (.bool false))),.v 26 40]) (.cond (.t 26) (.seq (.reg [.q 4 (.mv (.i 2))]) .ret) (.seq (.reg [.q 42 (.fa 1 (.t 6)),.l 43 (.ld1 (.t 42)),.a 44 (.cq 95 [(.t 43)]),.q 45 (.not (.t 44)),.v 41 45]) (.cond (.t 41) (.seq (.reg [.q 4 (.mv (.i 5))]) .ret) .skip))))))) (.seq (.seq (.reg [.q 46 (.fa 1 (.t 3)),.l 47 (.ld1 (.t 46)),.v 48 5,.q 49 (.sf 7 (.t 47) none (some (.t 48))),.q 50 (.lnL (.t 49)),.q 51 (.mv (.i 0))]) (.block 3 (.loop (.seq (.reg [.q 52 (.bin .lss true (.t 51) (.t 50))]) (.seq (.cond (.t 52) .skip (.exit 3)) (.seq (.block 4 (.seq (.reg [.l 53 (.ia 7 (.t 49) (.t 51)),.l 54 (.ldn 7 (.t 53)),.e 8 (.al (.agg #[(.int .i64 0),(.string (mk [])),(.int .i64 0),(.int .i64 0),(.string (mk [])),(.slice none 0 0),(.bool false)]) 64),.s (.st 7 (.t 8) (.t 54))]) (.seq (.reg [.q 55 (.fa 1 (.t 8)),.l 56 (.ld1 (.t 55)),.q 57 (.fa 1 (.t 6)),.l 58 (.ld1 (.t 57)),.q 59 (.bin .eql true (.t 56) (.t 58))]) (.cond (.t 59) (.seq (.reg [.q 4 (.mv (.i 7))]) .ret) .skip)))) (.reg [.q 60 (.bin .add true (.t 51) (.i 1)),.v 51 60]))))))) (.seq (.reg [.l 61 (.ldn 2 (.t 2)),.q 62 (.fa 2 (.t 6)),.l 63 (.ldn 4 (.t 62)),.a 64 (.cl 112 [(.t 61),(.t 63)] [0,1]),.q 65 (.not (.t 64))]) (.cond (.t 65) (.seq (.reg [.q 4 (.mv (.i 13))]) .ret) .skip)))))) (.reg [.q 66 (.bin .add true (.t 12) (.i 1)),.v 12 66]))))))) (.seq (.reg [.q 4 (.mv (.i 0))]) .ret))
def UV:List RV:=[.mv (.t 4)]
theorem aBU:aY Tryz.prog true ⟨fun r k=>if r=8/\k=2 then .q else if r=16/\k=3 then .own [0,1] else .own [],fun _=>false⟩ Tryz.f77=some (VG,UV):=by kernel_rfl
def XM:PC:=.seq (.reg [.e 2 (.bx 25 (.t 0)),.e 3 (.bx 117 (.t 1)),.q 4 (.mv (.i 0))]) (.seq (.seq (.reg [.q 9 (.fa 2 (.t 2)),.l 10 (.ld1 (.t 9)),.q 11 (.lnL (.t 10)),.q 12 (.mv (.i 0))]) (.block 0 (.loop (.seq (.reg [.q 13 (.bin .lss true (.t 12) (.t 11))]) (.seq (.cond (.t 13) .skip (.exit 0)) (.seq (.block 1 (.seq (.reg [.l 14 (.ia 2 (.t 10) (.t 12)),.l 15 (.ldn 2 (.t 14)),.e 6 (.al (.agg #[(.string (mk [])),(.slice none 0 0)]) 56),.s (.st 2 (.t 6) (.t 15))]) (.seq (.ord  [.q (.l 16 (.ldn 2 (.t 3))),.q (.q 17 (.fa 0 (.t 6))),.q (.l 18 (.ld1 (.t 17))),.q (.q 20 (.fa 0 (.t 6))),.q (.l 21 (.ld1 (.t 20))),.m (.a 19 (.cl 113 [(.t 16),(.t 18)] [0,1])),.rc (.q 20 (.fa 0 (.t 6))),.rc (.l 21 (.ld1 (.t 20))),.m (.a 22 (.cq 111 [(.t 19),(.t 21)]))]) (.cond (.t 22) (.seq (.reg [.q 4 (.mv (.i 19))]) .ret) .skip)))) (.reg [.q 23 (.bin .add true (.t 12) (.i 1)),.v 12 23]))))))) (.seq (.seq (.reg [.q 24 (.fa 2 (.t 2)),.l 25 (.ld1 (.t 24)),.q 26 (.lnL (.t 25)),.q 27 (.mv (.i 0))]) (.block 2 (.loop (.seq (.reg [.q 28 (.bin .lss true (.t 27) (.t 26))]) (.seq (.cond (.t 28) .skip (.exit 2)) (.seq (.block 3 (.seq (.reg [.l 29 (.ia 2 (.t 25) (.t 27)),.l 30 (.ldn 2 (.t 29)),.e 8 (.al (.agg #[(.string (mk [])),(.slice none 0 0)]) 56),.s (.st 2 (.t 8) (.t 30))]) (.seq (.reg [.l 31 (.ldn 2 (.t 3)),.l 32 (.ldn 2 (.t 8)),.a 33 (.cl 114 [(.t 31),(.t 32)] [0,1]),.q 34 (.bin .gtr true (.t 33) (.i 6))]) (.cond (.t 34) (.seq (.reg [.q 4 (.mv (.i 9))]) .ret) .skip)))) (.reg [.q 35 (.bin .add true (.t 27) (.i 1)),.v 27 35]))))))) (.seq (.reg [.q 4 (.mv (.i 0))]) .ret)))
def TN:List RV:=[.mv (.t 4)]
theorem aCB:aY Tryz.prog true ⟨fun r k=>if r=4/\k=3 then .own [0,1] else if r=4/\k=6 then .q else if r=10/\k=2 then .own [0,1] else .own [],fun _=>false⟩ Tryz.f78=some (XM,TN):=by kernel_rfl
def jR:PC:=.seq (.reg [.e 2 (.bx 117 (.t 0)),.e 3 (.bx 37 (.t 1)),.q 4 (.mv (.k (.bool false)))]) (.seq (.seq (.reg [.q 10 (.fa 0 (.t 3)),.l 11 (.ld1 (.t 10))]) (.block 0 (.seq (.reg [.q 13 (.bin .eql true (.t 11) (.i 1)),.v 12 13]) (.cond (.t 12) (.seq (.reg [.q 14 (.fa 1 (.t 3)),.l 15 (.ld1 (.t 14)),.q 16 (.bin .eql true (.t 15) (.i 0)),.v 17 16,⟨some 18,(some (17,true)),.q (.fa 2 (.t 3))⟩,⟨some 19,(some (17,true)),.l (.ld1 (.t 18))⟩,⟨some 20,(some (17,true)),.q (.bin .eql true (.t 19) (.k (.string (mk []))))⟩,.a 21 (.pick (.t 17) (.t 20) (.k (.bool false))),.v 22 21,⟨some 23,(some (22,true)),.q (.fa 3 (.t 3))⟩,⟨some 24,(some (22,true)),.l (.ld1 (.t 23))⟩,⟨some 25,(some (22,true)),.q (.lnL (.t 24))⟩,⟨some 26,(some (22,true)),.q (.bin .eql true (.t 25) (.i 0))⟩,.a 27 (.pick (.t 22) (.t 26) (.k (.bool false))),.v 4 27]) .ret) (.seq (.seq (.reg [.q 29 (.bin .eql true (.t 11) (.i 2)),.v 28 29]) (.cond (.t 28) .skip (.reg [.q 30 (.bin .eql true (.t 11) (.i 3)),.v 28 30]))) (.cond (.t 28) (.seq (.reg [.q 31 (.fa 1 (.t 3)),.l 32 (.ld1 (.t 31)),.q 33 (.bin .eql true (.t 32) (.i 64)),.v 34 33,⟨some 35,(some (34,true)),.q (.fa 0 (.t 3))⟩,⟨some 36,(some (34,true)),.l (.ld1 (.t 35))⟩,⟨some 37,(some (34,true)),.q (.bin .eql true (.t 36) (.i 2))⟩,.a 38 (.pick (.t 34) (.t 37) (.k (.bool false))),.v 5 38]) (.seq (.reg [.q 39 (.fa 1 (.t 3)),.l 40 (.ld1 (.t 39)),.q 41 (.bin .eql true (.t 40) (.i 8)),.v 42 41,⟨some 43,(some (42,false)),.q (.fa 1 (.t 3))⟩,⟨some 44,(some (42,false)),.l (.ld1 (.t 43))⟩,⟨some 45,(some (42,false)),.q (.bin .eql true (.t 44) (.i 16))⟩,.a 46 (.pick (.t 42) (.k (.bool true)) (.t 45)),.v 47 46,⟨some 48,(some (47,false)),.q (.fa 1 (.t 3))⟩,⟨some 49,(some (47,false)),.l (.ld1 (.t 48))⟩,⟨some 50,(some (47,false)),.q (.bin .eql true (.t 49) (.i 32))⟩,.a 51 (.pick (.t 47) (.k (.bool true)) (.t 50)),.v 52 51,⟨some 53,(some (52,false)),.q (.mv (.t 5))⟩,.a 54 (.pick (.t 52) (.k (.bool true)) (.t 53)),.v 55 54,⟨some 56,(some (55,true)),.q (.fa 2 (.t 3))⟩,⟨some 57,(some (55,true)),.l (.ld1 (.t 56))⟩,⟨some 58,(some (55,true)),.q (.bin .eql true (.t 57) (.k (.string (mk []))))⟩,.a 59 (.pick (.t 55) (.t 58) (.k (.bool false))),.v 60 59,⟨some 61,(some (60,true)),.q (.fa 3 (.t 3))⟩,⟨some 62,(some (60,true)),.l (.ld1 (.t 61))⟩,⟨some 63,(some (60,true)),.q (.lnL (.t 62))⟩,⟨some 64,(some (60,true)),.q (.bin .eql true (.t 63) (.i 0))⟩,.a 65 (.pick (.t 60) (.t 64) (.k (.bool false))),.v 4 65]) .ret)) (.seq (.reg [.q 67 (.bin .eql true (.t 11) (.i 4)),.v 66 67]) (.cond (.t 66) (.seq (.reg [.q 68 (.fa 1 (.t 3)),.l 69 (.ld1 (.t 68)),.q 70 (.bin .geq true (.t 69) (.i 1)),.v 71 70,⟨some 72,(some (71,true)),.q (.fa 1 (.t 3))⟩,⟨some 73,(some (71,true)),.l (.ld1 (.t 72))⟩,⟨some 74,(some (71,true)),.q (.bin .leq true (.t 73) (.i 2000))⟩,.a 75 (.pick (.t 71) (.t 74) (.k (.bool false))),.v 76 75,⟨some 77,(some (76,true)),.q (.fa 2 (.t 3))⟩,⟨some 78,(some (76,true)),.l (.ld1 (.t 77))⟩,⟨some 79,(some (76,true)),.q (.bin .eql true (.t 78) (.k (.string (mk []))))⟩,.a 80 (.pick (.t 76) (.t 79) (.k (.bool false))),.v 81 80,⟨some 82,(some (81,true)),.q (.fa 3 (.t 3))⟩,⟨some 83,(some (81,true)),.l (.ld1 (.t 82))⟩,⟨some 84,(some (81,true)),.q (.lnL (.t 83))⟩,⟨some 85,(some (81,true)),.q (.bin .eql true (.t 84) (.i 0))⟩,.a 86 (.pick (.t 81) (.t 85) (.k (.bool false))),.v 4 86]) .ret) (.seq (.reg [.q 88 (.bin .eql true (.t 11) (.i 5)),.v 87 88]) (.cond (.t 87) (.seq (.reg [.q 89 (.fa 1 (.t 3)),.l 90 (.ld1 (.t 89)),.q 91 (.bin .geq true (.t 90) (.i 1)),.v 92 91,⟨some 93,(some (92,true)),.q (.fa 1 (.t 3))⟩,⟨some 94,(some (92,true)),.l (.ld1 (.t 93))⟩,⟨some 95,(some (92,true)),.q (.bin .leq true (.t 94) (.i 32))⟩,.a 96 (.pick (.t 92) (.t 95) (.k (.bool false))),.v 97 96,⟨some 98,(some (97,true)),.q (.fa 2 (.t 3))⟩,⟨some 99,(some (97,true)),.l (.ld1 (.t 98))⟩,⟨some 100,(some (97,true)),.q (.bin .eql true (.t 99) (.k (.string (mk []))))⟩,.a 101 (.pick (.t 97) (.t 100) (.k (.bool false))),.v 102 101,⟨some 103,(some (102,true)),.q (.fa 3 (.t 3))⟩,⟨some 104,(some (102,true)),.l (.ld1 (.t 103))⟩,⟨some 105,(some (102,true)),.q (.lnL (.t 104))⟩,⟨some 106,(some (102,true)),.q (.bin .eql true (.t 105) (.i 1))⟩,.a 107 (.pick (.t 102) (.t 106) (.k (.bool false))),.v 108 107,⟨some 109,(some (108,true)),.l (.ldn 2 (.t 2))⟩,⟨some 110,(some (108,true)),.q (.fa 3 (.t 3))⟩,⟨some 111,(some (108,true)),.l (.ld1 (.t 110))⟩,⟨some 112,(some (108,true)),.l (.ia 4 (.t 111) (.i 0))⟩,⟨some 113,(some (108,true)),.l (.ldn 4 (.t 112))⟩,⟨some 114,(some (108,true)),.cl 112 [(.t 109),(.t 113)] [0,1]⟩,.a 115 (.pick (.t 108) (.t 114) (.k (.bool false))),.v 4 115]) .ret) (.seq (.reg [.q 117 (.bin .eql true (.t 11) (.i 6)),.v 116 117]) (.cond (.t 116) (.seq (.reg [.q 119 (.fa 0 (.t 2)),.l 120 (.ld1 (.t 119)),.q 121 (.fa 2 (.t 3)),.l 122 (.ld1 (.t 121)),.l 123 (.lk .string (.agg #[(.string (mk [])),(.slice none 0 0)]) true (.t 120) (.t 122)),.v 118 123,.q 124 (.ex (.t 118) 0),.q 125 (.ex (.t 118) 1),.e 6 (.al (.agg #[(.string (mk [])),(.slice none 0 0)]) 56),.s (.st 2 (.t 6) (.t 124)),.v 7 125]) (.seq (.reg [.v 126 7,.v 127 126,⟨some 128,(some (127,true)),.q (.fa 1 (.t 3))⟩,⟨some 129,(some (127,true)),.l (.ld1 (.t 128))⟩,⟨some 130,(some (127,true)),.q (.bin .eql true (.t 129) (.i 0))⟩,.a 131 (.pick (.t 127) (.t 130) (.k (.bool false))),.v 132 131,⟨some 133,(some (132,true)),.q (.fa 3 (.t 3))⟩,⟨some 134,(some (132,true)),.l (.ld1 (.t 133))⟩,⟨some 135,(some (132,true)),.q (.lnL (.t 134))⟩,⟨some 136,(some (132,true)),.q (.bin .eql true (.t 135) (.i 0))⟩,.a 137 (.pick (.t 132) (.t 136) (.k (.bool false))),.v 4 137]) .ret)) (.seq (.reg [.q 139 (.bin .eql true (.t 11) (.i 7)),.v 138 139]) (.cond (.t 138) (.seq (.reg [.q 141 (.fa 1 (.t 2)),.l 142 (.ld1 (.t 141)),.q 143 (.fa 2 (.t 3)),.l 144 (.ld1 (.t 143)),.l 145 (.lk .string (.agg #[(.string (mk [])),(.slice none 0 0),(.slice none 0 0)]) true (.t 142) (.t 144)),.v 140 145,.q 146 (.ex (.t 140) 0),.q 147 (.ex (.t 140) 1),.e 8 (.al (.agg #[(.string (mk [])),(.slice none 0 0),(.slice none 0 0)]) 62),.s (.st 3 (.t 8) (.t 146)),.v 9 147]) (.seq (.reg [.v 148 9,.v 149 148,⟨some 150,(some (149,true)),.q (.fa 1 (.t 3))⟩,⟨some 151,(some (149,true)),.l (.ld1 (.t 150))⟩,⟨some 152,(some (149,true)),.q (.bin .eql true (.t 151) (.i 0))⟩,.a 153 (.pick (.t 149) (.t 152) (.k (.bool false))),.v 154 153,⟨some 155,(some (154,true)),.q (.fa 3 (.t 3))⟩,⟨some 156,(some (154,true)),.l (.ld1 (.t 155))⟩,⟨some 157,(some (154,true)),.q (.lnL (.t 156))⟩,⟨some 158,(some (154,true)),.q (.bin .eql true (.t 157) (.i 0))⟩,.a 159 (.pick (.t 154) (.t 158) (.k (.bool false))),.v 4 159]) .ret)) .skip)))))))))))))) (.seq (.reg [.q 4 (.mv (.k (.bool false)))]) .ret))
def jV:List RV:=[.mv (.t 4)]
theorem ZX:aY Tryz.prog true ⟨fun r k=>if r=11/\k=25 then .own [0,1] else .own [],fun _=>false⟩ Tryz.f112=some (jR,jV):=by kernel_rfl
def PN:PC:=.seq (.reg [.e 2 (.bx 117 (.t 0)),.q 4 (.mv (.k (.slice none 0 0)))]) (.seq (.reg [.e 8 (.mm .string),.e 5 (.al (.map none) 154),.s (.st 1 (.t 5) (.t 8))]) (.seq (.reg [.e 6 (.al (.slice none 0 0) 52)]) (.seq (.reg [.e 7 (.al .nilFunc 155)]) (.seq (.reg [.q 9 (.mf 123 [(.t 5),(.t 6),(.t 2),(.t 7)]),.s (.st 1 (.t 7) (.t 9))]) (.seq (.gh (.reg [.l 10 (.ld1 (.t 7)),.q 11 (.fa 0 (.t 2)),.l 12 (.ld1 (.t 11)),.v 13 1,.l 14 (.lk .string (.agg #[(.string (mk [])),(.slice none 0 0)]) false (.t 12) (.t 13)),.a 15 (.ca (.t 10) [(.t 14)] [0,1,2,3,4,5,6,7])])) (.seq (.reg [.l 16 (.ld1 (.t 6)),.a 17 (.cl 125 [(.t 16)] [7])]) (.seq (.reg [.l 18 (.ld1 (.t 6)),.v 4 18]) .ret)))))))
def PM:List RV:=[.mv (.t 4)]
theorem Y8:aY Tryz.prog true ⟨fun r k=>if r=5/\k=5 then .own [0,1,2,3,4,5,6,7] else if r=6/\k=1 then .own [7] else .own [],fun r=>[5].contains r⟩ Tryz.f113=some (PN,PM):=by kernel_rfl
def OD:PC:=.seq (.reg [.e 2 (.bx 117 (.t 0)),.e 3 (.bx 56 (.t 1)),.q 4 (.mv (.i 0))]) (.seq (.reg [.e 7 (.mm .string),.e 5 (.al (.map none) 158),.s (.st 1 (.t 5) (.t 7))]) (.seq (.reg [.e 6 (.al .nilFunc 159)]) (.seq (.reg [.q 8 (.mf 126 [(.t 5),(.t 6),(.t 2)]),.s (.st 1 (.t 6) (.t 8))]) (.seq (.reg [.l 9 (.ld1 (.t 6)),.l 10 (.ldn 2 (.t 3)),.a 11 (.ca (.t 9) [(.t 10)] [0,1,2,4,5,6]),.v 4 11]) .ret))))
def OQ:List RV:=[.mv (.t 4)]
theorem aAH:aY Tryz.prog true ⟨fun r k=>if r=4/\k=2 then .own [0,1,2,4,5,6] else .own [],fun _=>false⟩ Tryz.f114=some (OD,OQ):=by kernel_rfl
def PU:PC:=.seq (.reg [.e 5 (.bx 56 (.t 0))]) (.seq (.reg [.q 12 (.fa 1 (.t 5)),.l 13 (.ld1 (.t 12)),.q 14 (.lnL (.t 13)),.q 15 (.mv (.i 0))]) (.block 0 (.loop (.seq (.reg [.q 16 (.bin .lss true (.t 15) (.t 14))]) (.seq (.cond (.t 16) .skip (.exit 0)) (.seq (.block 1 (.seq (.reg [.l 17 (.ia 7 (.t 13) (.t 15)),.l 18 (.ldn 7 (.t 17)),.e 7 (.al (.agg #[(.int .i64 0),(.string (mk [])),(.int .i64 0),(.int .i64 0),(.string (mk [])),(.slice none 0 0),(.bool false)]) 64),.s (.st 7 (.t 7) (.t 18))]) (.seq (.reg [.q 20 (.fa 2 (.t 7)),.l 21 (.ldn 4 (.t 20)),.a 22 (.cl 124 [(.t 21)] []),.v 19 22,.q 23 (.ex (.t 19) 0),.q 24 (.ex (.t 19) 1),.v 8 23,.v 9 24]) (.seq (.seq (.reg [.v 25 9,.q 26 (.not (.t 25)),.v 27 26,⟨some 28,(some (27,false)),.l (.ld1 (.t 1))⟩,⟨some 29,(some (27,false)),.q (.mv (.t 8))⟩,⟨some 30,(some (27,false)),.l (.lk .string (.bool false) false (.t 28) (.t 29))⟩,.a 31 (.pick (.t 27) (.k (.bool true)) (.t 30))]) (.cond (.t 31) (.exit 1) .skip)) (.seq (.reg [.l 32 (.ld1 (.t 1)),.v 33 8,.s (.mu .string (.t 32) (.t 33) (.k (.bool true)))]) (.seq (.reg [.l 34 (.ld1 (.t 2)),.v 35 8,.e 36 (.bsl 9 1 [(.t 35)]),.e 37 (.ap 9 1 16 (.t 34) (.t 36)),.s (.st 1 (.t 2) (.t 37))]) (.seq (.reg [.q 39 (.fa 0 (.t 3)),.l 40 (.ld1 (.t 39)),.v 41 8,.l 42 (.lk .string (.agg #[(.string (mk [])),(.slice none 0 0)]) true (.t 40) (.t 41)),.v 38 42,.q 43 (.ex (.t 38) 0),.q 44 (.ex (.t 38) 1),.e 10 (.al (.agg #[(.string (mk [])),(.slice none 0 0)]) 56),.s (.st 2 (.t 10) (.t 43)),.v 11 44]) (.seq (.reg [.v 45 11]) (.cond (.t 45) (.reg [.l 46 (.ld1 (.t 4)),.l 47 (.ldn 2 (.t 10)),.a 48 (.ca (.t 46) [(.t 47)] [0,1,2,3,4,5,6,7])]) .skip))))))))) (.reg [.q 49 (.bin .add true (.t 15) (.i 1)),.v 15 49])))))))
def P0:List RV:=[]
theorem YZ:aY Tryz.prog true ⟨fun r k=>if r=10/\k=2 then .own [0,1,2,3,4,5,6,7] else .own [],fun _=>false⟩ Tryz.f123=some (PU,P0):=by kernel_rfl
def OR:PC:=.seq (.reg [.e 1 (.bx 37 (.t 0)),.q 2 (.mv (.k (.string (mk [])))),.q 3 (.mv (.k (.bool false)))]) (.seq (.block 0 (.loop (.seq (.seq (.reg [.q 4 (.fa 0 (.t 1)),.l 5 (.ld1 (.t 4)),.q 6 (.bin .eql true (.t 5) (.i 5)),.v 7 6,⟨some 8,(some (7,true)),.q (.fa 3 (.t 1))⟩,⟨some 9,(some (7,true)),.l (.ld1 (.t 8))⟩,⟨some 10,(some (7,true)),.q (.lnL (.t 9))⟩,⟨some 11,(some (7,true)),.q (.bin .eql true (.t 10) (.i 1))⟩,.a 12 (.pick (.t 7) (.t 11) (.k (.bool false)))]) (.cond (.t 12) .skip (.exit 0))) (.block 1 (.reg [.q 13 (.fa 3 (.t 1)),.l 14 (.ld1 (.t 13)),.l 15 (.ia 4 (.t 14) (.i 0)),.l 16 (.ldn 4 (.t 15)),.s (.st 4 (.t 1) (.t 16))]))))) (.seq (.reg [.q 17 (.fa 2 (.t 1)),.l 18 (.ld1 (.t 17)),.q 19 (.fa 0 (.t 1)),.l 20 (.ld1 (.t 19)),.q 21 (.bin .eql true (.t 20) (.i 6)),.v 22 21,⟨some 23,(some (22,false)),.q (.fa 0 (.t 1))⟩,⟨some 24,(some (22,false)),.l (.ld1 (.t 23))⟩,⟨some 25,(some (22,false)),.q (.bin .eql true (.t 24) (.i 7))⟩,.a 26 (.pick (.t 22) (.k (.bool true)) (.t 25)),.v 2 18,.v 3 26]) .ret))
def PJ:List RV:=[.mv (.t 2),.mv (.t 3)]
theorem ZA:aY Tryz.prog true ⟨fun _ _=>.own [],fun _=>false⟩ Tryz.f124=some (OR,PJ):=by kernel_rfl
def IY:PC:=.seq (.reg [.e 4 (.bx 56 (.t 0)),.q 5 (.mv (.i 0))]) (.seq (.seq (.reg [.l 14 (.ld1 (.t 1)),.q 15 (.fa 0 (.t 4)),.l 16 (.ld1 (.t 15)),.l 17 (.lk .string (.int .i64 0) true (.t 14) (.t 16)),.v 13 17,.q 18 (.ex (.t 13) 0),.q 19 (.ex (.t 13) 1),.v 6 18,.v 7 19]) (.seq (.reg [.v 20 7]) (.cond (.t 20) (.seq (.reg [.v 21 6,.v 5 21]) .ret) .skip))) (.seq (.reg [.q 8 (.mv (.i 0))]) (.seq (.seq (.reg [.q 22 (.fa 1 (.t 4)),.l 23 (.ld1 (.t 22)),.q 24 (.lnL (.t 23)),.q 25 (.mv (.i 0))]) (.block 0 (.loop (.seq (.reg [.q 26 (.bin .lss true (.t 25) (.t 24))]) (.seq (.cond (.t 26) .skip (.exit 0)) (.seq (.block 1 (.seq (.reg [.l 27 (.ia 7 (.t 23) (.t 25)),.l 28 (.ldn 7 (.t 27)),.e 10 (.al (.agg #[(.int .i64 0),(.string (mk [])),(.int .i64 0),(.int .i64 0),(.string (mk [])),(.slice none 0 0),(.bool false)]) 64),.s (.st 7 (.t 10) (.t 28))]) (.seq (.ord  [.q (.q 29 (.fa 2 (.t 10))),.q (.l 30 (.ldn 4 (.t 29))),.m (.e 12 (.al (.agg #[(.int .i64 0),(.int .i64 0),(.string (mk [])),(.slice none 0 0)]) 37)),.rc (.q 29 (.fa 2 (.t 10))),.rc (.l 30 (.ldn 4 (.t 29))),.m (.q 11 (.mv (.i 0))),.rc (.q 29 (.fa 2 (.t 10))),.rc (.l 30 (.ldn 4 (.t 29))),.m (.s (.st 4 (.t 12) (.t 30)))]) (.seq (.block 2 (.loop (.seq (.seq (.reg [.q 31 (.fa 0 (.t 12)),.l 32 (.ld1 (.t 31)),.q 33 (.bin .eql true (.t 32) (.i 5))]) (.cond (.t 33) .skip (.exit 2))) (.block 3 (.seq (.reg [.v 34 11,.q 35 (.bin .add true (.t 34) (.i 1)),.v 11 35]) (.reg [.q 36 (.fa 3 (.t 12)),.l 37 (.ld1 (.t 36)),.l 38 (.ia 4 (.t 37) (.i 0)),.l 39 (.ldn 4 (.t 38)),.s (.st 4 (.t 12) (.t 39))])))))) (.seq (.seq (.reg [.q 40 (.fa 0 (.t 12)),.l 41 (.ld1 (.t 40)),.q 42 (.bin .eql true (.t 41) (.i 6))]) (.cond (.t 42) (.reg [.v 43 11,.l 44 (.ld1 (.t 2)),.q 45 (.fa 0 (.t 3)),.l 46 (.ld1 (.t 45)),.q 47 (.fa 2 (.t 12)),.l 48 (.ld1 (.t 47)),.l 49 (.lk .string (.agg #[(.string (mk [])),(.slice none 0 0)]) false (.t 46) (.t 48)),.a 50 (.ca (.t 44) [(.t 49)] [0,1,2,3,4,5]),.q 51 (.bin .add true (.t 43) (.t 50)),.v 11 51]) .skip)) (.reg [.v 52 8,.v 53 11,.q 54 (.mx true (.t 52) (.t 53)),.v 8 54])))))) (.reg [.q 55 (.bin .add true (.t 25) (.i 1)),.v 25 55]))))))) (.seq (.reg [.l 56 (.ld1 (.t 1)),.q 57 (.fa 0 (.t 4)),.l 58 (.ld1 (.t 57)),.v 59 8,.q 60 (.bin .add true (.t 59) (.i 1)),.s (.mu .string (.t 56) (.t 58) (.t 60))]) (.seq (.reg [.v 61 8,.q 62 (.bin .add true (.t 61) (.i 1)),.v 5 62]) .ret)))))
def IL:List RV:=[.mv (.t 5)]
theorem Z9:aY Tryz.prog true ⟨fun r k=>if r=13/\k=7 then .own [0,1,2,3,4,5] else .own [],fun _=>false⟩ Tryz.f126=some (IY,IL):=by kernel_rfl
def pc9:PC:=.seq (.reg [.e 1 (.bx 25 (.t 0)),.q 2 (.mv (.i 0))]) (.seq (.seq (.reg [.q 11 (.fa 0 (.t 1)),.l 12 (.ld1 (.t 11)),.q 13 (.bin .lss true (.t 12) (.i 1)),.v 14 13,⟨some 15,(some (14,false)),.q (.fa 0 (.t 1))⟩,⟨some 16,(some (14,false)),.l (.ld1 (.t 15))⟩,⟨some 17,(some (14,false)),.q (.bin .gtr true (.t 16) (.i 999))⟩,.a 18 (.pick (.t 14) (.k (.bool true)) (.t 17))]) (.cond (.t 18) (.seq (.reg [.q 2 (.mv (.i 4))]) .ret) .skip)) (.seq (.seq (.reg [.l 19 (.ldn 3 (.t 1)),.a 20 (.cq 25 [(.t 19)])]) (.cond (.t 20) (.seq (.reg [.q 2 (.mv (.i 3))]) .ret) .skip)) (.seq (.seq (.reg [.q 3 (.mv (.i 0))]) (.block 0 (.loop (.seq (.seq (.reg [.v 21 3,.q 22 (.fa 1 (.t 1)),.l 23 (.ld1 (.t 22)),.q 24 (.lnL (.t 23)),.q 25 (.bin .lss true (.t 21) (.t 24))]) (.cond (.t 25) .skip (.exit 0))) (.seq (.block 1 (.seq (.reg [.l 28 (.ldn 3 (.t 1)),.v 29 3,.a 30 (.cq 26 [(.t 28),(.t 29)]),.v 4 30]) (.seq (.reg [.v 31 4,.q 32 (.bin .neq true (.t 31) (.i 0))]) (.cond (.t 32) (.seq (.reg [.v 33 4,.v 2 33]) .ret) .skip)))) (.reg [.v 26 3,.q 27 (.bin .add true (.t 26) (.i 1)),.v 3 27])))))) (.seq (.seq (.reg [.q 5 (.mv (.i 0))]) (.block 2 (.loop (.seq (.seq (.reg [.v 34 5,.q 35 (.fa 2 (.t 1)),.l 36 (.ld1 (.t 35)),.q 37 (.lnL (.t 36)),.q 38 (.bin .lss true (.t 34) (.t 37))]) (.cond (.t 38) .skip (.exit 2))) (.seq (.block 3 (.seq (.reg [.l 41 (.ldn 3 (.t 1)),.v 42 5,.a 43 (.cq 27 [(.t 41),(.t 42)]),.v 6 43]) (.seq (.reg [.v 44 6,.q 45 (.bin .neq true (.t 44) (.i 0))]) (.cond (.t 45) (.seq (.reg [.v 46 6,.v 2 46]) .ret) .skip)))) (.reg [.v 39 5,.q 40 (.bin .add true (.t 39) (.i 1)),.v 5 40])))))) (.seq (.seq (.reg [.q 7 (.mv (.i 0))]) (.block 4 (.loop (.seq (.seq (.reg [.v 47 7,.q 48 (.fa 2 (.t 1)),.l 49 (.ld1 (.t 48)),.q 50 (.lnL (.t 49)),.q 51 (.bin .lss true (.t 47) (.t 50))]) (.cond (.t 51) .skip (.exit 4))) (.seq (.block 5 (.seq (.reg [.l 54 (.ldn 3 (.t 1)),.q 55 (.fa 2 (.t 1)),.l 56 (.ld1 (.t 55)),.v 57 7,.l 58 (.ia 2 (.t 56) (.t 57)),.q 59 (.fa 0 (.t 58)),.l 60 (.ld1 (.t 59)),.a 61 (.cl 28 [(.t 54),(.t 60)] []),.v 8 61]) (.seq (.reg [.v 62 8,.v 63 8,.q 64 (.lnL (.t 63)),.q 65 (.fa 2 (.t 1)),.l 66 (.ld1 (.t 65)),.v 67 7,.l 68 (.ia 2 (.t 66) (.t 67)),.q 69 (.fa 0 (.t 68)),.l 70 (.ld1 (.t 69)),.a 71 (.cq 29 [(.t 62),(.t 64),(.t 70)])]) (.cond (.t 71) (.seq (.reg [.q 2 (.mv (.i 19))]) .ret) .skip)))) (.reg [.v 52 7,.q 53 (.bin .add true (.t 52) (.i 1)),.v 7 53])))))) (.seq (.reg [.l 72 (.ldn 3 (.t 1)),.a 73 (.cl 30 [(.t 72)] []),.v 9 73]) (.seq (.seq (.reg [.q 10 (.mv (.i 0))]) (.block 6 (.loop (.seq (.seq (.reg [.v 74 10,.v 75 9,.q 76 (.lnL (.t 75)),.q 77 (.bin .lss true (.t 74) (.t 76))]) (.cond (.t 77) .skip (.exit 6))) (.seq (.block 7 (.seq (.reg [.v 80 9,.v 81 10,.l 82 (.ia 1 (.t 80) (.t 81)),.l 83 (.ld1 (.t 82)),.q 84 (.bin .gtr true (.t 83) (.i 6))]) (.cond (.t 84) (.seq (.reg [.q 2 (.mv (.i 9))]) .ret) .skip))) (.reg [.v 78 10,.q 79 (.bin .add true (.t 78) (.i 1)),.v 10 79])))))) (.seq (.reg [.q 2 (.mv (.i 0))]) .ret))))))))
def rs9:List RV:=[.mv (.t 2)]
theorem ok9:aY Tryz.prog true ⟨fun r k=>if r=3/\k=1 then .q else if r=8/\k=2 then .q else if r=14/\k=2 then .q else if r=21/\k=9 then .q else .own [],fun _=>false⟩ Tryz.f9=some (pc9,rs9):=by kernel_rfl
def E8:PC:=.seq (.reg [.e 1 (.bx 25 (.t 0)),.q 2 (.mv (.k (.bool false)))]) (.seq (.seq (.reg [.q 5 (.fa 1 (.t 1)),.l 6 (.ld1 (.t 5)),.q 7 (.lnL (.t 6)),.q 8 (.bin .gtr true (.t 7) (.i 16)),.v 9 8,⟨some 10,(some (9,false)),.q (.fa 2 (.t 1))⟩,⟨some 11,(some (9,false)),.l (.ld1 (.t 10))⟩,⟨some 12,(some (9,false)),.q (.lnL (.t 11))⟩,⟨some 13,(some (9,false)),.q (.bin .gtr true (.t 12) (.i 16))⟩,.a 14 (.pick (.t 9) (.k (.bool true)) (.t 13)),.v 15 14,⟨some 16,(some (15,false)),.q (.fa 1 (.t 1))⟩,⟨some 17,(some (15,false)),.l (.ld1 (.t 16))⟩,⟨some 18,(some (15,false)),.q (.lnL (.t 17))⟩,⟨some 19,(some (15,false)),.q (.fa 2 (.t 1))⟩,⟨some 20,(some (15,false)),.l (.ld1 (.t 19))⟩,⟨some 21,(some (15,false)),.q (.lnL (.t 20))⟩,⟨some 22,(some (15,false)),.q (.bin .add true (.t 18) (.t 21))⟩,⟨some 23,(some (15,false)),.q (.bin .gtr true (.t 22) (.i 16))⟩,.a 24 (.pick (.t 15) (.k (.bool true)) (.t 23))]) (.cond (.t 24) (.seq (.reg [.q 2 (.mv (.k (.bool true)))]) .ret) .skip)) (.seq (.seq (.reg [.q 3 (.mv (.i 0))]) (.block 0 (.loop (.seq (.seq (.reg [.v 25 3,.q 26 (.fa 1 (.t 1)),.l 27 (.ld1 (.t 26)),.q 28 (.lnL (.t 27)),.q 29 (.bin .lss true (.t 25) (.t 28))]) (.cond (.t 29) .skip (.exit 0))) (.seq (.block 1 (.seq (.reg [.q 32 (.fa 1 (.t 1)),.l 33 (.ld1 (.t 32)),.v 34 3,.l 35 (.ia 3 (.t 33) (.t 34)),.q 36 (.fa 1 (.t 35)),.l 37 (.ld1 (.t 36)),.q 38 (.lnL (.t 37)),.q 39 (.bin .gtr true (.t 38) (.i 16))]) (.cond (.t 39) (.seq (.reg [.q 2 (.mv (.k (.bool true)))]) .ret) .skip))) (.reg [.v 30 3,.q 31 (.bin .add true (.t 30) (.i 1)),.v 3 31])))))) (.seq (.seq (.reg [.q 4 (.mv (.i 0))]) (.block 2 (.loop (.seq (.seq (.reg [.v 40 4,.q 41 (.fa 2 (.t 1)),.l 42 (.ld1 (.t 41)),.q 43 (.lnL (.t 42)),.q 44 (.bin .lss true (.t 40) (.t 43))]) (.cond (.t 44) .skip (.exit 2))) (.seq (.block 3 (.seq (.reg [.q 47 (.fa 2 (.t 1)),.l 48 (.ld1 (.t 47)),.v 49 4,.l 50 (.ia 2 (.t 48) (.t 49)),.q 51 (.fa 1 (.t 50)),.l 52 (.ld1 (.t 51)),.q 53 (.lnL (.t 52)),.q 54 (.bin .gtr true (.t 53) (.i 16))]) (.cond (.t 54) (.seq (.reg [.q 2 (.mv (.k (.bool true)))]) .ret) .skip))) (.reg [.v 45 4,.q 46 (.bin .add true (.t 45) (.i 1)),.v 4 46])))))) (.seq (.reg [.q 2 (.mv (.k (.bool false)))]) .ret))))
def CW:List RV:=[.mv (.t 2)]
theorem aEI:aY Tryz.prog true ⟨fun _ _=>.own [],fun _=>false⟩ Tryz.f25=some (E8,CW):=by kernel_rfl
def VZ:PC:=.seq (.reg [.e 2 (.bx 25 (.t 0)),.q 4 (.mv (.i 0))]) (.seq (.reg [.q 8 (.fa 1 (.t 2)),.l 9 (.ld1 (.t 8)),.v 10 1,.l 11 (.ia 3 (.t 9) (.t 10)),.l 12 (.ldn 3 (.t 11)),.e 5 (.al (.agg #[(.string (mk [])),(.slice none 0 0),(.slice none 0 0)]) 62),.s (.st 3 (.t 5) (.t 12))]) (.seq (.seq (.reg [.q 13 (.fa 0 (.t 5)),.l 14 (.ld1 (.t 13)),.a 15 (.cq 64 [(.t 14)]),.q 16 (.not (.t 15))]) (.cond (.t 16) (.seq (.reg [.q 4 (.mv (.i 5))]) .ret) .skip)) (.seq (.seq (.reg [.q 6 (.mv (.i 0))]) (.block 0 (.loop (.seq (.seq (.reg [.v 17 6,.v 18 1,.q 19 (.bin .lss true (.t 17) (.t 18))]) (.cond (.t 19) .skip (.exit 0))) (.seq (.block 1 (.seq (.reg [.q 22 (.fa 1 (.t 2)),.l 23 (.ld1 (.t 22)),.v 24 6,.l 25 (.ia 3 (.t 23) (.t 24)),.q 26 (.fa 0 (.t 25)),.l 27 (.ld1 (.t 26)),.q 28 (.fa 0 (.t 5)),.l 29 (.ld1 (.t 28)),.q 30 (.bin .eql true (.t 27) (.t 29))]) (.cond (.t 30) (.seq (.reg [.q 4 (.mv (.i 7))]) .ret) .skip))) (.reg [.v 20 6,.q 21 (.bin .add true (.t 20) (.i 1)),.v 6 21])))))) (.seq (.seq (.reg [.q 31 (.fa 1 (.t 5)),.l 32 (.ld1 (.t 31)),.q 33 (.lnL (.t 32)),.q 34 (.bin .eql true (.t 33) (.i 0)),.v 35 34,⟨some 36,(some (35,false)),.q (.fa 2 (.t 5))⟩,⟨some 37,(some (35,false)),.l (.ld1 (.t 36))⟩,⟨some 38,(some (35,false)),.q (.lnL (.t 37))⟩,⟨some 39,(some (35,false)),.q (.fa 1 (.t 5))⟩,⟨some 40,(some (35,false)),.l (.ld1 (.t 39))⟩,⟨some 41,(some (35,false)),.q (.lnL (.t 40))⟩,⟨some 42,(some (35,false)),.q (.bin .neq true (.t 38) (.t 41))⟩,.a 43 (.pick (.t 35) (.k (.bool true)) (.t 42))]) (.cond (.t 43) (.seq (.reg [.q 4 (.mv (.i 2))]) .ret) .skip)) (.seq (.seq (.reg [.q 7 (.mv (.i 0))]) (.block 2 (.loop (.seq (.seq (.reg [.v 44 7,.q 45 (.fa 1 (.t 5)),.l 46 (.ld1 (.t 45)),.q 47 (.lnL (.t 46)),.q 48 (.bin .lss true (.t 44) (.t 47))]) (.cond (.t 48) .skip (.exit 2))) (.seq (.block 3 (.seq (.seq (.reg [.q 51 (.fa 1 (.t 5)),.l 52 (.ld1 (.t 51)),.v 53 7,.l 54 (.ia 1 (.t 52) (.t 53)),.l 55 (.ld1 (.t 54)),.a 56 (.cq 65 [(.t 55)]),.q 57 (.not (.t 56))]) (.cond (.t 57) (.seq (.reg [.q 4 (.mv (.i 5))]) .ret) .skip)) (.seq (.seq (.reg [.q 58 (.fa 1 (.t 5)),.l 59 (.ld1 (.t 58)),.v 60 7,.q 61 (.fa 1 (.t 5)),.l 62 (.ld1 (.t 61)),.v 63 7,.l 64 (.ia 1 (.t 62) (.t 63)),.l 65 (.ld1 (.t 64)),.a 66 (.cq 29 [(.t 59),(.t 60),(.t 65)])]) (.cond (.t 66) (.seq (.reg [.q 4 (.mv (.i 7))]) .ret) .skip)) (.seq (.seq (.reg [.q 67 (.fa 2 (.t 5)),.l 68 (.ld1 (.t 67)),.v 69 7,.l 70 (.ia 1 (.t 68) (.t 69)),.l 71 (.ld1 (.t 70)),.q 72 (.bin .lss true (.t 71) (.i 0)),.v 73 72,⟨some 74,(some (73,false)),.q (.fa 2 (.t 5))⟩,⟨some 75,(some (73,false)),.l (.ld1 (.t 74))⟩,⟨some 76,(some (73,false)),.q (.mv (.t 7))⟩,⟨some 77,(some (73,false)),.l (.ia 1 (.t 75) (.t 76))⟩,⟨some 78,(some (73,false)),.l (.ld1 (.t 77))⟩,⟨some 79,(some (73,false)),.q (.bin .gtr true (.t 78) (.i 127))⟩,.a 80 (.pick (.t 73) (.k (.bool true)) (.t 79))]) (.cond (.t 80) (.seq (.reg [.q 4 (.mv (.i 4))]) .ret) .skip)) (.seq (.reg [.v 81 7,.q 82 (.bin .eql true (.t 81) (.i 0)),.v 83 82,⟨some 84,(some (83,true)),.q (.fa 2 (.t 5))⟩,⟨some 85,(some (83,true)),.l (.ld1 (.t 84))⟩,⟨some 86,(some (83,true)),.q (.mv (.t 7))⟩,⟨some 87,(some (83,true)),.l (.ia 1 (.t 85) (.t 86))⟩,⟨some 88,(some (83,true)),.l (.ld1 (.t 87))⟩,⟨some 89,(some (83,true)),.q (.bin .neq true (.t 88) (.i 0))⟩,.a 90 (.pick (.t 83) (.t 89) (.k (.bool false))),.v 91 90,⟨some 92,(some (91,false)),.q (.mv (.t 7))⟩,⟨some 93,(some (91,false)),.q (.bin .gtr true (.t 92) (.i 0))⟩,⟨some 94,(some (91,false)),.q (.mv (.t 93))⟩,⟨some 95,(some (94,true)),.q (.fa 2 (.t 5))⟩,⟨some 96,(some (94,true)),.l (.ld1 (.t 95))⟩,⟨some 97,(some (94,true)),.q (.mv (.t 7))⟩,⟨some 98,(some (94,true)),.l (.ia 1 (.t 96) (.t 97))⟩,⟨some 99,(some (94,true)),.l (.ld1 (.t 98))⟩,⟨some 100,(some (94,true)),.q (.fa 2 (.t 5))⟩,⟨some 101,(some (94,true)),.l (.ld1 (.t 100))⟩,⟨some 102,(some (94,true)),.q (.mv (.t 7))⟩,⟨some 103,(some (94,true)),.q (.bin .sub true (.t 102) (.i 1))⟩,⟨some 104,(some (94,true)),.l (.ia 1 (.t 101) (.t 103))⟩,⟨some 105,(some (94,true)),.l (.ld1 (.t 104))⟩,⟨some 106,(some (94,true)),.q (.bin .leq true (.t 99) (.t 105))⟩,⟨some 107,(some (91,false)),.pick (.t 94) (.t 106) (.k (.bool false))⟩,.a 108 (.pick (.t 91) (.k (.bool true)) (.t 107))]) (.cond (.t 108) (.seq (.reg [.q 4 (.mv (.i 2))]) .ret) .skip)))))) (.reg [.v 49 7,.q 50 (.bin .add true (.t 49) (.i 1)),.v 7 50])))))) (.seq (.reg [.q 4 (.mv (.i 0))]) .ret))))))
def W9:List RV:=[.mv (.t 4)]
theorem aEO:aY Tryz.prog true ⟨fun r k=>if r=2/\k=2 then .q else if r=14/\k=5 then .q else if r=16/\k=8 then .q else .own [],fun _=>false⟩ Tryz.f26=some (VZ,W9):=by kernel_rfl
def UC:PC:=.seq (.reg [.e 2 (.bx 25 (.t 0)),.q 4 (.mv (.i 0))]) (.seq (.reg [.q 12 (.fa 2 (.t 2)),.l 13 (.ld1 (.t 12)),.v 14 1,.l 15 (.ia 2 (.t 13) (.t 14)),.l 16 (.ldn 2 (.t 15)),.e 5 (.al (.agg #[(.string (mk [])),(.slice none 0 0)]) 56),.s (.st 2 (.t 5) (.t 16))]) (.seq (.seq (.reg [.q 17 (.fa 0 (.t 5)),.l 18 (.ld1 (.t 17)),.a 19 (.cq 64 [(.t 18)]),.q 20 (.not (.t 19))]) (.cond (.t 20) (.seq (.reg [.q 4 (.mv (.i 5))]) .ret) .skip)) (.seq (.seq (.reg [.l 22 (.ldn 3 (.t 2)),.q 23 (.fa 0 (.t 5)),.l 24 (.ld1 (.t 23)),.a 25 (.cl 66 [(.t 22),(.t 24)] []),.v 21 25,.q 26 (.ex (.t 21) 0),.q 27 (.ex (.t 21) 1),.e 6 (.al (.agg #[(.string (mk [])),(.slice none 0 0),(.slice none 0 0)]) 62),.s (.st 3 (.t 6) (.t 26)),.v 7 27]) (.seq (.reg [.v 28 7]) (.cond (.t 28) (.seq (.reg [.q 4 (.mv (.i 7))]) .ret) .skip))) (.seq (.seq (.reg [.q 8 (.mv (.i 0))]) (.block 0 (.loop (.seq (.seq (.reg [.v 29 8,.v 30 1,.q 31 (.bin .lss true (.t 29) (.t 30))]) (.cond (.t 31) .skip (.exit 0))) (.seq (.block 1 (.seq (.reg [.q 34 (.fa 2 (.t 2)),.l 35 (.ld1 (.t 34)),.v 36 8,.l 37 (.ia 2 (.t 35) (.t 36)),.q 38 (.fa 0 (.t 37)),.l 39 (.ld1 (.t 38)),.q 40 (.fa 0 (.t 5)),.l 41 (.ld1 (.t 40)),.q 42 (.bin .eql true (.t 39) (.t 41))]) (.cond (.t 42) (.seq (.reg [.q 4 (.mv (.i 7))]) .ret) .skip))) (.reg [.v 32 8,.q 33 (.bin .add true (.t 32) (.i 1)),.v 8 33])))))) (.seq (.seq (.reg [.q 9 (.mv (.i 0))]) (.block 2 (.loop (.seq (.seq (.reg [.v 43 9,.q 44 (.fa 1 (.t 5)),.l 45 (.ld1 (.t 44)),.q 46 (.lnL (.t 45)),.q 47 (.bin .lss true (.t 43) (.t 46))]) (.cond (.t 47) .skip (.exit 2))) (.seq (.block 3 (.seq (.reg [.q 50 (.fa 1 (.t 5)),.l 51 (.ld1 (.t 50)),.v 52 9,.l 53 (.ia 7 (.t 51) (.t 52)),.l 54 (.ldn 7 (.t 53)),.e 10 (.al (.agg #[(.int .i64 0),(.string (mk [])),(.int .i64 0),(.int .i64 0),(.string (mk [])),(.slice none 0 0),(.bool false)]) 64),.s (.st 7 (.t 10) (.t 54))]) (.seq (.seq (.reg [.q 55 (.fa 0 (.t 10)),.l 56 (.ld1 (.t 55)),.q 57 (.bin .lss true (.t 56) (.i 1)),.v 58 57,⟨some 59,(some (58,false)),.q (.fa 0 (.t 10))⟩,⟨some 60,(some (58,false)),.l (.ld1 (.t 59))⟩,⟨some 61,(some (58,false)),.q (.bin .gtr true (.t 60) (.i 127))⟩,.a 62 (.pick (.t 58) (.k (.bool true)) (.t 61))]) (.cond (.t 62) (.seq (.reg [.q 4 (.mv (.i 4))]) .ret) .skip)) (.seq (.seq (.reg [.v 63 9,.q 64 (.bin .gtr true (.t 63) (.i 0)),.v 65 64,⟨some 66,(some (65,true)),.q (.fa 0 (.t 10))⟩,⟨some 67,(some (65,true)),.l (.ld1 (.t 66))⟩,⟨some 68,(some (65,true)),.q (.fa 1 (.t 5))⟩,⟨some 69,(some (65,true)),.l (.ld1 (.t 68))⟩,⟨some 70,(some (65,true)),.q (.mv (.t 9))⟩,⟨some 71,(some (65,true)),.q (.bin .sub true (.t 70) (.i 1))⟩,⟨some 72,(some (65,true)),.l (.ia 7 (.t 69) (.t 71))⟩,⟨some 73,(some (65,true)),.q (.fa 0 (.t 72))⟩,⟨some 74,(some (65,true)),.l (.ld1 (.t 73))⟩,⟨some 75,(some (65,true)),.q (.bin .leq true (.t 67) (.t 74))⟩,.a 76 (.pick (.t 65) (.t 75) (.k (.bool false)))]) (.cond (.t 76) (.seq (.reg [.q 4 (.mv (.i 2))]) .ret) .skip)) (.seq (.seq (.reg [.q 77 (.fa 1 (.t 10)),.l 78 (.ld1 (.t 77)),.a 79 (.cq 65 [(.t 78)]),.q 80 (.not (.t 79))]) (.cond (.t 80) (.seq (.reg [.q 4 (.mv (.i 5))]) .ret) .skip)) (.seq (.seq (.reg [.q 11 (.mv (.i 0))]) (.block 4 (.loop (.seq (.seq (.reg [.v 81 11,.v 82 9,.q 83 (.bin .lss true (.t 81) (.t 82))]) (.cond (.t 83) .skip (.exit 4))) (.seq (.block 5 (.seq (.reg [.q 86 (.fa 1 (.t 5)),.l 87 (.ld1 (.t 86)),.v 88 11,.l 89 (.ia 7 (.t 87) (.t 88)),.q 90 (.fa 1 (.t 89)),.l 91 (.ld1 (.t 90)),.q 92 (.fa 1 (.t 10)),.l 93 (.ld1 (.t 92)),.q 94 (.bin .eql true (.t 91) (.t 93))]) (.cond (.t 94) (.seq (.reg [.q 4 (.mv (.i 7))]) .ret) .skip))) (.reg [.v 84 11,.q 85 (.bin .add true (.t 84) (.i 1)),.v 11 85])))))) (.seq (.reg [.l 95 (.ldn 3 (.t 2)),.q 96 (.fa 2 (.t 10)),.l 97 (.ldn 4 (.t 96)),.a 98 (.cq 67 [(.t 95),(.t 97)]),.q 99 (.not (.t 98))]) (.cond (.t 99) (.seq (.reg [.q 4 (.mv (.i 13))]) .ret) .skip)))))))) (.reg [.v 48 9,.q 49 (.bin .add true (.t 48) (.i 1)),.v 9 49])))))) (.seq (.reg [.q 4 (.mv (.i 0))]) .ret))))))
def XY:List RV:=[.mv (.t 4)]
theorem aCP:aY Tryz.prog true ⟨fun r k=>if r=2/\k=2 then .q else if r=20/\k=2 then .q else if r=27/\k=3 then .q else .own [],fun _=>false⟩ Tryz.f27=some (UC,XY):=by kernel_rfl
def U4:PC:=.seq (.reg [.e 2 (.bx 25 (.t 0)),.q 4 (.mv (.k (.slice none 0 0)))]) (.seq (.reg [.q 5 (.mv (.k (.slice none 0 0)))]) (.seq (.reg [.v 13 1,.e 14 (.bsl 9 1 [(.t 13)]),.v 6 14]) (.seq (.seq (.reg [.q 7 (.mv (.i 0))]) (.block 0 (.loop (.seq (.seq (.reg [.v 15 7,.v 16 6,.q 17 (.lnL (.t 16)),.q 18 (.bin .lss true (.t 15) (.t 17))]) (.cond (.t 18) .skip (.exit 0))) (.seq (.block 1 (.seq (.ord  [.q (.l 22 (.ldn 3 (.t 2))),.q (.v 23 6),.q (.v 24 7),.q (.l 25 (.ia 1 (.t 23) (.t 24))),.q (.l 26 (.ld1 (.t 25))),.m (.a 27 (.cl 68 [(.t 22),(.t 26)] [])),.q (.v 21 27),.q (.q 28 (.ex (.t 21) 0)),.q (.q 29 (.ex (.t 21) 1)),.m (.e 8 (.al (.agg #[(.string (mk [])),(.slice none 0 0)]) 56)),.rc (.v 21 27),.rc (.q 28 (.ex (.t 21) 0)),.rc (.q 29 (.ex (.t 21) 1)),.m (.s (.st 2 (.t 8) (.t 28))),.rc (.q 29 (.ex (.t 21) 1)),.m (.v 9 29)]) (.seq (.reg [.q 10 (.mv (.i 0))]) (.block 2 (.loop (.seq (.seq (.reg [.v 30 10,.q 31 (.fa 1 (.t 8)),.l 32 (.ld1 (.t 31)),.q 33 (.lnL (.t 32)),.q 34 (.bin .lss true (.t 30) (.t 33))]) (.cond (.t 34) .skip (.exit 2))) (.seq (.block 3 (.seq (.reg [.q 37 (.fa 1 (.t 8)),.l 38 (.ld1 (.t 37)),.v 39 10,.l 40 (.ia 7 (.t 38) (.t 39)),.q 41 (.fa 2 (.t 40)),.l 42 (.ldn 4 (.t 41)),.a 43 (.cl 69 [(.t 42)] []),.v 11 43]) (.seq (.reg [.q 12 (.mv (.i 0))]) (.block 4 (.loop (.seq (.seq (.reg [.v 44 12,.v 45 11,.q 46 (.lnL (.t 45)),.q 47 (.bin .lss true (.t 44) (.t 46))]) (.cond (.t 47) .skip (.exit 4))) (.seq (.block 5 (.seq (.reg [.v 50 5,.v 51 5,.q 52 (.lnL (.t 51)),.v 53 11,.v 54 12,.l 55 (.ia 1 (.t 53) (.t 54)),.l 56 (.ld1 (.t 55)),.a 57 (.cq 29 [(.t 50),(.t 52),(.t 56)]),.q 58 (.not (.t 57))]) (.cond (.t 58) (.seq (.reg [.v 59 5,.v 60 11,.v 61 12,.l 62 (.ia 1 (.t 60) (.t 61)),.l 63 (.ld1 (.t 62)),.a 64 (.cl 70 [(.t 59),(.t 63)] []),.v 5 64]) (.reg [.v 65 6,.v 66 11,.v 67 12,.l 68 (.ia 1 (.t 66) (.t 67)),.l 69 (.ld1 (.t 68)),.e 70 (.bsl 9 1 [(.t 69)]),.e 71 (.ap 9 1 16 (.t 65) (.t 70)),.v 6 71])) .skip))) (.reg [.v 48 12,.q 49 (.bin .add true (.t 48) (.i 1)),.v 12 49])))))))) (.reg [.v 35 10,.q 36 (.bin .add true (.t 35) (.i 1)),.v 10 36])))))))) (.reg [.v 19 7,.q 20 (.bin .add true (.t 19) (.i 1)),.v 7 20])))))) (.seq (.reg [.v 72 5,.v 4 72]) .ret))))
def U7:List RV:=[.mv (.t 4)]
theorem aCC:aY Tryz.prog true ⟨fun r k=>if r=14/\k=7 then .q else .own [],fun _=>false⟩ Tryz.f28=some (U4,U7):=by kernel_rfl
def XH:PC:=.seq (.reg [.q 6 (.mv (.k (.bool false)))]) (.seq (.seq (.reg [.q 7 (.mv (.i 0))]) (.block 0 (.loop (.seq (.seq (.reg [.v 8 7,.v 9 1,.q 10 (.bin .lss true (.t 8) (.t 9)),.v 11 10,⟨some 12,(some (11,true)),.q (.mv (.t 7))⟩,⟨some 13,(some (11,true)),.q (.mv (.t 0))⟩,⟨some 14,(some (11,true)),.q (.lnL (.t 13))⟩,⟨some 15,(some (11,true)),.q (.bin .lss true (.t 12) (.t 14))⟩,.a 16 (.pick (.t 11) (.t 15) (.k (.bool false)))]) (.cond (.t 16) .skip (.exit 0))) (.seq (.block 1 (.seq (.reg [.v 19 0,.v 20 7,.l 21 (.ia 1 (.t 19) (.t 20)),.l 22 (.ld1 (.t 21)),.v 23 2,.q 24 (.bin .eql true (.t 22) (.t 23))]) (.cond (.t 24) (.seq (.reg [.q 6 (.mv (.k (.bool true)))]) .ret) .skip))) (.reg [.v 17 7,.q 18 (.bin .add true (.t 17) (.i 1)),.v 7 18])))))) (.seq (.reg [.q 6 (.mv (.k (.bool false)))]) .ret))
def VW:List RV:=[.mv (.t 6)]
theorem aC2:aY Tryz.prog true ⟨fun _ _=>.own [],fun _=>false⟩ Tryz.f29=some (XH,VW):=by kernel_rfl
def V2:PC:=.seq (.reg [.e 1 (.bx 25 (.t 0)),.q 2 (.mv (.k (.slice none 0 0)))]) (.seq (.reg [.q 8 (.fa 2 (.t 1)),.l 9 (.ld1 (.t 8)),.q 10 (.lnL (.t 9)),.e 11 (.mk 3 1 8 [(.int .i64 0)] (.t 10) (.t 10)),.v 3 11]) (.seq (.seq (.reg [.q 4 (.mv (.i 0))]) (.block 0 (.loop (.seq (.seq (.reg [.v 12 4,.q 13 (.fa 2 (.t 1)),.l 14 (.ld1 (.t 13)),.q 15 (.lnL (.t 14)),.q 16 (.bin .leq true (.t 12) (.t 15))]) (.cond (.t 16) .skip (.exit 0))) (.seq (.block 1 (.seq (.reg [.q 5 (.mv (.i 0))]) (.block 2 (.loop (.seq (.seq (.reg [.v 19 5,.q 20 (.fa 2 (.t 1)),.l 21 (.ld1 (.t 20)),.q 22 (.lnL (.t 21)),.q 23 (.bin .lss true (.t 19) (.t 22))]) (.cond (.t 23) .skip (.exit 2))) (.seq (.block 3 (.seq (.reg [.q 6 (.mv (.i 0))]) (.seq (.seq (.reg [.q 7 (.mv (.i 0))]) (.block 4 (.loop (.seq (.seq (.reg [.v 26 7,.q 27 (.fa 2 (.t 1)),.l 28 (.ld1 (.t 27)),.v 29 5,.l 30 (.ia 2 (.t 28) (.t 29)),.q 31 (.fa 1 (.t 30)),.l 32 (.ld1 (.t 31)),.q 33 (.lnL (.t 32)),.q 34 (.bin .lss true (.t 26) (.t 33))]) (.cond (.t 34) .skip (.exit 4))) (.seq (.block 5 (.reg [.v 37 6,.l 38 (.ldn 3 (.t 1)),.v 39 3,.q 40 (.fa 2 (.t 1)),.l 41 (.ld1 (.t 40)),.v 42 5,.l 43 (.ia 2 (.t 41) (.t 42)),.q 44 (.fa 1 (.t 43)),.l 45 (.ld1 (.t 44)),.v 46 7,.l 47 (.ia 7 (.t 45) (.t 46)),.q 48 (.fa 2 (.t 47)),.l 49 (.ldn 4 (.t 48)),.a 50 (.cq 71 [(.t 38),(.t 39),(.t 49)]),.q 51 (.mx true (.t 37) (.t 50)),.v 6 51])) (.reg [.v 35 7,.q 36 (.bin .add true (.t 35) (.i 1)),.v 7 36])))))) (.reg [.v 52 3,.v 53 5,.v 54 6,.q 55 (.bin .add true (.i 1) (.t 54)),.l 56 (.ia 1 (.t 52) (.t 53)),.s (.st 1 (.t 56) (.t 55))])))) (.reg [.v 24 5,.q 25 (.bin .add true (.t 24) (.i 1)),.v 5 25]))))))) (.reg [.v 17 4,.q 18 (.bin .add true (.t 17) (.i 1)),.v 4 18])))))) (.seq (.reg [.v 57 3,.v 2 57]) .ret)))
def TE:List RV:=[.mv (.t 2)]
theorem aBP:aY Tryz.prog true ⟨fun r k=>if r=12/\k=13 then .q else .own [],fun _=>false⟩ Tryz.f30=some (V2,TE):=by kernel_rfl
def MT:PC:=.seq (.reg [.q 2 (.mv (.k (.bool false)))]) (.seq (.reg [.v 3 0,.a 4 (.cq 65 [(.t 3)]),.v 5 4,⟨some 6,(some (5,true)),.q (.mv (.t 0))⟩,⟨some 7,(some (5,true)),.ix (.t 6) (.i 0)⟩,⟨some 8,(some (5,true)),.q (.bin .geq true (.t 7) (.k (.int .u8 65)))⟩,.a 9 (.pick (.t 5) (.t 8) (.k (.bool false))),.v 10 9,⟨some 11,(some (10,true)),.q (.mv (.t 0))⟩,⟨some 12,(some (10,true)),.ix (.t 11) (.i 0)⟩,⟨some 13,(some (10,true)),.q (.bin .leq true (.t 12) (.k (.int .u8 90)))⟩,.a 14 (.pick (.t 10) (.t 13) (.k (.bool false))),.v 2 14]) .ret)
def MX:List RV:=[.mv (.t 2)]
theorem aB0:aY Tryz.prog true ⟨fun r k=>if r=1/\k=1 then .q else .own [],fun _=>false⟩ Tryz.f64=some (MT,MX):=by kernel_rfl
def TY:PC:=.seq (.reg [.q 2 (.mv (.k (.bool false)))]) (.seq (.seq (.reg [.v 6 0,.q 7 (.lnS (.t 6)),.q 8 (.bin .lss true (.t 7) (.i 1)),.v 9 8,⟨some 10,(some (9,false)),.q (.mv (.t 0))⟩,⟨some 11,(some (9,false)),.q (.lnS (.t 10))⟩,⟨some 12,(some (9,false)),.q (.bin .gtr true (.t 11) (.i 16))⟩,.a 13 (.pick (.t 9) (.k (.bool true)) (.t 12))]) (.cond (.t 13) (.seq (.reg [.q 2 (.mv (.k (.bool false)))]) .ret) .skip)) (.seq (.seq (.reg [.q 3 (.mv (.i 0))]) (.block 0 (.loop (.seq (.seq (.reg [.v 14 3,.v 15 0,.q 16 (.lnS (.t 15)),.q 17 (.bin .lss true (.t 14) (.t 16))]) (.cond (.t 17) .skip (.exit 0))) (.seq (.block 1 (.seq (.reg [.v 20 0,.v 21 3,.a 22 (.ix (.t 20) (.t 21)),.q 23 (.bin .geq true (.t 22) (.k (.int .u8 97))),.v 24 23,⟨some 25,(some (24,true)),.q (.mv (.t 0))⟩,⟨some 26,(some (24,true)),.q (.mv (.t 3))⟩,⟨some 27,(some (24,true)),.ix (.t 25) (.t 26)⟩,⟨some 28,(some (24,true)),.q (.bin .leq true (.t 27) (.k (.int .u8 122)))⟩,.a 29 (.pick (.t 24) (.t 28) (.k (.bool false))),.v 30 29,⟨some 31,(some (30,false)),.q (.mv (.t 0))⟩,⟨some 32,(some (30,false)),.q (.mv (.t 3))⟩,⟨some 33,(some (30,false)),.ix (.t 31) (.t 32)⟩,⟨some 34,(some (30,false)),.q (.bin .geq true (.t 33) (.k (.int .u8 65)))⟩,⟨some 35,(some (30,false)),.q (.mv (.t 34))⟩,⟨some 36,(some (35,true)),.q (.mv (.t 0))⟩,⟨some 37,(some (35,true)),.q (.mv (.t 3))⟩,⟨some 38,(some (35,true)),.ix (.t 36) (.t 37)⟩,⟨some 39,(some (35,true)),.q (.bin .leq true (.t 38) (.k (.int .u8 90)))⟩,⟨some 40,(some (30,false)),.pick (.t 35) (.t 39) (.k (.bool false))⟩,.a 41 (.pick (.t 30) (.k (.bool true)) (.t 40)),.v 4 41]) (.seq (.reg [.v 42 0,.v 43 3,.a 44 (.ix (.t 42) (.t 43)),.q 45 (.bin .eql true (.t 44) (.k (.int .u8 95))),.v 46 45,⟨some 47,(some (46,false)),.q (.mv (.t 0))⟩,⟨some 48,(some (46,false)),.q (.mv (.t 3))⟩,⟨some 49,(some (46,false)),.ix (.t 47) (.t 48)⟩,⟨some 50,(some (46,false)),.q (.bin .geq true (.t 49) (.k (.int .u8 48)))⟩,⟨some 51,(some (46,false)),.q (.mv (.t 50))⟩,⟨some 52,(some (51,true)),.q (.mv (.t 0))⟩,⟨some 53,(some (51,true)),.q (.mv (.t 3))⟩,⟨some 54,(some (51,true)),.ix (.t 52) (.t 53)⟩,⟨some 55,(some (51,true)),.q (.bin .leq true (.t 54) (.k (.int .u8 57)))⟩,⟨some 56,(some (46,false)),.pick (.t 51) (.t 55) (.k (.bool false))⟩,.a 57 (.pick (.t 46) (.k (.bool true)) (.t 56)),.v 5 57]) (.seq (.reg [.v 58 4,.q 59 (.not (.t 58)),.v 60 59,⟨some 61,(some (60,true)),.q (.mv (.t 3))⟩,⟨some 62,(some (60,true)),.q (.bin .eql true (.t 61) (.i 0))⟩,⟨some 63,(some (60,true)),.q (.mv (.t 62))⟩,⟨some 64,(some (63,false)),.q (.mv (.t 5))⟩,⟨some 65,(some (63,false)),.q (.not (.t 64))⟩,⟨some 66,(some (60,true)),.pick (.t 63) (.k (.bool true)) (.t 65)⟩,.a 67 (.pick (.t 60) (.t 66) (.k (.bool false)))]) (.cond (.t 67) (.seq (.reg [.q 2 (.mv (.k (.bool false)))]) .ret) .skip))))) (.reg [.v 18 3,.q 19 (.bin .add true (.t 18) (.i 1)),.v 3 19])))))) (.seq (.reg [.q 2 (.mv (.k (.bool true)))]) .ret)))
def TI:List RV:=[.mv (.t 2)]
theorem aC1:aY Tryz.prog true ⟨fun _ _=>.own [],fun _=>false⟩ Tryz.f65=some (TY,TI):=by kernel_rfl
def W8:PC:=.seq (.reg [.e 2 (.bx 25 (.t 0)),.e 4 (.al (.agg #[(.string (mk [])),(.slice none 0 0),(.slice none 0 0)]) 62),.q 5 (.mv (.k (.bool false)))]) (.seq (.seq (.reg [.q 6 (.mv (.i 0))]) (.block 0 (.loop (.seq (.seq (.reg [.v 7 6,.q 8 (.fa 1 (.t 2)),.l 9 (.ld1 (.t 8)),.q 10 (.lnL (.t 9)),.q 11 (.bin .lss true (.t 7) (.t 10))]) (.cond (.t 11) .skip (.exit 0))) (.seq (.block 1 (.seq (.reg [.q 14 (.fa 1 (.t 2)),.l 15 (.ld1 (.t 14)),.v 16 6,.l 17 (.ia 3 (.t 15) (.t 16)),.q 18 (.fa 0 (.t 17)),.l 19 (.ld1 (.t 18)),.v 20 1,.q 21 (.bin .eql true (.t 19) (.t 20))]) (.cond (.t 21) (.seq (.reg [.q 22 (.fa 1 (.t 2)),.l 23 (.ld1 (.t 22)),.v 24 6,.l 25 (.ia 3 (.t 23) (.t 24)),.l 26 (.ldn 3 (.t 25)),.s (.st 3 (.t 4) (.t 26)),.q 5 (.mv (.k (.bool true)))]) .ret) .skip))) (.reg [.v 12 6,.q 13 (.bin .add true (.t 12) (.i 1)),.v 6 13])))))) (.seq (.reg [.q 27 (.bd [(.string (mk [])),(.slice none 0 0),(.slice none 0 0)] []),.s (.st 3 (.t 4) (.t 27)),.q 5 (.mv (.k (.bool false)))]) .ret))
def UW:List RV:=[.ld (.ldn 3 (.t 4)),.mv (.t 5)]
theorem aC3:aY Tryz.prog true ⟨fun _ _=>.own [],fun _=>false⟩ Tryz.f66=some (W8,UW):=by kernel_rfl
def oB:PC:=.seq (.reg [.e 2 (.bx 25 (.t 0)),.e 3 (.bx 37 (.t 1)),.q 4 (.mv (.k (.bool false)))]) (.seq (.seq (.reg [.q 9 (.fa 0 (.t 3)),.l 10 (.ld1 (.t 9))]) (.block 0 (.seq (.reg [.q 12 (.bin .eql true (.t 10) (.i 1)),.v 11 12]) (.cond (.t 11) (.seq (.reg [.q 13 (.fa 1 (.t 3)),.l 14 (.ld1 (.t 13)),.q 15 (.bin .eql true (.t 14) (.i 0)),.v 16 15,⟨some 17,(some (16,true)),.q (.fa 2 (.t 3))⟩,⟨some 18,(some (16,true)),.l (.ld1 (.t 17))⟩,⟨some 19,(some (16,true)),.q (.bin .eql true (.t 18) (.k (.string (mk []))))⟩,.a 20 (.pick (.t 16) (.t 19) (.k (.bool false))),.v 21 20,⟨some 22,(some (21,true)),.l (.ldn 4 (.t 3))⟩,⟨some 23,(some (21,true)),.cq 110 [(.t 22)]⟩,.a 24 (.pick (.t 21) (.t 23) (.k (.bool false))),.v 4 24]) .ret) (.seq (.reg [.q 26 (.bin .eql true (.t 10) (.i 2)),.v 25 26]) (.cond (.t 25) (.seq (.reg [.q 27 (.fa 1 (.t 3)),.l 28 (.ld1 (.t 27)),.q 29 (.bin .eql true (.t 28) (.i 8)),.v 30 29,⟨some 31,(some (30,false)),.q (.fa 1 (.t 3))⟩,⟨some 32,(some (30,false)),.l (.ld1 (.t 31))⟩,⟨some 33,(some (30,false)),.q (.bin .eql true (.t 32) (.i 16))⟩,.a 34 (.pick (.t 30) (.k (.bool true)) (.t 33)),.v 35 34,⟨some 36,(some (35,false)),.q (.fa 1 (.t 3))⟩,⟨some 37,(some (35,false)),.l (.ld1 (.t 36))⟩,⟨some 38,(some (35,false)),.q (.bin .eql true (.t 37) (.i 32))⟩,.a 39 (.pick (.t 35) (.k (.bool true)) (.t 38)),.v 40 39,⟨some 41,(some (40,false)),.q (.fa 1 (.t 3))⟩,⟨some 42,(some (40,false)),.l (.ld1 (.t 41))⟩,⟨some 43,(some (40,false)),.q (.bin .eql true (.t 42) (.i 64))⟩,.a 44 (.pick (.t 40) (.k (.bool true)) (.t 43)),.v 45 44,⟨some 46,(some (45,true)),.q (.fa 2 (.t 3))⟩,⟨some 47,(some (45,true)),.l (.ld1 (.t 46))⟩,⟨some 48,(some (45,true)),.q (.bin .eql true (.t 47) (.k (.string (mk []))))⟩,.a 49 (.pick (.t 45) (.t 48) (.k (.bool false))),.v 50 49,⟨some 51,(some (50,true)),.l (.ldn 4 (.t 3))⟩,⟨some 52,(some (50,true)),.cq 110 [(.t 51)]⟩,.a 53 (.pick (.t 50) (.t 52) (.k (.bool false))),.v 4 53]) .ret) (.seq (.reg [.q 55 (.bin .eql true (.t 10) (.i 3)),.v 54 55]) (.cond (.t 54) (.seq (.reg [.q 56 (.fa 1 (.t 3)),.l 57 (.ld1 (.t 56)),.q 58 (.bin .eql true (.t 57) (.i 8)),.v 59 58,⟨some 60,(some (59,false)),.q (.fa 1 (.t 3))⟩,⟨some 61,(some (59,false)),.l (.ld1 (.t 60))⟩,⟨some 62,(some (59,false)),.q (.bin .eql true (.t 61) (.i 16))⟩,.a 63 (.pick (.t 59) (.k (.bool true)) (.t 62)),.v 64 63,⟨some 65,(some (64,false)),.q (.fa 1 (.t 3))⟩,⟨some 66,(some (64,false)),.l (.ld1 (.t 65))⟩,⟨some 67,(some (64,false)),.q (.bin .eql true (.t 66) (.i 32))⟩,.a 68 (.pick (.t 64) (.k (.bool true)) (.t 67)),.v 69 68,⟨some 70,(some (69,true)),.q (.fa 2 (.t 3))⟩,⟨some 71,(some (69,true)),.l (.ld1 (.t 70))⟩,⟨some 72,(some (69,true)),.q (.bin .eql true (.t 71) (.k (.string (mk []))))⟩,.a 73 (.pick (.t 69) (.t 72) (.k (.bool false))),.v 74 73,⟨some 75,(some (74,true)),.l (.ldn 4 (.t 3))⟩,⟨some 76,(some (74,true)),.cq 110 [(.t 75)]⟩,.a 77 (.pick (.t 74) (.t 76) (.k (.bool false))),.v 4 77]) .ret) (.seq (.reg [.q 79 (.bin .eql true (.t 10) (.i 4)),.v 78 79]) (.cond (.t 78) (.seq (.reg [.q 80 (.fa 1 (.t 3)),.l 81 (.ld1 (.t 80)),.q 82 (.bin .geq true (.t 81) (.i 1)),.v 83 82,⟨some 84,(some (83,true)),.q (.fa 1 (.t 3))⟩,⟨some 85,(some (83,true)),.l (.ld1 (.t 84))⟩,⟨some 86,(some (83,true)),.q (.bin .leq true (.t 85) (.i 2000))⟩,.a 87 (.pick (.t 83) (.t 86) (.k (.bool false))),.v 88 87,⟨some 89,(some (88,true)),.q (.fa 2 (.t 3))⟩,⟨some 90,(some (88,true)),.l (.ld1 (.t 89))⟩,⟨some 91,(some (88,true)),.q (.bin .eql true (.t 90) (.k (.string (mk []))))⟩,.a 92 (.pick (.t 88) (.t 91) (.k (.bool false))),.v 93 92,⟨some 94,(some (93,true)),.l (.ldn 4 (.t 3))⟩,⟨some 95,(some (93,true)),.cq 110 [(.t 94)]⟩,.a 96 (.pick (.t 93) (.t 95) (.k (.bool false))),.v 4 96]) .ret) (.seq (.reg [.q 98 (.bin .eql true (.t 10) (.i 5)),.v 97 98]) (.cond (.t 97) (.seq (.reg [.q 99 (.fa 1 (.t 3)),.l 100 (.ld1 (.t 99)),.q 101 (.bin .geq true (.t 100) (.i 1)),.v 102 101,⟨some 103,(some (102,true)),.q (.fa 1 (.t 3))⟩,⟨some 104,(some (102,true)),.l (.ld1 (.t 103))⟩,⟨some 105,(some (102,true)),.q (.bin .leq true (.t 104) (.i 32))⟩,.a 106 (.pick (.t 102) (.t 105) (.k (.bool false))),.v 107 106,⟨some 108,(some (107,true)),.q (.fa 2 (.t 3))⟩,⟨some 109,(some (107,true)),.l (.ld1 (.t 108))⟩,⟨some 110,(some (107,true)),.q (.bin .eql true (.t 109) (.k (.string (mk []))))⟩,.a 111 (.pick (.t 107) (.t 110) (.k (.bool false))),.v 112 111,⟨some 113,(some (112,true)),.q (.fa 3 (.t 3))⟩,⟨some 114,(some (112,true)),.l (.ld1 (.t 113))⟩,⟨some 115,(some (112,true)),.q (.lnL (.t 114))⟩,⟨some 116,(some (112,true)),.q (.bin .eql true (.t 115) (.i 1))⟩,.a 117 (.pick (.t 112) (.t 116) (.k (.bool false))),.v 118 117,⟨some 119,(some (118,true)),.l (.ldn 3 (.t 2))⟩,⟨some 120,(some (118,true)),.q (.fa 3 (.t 3))⟩,⟨some 121,(some (118,true)),.l (.ld1 (.t 120))⟩,⟨some 122,(some (118,true)),.l (.ia 4 (.t 121) (.i 0))⟩,⟨some 123,(some (118,true)),.l (.ldn 4 (.t 122))⟩,⟨some 124,(some (118,true)),.cq 67 [(.t 119),(.t 123)]⟩,.a 125 (.pick (.t 118) (.t 124) (.k (.bool false))),.v 4 125]) .ret) (.seq (.reg [.q 127 (.bin .eql true (.t 10) (.i 6)),.v 126 127]) (.cond (.t 126) (.seq (.reg [.l 129 (.ldn 3 (.t 2)),.q 130 (.fa 2 (.t 3)),.l 131 (.ld1 (.t 130)),.a 132 (.cl 68 [(.t 129),(.t 131)] []),.v 128 132,.q 133 (.ex (.t 128) 0),.q 134 (.ex (.t 128) 1),.e 5 (.al (.agg #[(.string (mk [])),(.slice none 0 0)]) 56),.s (.st 2 (.t 5) (.t 133)),.v 6 134]) (.seq (.reg [.v 135 6,.v 136 135,⟨some 137,(some (136,true)),.q (.fa 1 (.t 3))⟩,⟨some 138,(some (136,true)),.l (.ld1 (.t 137))⟩,⟨some 139,(some (136,true)),.q (.bin .eql true (.t 138) (.i 0))⟩,.a 140 (.pick (.t 136) (.t 139) (.k (.bool false))),.v 141 140,⟨some 142,(some (141,true)),.l (.ldn 4 (.t 3))⟩,⟨some 143,(some (141,true)),.cq 110 [(.t 142)]⟩,.a 144 (.pick (.t 141) (.t 143) (.k (.bool false))),.v 4 144]) .ret)) (.seq (.reg [.q 146 (.bin .eql true (.t 10) (.i 7)),.v 145 146]) (.cond (.t 145) (.seq (.reg [.l 148 (.ldn 3 (.t 2)),.q 149 (.fa 2 (.t 3)),.l 150 (.ld1 (.t 149)),.a 151 (.cl 66 [(.t 148),(.t 150)] []),.v 147 151,.q 152 (.ex (.t 147) 0),.q 153 (.ex (.t 147) 1),.e 7 (.al (.agg #[(.string (mk [])),(.slice none 0 0),(.slice none 0 0)]) 62),.s (.st 3 (.t 7) (.t 152)),.v 8 153]) (.seq (.reg [.v 154 8,.v 155 154,⟨some 156,(some (155,true)),.q (.fa 1 (.t 3))⟩,⟨some 157,(some (155,true)),.l (.ld1 (.t 156))⟩,⟨some 158,(some (155,true)),.q (.bin .eql true (.t 157) (.i 0))⟩,.a 159 (.pick (.t 155) (.t 158) (.k (.bool false))),.v 160 159,⟨some 161,(some (160,true)),.l (.ldn 4 (.t 3))⟩,⟨some 162,(some (160,true)),.cq 110 [(.t 161)]⟩,.a 163 (.pick (.t 160) (.t 162) (.k (.bool false))),.v 4 163]) .ret)) .skip)))))))))))))))) (.seq (.reg [.q 4 (.mv (.k (.bool false)))]) .ret))
def oL:List RV:=[.mv (.t 4)]
theorem aD5:aY Tryz.prog true ⟨fun r k=>if r=3/\k=10 then .q else if r=5/\k=25 then .q else if r=7/\k=20 then .q else if r=9/\k=15 then .q else if r=11/\k=25 then .q else if r=14/\k=8 then .q else if r=17/\k=8 then .q else .own [],fun _=>false⟩ Tryz.f67=some (oB,oL):=by kernel_rfl
def W1:PC:=.seq (.reg [.e 2 (.bx 25 (.t 0)),.e 4 (.al (.agg #[(.string (mk [])),(.slice none 0 0)]) 56),.q 5 (.mv (.k (.bool false)))]) (.seq (.seq (.reg [.q 6 (.mv (.i 0))]) (.block 0 (.loop (.seq (.seq (.reg [.v 7 6,.q 8 (.fa 2 (.t 2)),.l 9 (.ld1 (.t 8)),.q 10 (.lnL (.t 9)),.q 11 (.bin .lss true (.t 7) (.t 10))]) (.cond (.t 11) .skip (.exit 0))) (.seq (.block 1 (.seq (.reg [.q 14 (.fa 2 (.t 2)),.l 15 (.ld1 (.t 14)),.v 16 6,.l 17 (.ia 2 (.t 15) (.t 16)),.q 18 (.fa 0 (.t 17)),.l 19 (.ld1 (.t 18)),.v 20 1,.q 21 (.bin .eql true (.t 19) (.t 20))]) (.cond (.t 21) (.seq (.reg [.q 22 (.fa 2 (.t 2)),.l 23 (.ld1 (.t 22)),.v 24 6,.l 25 (.ia 2 (.t 23) (.t 24)),.l 26 (.ldn 2 (.t 25)),.s (.st 2 (.t 4) (.t 26)),.q 5 (.mv (.k (.bool true)))]) .ret) .skip))) (.reg [.v 12 6,.q 13 (.bin .add true (.t 12) (.i 1)),.v 6 13])))))) (.seq (.reg [.q 27 (.bd [(.string (mk [])),(.slice none 0 0)] []),.s (.st 2 (.t 4) (.t 27)),.q 5 (.mv (.k (.bool false)))]) .ret))
def V0:List RV:=[.ld (.ldn 2 (.t 4)),.mv (.t 5)]
theorem aDV:aY Tryz.prog true ⟨fun _ _=>.own [],fun _=>false⟩ Tryz.f68=some (W1,V0):=by kernel_rfl
def V5:PC:=.seq (.reg [.e 1 (.bx 37 (.t 0)),.q 2 (.mv (.k (.slice none 0 0)))]) (.seq (.seq (.reg [.q 5 (.fa 0 (.t 1)),.l 6 (.ld1 (.t 5)),.q 7 (.bin .eql true (.t 6) (.i 6)),.v 8 7,⟨some 9,(some (8,false)),.q (.fa 0 (.t 1))⟩,⟨some 10,(some (8,false)),.l (.ld1 (.t 9))⟩,⟨some 11,(some (8,false)),.q (.bin .eql true (.t 10) (.i 7))⟩,.a 12 (.pick (.t 8) (.k (.bool true)) (.t 11))]) (.cond (.t 12) (.seq (.reg [.q 13 (.fa 2 (.t 1)),.l 14 (.ld1 (.t 13)),.e 15 (.bsl 9 1 [(.t 14)]),.v 2 15]) .ret) .skip)) (.seq (.reg [.q 3 (.mv (.k (.slice none 0 0)))]) (.seq (.seq (.reg [.q 4 (.mv (.i 0))]) (.block 0 (.loop (.seq (.seq (.reg [.v 16 4,.q 17 (.fa 3 (.t 1)),.l 18 (.ld1 (.t 17)),.q 19 (.lnL (.t 18)),.q 20 (.bin .lss true (.t 16) (.t 19))]) (.cond (.t 20) .skip (.exit 0))) (.seq (.block 1 (.reg [.v 23 3,.q 24 (.fa 3 (.t 1)),.l 25 (.ld1 (.t 24)),.v 26 4,.l 27 (.ia 4 (.t 25) (.t 26)),.l 28 (.ldn 4 (.t 27)),.a 29 (.cl 69 [(.t 28)] []),.e 30 (.ap 9 1 16 (.t 23) (.t 29)),.v 3 30])) (.reg [.v 21 4,.q 22 (.bin .add true (.t 21) (.i 1)),.v 4 22])))))) (.seq (.reg [.v 31 3,.v 2 31]) .ret))))
def SP:List RV:=[.mv (.t 2)]
theorem aDX:aY Tryz.prog true ⟨fun _ _=>.own [],fun _=>false⟩ Tryz.f69=some (V5,SP):=by kernel_rfl
def XX:PC:=.seq (.reg [.q 4 (.mv (.k (.slice none 0 0)))]) (.seq (.reg [.q 5 (.mv (.k (.slice none 0 0)))]) (.seq (.reg [.q 6 (.mv (.k (.bool false)))]) (.seq (.seq (.reg [.q 7 (.mv (.i 0))]) (.block 0 (.loop (.seq (.seq (.reg [.v 8 7,.v 9 0,.q 10 (.lnL (.t 9)),.q 11 (.bin .lss true (.t 8) (.t 10))]) (.cond (.t 11) .skip (.exit 0))) (.seq (.block 1 (.seq (.seq (.reg [.v 14 6,.q 15 (.not (.t 14)),.v 16 15,⟨some 17,(some (16,true)),.q (.mv (.t 1))⟩,⟨some 18,(some (16,true)),.q (.mv (.t 0))⟩,⟨some 19,(some (16,true)),.q (.mv (.t 7))⟩,⟨some 20,(some (16,true)),.l (.ia 1 (.t 18) (.t 19))⟩,⟨some 21,(some (16,true)),.l (.ld1 (.t 20))⟩,⟨some 22,(some (16,true)),.q (.bin .leq true (.t 17) (.t 21))⟩,.a 23 (.pick (.t 16) (.t 22) (.k (.bool false)))]) (.cond (.t 23) (.seq (.reg [.q 6 (.mv (.k (.bool true)))]) (.seq (.reg [.v 24 1,.v 25 0,.v 26 7,.l 27 (.ia 1 (.t 25) (.t 26)),.l 28 (.ld1 (.t 27)),.q 29 (.bin .lss true (.t 24) (.t 28))]) (.cond (.t 29) (.reg [.v 30 5,.v 31 1,.e 32 (.bsl 9 1 [(.t 31)]),.e 33 (.ap 9 1 16 (.t 30) (.t 32)),.v 5 33]) .skip))) .skip)) (.reg [.v 34 5,.v 35 0,.v 36 7,.l 37 (.ia 1 (.t 35) (.t 36)),.l 38 (.ld1 (.t 37)),.e 39 (.bsl 9 1 [(.t 38)]),.e 40 (.ap 9 1 16 (.t 34) (.t 39)),.v 5 40]))) (.reg [.v 12 7,.q 13 (.bin .add true (.t 12) (.i 1)),.v 7 13])))))) (.seq (.seq (.reg [.v 41 6,.q 42 (.not (.t 41))]) (.cond (.t 42) (.reg [.v 43 5,.v 44 1,.e 45 (.bsl 9 1 [(.t 44)]),.e 46 (.ap 9 1 16 (.t 43) (.t 45)),.v 5 46]) .skip)) (.seq (.reg [.v 47 5,.v 4 47]) .ret)))))
def WZ:List RV:=[.mv (.t 4)]
theorem aCM:aY Tryz.prog true ⟨fun _ _=>.own [],fun _=>false⟩ Tryz.f70=some (XX,WZ):=by kernel_rfl
def W0:PC:=.seq (.reg [.e 3 (.bx 25 (.t 0)),.e 5 (.bx 37 (.t 2)),.q 6 (.mv (.i 0))]) (.seq (.seq (.reg [.q 8 (.fa 0 (.t 5)),.l 9 (.ld1 (.t 8)),.q 10 (.bin .eql true (.t 9) (.i 5)),.v 11 10,⟨some 12,(some (11,true)),.q (.fa 3 (.t 5))⟩,⟨some 13,(some (11,true)),.l (.ld1 (.t 12))⟩,⟨some 14,(some (11,true)),.q (.lnL (.t 13))⟩,⟨some 15,(some (11,true)),.q (.bin .gtr true (.t 14) (.i 0))⟩,.a 16 (.pick (.t 11) (.t 15) (.k (.bool false)))]) (.cond (.t 16) (.seq (.reg [.l 17 (.ldn 3 (.t 3)),.v 18 1,.q 19 (.fa 3 (.t 5)),.l 20 (.ld1 (.t 19)),.l 21 (.ia 4 (.t 20) (.i 0)),.l 22 (.ldn 4 (.t 21)),.a 23 (.cq 71 [(.t 17),(.t 18),(.t 22)]),.q 24 (.bin .add true (.i 1) (.t 23)),.v 6 24]) .ret) .skip)) (.seq (.seq (.reg [.q 7 (.mv (.i 0))]) (.block 0 (.loop (.seq (.seq (.reg [.v 25 7,.q 26 (.fa 2 (.t 3)),.l 27 (.ld1 (.t 26)),.q 28 (.lnL (.t 27)),.q 29 (.bin .lss true (.t 25) (.t 28))]) (.cond (.t 29) .skip (.exit 0))) (.seq (.block 1 (.seq (.reg [.q 32 (.fa 0 (.t 5)),.l 33 (.ld1 (.t 32)),.q 34 (.bin .eql true (.t 33) (.i 6)),.v 35 34,⟨some 36,(some (35,true)),.q (.fa 2 (.t 3))⟩,⟨some 37,(some (35,true)),.l (.ld1 (.t 36))⟩,⟨some 38,(some (35,true)),.q (.mv (.t 7))⟩,⟨some 39,(some (35,true)),.l (.ia 2 (.t 37) (.t 38))⟩,⟨some 40,(some (35,true)),.q (.fa 0 (.t 39))⟩,⟨some 41,(some (35,true)),.l (.ld1 (.t 40))⟩,⟨some 42,(some (35,true)),.q (.fa 2 (.t 5))⟩,⟨some 43,(some (35,true)),.l (.ld1 (.t 42))⟩,⟨some 44,(some (35,true)),.q (.bin .eql true (.t 41) (.t 43))⟩,.a 45 (.pick (.t 35) (.t 44) (.k (.bool false)))]) (.cond (.t 45) (.seq (.reg [.v 46 1,.v 47 7,.l 48 (.ia 1 (.t 46) (.t 47)),.l 49 (.ld1 (.t 48)),.v 6 49]) .ret) .skip))) (.reg [.v 30 7,.q 31 (.bin .add true (.t 30) (.i 1)),.v 7 31])))))) (.seq (.reg [.q 6 (.mv (.i 0))]) .ret)))
def WA:List RV:=[.mv (.t 6)]
theorem aEJ:aY Tryz.prog true ⟨fun r k=>if r=2/\k=6 then .q else .own [],fun _=>false⟩ Tryz.f71=some (W0,WA):=by kernel_rfl
def OF:PC:=.seq (.reg [.e 1 (.bx 37 (.t 0)),.q 2 (.mv (.k (.bool false)))]) (.seq (.reg [.q 3 (.fa 3 (.t 1)),.l 4 (.ld1 (.t 3)),.q 5 (.lnL (.t 4)),.q 6 (.bin .eql true (.t 5) (.i 0)),.v 2 6]) .ret)
def PI:List RV:=[.mv (.t 2)]
theorem YJ:aY Tryz.prog true ⟨fun _ _=>.own [],fun _=>false⟩ Tryz.f110=some (OF,PI):=by kernel_rfl
def bQ (c:Int):Bool:=(decide (97<=c) && decide (c<=122)) || (decide (65<=c) && decide (c<=90))
def iP (c:Int):Bool:=decide (48<=c) && decide (c<=57)
def iR (c:Int):Bool:=bQ c || iP c || c == 95
def XC:List UInt8:=[123,125,40,41,91,93,58,59,44,61,46,63,33,38,124,64]
def eS (c:Int):Bool:=decide (c.toNat.toUInt8 ∈ XC)
def dJ (c:Int):Int:=
 bif c == 32 || c == 9 || c == 10 then 1 else bif c == 35 then 2 else bif bQ c then 3 else bif iP c then 4
 else bif c == 45 then 5 else bif c == 95 then 6 else bif c == 34 then 7 else bif eS c then 8 else 0
theorem BC (l:List UInt8) (c:UInt8):decide (0<=Lib.indexByte l c)=decide (c ∈ l):=by
 rw [decide_eq_decide]
 induction l with
 | nil=>simp [Lib.indexByte]
 | cons b l ih=>
  have hge:=Lib.indexByte_ge l c
  rw [Lib.indexByte]
  by_cases hb:b=c
  · simp [hb]
  · have hb2:(b == c)=false:=by simpa using hb
    have hb3:¬ c=b:=fun e=>hb e.symm
    simp only [hb2,Bool.false_eq_true,if_false,List.mem_cons,hb3,false_or,<-ih]
    by_cases h:Lib.indexByte l c=-1
    · simp [h]
    · have h2:(Lib.indexByte l c == -1)=false:=by simpa using h
      simp only [h2,Bool.false_eq_true,if_false]; omega
def dF (l:List UInt8) (at':Nat):Int:=match l[at']? with | some c=>dJ c.toNat | none=>-1
def c8:Bool->List UInt8->Nat
 | _,[]=>0
 | r,c :: l=>
  let r':=bif c == 35 then true else bif c == 10 then false else r
  bif !r' && !(c == 32 || c == 9 || c == 10) then 0 else c8 r' l + 1
def b6 (l:List UInt8) (a:Nat):Nat:=a + c8 false (l.drop a)
theorem vS:∀ r l,c8 r l<=l.length
 | _,[]=>Nat.le_refl 0
 | r,c :: l=>by
  simp only [c8,List.length_cons]
  cases hh:(!(bif c == 35 then true else bif c == 10 then false else r) && !(c == 32 || c == 9 || c == 10))
  · have:=vS (bif c == 35 then true else bif c == 10 then false else r) l; simp only [aG]; omega
  · simp
theorem p9 {l:List UInt8} {a:Nat} (h:a<=l.length):b6 l a<=l.length:=by
 have:=vS false (l.drop a); simp at this; unfold b6; omega
theorem TW (c:UInt8):(dJ c.toNat == 1)=(c == 32 || c == 9 || c == 10):=by
 have:=cU (p:=fun c=>(dJ c.toNat == 1) == (c == 32 || c == 9 || c == 10)) (by decide +kernel) c
 simpa using this
theorem NT (c:UInt8):(dJ c.toNat == 2)=(c == 35):=by
 have:=cU (p:=fun c=>(dJ c.toNat == 2) == (c == 35)) (by decide +kernel) c
 simpa using this
theorem AL (l:List UInt8):c8 true l=bif decide (0<=Lib.indexByte l 10) then (Lib.indexByte l 10).toNat + c8 false (l.drop (Lib.indexByte l 10).toNat) else l.length:=by
 induction l with
 | nil=>rfl
 | cons c l ih=>
  have hge:=Lib.indexByte_ge l 10
  by_cases hc:c=10
  · subst hc; simp [c8,Lib.indexByte]
  · have hc2:(c == 10)=false:=by simpa using hc
    have e:c8 true (c :: l)=c8 true l + 1:=by simp [c8,hc2]
    rw [e,ih,Lib.indexByte]
    simp only [hc2,Bool.false_eq_true,if_false]
    by_cases h:Lib.indexByte l 10=-1
    · simp [h]
    · have h2:(Lib.indexByte l 10 == -1)=false:=by simpa using h
      have h3:0<=Lib.indexByte l 10:=by omega
      have h4:0<=Lib.indexByte l 10 + 1:=by omega
      have h5:(Lib.indexByte l 10 + 1).toNat=(Lib.indexByte l 10).toNat + 1:=by omega
      simp only [h2,Bool.false_eq_true,if_false,h3,h4,decide_true,aM,h5,List.drop_succ_cons]
      omega
theorem fP {l:List UInt8} {i:Nat} {c:UInt8} (h:l[i]? = some c):l.drop i=c :: l.drop (i + 1):=by
 obtain ⟨hi,rfl⟩:=a8.1 h
 exact List.drop_eq_getElem_cons hi
theorem JA {l:List UInt8} {i:Nat} {c:UInt8} (h:l[i]? = some c) (hc:(c == 32 || c == 9 || c == 10)=true):b6 l (i + 1)=b6 l i:=by
 have h35:(c == 35)=false:=by
  have:=cU (p:=fun c=>!(c == 32 || c == 9 || c == 10) || !(c == 35)) (by decide +kernel) c
  simp only [hc,Bool.not_true,Bool.false_or] at this; simpa using this
 simp only [b6,fP h,c8,h35,hc,aG,Bool.not_true,Bool.and_false,Bool.cond_self]
 omega
theorem x3 {l:List UInt8} {i:Nat} {c:UInt8} (h:l[i]? = some c) (hc:(c == 32 || c == 9 || c == 10)=false) (h35:(c == 35)=false):b6 l i=i:=by
 simp only [b6,fP h,c8,h35,hc,aG,Bool.not_false,Bool.and_true,Bool.cond_self]
 simp
theorem D4 {l:List UInt8} {i:Nat} (h:l.length<=i):b6 l i=i:=by
 simp [b6,List.drop_eq_nil_iff.2 h,c8]
theorem zX {l:List UInt8} {i:Nat} (h:l[i]? = some 35):b6 l i=i + c8 true (l.drop i):=by
 simp [b6,fP h,c8]
theorem I9 {l:List UInt8} {i:Nat} (h:l[i]? = some 35) (h0:0<=Lib.indexByte (l.drop i) 10) :
 ∃ n:Nat,Lib.indexByte (l.drop i) 10=n/\0 < n/\i + n<=l.length/\b6 l (i + n)=b6 l i:=by
 obtain ⟨n,hn⟩:∃ n:Nat,Lib.indexByte (l.drop i) 10=n:=⟨_,(Int.toNat_of_nonneg h0).symm⟩
 have h1:c8 true (l.drop i)=n + c8 false ((l.drop i).drop n):=by rw [AL,hn]; simp
 have hp:0 < n:=by
  rcases Nat.eq_zero_or_pos n with h2 | h2
  · subst h2; rw [fP h,Lib.indexByte] at hn
    exfalso
    have hge:=Lib.indexByte_ge (l.drop (i + 1)) 10
    simp at hn
    split at hn<;>omega
  · exact h2
 have hle:=vS true (l.drop i)
 simp only [List.length_drop] at hle
 have hi:i < l.length:=(a8.1 h).1
 refine ⟨n,hn,hp,by omega,?_⟩
 rw [zX h,h1,b6,List.drop_drop]
 omega
theorem IB {l:List UInt8} {i:Nat} (h:l[i]? = some 35) (h0:¬ 0<=Lib.indexByte (l.drop i) 10):b6 l l.length=b6 l i:=by
 have hi:i < l.length:=(a8.1 h).1
 rw [zX h,AL,D4 (Nat.le_refl _)]
 simp [h0]; omega
inductive R where
 | ok (k:Int) (t:List UInt8) (n:Int) (z:Nat)
 | bad (e t:Int)
def aW (c:UInt8):Bool:=iR c.toNat
def b8 (p:UInt8->Bool) (l:List UInt8) (a:Nat):Nat:=a + ((l.drop a).takeWhile p).length
theorem lV {p:UInt8->Bool} {l:List UInt8} {a:Nat} {c:UInt8} (h:l[a]? = some c) (hp:p c=true):b8 p l (a + 1)=b8 p l a:=by
 simp only [b8,fP h,List.takeWhile_cons,hp,if_true,List.length_cons]; omega
theorem AC {p:UInt8->Bool} {l:List UInt8} {a:Nat} (h:∀ c,l[a]? = some c->p c=false):b8 p l a=a:=by
 rcases bG a l.length with h1 | h1
 · have h2:=getD_some (l:=l) 0 h1
   simp only [b8,fP h2,List.takeWhile_cons,h _ h2,Bool.false_eq_true,if_false,List.length_nil,Nat.add_zero]
 · simp [b8,List.drop_eq_nil_iff.2 h1]
theorem tP {p:UInt8->Bool} {l:List UInt8} {a:Nat} (h:a<=l.length):b8 p l a<=l.length:=by
 have:=(List.takeWhile_sublist (l:=l.drop a) p).length_le
 simp at this; unfold b8; omega
theorem zO {p:UInt8->Bool} {l:List UInt8} {a:Nat}:a<=b8 p l a:=by unfold b8; omega
theorem DP (c:UInt8):(dJ c.toNat == 3 || dJ c.toNat == 4 || dJ c.toNat == 6)=aW c:=by
 have:=cU (p:=fun c=>(dJ c.toNat == 3 || dJ c.toNat == 4 || dJ c.toNat == 6) == aW c) (by decide +kernel) c
 simpa using this
theorem VT (c:UInt8):(dJ c.toNat == 5)=(c == 45):=by
 have:=cU (p:=fun c=>(dJ c.toNat == 5) == (c == 45)) (by decide +kernel) c
 simpa using this
def jS (l:List UInt8) (a:Nat):R:=
 let z:=b8 aW l a
 bif decide (16 < z - a) then .bad 3 a else bif l[z]? == some 45 then .bad 2 z else .ok 1 ((l.take z).drop a) 0 z
theorem vF {p:UInt8->Bool} {l:List UInt8} {a:Nat}:∀ c ∈ (l.take (b8 p l a)).drop a,p c=true:=by
 intro c hc
 have e:(l.take (b8 p l a)).drop a=(l.drop a).takeWhile p:=by
  rw [List.drop_take,b8,Nat.add_sub_cancel_left]
  exact (List.prefix_iff_eq_take.1 (List.takeWhile_prefix p)).symm
 rw [e] at hc
 have:∀ (q:List UInt8),∀ c ∈ q.takeWhile p,p c=true:=by
  intro q
  induction q with
  | nil=>intro c h; simp at h
  | cons x q ih=>
   intro c h
   rw [List.takeWhile_cons] at h
   split at h
   · rcases List.mem_cons.1 h with rfl | h
     · assumption
     · exact ih c h
   · simp at h
 exact this _ c hc
def bV (c:UInt8):Bool:=iP c.toNat
theorem aB6 (c:UInt8):(dJ c.toNat == 4)=bV c:=by
 have:=cU (p:=fun c=>(dJ c.toNat == 4) == bV c) (by decide +kernel) c
 simpa using this
theorem V9 (c:UInt8):(dJ c.toNat == 3 || dJ c.toNat == 6 || dJ c.toNat == 5)=((aW c && !bV c) || c == 45):=by
 have:=cU (p:=fun c=>(dJ c.toNat == 3 || dJ c.toNat == 6 || dJ c.toNat == 5) == ((aW c && !bV c) || c == 45)) (by decide +kernel) c
 simpa using this
theorem lE {c:UInt8}:bV c=true ↔ 48<=c.toNat/\c.toNat<=57:=by
 simp [bV,iP]; omega
def valL (lim:Nat):Nat->List UInt8->Option Nat
 | n,[]=>some n
 | n,c :: l=>if (lim - (c.toNat - 48)) / 10 < n then none else valL lim (10 * n + (c.toNat - 48)) l
def dY (neg:Bool):Nat:=bif neg then 9223372036854775808 else 9223372036854775807
theorem G2 {lim:Nat} (h:9<=lim):∀ {l:List UInt8} {n m:Nat},n<=lim->(∀ c ∈ l,bV c=true)->valL lim n l=some m->m<=lim
 | [],n,m,hn,_,hv=>by simp [valL] at hv; omega
 | c :: l,n,m,hn,hd,hv=>by
  simp only [valL] at hv
  split at hv
  · cases hv
  · rename_i hc
    have:=lE.1 (hd c (by simp))
    exact G2 h (by omega) (fun x hx=>hd x (by simp [hx])) hv
def signed (neg:Bool) (n:Nat):Int:=bif neg then -n else n
def pO (l:List UInt8) (i:Nat):Bool:=match l[i]? with | some c=>aW c && !bV c || c == 45 | none=>false
def kN (l:List UInt8) (a:Nat):R:=
 let neg:=l[a]? == some 45
 let f:=bif neg then a + 1 else a
 let z:=b8 bV l f
 let s:=(l.take z).drop f
 bif s == [] || (s[0]? == some 48 && (decide (1 < s.length) || neg)) then .bad 2 a
 else match valL (dY neg) 0 s with
  | none=>.bad 4 a
  | some n=>bif pO l z then .bad 2 z else .ok 2 [] (signed neg n) z
end Go.Proofs.YtgogpogophflhaaGreatDoor
namespace Go.Proofs
open Go.Shelf
def Tryz.lays137_ren:Go.Shelf.Ren:=⟨fun | 137=>119 | 217=>131 | 266=>139 | n=>n,fun | 9=>9 | 5=>5 | 3=>3 | n=>n,fun | n=>n⟩
theorem Tryz.lays137:Go.Proofs.Lays.n137 Tryz.prog Tryz.lays137_ren:={
 mixed:=by kernel_rfl
 f137:=Tryz.func119.trans (congrArg some (by kernel_rfl))
 f217:=Tryz.func131.trans (congrArg some (by kernel_rfl))
 f266:=Tryz.func139.trans (congrArg some (by kernel_rfl))
 t3:=Tryz.underlying3
 a3:=Tryz.isAgg3
 z3:=Tryz.sizeOf3
 v3:=Tryz.zeroValue3
 t5:=Tryz.underlying5
 a5:=Tryz.isAgg5
 z5:=Tryz.sizeOf5
 v5:=Tryz.zeroValue5
 t9:=Tryz.underlying9
 a9:=Tryz.isAgg9
 z9:=Tryz.sizeOf9
 v9:=Tryz.zeroValue9 }
open Go.RowKit in
theorem Tryz.strings_IndexByte (s:ByteArray) (c:Int) (w:World) :
 Calls Tryz.prog 119 #[.string s,.int .u8 c] w fun e w'=>e=.returned (.int .i64 (Lib.indexByte s.data.toList c.toNat.toUInt8))/\w'=w:=Any.strings_IndexByte Tryz.lays137 s c w
end Go.Proofs
namespace Go.Proofs.YtgogpogophflhaaGreatDoor
open Go.W
abbrev iA (k:IntKind) (n:Int):A:=.c1 (.vl (.int k n))
abbrev bA (b:Bool):A:=.c1 (.vl (.bool b))
abbrev tA (b:ByteArray):A:=.c1 (.vl (.string b))
def sU:List S->Prop:=fun xs=>match xs with
 | [.va (.c1 (.vl (.int .u8 c)))]=>0<=c/\c<=255
 | _=>False
theorem nH {xs:List S} (h:sU xs):∃ c:Int,xs=[iS .u8 c]/\0<=c/\c<=255:=by
 unfold sU at h
 split at h
 · exact ⟨_,rfl,h⟩
 · exact h.elim
def FO (f:Int->Value):List S->A:=fun xs=>match xs with
 | [.va (.c1 (.vl (.int .u8 c)))]=>.c1 (.vl (f c))
 | _=>.gs []
def ER (f:Int->Value):Fun:=⟨sU,FO f,fun xs h=>by obtain ⟨c,rfl,_⟩:=nH h; trivial⟩
theorem I6 {f:Int->Value}:∀ xs H K,(ER f).sp xs H K->xs.length=1:=fun xs H K h=>by obtain ⟨c,rfl,_⟩:=nH h.1.1; rfl
attribute [go_sem] ER sU FO
def BI:List S->Prop:=fun xs=>match xs with | [.va (.c1 (.vl (.string _))),.va (.c1 (.vl (.int .u8 _)))]=>True | _=>False
def O7:List S->A:=fun xs=>match xs with | [.va (.c1 (.vl (.string s))),.va (.c1 (.vl (.int .u8 c)))]=>iA .i64 (Lib.indexByte (bl s) c.toNat.toUInt8) | _=>.gs []
theorem x5 {xs:List S} (h:BI xs):∃ s c,xs=[tS s,iS .u8 c]:=by
 unfold BI at h
 split at h
 · exact ⟨_,_,rfl⟩
 · exact h.elim
def fnIb:Fun:=⟨BI,O7,fun xs h=>by obtain ⟨s,c,rfl⟩:=x5 h; trivial⟩
attribute [go_sem] fnIb BI O7
theorem mIb:Meets Tryz.prog 119 fnIb.sp:=by
 refine ⟨by kernel_rfl,?_⟩
 rintro xs vs E ro w K hl hrel hr ⟨⟨h,hE⟩,hK⟩ _
 obtain ⟨s,c,rfl⟩:=x5 h
 obtain ⟨v0,v1,rfl⟩:∃ v0 v1,vs=[v0,v1]:=by
  match vs,hl with
  | [v0,v1],_=>exact ⟨v0,v1,rfl⟩
 have h0:v0=.string s:=hrel 0 _ _ rfl rfl
 have h1:v1=.int .u8 c:=hrel 1 _ _ rfl rfl
 subst h0 h1
 refine (Tryz.strings_IndexByte s c w).mono ?_
 rintro e w' ⟨rfl,rfl⟩
 exact ⟨iS .i64 _,_,E,ro,rfl,rfl,by rw [hE]; exact hK,hr⟩
theorem LE:Meets Tryz.prog 108 (ER fun c=>.int .i64 (dJ c)).sp:=by
 refine aI Tryz.func108 ZQ 1 (by rw [Tryz.ntmps108]; decide) (aL mIb (aC _)) I6 ?_
 rintro xs H K ⟨⟨h,rfl⟩,hK⟩
 obtain ⟨c,rfl,hc⟩:=nH h
 simp -dsimp (maxSteps:=9^6) only [go_sem,OM,OO] at hK ⊢
 have hw:IntKind.i32.wrap c=c:=uT (by simp [inr,IntKind.min,IntKind.max,IntKind.signed,IntKind.bits]; omega)
 rw [hw]
 have hm:decide (0<=Lib.indexByte [123,125,40,41,91,93,58,59,44,61,46,63,33,38,124,64] c.toNat.toUInt8)=eS c:=BC _ _
 rw [hm]
 clear hm hw
 refine ⟨fun h1=>d9 hK ?_,fun h1=>⟨fun h2=>d9 hK ?_,fun h2=>⟨by simp; omega,fun h3=>d9 hK ?_,fun h3=>⟨fun h4=>d9 hK ?_,fun h4=>⟨fun h5=>d9 hK ?_,fun h5=>⟨fun h6=>d9 hK ?_,fun h6=>⟨fun h7=>d9 hK ?_,fun h7=>⟨fun h8=>d9 hK ?_,fun h8=>d9 hK ?_⟩⟩⟩⟩⟩⟩⟩⟩
 all_goals simp only [dJ,bQ,iP, *,aM,aG]
abbrev kA (s:ByteArray) (a e t:Int):B:=.cells [.vl (.string s),.vl (.int .i64 a),.vl (.int .i64 e),.vl (.int .i64 t)] 92
def sC (pre:List UInt8->Int->Int->Int->Prop) (post:ByteArray->Int->Int->Int->(S->Hp->Prop)->Prop):W.Spec:=fun xs H K=>
 match xs,H with
 | [.va (.c1 (.pt 0 0))],[.cells [.vl (.string s),.vl (.int .i64 a),.vl (.int .i64 e),.vl (.int .i64 t)] 92]=>
  (0<=a/\a<=(bl s).length/\(bl s).length<=4000/\pre (bl s) a e t)/\post s a e t K
 | _,_=>False
theorem l5 {pre:List UInt8->Int->Int->Int->Prop} {post:ByteArray->Int->Int->Int->(S->Hp->Prop)->Prop} {xs:List S} {H:Hp} {K:S->Hp->Prop} (h:sC pre post xs H K) :
 ∃ s a e t,xs=[.va (.c1 (.pt 0 0))]/\H=[kA s a e t]/\0<=a/\a<=(bl s).length/\(bl s).length<=4000/\pre (bl s) a e t/\post s a e t K:=by
 unfold sC at h
 split at h
 · obtain ⟨⟨h1,h2,h3,h4⟩,h5⟩:=h
   exact ⟨_,_,_,_,rfl,rfl,h1,h2,h3,h4,h5⟩
 · exact h.elim
theorem vW {pre:List UInt8->Int->Int->Int->Prop} {post:ByteArray->Int->Int->Int->(S->Hp->Prop)->Prop}:∀ xs H K,sC pre post xs H K->xs.length=1:=fun xs H K h=>by
 obtain ⟨s,a,e,t,rfl,_⟩:=l5 h; rfl
attribute [go_sem ↓] sC
def xU:W.Spec:=sC (fun _ _ _ _=>True) fun s a e t K=>K (iS .i64 (dF (bl s) a.toNat)) [kA s a e t]
attribute [go_sem ↓] xU kA
theorem BK:Meets Tryz.prog 101 xU:=by
 refine aI Tryz.func101 YS 1 (by rw [Tryz.ntmps101]; decide) (aL LE (aC _)) vW ?_
 intro xs H K h
 obtain ⟨s,a,e,t,rfl,rfl,h0,h1,h2,-,hK⟩:=l5 h
 simp -dsimp only [go_sem,OX,N1] at hK ⊢
 refine ⟨fun h3=>d9 hK ?_,fun h3=>⟨by simp at h3; omega,fun c hc=>⟨⟨by omega,by have:=c.toNat_lt; omega⟩,d9 hK ?_⟩⟩⟩
 · simp at h3; rw [dF,List.getElem?_eq_none (by omega)]
 · rw [dF,hc]
def oS:W.Spec:=fun xs H K=>
 match xs,H with
 | [.va (.c1 (.pt 0 0)),.va (.c1 (.vl (.int .i64 x))),.va (.c1 (.vl (.int .i64 y)))],[.cells [.vl (.string s),.vl (.int .i64 a),.vl (.int .i64 e),.vl (.int .i64 t)] 92]=>
  K (.tu []) [kA s a (bif e == 0 then x else e) (bif e == 0 then y else t)]
 | _,_=>False
attribute [go_sem ↓] oS
theorem uE {xs:List S} {H:Hp} {K:S->Hp->Prop} (h:oS xs H K) :
 ∃ x y s a e t,xs=[.va (.c1 (.pt 0 0)),iS .i64 x,iS .i64 y]/\H=[kA s a e t]/\K (.tu []) [kA s a (bif e == 0 then x else e) (bif e == 0 then y else t)]:=by
 unfold oS at h
 split at h
 · exact ⟨_,_,_,_,_,_,rfl,rfl,h⟩
 · exact h.elim
theorem BV:Meets Tryz.prog 105 oS:=by
 refine aI Tryz.func105 ZN 3 (by rw [Tryz.ntmps105]; decide) (aC _) (fun xs H K h=>by obtain ⟨x,y,s,a,e,t,rfl,_⟩:=uE h; rfl) ?_
 intro xs H K h
 obtain ⟨x,y,s,a,e,t,rfl,rfl,hK⟩:=uE h
 simp -dsimp only [go_sem,PV,NZ] at hK ⊢
 refine ⟨fun h1=>?_,fun h1=>?_⟩
 · simp only [h1,aM] at hK; exact .done hK
 · simp only [h1,aG] at hK; exact .done hK
def LB:W.Spec:=sC (fun _ _ _ _=>True) fun s a e t K=>K (.tu []) [kA s (b6 (bl s) a.toNat) e t]
attribute [go_sem ↓] LB
theorem aAM:Meets Tryz.prog 100 LB:=by
 refine aI Tryz.func100 YW 1 (by rw [Tryz.ntmps100]; decide) (aD BK (aL mIb (aC _))) vW ?_
 intro xs H K h
 obtain ⟨s,a,e,t,rfl,rfl,h0,h1,h2,-,hK⟩:=l5 h
 simp -dsimp only [go_sem,P7,OG] at hK ⊢
 refine aT (α:=Nat) (fun i=>[(0,.va (.c1 (.pt 0 0)))]) (fun i=>[kA s i e t]) (fun i=>i<=(bl s).length/\b6 (bl s) i=b6 (bl s) a.toNat) (fun i=>(bl s).length - i) a.toNat 1 ⟨by omega,rfl⟩ ?_ ?_ ?_
 · simp [go_sem]
 · simp [go_sem]; omega
 rintro i ⟨hi,hj⟩
 simp -dsimp only [go_sem]
 have hget:i < (bl s).length->(bl s)[i]? = some ((bl s).getD i 0):=getD_some 0
 refine ⟨fun h3=>⟨⟨by omega,by omega,h2⟩,fun h4=>⟨by omega,aB (i + 1) 1 ?_ ?_ ?_ ?_⟩,fun h4=>⟨fun h5=>⟨by omega,fun h6=>?_,fun h6=>?_⟩,fun h5=>?_⟩⟩,fun h3=>?_⟩
 · simp at h3
   have h7:=hget h3
   rw [dF,h7] at h4
   simp only [TW] at h4
   exact ⟨h3,by rw [JA h7 h4,hj]⟩
 · simp at h3; omega
 · simp [go_sem]
 · simp [go_sem]
 · simp at h3
   have h7:=hget h3
   rw [dF,h7] at h5
   simp only [NT,beq_iff_eq] at h5
   rw [h5] at h7
   have h8:Nat.toUInt8 10=(10:UInt8):=rfl
   rw [h8] at h6 ⊢
   obtain ⟨n,hn,hp,hl,hs⟩:=I9 h7 (by simpa using h6)
   rw [hn]
   refine ⟨by omega,aB (i + n) 1 ⟨hl,by rw [hs,hj]⟩ (by omega) (by simp [go_sem]) (by simp [go_sem])⟩
 · simp at h3
   have h7:=hget h3
   rw [dF,h7] at h5
   simp only [NT,beq_iff_eq] at h5
   rw [h5] at h7
   have h8:Nat.toUInt8 10=(10:UInt8):=rfl
   rw [h8] at h6
   exact aB (bl s).length 1 ⟨Nat.le_refl _,by rw [IB h7 (by simpa using h6),hj]⟩ (by omega) (by simp [go_sem]) (by simp [go_sem])
 · simp at h3
   have h7:=hget h3
   rw [dF,h7] at h5 h4
   simp only [NT,TW] at h5 h4
   rw [<-hj,x3 h7 h4 h5] at hK
   exact .done hK
 · simp at h3
   rw [<-hj,D4 h3] at hK
   exact .done hK
abbrev qT (k:Int) (x:ByteArray) (n a:Int):List C:=[.vl (.int .i64 k),.vl (.string x),.vl (.int .i64 n),.vl (.int .i64 a)]
def kD (s:ByteArray) (a:Int) (K:S->Hp->Prop):R->Prop
 | .ok k x n z=>K (.va (.gs (qT k (mk x) n a))) [kA s z 0 0]
 | .bad e' t'=>∀ k x n y (z:Nat),K (.va (.gs (qT k x n y))) [kA s z e' t']
def Tok:R->Int->Int->ByteArray->Int->Int->Int->Int->Int->Prop
 | .ok k x n z,a,k',x',n',a',z',e',t'=>k'=k/\x'=mk x/\n'=n/\a'=a/\z'=z/\e'=0/\t'=0
 | .bad e t,_,_,_,_,_,z',e',t'=>e'=e/\t'=t/\∃ z:Nat,z'=z
def HV (s:ByteArray) (a:Int) (K:S->Hp->Prop) (r:R):Prop:=∀ k x n y z e t,Tok r a k x n y z e t->K (.va (.gs (qT k x n y))) [kA s z e t]
theorem SV {s:ByteArray} {a:Int} {K:S->Hp->Prop} {r:R} (h:HV s a K r):kD s a K r:=by
 cases r with
 | ok k x n z=>exact h _ _ _ _ _ _ _ ⟨rfl,rfl,rfl,rfl,rfl,rfl,rfl⟩
 | bad e t=>exact fun k x n y z=>h k x n y z e t ⟨rfl,rfl,z,rfl⟩
def tN (pre:List UInt8->Nat->Prop) (f:List UInt8->Nat->R):W.Spec:=sC (fun l a e t=>e=0/\t=0/\pre l a.toNat) fun s a _ _ K=>HV s a K (f (bl s) a.toNat)
theorem mM {pre:List UInt8->Nat->Prop} {f:List UInt8->Nat->R} {xs:List S} {H:Hp} {K:S->Hp->Prop} (h:tN pre f xs H K) :
 ∃ s a,xs=[.va (.c1 (.pt 0 0))]/\H=[kA s a 0 0]/\0<=a/\a<=(bl s).length/\(bl s).length<=4000/\pre (bl s) a.toNat/\kD s a K (f (bl s) a.toNat):=by
 obtain ⟨s,a,e,t,rfl,rfl,h0,h1,h2,⟨rfl,rfl,h3⟩,h4⟩:=l5 h
 exact ⟨_,_,rfl,rfl,h0,h1,h2,h3,SV h4⟩
theorem sQ {pre:List UInt8->Nat->Prop} {f:List UInt8->Nat->R}:∀ xs H K,tN pre f xs H K->xs.length=1:=fun xs H K h=>by
 obtain ⟨s,a,rfl,_⟩:=mM h; rfl
attribute [go_sem ↓] tN qT HV
def LX:W.Spec:=tN (fun _ _=>True) jS
attribute [go_sem ↓] LX
theorem Z0:Meets Tryz.prog 102 LX:=by
 refine aI Tryz.func102 Z4 1 (by rw [Tryz.ntmps102]; decide) (aD BK (aD BV (aC _))) sQ ?_
 intro xs H K h
 obtain ⟨s,a,rfl,rfl,h0,h1,h2,-,hK⟩:=mM h
 simp -dsimp only [go_sem,ON,PH] at hK ⊢
 refine ⟨⟨h0,h1,h2⟩,aT (α:=Nat) (fun i=>[(0,.va (.c1 (.pt 0 0))),(2,.va (.c1 (.pt 1 0))),(3,iS .i64 a),(4,iS .i64 (dF (bl s) i))]) (fun i=>[kA s i 0 0,.cells (qT 0 (mk []) 0 0) 74]) (fun i=>a.toNat<=i/\i<=(bl s).length/\b8 aW (bl s) i=b8 aW (bl s) a.toNat) (fun i=>(bl s).length - i) a.toNat 2 ⟨Nat.le_refl _,by omega,rfl⟩ ?_ ?_ ?_⟩
 · simp -dsimp only [go_sem]
 · simp [go_sem]; omega
 rintro i ⟨hai,hi,hj⟩
 simp -dsimp only [go_sem]
 have hget:i < (bl s).length->(bl s)[i]? = some ((bl s).getD i 0):=getD_some 0
 have hz:(dF (bl s) i == 3 || dF (bl s) i == 4 || dF (bl s) i == 6)=false->b8 aW (bl s) a.toNat=i:=fun h=>by
  rw [<-hj]; exact AC fun c hc=>by rw [dF,hc] at h; simp only [DP] at h; exact h
 have hm:(dF (bl s) i == 5)=((bl s)[i]? == some 45):=by
  unfold dF
  cases hc:(bl s)[i]? with
  | none=>rfl
  | some c=>simp only [VT]; rfl
 refine ⟨fun h3=>?_,fun h3=>?_⟩
 · have hlt:i < (bl s).length:=by
    rcases bG i (bl s).length with h4 | h4
    · exact h4
    · rw [dF,List.getElem?_eq_none h4] at h3; simp at h3
   have h7:=hget hlt
   refine ⟨by omega,⟨by omega,by omega,h2⟩,aB (i + 1) 2 ⟨by omega,hlt,?_⟩ (by omega) ?_ ?_⟩
   · rw [dF,h7] at h3; simp only [DP] at h3
     rw [lV h7 h3,hj]
   · simp -dsimp only [go_sem]; simp [go_sem]
   · simp [go_sem]
 · have hz:=hz h3
   simp only [jS,hz,hm.symm] at hK
   refine ⟨by omega,fun h4=>⟨⟨by omega,by omega,h2⟩,fun h5=>⟨by omega,?_⟩,fun h5=>⟨by omega,?_⟩⟩,fun h4=>⟨⟨by omega,by omega,h2⟩,fun h5=>⟨by omega,?_⟩,fun h5=>⟨by omega,?_⟩⟩⟩
   all_goals refine .sel [0] (by simp) (by simp) rfl (.done ?_)
   all_goals simp only [decide_eq_true_eq,decide_eq_false_iff_not] at h4
   · have h6:decide (16 < i - a.toNat)=true:=by simp; omega
     simp only [h6,aM,kD] at hK
     have:=hK 1 (mk (List.drop a.toNat (List.take i (bl s)))) 0 a i
     rw [Int.toNat_of_nonneg h0] at this
     exact this
   · have h6:decide (16 < i - a.toNat)=true:=by simp; omega
     simp only [h6,aM,kD] at hK
     have:=hK 1 (mk (List.drop a.toNat (List.take i (bl s)))) 0 a i
     rw [Int.toNat_of_nonneg h0] at this
     exact this
   · have h6:decide (16 < i - a.toNat)=false:=by simp; omega
     simp only [h6,h5,aM,aG,kD] at hK
     exact hK 1 (mk (List.drop a.toNat (List.take i (bl s)))) 0 a i
   · have h6:decide (16 < i - a.toNat)=false:=by simp; omega
     simp only [h6,h5,aG,kD] at hK
     exact hK
def rH (neg:Bool) (l:List UInt8):Int:=match valL (dY neg) 0 l with | some n=>signed neg n | none=>0
def oK (neg:Bool) (l:List UInt8):Bool:=(valL (dY neg) 0 l).isSome
def pI:W.Spec:=fun xs H K=>
 match xs,H with
 | [.va (.c1 (.vl (.bool neg))),.va (.c1 (.vl (.string s)))],[]=>((bl s).length<=4000/\∀ c ∈ bl s,bV c=true)/\
  K (.tu [iA .i64 (rH neg (bl s)),bA (oK neg (bl s))]) []
 | _,_=>False
attribute [go_sem ↓] pI
theorem tW {xs:List S} {H:Hp} {K:S->Hp->Prop} (h:pI xs H K):∃ neg s,xs=[bS neg,tS s]/\H=[]/\(bl s).length<=4000/\(∀ c ∈ bl s,bV c=true)/\
 K (.tu [iA .i64 (rH neg (bl s)),bA (oK neg (bl s))]) []:=by
 unfold pI at h
 split at h
 · exact ⟨_,_,rfl,rfl,h.1.1,h.1.2,h.2⟩
 · exact h.elim
theorem T6:Meets Tryz.prog 120 pI:=by
 refine aI Tryz.func120 aAK 2 (by rw [Tryz.ntmps120]; decide) (aC _) (fun xs H K h=>by obtain ⟨neg,s,rfl,_⟩:=tW h; rfl) ?_
 intro xs H K h
 obtain ⟨neg,s,rfl,rfl,hl,hd,hK⟩:=tW h
 have rest:vc [] 0 pc120_4.ungh (eL [(0,bS neg),(1,tS s),(6,iS .u64 (dY neg))]) [] (gW 0 BM K):=by
  simp -dsimp only [go_sem,pc120_4,BM]
  refine aT (α:=Nat × Nat) (fun z=>[(0,bS neg),(1,tS s),(6,iS .u64 (dY neg)),(7,iS .u64 z.2),(12,iS .i64 (bl s).length),(13,iS .i64 z.1)]) (fun _=>[]) (fun z=>z.1<=(bl s).length/\z.2<=dY neg/\valL (dY neg) z.2 ((bl s).drop z.1)=valL (dY neg) 0 (bl s)) (fun z=>(bl s).length - z.1) (0,0) 0 ⟨by omega,by omega,rfl⟩ ?_ rfl ?_
  · simp [go_sem]
  rintro ⟨i,n⟩ ⟨hi,hn,hv⟩
  simp only at hi hn hv
  have hL:dY neg<=9223372036854775808/\9<=dY neg:=by cases neg<;>simp [dY]
  simp -dsimp only [go_sem]
  refine ⟨fun h1=>⟨by simp at h1; omega,fun c hc=>?_⟩,fun h1=>?_⟩
  · simp at h1
    have hdc:=lE.1 (hd c (bT hc))
    have w1:IntKind.u64.wrap ((c.toNat:Int) - 48)=(c.toNat:Int) - 48:=uT (by simp [inr,IntKind.min,IntKind.max,IntKind.signed,IntKind.bits]; omega)
    have hq:((dY neg:Int) - ((c.toNat:Int) - 48)).tdiv 10=((dY neg - (c.toNat - 48)) / 10:Nat):=by
     rw [Int.tdiv_eq_ediv_of_nonneg (by omega)]; omega
    rw [fP hc] at hv
    rw [w1,hq]
    refine ⟨by omega,by omega,⟨by decide,by omega⟩,fun h2=>?_,fun h2=>?_⟩
    · simp only [decide_eq_true_eq,Int.ofNat_lt] at h2
      simp only [valL,h2,if_true] at hv
      simp only [rH,oK,<-hv] at hK
      exact .done hK
    · simp only [decide_eq_false_iff_not,Int.ofNat_lt] at h2
      simp only [valL,h2,if_false] at hv
      refine ⟨by omega,by omega,by omega,aB (i + 1,10 * n + (c.toNat - 48)) 0 ⟨h1,by omega,hv⟩ (by simp only; omega) ?_ rfl⟩
      simp [go_sem]
      omega
  · simp at h1
    have hi2:i=(bl s).length:=by omega
    subst hi2
    simp only [List.drop_length,valL] at hv
    simp only [rH,oK,<-hv] at hK
    refine ⟨fun h2=>d9 hK ?_,fun h2=>d9 hK ?_⟩
    · subst h2
      simp [signed,iA,bA,IntKind.wrap,IntKind.signed,IntKind.bits]
      omega
    · subst h2
      simp [signed,iA,bA,IntKind.wrap,IntKind.signed,IntKind.bits,dY] at hn ⊢
      omega
 simp -dsimp only [go_sem,P5,BM]
 refine ⟨fun h=>dW 0 rest ?_ rfl,fun h=>dW 0 rest ?_ rfl⟩
 all_goals simp [go_sem,dY,h]
def O2:W.Spec:=tN (fun l a=>∃ c,l[a]? = some c/\(bV c=true\/c=45)) kN
attribute [go_sem ↓] O2
theorem FB {l:List UInt8} {i:Nat}:(dF l i == 4)=(match l[i]? with | some c=>bV c | none=>false):=by
 unfold dF
 cases l[i]? with
 | none=>rfl
 | some c=>exact aB6 c
theorem IS {l:List UInt8} {i:Nat}:(dF l i == 5)=(l[i]? == some 45):=by
 unfold dF
 cases hc:l[i]? with
 | none=>rfl
 | some c=>simp only [VT]; rfl
theorem QM {l:List UInt8} {i:Nat}:(dF l i == 3 || dF l i == 6 || dF l i == 5)=pO l i:=by
 unfold dF pO
 cases hc:l[i]? with
 | none=>rfl
 | some c=>simp only [V9]
theorem SH:Meets Tryz.prog 103 O2:=by
 refine aI Tryz.func103 YI 1 (by rw [Tryz.ntmps103]; decide) (aD BK (aD BV (aD T6 (aC _)))) sQ ?_
 intro xs H K h
 obtain ⟨s,a,rfl,rfl,h0,h1,h2,⟨c0,hc0,hc1⟩,hK⟩:=mM h
 have hlt:a.toNat < (bl s).length:=(a8.1 hc0).1
 generalize hneg:((bl s)[a.toNat]? == some 45)=neg at hK
 generalize hfe:(bif neg then a.toNat + 1 else a.toNat)=f
 have hf1:a.toNat<=f/\f<=(bl s).length:=by subst hfe; cases neg<;>simp<;>omega
 have rest:vc [(101,.s xU),(105,.s oS),(120,.s pI)] 1 pc103_5.ungh (eL [(0,.va (.c1 (.pt 0 0))),(2,.va (.c1 (.pt 1 0))),(3,iS .i64 a),(4,bS neg)]) [kA s f 0 0,.cells (qT 0 (mk []) 0 0) 74] (gW 1 tC K):=by
  simp -dsimp only [go_sem,pc103_5,tC]
  refine aT (α:=Nat) (fun i=>[(0,.va (.c1 (.pt 0 0))),(2,.va (.c1 (.pt 1 0))),(3,iS .i64 a),(4,bS neg),(5,iS .i64 f)]) (fun i=>[kA s i 0 0,.cells (qT 0 (mk []) 0 0) 74]) (fun i=>f<=i/\i<=(bl s).length/\b8 bV (bl s) i=b8 bV (bl s) f) (fun i=>(bl s).length - i) f 2 ⟨Nat.le_refl _,hf1.2,rfl⟩ ?_ ?_ ?_
  · simp -dsimp only [go_sem]
  · simp -dsimp only [go_sem]
  rintro i ⟨hai,hi,hj⟩
  simp -dsimp only [go_sem]
  refine ⟨by omega,fun h3=>?_,fun h3=>?_⟩
  · rw [FB] at h3
    split at h3
    · rename_i c hc
      have hlt':=(a8.1 hc).1
      refine ⟨by omega,aB (i + 1) 2 ⟨by omega,hlt',by rw [lV hc h3,hj]⟩ (by omega) ?_ ?_⟩
      · simp -dsimp only [go_sem]
      · simp -dsimp only [go_sem]; simp
    · cases h3
  · have hz:b8 bV (bl s) f=i:=by
     rw [<-hj]
     refine AC fun c hc=>?_
     rw [FB,hc] at h3
     exact h3
    have hcond:∀ c:UInt8,((List.drop f (List.take i (bl s)) == [])=false->(List.drop f (List.take i (bl s)))[0]? = some c)->
     (List.drop f (List.take i (bl s)) == [] || (c.toNat:Int) == 48 && (decide (1 < ((List.drop f (List.take i (bl s))).length:Int)) || neg)) =
     (List.drop f (List.take i (bl s)) == [] || ((List.drop f (List.take i (bl s)))[0]? == some 48 && (decide (1 < (List.drop f (List.take i (bl s))).length) || neg))):=by
     intro c hc
     cases hd:(List.drop f (List.take i (bl s))) with
     | nil=>rfl
     | cons x l=>
      rw [hd] at hc
      have:=hc rfl
      simp only [List.getElem?_cons_zero,aF] at this
      subst this
      rw [EM 48]
      have h9:decide (1 < (((x :: l).length:Nat):Int))=decide (1 < (x :: l).length):=by rw [decide_eq_decide]; omega
      rw [h9]
      simp only [List.getElem?_cons_zero]
      rfl
    simp only [kN,hneg,hfe,hz] at hK
    refine ⟨by omega,fun h4=>⟨by omega,by cases hd:(List.drop f (List.take i (bl s)))<;>simp_all⟩,fun c hc=>⟨fun h5 h6=>by rw [h5]; simpa using h6,fun h5 h6=>by simp_all,fun h5=>?_,fun h5=>?_⟩⟩
    · rw [hcond c hc] at h5
      simp only [h5,aM,kD] at hK
      refine .sel [0] (by simp) (by simp) rfl (.done ?_)
      have:=hK 0 (mk []) 0 0 i
      rw [Int.toNat_of_nonneg h0] at this
      exact this
    · rw [hcond c hc] at h5
      simp only [h5,aG] at hK
      have hdig:∀ c ∈ List.drop f (List.take i (bl s)),bV c=true:=by
       intro c hc
       rw [<-hz] at hc
       exact vF c hc
      refine ⟨⟨by simp; omega,hdig⟩,?_⟩
      have rest2:∀ e t:Int,(e=0/\t=0/\oK neg ((List.take i (bl s)).drop f)=true\/e=4/\t=a/\oK neg ((List.take i (bl s)).drop f)=false)->vc [(101,.s xU),(105,.s oS),(120,.s pI)] 1 pc103_15.ungh (eL [(0,.va (.c1 (.pt 0 0))),(2,.va (.c1 (.pt 1 0))),(3,iS .i64 a),(7,iS .i64 (rH neg ((List.take i (bl s)).drop f)))]) [kA s i e t,.cells (qT 0 (mk []) 0 0) 74] (gW 1 tC K):=by
       intro e t het
       simp -dsimp only [go_sem,pc103_15,tC]
       rw [QM]
       refine ⟨by omega,fun h7=>.sel [0] (by simp) (by simp) rfl (.done ?_),fun h7=>.sel [0] (by simp) (by simp) rfl (.done ?_)⟩
       · rcases het with ⟨rfl,rfl,hb⟩ | ⟨rfl,rfl,hb⟩
         · cases hv:valL (dY neg) 0 (List.drop f (List.take i (bl s))) with
           | none=>simp [oK,hv] at hb
           | some n=>
            simp only [hv,h7,aM,kD] at hK
            exact hK _ _ _ _ i
         · cases hv:valL (dY neg) 0 (List.drop f (List.take i (bl s))) with
           | some n=>simp [oK,hv] at hb
           | none=>
            simp only [hv,kD] at hK
            have:=hK 2 (mk []) (rH neg (List.drop f (List.take i (bl s)))) t i
            rw [Int.toNat_of_nonneg h0] at this
            exact this
       · rcases het with ⟨rfl,rfl,hb⟩ | ⟨rfl,rfl,hb⟩
         · cases hv:valL (dY neg) 0 (List.drop f (List.take i (bl s))) with
           | none=>simp [oK,hv] at hb
           | some n=>
            simp only [hv,h7,aG,kD] at hK
            simp only [rH,hv]
            exact hK
         · cases hv:valL (dY neg) 0 (List.drop f (List.take i (bl s))) with
           | some n=>simp [oK,hv] at hb
           | none=>
            simp only [hv,kD] at hK
            have:=hK 2 (mk []) (rH neg (List.drop f (List.take i (bl s)))) t i
            rw [Int.toNat_of_nonneg h0] at this
            exact this
      refine ⟨fun h6=>dW 2 (rest2 4 a (.inr ⟨rfl,rfl,by simpa using h6⟩)) ?_ ?_,fun h6=>dW 2 (rest2 0 0 (.inl ⟨rfl,rfl,by simpa using h6⟩)) ?_ ?_⟩
      all_goals simp -dsimp only [go_sem]
 simp -dsimp only [go_sem,O9,tC]
 rw [IS,hneg]
 refine ⟨by omega,fun h3=>⟨by omega,dW 2 rest ?_ ?_⟩,fun h3=>dW 2 rest ?_ ?_⟩
 all_goals simp -dsimp only [go_sem]
 all_goals (subst h3; simp at hfe; subst hfe; simp; try omega)
abbrev CR (c:UInt8):List C:=[.vl (.int .u8 c.toNat)]
def nU (p:C) (n:Nat) (xs:List (List C)):Prop:=(p=.vl (.pointer none)\/p=.pt 0 0)/\n=xs.length/\(∀ r ∈ xs,∃ c:UInt8,r=CR c)/\xs.length<=1000000000
def H6:W.Spec:=fun av H K=>
 match av,H with
 | [.va (.c1 (.pt 0 0))],[.cells [p,.sl 1 n] 95,.row xs 5 1]=>nU p n xs/\K (.tu []) [.cells [.pt 0 0,.sl 1 n] 95,.row xs 5 1]
 | _,_=>False
theorem A7 {av:List S} {H:Hp} {K:S->Hp->Prop} (h:H6 av H K):∃ p n xs,av=[.va (.c1 (.pt 0 0))]/\H=[.cells [p,.sl 1 n] 95,.row xs 5 1]/\nU p n xs/\
 K (.tu []) [.cells [.pt 0 0,.sl 1 n] 95,.row xs 5 1]:=by
 unfold H6 at h
 split at h
 · exact ⟨_,_,_,rfl,rfl,h⟩
 · exact h.elim
attribute [go_sem ↓] H6
theorem H4:Meets Tryz.prog 109 H6:=by
 refine aI Tryz.func109 Z2 1 (by rw [Tryz.ntmps109]; decide) (aC _) (fun av H K h=>by obtain ⟨_,_,_,rfl,_⟩:=A7 h; rfl) ?_
 intro av H K h
 obtain ⟨p,n,xs,rfl,rfl,hp,hK⟩:=A7 h
 rcases hp.1 with rfl | rfl
 · simp -dsimp only [go_sem,I4,JE] at hK ⊢
   simp only [Option.isNone,Bool.true_eq_false,false_implies,and_true,true_implies]
   exact .done hK
 · simp -dsimp only [go_sem,I4,JE] at hK ⊢
   exact .done hK
def IU:W.Spec:=fun av H K=>
 match av,H with
 | [.va (.c1 (.pt 0 0)),.va (.c1 (.vl (.int .u8 c)))],[.cells [p,.sl 1 n] 95,.row xs 5 1]=>(nU p n xs/\0<=c/\c<=255)/\
  K (.va (.c1 (.vl .nilIface))) [.cells [.pt 0 0,.sl 1 (n + 1)] 95,.row (xs ++ [[.vl (.int .u8 c)]]) 5 1]
 | _,_=>False
theorem z7 {av:List S} {H:Hp} {K:S->Hp->Prop} (h:IU av H K):∃ p n xs c,av=[.va (.c1 (.pt 0 0)),iS .u8 c]/\H=[.cells [p,.sl 1 n] 95,.row xs 5 1]/\nU p n xs/\(0<=c/\c<=255)/\
 K (.va (.c1 (.vl .nilIface))) [.cells [.pt 0 0,.sl 1 (n + 1)] 95,.row (xs ++ [[.vl (.int .u8 c)]]) 5 1]:=by
 unfold IU at h
 split at h
 · exact ⟨_,_,_,_,rfl,rfl,h.1.1,h.1.2,h.2⟩
 · exact h.elim
attribute [go_sem ↓] IU
theorem HX:Meets Tryz.prog 61 IU:=by
 refine aI Tryz.func61 aDY 2 (by rw [Tryz.ntmps61]; decide) (aD H4 (aC _)) (fun av H K h=>by obtain ⟨_,_,_,_,rfl,_⟩:=z7 h; rfl) ?_
 intro av H K h
 obtain ⟨p,n,xs,c,rfl,rfl,hp,hc,hK⟩:=z7 h
 obtain ⟨hp1,rfl,hp2,hp3⟩:=hp
 rcases hp1 with rfl | rfl
 all_goals
  simp -dsimp only [go_sem,W4,ST] at hK ⊢
  refine ⟨⟨by simp,rfl,hp2,hp3⟩,by omega,.sel [0,1] (by simp) (by simp) rfl (.done ?_)⟩
  simpa [go_sem] using hK
def BF:W.Spec:=fun av H K=>
 match av,H with
 | [.va (.c1 (.pt 0 0))],[.cells [p,.sl 1 n] 95,.row xs 5 1]=>nU p n xs/\K (iS .i64 n) [.cells [p,.sl 1 n] 95,.row xs 5 1]
 | _,_=>False
theorem w6 {av:List S} {H:Hp} {K:S->Hp->Prop} (h:BF av H K):∃ p n xs,av=[.va (.c1 (.pt 0 0))]/\H=[.cells [p,.sl 1 n] 95,.row xs 5 1]/\nU p n xs/\
 K (iS .i64 n) [.cells [p,.sl 1 n] 95,.row xs 5 1]:=by
 unfold BF at h
 split at h
 · exact ⟨_,_,_,rfl,rfl,h⟩
 · exact h.elim
attribute [go_sem ↓] BF
theorem aBR:Meets Tryz.prog 60 BF:=by
 refine aI Tryz.func60 aCN 1 (by rw [Tryz.ntmps60]; decide) (aC _) (fun av H K h=>by obtain ⟨_,_,_,rfl,_⟩:=w6 h; rfl) ?_
 intro av H K h
 obtain ⟨p,n,xs,rfl,rfl,⟨hp1,rfl,hp2,hp3⟩,hK⟩:=w6 h
 simp -dsimp only [go_sem,V6,VX] at hK ⊢
 exact .done hK
def BZ:W.Spec:=fun av H K=>
 match av,H with
 | [.va (.c1 (.pt 0 0))],[.cells [p,.sl 1 n] 95,.row xs 5 1]=>nU p n xs/\K (tS (mk (nB xs))) [.cells [p,.sl 1 n] 95,.dead]
 | _,_=>False
theorem w4 {av:List S} {H:Hp} {K:S->Hp->Prop} (h:BZ av H K):∃ p n xs,av=[.va (.c1 (.pt 0 0))]/\H=[.cells [p,.sl 1 n] 95,.row xs 5 1]/\nU p n xs/\
 K (tS (mk (nB xs))) [.cells [p,.sl 1 n] 95,.dead]:=by
 unfold BZ at h
 split at h
 · exact ⟨_,_,_,rfl,rfl,h⟩
 · exact h.elim
attribute [go_sem ↓] BZ
theorem RL:Meets Tryz.prog 63 BZ:=by
 refine aI Tryz.func63 aDE 1 (by rw [Tryz.ntmps63]; decide) (aC _) (fun av H K h=>by obtain ⟨_,_,_,rfl,_⟩:=w4 h; rfl) ?_
 intro av H K h
 obtain ⟨p,n,xs,rfl,rfl,⟨hp1,rfl,hp2,hp3⟩,hK⟩:=w4 h
 simp -dsimp only [go_sem,VK,WD] at hK ⊢
 exact ⟨⟨hp2,by omega⟩,.done hK⟩
def quoL:Nat->List UInt8->List UInt8->Nat × Option (List UInt8)
 | i,[],_=>(i,none)
 | i,c :: r,out=>
  bif decide (c < 32) || decide (126 < c) then (i,none)
  else bif c == 34 then (i + 1,some out)
  else bif c == 92 then match r with
   | d :: r'=>bif d == 34 || d == 92 then quoL (i + 2) r' (out ++ [d]) else (i,none)
   | []=>(i,none)
  else quoL (i + 1) r (out ++ [c])
theorem p8 (i:Nat) (out:List UInt8):quoL i [] out=(i,none):=by rw [quoL.eq_def]
theorem gS (i:Nat) (c:UInt8) (r out:List UInt8):quoL i (c :: r) out=bif decide (c < 32) || decide (126 < c) then (i,none)
 else bif c == 34 then (i + 1,some out)
 else bif c == 92 then match r with
  | d :: r'=>bif d == 34 || d == 92 then quoL (i + 2) r' (out ++ [d]) else (i,none)
  | []=>(i,none)
 else quoL (i + 1) r (out ++ [c]):=by rw [quoL.eq_def]
def jE (l:List UInt8) (a:Nat):R:=match quoL (a + 1) (l.drop (a + 1)) [] with
 | (i,none)=>.bad 2 i
 | (z,some out)=>bif decide (200 < out.length) then .bad 3 a else .ok 3 out 0 z
def K9:W.Spec:=tN (fun l a=>l[a]? = some 34) jE
attribute [go_sem ↓] K9
theorem aAN:Meets Tryz.prog 104 K9:=by
 refine aI Tryz.func104 Y0 1 (by rw [Tryz.ntmps104]; decide) (aD BV (aD HX (aD aBR (aD RL (aC _))))) sQ ?_
 intro xs H K h
 obtain ⟨s,a,rfl,rfl,h0,h1,h2,hc0,hK⟩:=mM h
 have hlt:a.toNat < (bl s).length:=(a8.1 hc0).1
 simp -dsimp only [go_sem,PL,OU] at hK ⊢
 refine ⟨by omega,cQ (α:=C × Nat × List UInt8) (fun z=>[(0,.va (.c1 (.pt 0 0))),(2,.va (.c1 (.pt 1 0))),(3,iS .i64 a),(4,.va (.c1 (.pt 2 0)))])
  (fun z=>[kA s z.2.1 0 0,.cells (qT 0 (mk []) 0 0) 74,.cells [z.1,.sl 3 z.2.2.length] 95,.row (z.2.2.map CR) 5 1])
  (fun z=>(z.1=.vl (.pointer none)\/z.1=.pt 2 0)/\z.2.1<=(bl s).length/\z.2.2.length<=z.2.1/\quoL z.2.1 ((bl s).drop z.2.1) z.2.2=quoL (a.toNat + 1) ((bl s).drop (a.toNat + 1)) []) (fun z=>(bl s).length - z.2.1)
  (.nilc 2 1 5 1 _ _ rfl rfl (iO (.vl (.pointer none),a.toNat + 1,[]) 4 ⟨.inl rfl,by simp only; omega,by simp,rfl⟩ ?_ ?_)) ?_⟩
 · simp -dsimp only [go_sem]
 · simp -dsimp only [go_sem]; simp; omega
 rintro ⟨p,i,out⟩ ⟨hp,hi,ho,hq⟩
 simp only at hp hi ho hq
 have hby:∀ r ∈ out.map CR,∃ c:UInt8,r=CR c:=fun r hr=>by obtain ⟨c,_,rfl⟩:=List.mem_map.1 hr; exact ⟨c,rfl⟩
 have hbl:(out.map CR).length<=1000000000:=by simp; omega
 have hrb:nB (out.map CR)=out:=by
  simp only [nB,List.map_map]
  conv=>rhs; rw [<-List.map_id out]
  apply List.map_congr_left
  intro c _
  simp [C.gi,CR]
 have hn:(bl s).length<=i->quoL i ((bl s).drop i) out=(i,none):=fun h=>by rw [List.drop_eq_nil_iff.2 h,p8]
 have hcs:∀ c:UInt8,(bl s)[i]? = some c->(bl s).drop i=c :: (bl s).drop (i + 1):=fun c hc=>fP hc
 have lt32:∀ c:UInt8,decide ((c.toNat:Int) < 32)=decide (c < 32):=fun c=>by rw [decide_eq_decide,UInt8.lt_iff_toNat_lt]; show (c.toNat:Int) < 32 ↔ c.toNat < 32; omega
 have gt126:∀ c:UInt8,decide (126 < (c.toNat:Int))=decide (126 < c):=fun c=>by rw [decide_eq_decide,UInt8.lt_iff_toNat_lt]; show 126 < (c.toNat:Int) ↔ 126 < c.toNat; omega
 have e34:∀ c:UInt8,((c.toNat:Int) == 34)=(c == 34):=fun c=>EM 34
 have e92:∀ c:UInt8,((c.toNat:Int) == 92)=(c == 92):=fun c=>EM 92
 have n34:∀ c:UInt8,((c.toNat:Int) != 34)=!(c == 34):=fun c=>by rw [bne,e34]
 have n92:∀ c:UInt8,((c.toNat:Int) != 92)=!(c == 92):=fun c=>by rw [bne,e92]
 have bad:quoL (a.toNat + 1) ((bl s).drop (a.toNat + 1)) []=(i,none)->∀ k x n y,K (.va (.gs (qT k x n y))) [kA s i 2 i]:=fun h=>by
  simp only [jE,h,kD] at hK
  exact fun k x n y=>hK k x n y i
 rcases hp with rfl | rfl
 all_goals
  simp -dsimp only [go_sem,lt32,gt126,e34,e92,n34,n92,hrb]
  refine ⟨fun h3=>by simp at h3; omega,fun c hc=>⟨fun h3=>by simp at h3; omega,fun c1 hc1=>⟨fun h3=>?_,fun h3=>?_⟩⟩⟩
  · refine .sel [0] (by simp) (by simp) rfl (.done (bad ?_ _ _ _ _))
    rw [<-hq]
    by_cases h4:(bl s).length<=i
    · exact hn h4
    · have h5:decide (((bl s).length:Int)<=i)=false:=by simp; omega
      have h6:=hc h5
      rw [hcs c h6,gS]
      by_cases h7:c < 32
      · simp [h7]
      · have h8:=hc1 (by rw [h5]; simp [h7])
        rw [h6] at h8
        simp only [aF] at h8
        subst h8
        simp only [h5,h7,decide_false,Bool.false_or] at h3
        simp [h3]
  · simp only [Bool.or_eq_false_iff] at h3
    obtain ⟨⟨h4,h5⟩,h6⟩:=h3
    have hc':=hc h4
    have hc1':=hc1 (by rw [h4,h5]; rfl)
    rw [hc'] at hc1'
    simp only [aF] at hc1'
    subst hc1'
    simp at h4
    refine ⟨by omega,fun c2 hc2=>?_⟩
    rw [hc'] at hc2
    simp only [aF] at hc2
    subst hc2
    rw [hcs c hc',gS] at hq
    simp only [h5,h6,Bool.false_or,aG] at hq
    refine ⟨fun h7=>?_,fun h7=>?_⟩
    · simp only [h7,aM] at hq
      simp only [jE,<-hq] at hK
      refine ⟨by omega,⟨by simp,by simp,hby,hbl⟩,fun h8=>⟨⟨by simp,by simp,hby,hbl⟩,.sel [0] (by simp) (by simp) rfl (.done ?_)⟩,fun h8=>⟨⟨by simp,by simp,hby,hbl⟩,.sel [0] (by simp) (by simp) rfl (.done ?_)⟩⟩
      · have h9:decide (200 < out.length)=true:=by simp at h8 ⊢; omega
        simp only [h9,aM,kD] at hK
        have:=hK 3 (mk out) 0 a (i + 1)
        rw [Int.toNat_of_nonneg h0] at this
        exact this
      · have h9:decide (200 < out.length)=false:=by simp at h8 ⊢; omega
        simp only [h9,aG,kD] at hK
        exact hK
    · simp only [h7,aG] at hq
      have hi1:((i:Int) + 1).toNat=i + 1:=by omega
      rw [hi1]
      refine ⟨fun h8=>⟨by omega,fun _=>by omega,fun h9=>by simp at h9; omega,fun c1 hc1'=>⟨fun _=>by omega,fun h9=>by simp at h9; omega,fun c2 hc2=>⟨fun h9 h10=>by rw [h9,h10]; rfl,fun h9=>?_,fun h9=>?_⟩⟩⟩,fun h8=>?_⟩
      · refine .sel [0] (by simp) (by simp) rfl (.done (bad ?_ _ _ _ _))
        simp only [h8,aM] at hq
        rw [<-hq]
        by_cases h10:(bl s).length<=i + 1
        · rw [List.drop_eq_nil_iff.2 h10]
        · have h11:decide (((bl s).length:Int)<=i + 1)=false:=by simp; omega
          have h12:=hc1' h11
          rw [fP h12]
          simp only [h11,Bool.false_or,Bool.and_eq_true,Bool.not_eq_true'] at h9
          have h13:=hc2 (by rw [h11,h9.1]; rfl)
          rw [h12] at h13
          simp only [aF] at h13
          subst h13
          simp only [h9.1,h9.2,Bool.or_self,aG]
      · simp only [Bool.or_eq_false_iff] at h9
        have h12:=hc1' h9.1
        have hlt1:=(a8.1 h12).1
        refine ⟨by omega,by omega,fun c3 hc3=>?_⟩
        rw [h12] at hc3
        simp only [aF] at hc3
        subst hc3
        have h14:(c1 == 34 || c1 == 92)=true:=by
         cases h15:(c1 == 34) with
         | true=>rfl
         | false=>
          have h13:=hc2 (by rw [h9.1,h15]; rfl)
          rw [h12] at h13
          simp only [aF] at h13
          subst h13
          rw [h15] at h9
          simpa using h9.2
        simp only [h8,aM,fP h12,h14] at hq
        refine ⟨⟨⟨by simp,by simp,hby,hbl⟩,by omega,by have:=c1.toNat_lt; omega⟩,by omega,aB (.pt 2 0,i + 2,out ++ [c1]) 4 ⟨.inr rfl,by simp only; omega,by simp; omega,hq⟩ (by simp only; omega) ?_ ?_⟩
        · simp -dsimp only [go_sem]
        · simp -dsimp only [go_sem]; simp; omega
      · simp only [h8,aG] at hq
        refine ⟨⟨⟨by simp,by simp,hby,hbl⟩,by omega,by have:=c.toNat_lt; omega⟩,by omega,aB (.pt 2 0,i + 1,out ++ [c]) 4 ⟨.inr rfl,by simp only; omega,by simp; omega,hq⟩ (by simp only; omega) ?_ ?_⟩
        · simp -dsimp only [go_sem]
        · simp -dsimp only [go_sem]; simp
def eT (l:List UInt8) (p:Nat):R:=match l[p]? with
 | none=>.ok 0 [] 0 p
 | some c=>bif bQ c.toNat then jS l p else bif bV c || c == 45 then kN l p else bif c == 34 then jE l p
  else bif eS c.toNat then .ok 4 [c] 0 (p + 1) else .bad 2 p
theorem XO (c:UInt8):(dJ c.toNat == 3)=bQ c.toNat:=by
 have:=cU (p:=fun c=>(dJ c.toNat == 3) == bQ c.toNat) (by decide +kernel) c
 simpa using this
theorem OE (c:UInt8):(dJ c.toNat == 4 || dJ c.toNat == 5)=(bV c || c == 45):=by
 have:=cU (p:=fun c=>(dJ c.toNat == 4 || dJ c.toNat == 5) == (bV c || c == 45)) (by decide +kernel) c
 simpa using this
theorem VN (c:UInt8):(dJ c.toNat == 7)=(c == 34):=by
 have:=cU (p:=fun c=>(dJ c.toNat == 7) == (c == 34)) (by decide +kernel) c
 simpa using this
theorem aCE (c:UInt8):(dJ c.toNat == 8)=eS c.toNat:=by
 have:=cU (p:=fun c=>(dJ c.toNat == 8) == eS c.toNat) (by decide +kernel) c
 simpa using this
theorem aAB (c:UInt8):(dJ c.toNat == -1)=false:=by
 have:=cU (p:=fun c=>(dJ c.toNat == -1) == false) (by decide +kernel) c
 simpa using this
def K7:W.Spec:=sC (fun _ _ e t=>e=0/\t=0) fun s a _ _ K=>HV s (b6 (bl s) a.toNat) K (eT (bl s) (b6 (bl s) a.toNat))
attribute [go_sem ↓] K7
theorem ZT:Meets Tryz.prog 58 K7:=by
 refine aI Tryz.func58 aEE 1 (by rw [Tryz.ntmps58]; decide)
  (aD aAM (aD BK (aD Z0 (aD SH (aD aAN (aD BV (aC _))))))) vW ?_
 intro xs H K h
 obtain ⟨s,a,e,t,rfl,rfl,h0,h1,h2,⟨rfl,rfl⟩,hK⟩:=l5 h
 generalize hp:b6 (bl s) a.toNat=p at hK
 have hpl:p<=(bl s).length:=by rw [<-hp]; exact p9 (by omega)
 have hfin:∀ {k x n y z e t} {B2:B},Tok (eT (bl s) p) p k x n y z e t->W.Fin 1 K (.va (.gs (qT k x n y))) [kA s z e t,B2]:=fun h=>.sel [0] (by simp) (by simp) rfl (.done (hK _ _ _ _ _ _ _ h))
 have ht:eT (bl s) p=match (bl s)[p]? with
  | none=>.ok 0 [] 0 p
  | some c=>bif dJ c.toNat == 3 then jS (bl s) p else bif dJ c.toNat == 4 || dJ c.toNat == 5 then kN (bl s) p else bif dJ c.toNat == 7 then jE (bl s) p
   else bif dJ c.toNat == 8 then .ok 4 [c] 0 (p + 1) else .bad 2 p:=by
  unfold eT
  cases (bl s)[p]? with
  | none=>rfl
  | some c=>simp only [XO,OE,VN,aCE]
 rw [ht] at hfin
 simp -dsimp only [go_sem,U5,UP,hp] at ⊢
 cases hc:(bl s)[p]? with
 | none=>
  rw [hc] at hfin
  have hk:dF (bl s) p=-1:=by rw [dF,hc]
  simp only [hk]
  refine ⟨⟨h0,h1,h2⟩,⟨by omega,by omega,h2⟩,fun _=>hfin ⟨rfl,rfl,rfl,rfl,rfl,rfl,rfl⟩,fun h=>by simp at h⟩
 | some c=>
  rw [hc] at hfin
  have hplt:p < (bl s).length:=(a8.1 hc).1
  have hk:dF (bl s) p=dJ c.toNat:=by rw [dF,hc]
  have hd:(List.take (p + 1) (bl s)).drop p=[c]:=by
   rw [List.drop_take,fP hc]; simp
  simp only [hk,aAB]
  have q45:=OE c
  have q7:=VN c
  have hi1:((p:Int) + 1 - 1)=p:=by omega
  have hi2:((p:Int) + 1).toNat=p + 1:=by omega
  rw [hi1,hi2]
  refine ⟨⟨h0,h1,h2⟩,⟨by omega,by omega,h2⟩,fun h=>by simp at h,fun _=>?_⟩
  simp only [Int.toNat_natCast,hd]
  repeat' (first | apply And.intro | intro)
  all_goals first
   | omega
   | (refine hfin ?_; simp_all; done)
   | (exact ⟨c,rfl,by simp_all⟩)
   | (simp_all; done)
   | skip
  · rename_i g3 g4 g5 g7 g8
    refine hfin ?_
    simp only [g3,g4,g5,g7,g8,aM,aG,Bool.or_self]
    exact ⟨rfl,rfl,rfl,rfl,by simp,rfl,rfl⟩
  · rename_i g3 g4 g5 g7 g8
    refine hfin ?_
    simp only [g3,g4,g5,g7,g8,aG,Bool.or_self]
    exact ⟨rfl,rfl,p,rfl⟩
structure Tk where
 k:Int
 x:List UInt8
 n:Int
 a:Nat
abbrev kU (t:Tk):List C:=qT t.k (mk t.x) t.n t.a
inductive SR where
 | ok (l:List Tk)
 | bad (e t:Int)
def SR.cons (t:Tk):SR->SR
 | .ok l=>.ok (t :: l)
 | .bad e t=>.bad e t
def SR.app (acc:List Tk):SR->SR
 | .ok l=>.ok (acc ++ l)
 | .bad e t=>.bad e t
theorem SR.app_cons (acc:List Tk) (t:Tk) (r:SR):SR.app acc (SR.cons t r)=SR.app (acc ++ [t]) r:=by cases r<;>simp [SR.app,SR.cons]
def fI:Nat->List UInt8->Nat->SR
 | 0,_,_=>.ok []
 | f + 1,l,a=>match eT l (b6 l a) with
  | .bad e t=>.bad e t
  | .ok k x n z=>bif k == 0 then .ok [⟨k,x,n,b6 l a⟩] else SR.cons ⟨k,x,n,b6 l a⟩ (fI f l z)
def bH (l:List UInt8):SR:=bif decide (4000 < l.length) then .bad 3 0 else fI (l.length + 1) l 0
def SR.toks:SR->List Tk
 | .ok l=>l
 | .bad _ _=>[]
def SR.err:SR->Int
 | .ok _=>0
 | .bad e _=>e
def SR.off:SR->Int
 | .ok _=>0
 | .bad _ t=>t
theorem IQ {l:List UInt8} {a:Nat} {c:UInt8} (hc:l[a]? = some c) (hd:bV c=true\/c=45):(∀ {e t},kN l a=.bad e t->e ≠ 0)/\∀ {k x n z},kN l a=.ok k x n z->k ≠ 0/\a < z/\z<=l.length:=by
 have hlt:a < l.length:=(a8.1 hc).1
 have hne:(l[a]? == some 45)=(c == 45):=by rw [hc]; rfl
 have hge:(bif c == 45 then a + 1 else a)<=l.length:=by cases (c == 45)<;>simp<;>omega
 have hz2:=tP (p:=bV) hge
 have hz:∀ {p:UInt8->Bool} {f:Nat},f<=b8 p l f:=fun {p f}=>zO
 have hz1:a < b8 bV l (bif c == 45 then a + 1 else a):=by
  rcases hd with hd | hd
  · have h45:(c == 45)=false:=by
     have:=cU (p:=fun c=>!(bV c) || !(c == 45)) (by decide +kernel) c
     simpa [hd] using this
    simp only [h45,aG]
    rw [<-lV hc hd]
    exact Nat.lt_of_lt_of_le (Nat.lt_succ_self a) hz
  · subst hd
    simp only [beq_self_eq_true,aM]
    exact Nat.lt_of_lt_of_le (Nat.lt_succ_self a) hz
 constructor
 · intro e t h
   unfold kN at h
   simp only at h
   revert h
   cases (List.drop (bif l[a]? == some 45 then a + 1 else a) (List.take (b8 bV l (bif l[a]? == some 45 then a + 1 else a)) l) == [] || ((List.drop (bif l[a]? == some 45 then a + 1 else a) (List.take (b8 bV l (bif l[a]? == some 45 then a + 1 else a)) l))[0]? == some 48 && (decide (1 < (List.drop (bif l[a]? == some 45 then a + 1 else a) (List.take (b8 bV l (bif l[a]? == some 45 then a + 1 else a)) l)).length) || l[a]? == some 45))) with
   | true=>intro h; simp only [aM,R.bad.injEq] at h; omega
   | false=>
    simp only [aG]
    split
    · intro h; simp only [R.bad.injEq] at h; omega
    · cases pO l (b8 bV l (bif l[a]? == some 45 then a + 1 else a))<;>simp only [aM,aG,R.bad.injEq,reduceCtorEq,false_implies]; intro h; omega
 · intro k x n z h
   unfold kN at h
   simp only at h
   rw [hne] at h
   revert h
   generalize (List.drop (bif c == 45 then a + 1 else a) (List.take (b8 bV l (bif c == 45 then a + 1 else a)) l))=q
   cases (q == [] || (q[0]? == some 48 && (decide (1 < q.length) || c == 45))) with
   | true=>intro h; simp only [aM,reduceCtorEq] at h
   | false=>
    simp only [aG]
    split
    · intro h; cases h
    · cases pO l (b8 bV l (bif c == 45 then a + 1 else a))<;>simp only [aM,aG,R.ok.injEq,reduceCtorEq,false_implies]
      rintro ⟨rfl,rfl,rfl,rfl⟩
      exact ⟨by decide,hz1,hz2⟩
theorem FF {l:List UInt8} {a:Nat} {c:UInt8} (hc:l[a]? = some c) (hd:bQ c.toNat=true):(∀ {e t},jS l a=.bad e t->e ≠ 0)/\∀ {k x n z},jS l a=.ok k x n z->k ≠ 0/\a < z/\z<=l.length:=by
 have hlt:a < l.length:=(a8.1 hc).1
 have hz2:=tP (p:=aW) (Nat.le_of_lt hlt)
 have hw:aW c=true:=by simp [aW,iR,hd]
 have hz1:a < b8 aW l a:=by
  rw [<-lV hc hw]
  exact Nat.lt_of_lt_of_le (Nat.lt_succ_self a) zO
 unfold jS
 simp only
 cases decide (16 < b8 aW l a - a)<;>cases (l[b8 aW l a]? == some 45)<;>simp only [aM,aG]
 all_goals refine ⟨fun {e t} h=>?_,fun {k x n z} h=>?_⟩
 all_goals simp only [R.bad.injEq,R.ok.injEq,reduceCtorEq] at h
 all_goals first | omega | (obtain ⟨rfl,rfl,rfl,rfl⟩:=h; exact ⟨by decide,hz1,hz2⟩)
theorem FI {l:List UInt8} {a:Nat} (hc:l[a]? = some 34):(∀ {e t},jE l a=.bad e t->e ≠ 0)/\∀ {k x n z},jE l a=.ok k x n z->k ≠ 0/\a < z/\z<=l.length:=by
 have hlt:a < l.length:=(a8.1 hc).1
 have key:∀ (m:Nat) (r:List UInt8) (i:Nat) (out:List UInt8) (z:Nat) (o:List UInt8),r.length=m->quoL i r out=(z,some o)->i < z/\z<=i + r.length:=by
  intro m
  induction m using Nat.strongRecOn with
  | ind m ih=>
   intro r i out z o hm h
   cases r with
   | nil=>rw [p8] at h; cases h
   | cons c r=>
    rw [gS] at h
    simp only [List.length_cons] at hm
    revert h
    cases (decide (c < 32) || decide (126 < c)) with
    | true=>intro h; cases h
    | false=>
     cases (c == 34) with
     | true=>intro h; simp only [aG,aM,Prod.mk.injEq] at h; simp; omega
     | false=>
      cases (c == 92) with
      | true=>
       simp only [aG,aM]
       cases r with
       | nil=>intro h; cases h
       | cons d r'=>
        simp only
        cases (d == 34 || d == 92) with
        | true=>intro h; have:=ih r'.length (by simp at hm; omega) r' _ _ _ _ rfl h; simp; omega
        | false=>intro h; cases h
      | false=>
       simp only [aG]
       intro h; have:=ih r.length (by omega) r _ _ _ _ rfl h; simp; omega
 unfold jE
 split
 · constructor
   · intro e t h; simp only [R.bad.injEq] at h; omega
   · intro k x n z h; cases h
 · rename_i z o hq
   have:=key _ _ _ _ _ _ rfl hq
   simp only [List.length_drop] at this
   cases decide (200 < o.length)<;>simp [R.bad.injEq,R.ok.injEq]
   all_goals (intros; omega)
theorem wI {l:List UInt8} {p:Nat} (hp:p<=l.length):(∀ {e t},eT l p=.bad e t->e ≠ 0)/\∀ {k x n z},eT l p=.ok k x n z->(k=0->p=l.length)/\(k ≠ 0->p < z/\z<=l.length):=by
 unfold eT
 cases hc:l[p]? with
 | none=>
  have:l.length<=p:=List.getElem?_eq_none_iff.1 hc
  simp only [R.ok.injEq,reduceCtorEq,false_implies,implies_true,true_and]
  rintro k x n z ⟨rfl,rfl,rfl,rfl⟩
  exact ⟨fun _=>by omega,fun h=>absurd rfl h⟩
 | some c=>
  have hlt:p < l.length:=(a8.1 hc).1
  simp only
  cases h1:bQ c.toNat with
  | true=>
   simp only [aM]
   obtain ⟨q1,q2⟩:=FF hc h1
   exact ⟨q1,fun h=>⟨fun e=>absurd e (q2 h).1,fun _=>(q2 h).2⟩⟩
  | false=>
   simp only [aG]
   cases h2:(bV c || c == 45) with
   | true=>
    simp only [aM]
    obtain ⟨q1,q2⟩:=IQ hc (by simpa using h2)
    exact ⟨q1,fun h=>⟨fun e=>absurd e (q2 h).1,fun _=>(q2 h).2⟩⟩
   | false=>
    simp only [aG]
    cases h3:(c == 34) with
    | true=>
     simp only [aM]
     have:c=34:=by simpa using h3
     subst this
     obtain ⟨q1,q2⟩:=FI hc
     exact ⟨q1,fun h=>⟨fun e=>absurd e (q2 h).1,fun _=>(q2 h).2⟩⟩
    | false=>
     simp only [aG]
     cases eS c.toNat with
     | true=>
      simp only [aM,R.ok.injEq,reduceCtorEq,false_implies,implies_true,true_and]
      rintro k x n z ⟨rfl,rfl,rfl,rfl⟩
      exact ⟨fun e=>by omega,fun _=>by omega⟩
     | false=>
      simp only [aG,R.bad.injEq,reduceCtorEq,false_implies,implies_true,and_true]
      rintro e t ⟨rfl,rfl⟩
      decide
theorem C1 {l:List UInt8} {a:Nat}:a<=b6 l a:=by unfold b6; omega
def w7:W.Spec:=fun xs H K=>
 match xs,H with
 | [.va (.c1 (.vl (.string s)))],[]=>K (.tu [.c1 (.fz ((bH (bl s)).toks.map kU)),iA .i64 (bH (bl s)).err,iA .i64 (bH (bl s)).off]) []
 | _,_=>False
theorem uH {xs:List S} {H:Hp} {K:S->Hp->Prop} (h:w7 xs H K):∃ s,xs=[tS s]/\H=[]/\K (.tu [.c1 (.fz ((bH (bl s)).toks.map kU)),iA .i64 (bH (bl s)).err,iA .i64 (bH (bl s)).off]) []:=by
 unfold w7 at h
 split at h
 · exact ⟨_,rfl,rfl,h⟩
 · exact h.elim
attribute [go_sem ↓] w7
theorem aAL:Meets Tryz.prog 22 w7:=by
 refine aI Tryz.func22 aBN 1 (by rw [Tryz.ntmps22]; decide) (aD ZT (aC _)) (fun xs H K h=>by obtain ⟨s,rfl,_⟩:=uH h; rfl) ?_
 intro xs H K h
 obtain ⟨s,rfl,rfl,hK⟩:=uH h
 simp -dsimp only [go_sem,WY,UY] at hK ⊢
 refine ⟨fun h1=>?_,fun h1=>?_⟩
 · have h2:decide (4000 < (bl s).length)=true:=by simp at h1 ⊢; omega
   simp only [bH,h2,aM,SR.toks,SR.err,SR.off] at hK
   exact .done hK
 have h2:decide (4000 < (bl s).length)=false:=by simp at h1 ⊢; omega
 have hlen:(bl s).length<=4000:=by simpa using h2
 refine cQ (α:=Nat × Nat × List Tk) (fun z=>[(5,.va (.c1 (.pt 0 0))),(6,.va (.c1 (.sl 1 z.2.2.length)))]) (fun z=>[kA s z.2.1 0 0,.row (z.2.2.map kU) 74 4])
  (fun z=>(bl s).length < z.1 + z.2.1/\z.2.1<=(bl s).length/\z.2.2.length<=z.2.1/\SR.app z.2.2 (fI z.1 (bl s) z.2.1)=bH (bl s)) (fun z=>z.1)
  (.nil 6 74 4 ?_ (iO ((bl s).length + 1,0,[]) 2 ⟨by simp only; omega,by simp,by simp,?_⟩ ?_ ?_)) ?_
 · simp -dsimp only [go_sem]; rfl
 · simp only [bH,h2,aG]
   cases fI ((bl s).length + 1) (bl s) 0<;>rfl
 · simp -dsimp only [go_sem]
 · simp -dsimp only [go_sem]; rfl
 rintro ⟨f,a,acc⟩ ⟨hf,ha,hac,hr⟩
 simp only at hf ha hac hr
 simp -dsimp only [go_sem]
 have hpl:b6 (bl s) a<=(bl s).length:=p9 ha
 have hpa:a<=b6 (bl s) a:=C1
 obtain ⟨hb,ho⟩:=wI hpl
 obtain ⟨f,rfl⟩:∃ g,f=g + 1:=⟨f - 1,by omega⟩
 rw [fI] at hr
 refine ⟨⟨by omega,by omega,hlen⟩,fun k x n y z e t ht=>?_⟩
 cases hR:eT (bl s) (b6 (bl s) a) with
 | bad e' t'=>
  rw [hR] at ht hr
  obtain ⟨rfl,rfl,z,rfl⟩:=ht
  have he:=hb hR
  simp only [SR.app] at hr
  rw [<-hr] at hK
  simp only [SR.toks,SR.err,SR.off] at hK
  refine ⟨fun h3=>.z (?_),fun h3=>absurd h3 (by simpa using he)⟩
  simpa [go_sem] using hK
 | ok k' x' n' z'=>
  rw [hR] at ht hr
  obtain ⟨rfl,rfl,rfl,rfl,rfl,rfl,rfl⟩:=ht
  obtain ⟨o1,o2⟩:=ho hR
  refine ⟨fun h3=>absurd h3 (by simp),fun _=>⟨by omega,fun h3=>?_,fun h3=>?_⟩⟩
  · simp only [h3,aM,SR.app] at hr
    rw [<-hr] at hK
    simp only [SR.toks,SR.err,SR.off,List.map_append,List.map_cons,List.map_nil] at hK
    refine .pub 1 _ _ _ rfl (.sel [] (by simp) (by simp [dA]) rfl (.done ?_))
    simpa [go_sem] using hK
  · simp only [h3,aG,SR.app_cons] at hr
    obtain ⟨o3,o4⟩:=o2 (by simpa using h3)
    refine aB (f,z',acc ++ [⟨k,x',n,b6 (bl s) a⟩]) 2 ⟨by simp only; omega,o4,by simp; omega,hr⟩ (by simp only; omega) ?_ ?_
    · simp -dsimp only [go_sem]
    · simp -dsimp only [go_sem]
def bR (l:List UInt8):Bool:=match l with
 | []=>false
 | c :: _=>decide (l.length<=16) && bQ c.toNat && l.all aW
def xV:List S->Prop:=fun xs=>match xs with
 | [.va (.c1 (.vl (.string _)))]=>True
 | _=>False
theorem iF {xs:List S} (h:xV xs):∃ s,xs=[tS s]:=by
 unfold xV at h
 split at h
 · exact ⟨_,rfl⟩
 · exact h.elim
def KC (f:List UInt8->Value):List S->A:=fun xs=>match xs with
 | [.va (.c1 (.vl (.string s)))]=>.c1 (.vl (f (bl s)))
 | _=>.gs []
def sW (f:List UInt8->Value):Fun:=⟨xV,KC f,fun xs h=>by obtain ⟨s,rfl⟩:=iF h; trivial⟩
theorem n9 {f:List UInt8->Value}:∀ xs H K,(sW f).sp xs H K->xs.length=1:=fun xs H K h=>by obtain ⟨s,rfl⟩:=iF h.1.1; rfl
attribute [go_sem] sW xV KC
theorem rY {l:List UInt8} (h:16 < l.length):bR l=false:=by
 cases l with
 | nil=>rfl
 | cons c l=>
  simp only [bR]
  have:decide ((c :: l).length<=16)=false:=by simp at h ⊢; omega
  rw [this]; rfl
theorem wQ {l:List UInt8} {c:UInt8} (h:l[0]? = some c) (hc:bQ c.toNat=false):bR l=false:=by
 cases l with
 | nil=>rfl
 | cons d l=>simp at h; subst h; simp [bR,hc]
theorem GZ {l:List UInt8} {i:Nat} {c:UInt8} (h:l[i]? = some c) (hc:aW c=false):bR l=false:=by
 cases l with
 | nil=>rfl
 | cons d l=>
  have:(d :: l).all aW=false:=by rw [List.all_eq_false]; exact ⟨c,bT h,by simp [hc]⟩
  simp only [bR,this,Bool.and_false]
theorem BA {l:List UInt8} {c:UInt8} (h:l[0]? = some c) (hl:l.length<=16) (hc:bQ c.toNat=true) (ha:∀ (j:Nat) (x:UInt8),l[j]? = some x->aW x=true):bR l=true:=by
 cases l with
 | nil=>simp at h
 | cons d l=>
  simp at h; subst h
  have h1:(d :: l).all aW=true:=by
   rw [List.all_eq_true]; intro x hx
   obtain ⟨j,hj⟩:=List.mem_iff_getElem?.1 hx
   exact ha j x hj
  simp only [bR,h1,hc,Bool.and_true,decide_eq_true_eq]; exact hl
theorem Q2 (c:UInt8):((dJ c.toNat != 3) && (dJ c.toNat != 4) && (dJ c.toNat != 6))=!(aW c):=by
 rw [<-DP]; simp [bne,Bool.not_or]
theorem sZ:Meets Tryz.prog 95 (sW fun l=>.bool (bR l)).sp:=by
 refine aI Tryz.func95 aBX 1 (by rw [Tryz.ntmps95]; decide) (aL LE (aC _)) n9 ?_
 rintro xs H K ⟨⟨h,rfl⟩,hK⟩
 obtain ⟨s,rfl⟩:=iF h
 have hn:∀ c:UInt8,(dJ c.toNat != 3)=!(bQ c.toNat):=fun c=>by rw [bne,XO]
 simp -dsimp only [go_sem,S2,WN,hn] at hK ⊢
 generalize hg:(bl s == [] || decide (16 < ((bl s).length:Int)))=g
 have hg1:g=false->0 < (bl s).length/\(bl s).length<=16:=fun h=>by
  subst hg; simp at h
  exact ⟨List.length_pos_iff.2 h.1,by omega⟩
 have hg2:g=true->bR (bl s)=false:=fun h=>by
  subst hg; simp at h
  rcases h with h | h
  · rw [h]; rfl
  · exact rY (by omega)
 refine ⟨fun h=>⟨by omega,by have:=hg1 h; omega⟩,fun c hc=>⟨fun h=>?_,fun h=>?_,fun h=>?_⟩⟩
 · have:=c.toNat_lt; omega
 · refine d9 hK ?_
   cases g with
   | true=>rw [hg2 rfl]
   | false=>simp at h; rw [wQ (hc rfl) h]
 simp at h
 obtain ⟨rfl,h3⟩:=h
 have hc:=hc rfl
 obtain ⟨hl0,hl⟩:=hg1 rfl
 refine aT (α:=Nat) (fun i=>[(0,tS s),(19,iS .i64 (bl s).length),(20,iS .i64 i)]) (fun i=>[]) (fun i=>i<=(bl s).length/\∀ (j:Nat) (x:UInt8),j < i->(bl s)[j]? = some x->aW x=true) (fun i=>(bl s).length - i) 0 0 ⟨by omega,by omega⟩ ?_ ?_ ?_
 · simp -dsimp only [go_sem]; simp
 · simp [go_sem]
 rintro i ⟨hi,ha⟩
 simp -dsimp only [go_sem,Q2]
 have hlt:(bl s).length < 2^64:=by omega
 refine ⟨fun h1=>⟨⟨by omega,by simpa using h1⟩,fun d hd=>⟨by have:=d.toNat_lt; omega,fun h2=>?_,fun h2=>⟨by omega,?_⟩⟩⟩,fun h1=>?_⟩
 · refine d9 hK ?_
   rw [GZ hd h2]
 · refine aB (i + 1) 0 ⟨by have:=(a8.1 hd).1; omega,fun j x hj hx=>?_⟩ (by have:=(a8.1 hd).1; omega) ?_ ?_
   · rcases bG j i with h4 | h4
     · exact ha j x h4 hx
     · obtain rfl:j=i:=by omega
       rw [hd] at hx; obtain rfl:=bJ hx
       simpa [aW] using h2
   · simp -dsimp only [go_sem]; simp
   · simp [go_sem]
 · refine d9 hK ?_
   have:i=(bl s).length:=by simp at h1; omega
   subst this
   rw [BA hc hl h3 fun j x hx=>ha j x (a8.1 hx).1 hx]
def qTrue:Fun:=⟨fun xs=>xs=[],fun _=>bA true,fun xs h=>trivial⟩
theorem KV:∀ xs H K,qTrue.sp xs H K->xs.length=0:=fun xs H K h=>by rw [show xs=[] from h.1.1]; rfl
attribute [go_sem] qTrue
theorem P4 (l:List UInt8):bl (mk l)=l:=by simp [bl,mk]
end Go.Proofs.YtgogpogophflhaaGreatDoor
namespace Go.W
section
variable {P:Program} {f:FuncId} {s:Spec}
def pubB (n:Nat) (s:Spec):Spec:=fun ar H K=>match H[n]? with
 | some (.row xs _ _)=>s (ar.map (S.pub n xs)) (dA n xs H) K
 | _=>False
def dropB (s:Spec):Spec:=fun ar H K=>s (ar.map fun a=>a.nf.ren (loc [])) [] fun r H'=>K (r.ren (back [] H.length)) (nL [] H (H'.map (B.ren (back [] H.length))))
theorem Rel.rebase {X:Ctx} {E:Es} {ro:RO} {w:World} (h:Rel X E ro w):Rel ⟨w,dQ E,ro,gm E⟩ E ro w:=
 ⟨h.own,h.inj,h.apart,h.rd,Ext.refl _,fun _ _ _ h=>.inl h,fun n b g blk hn en hl=>.inr (fA.2 ⟨n,g,blk,hn,en,hl⟩),.refl _,Nat.le_refl _,fun _ _ _=>rfl,rfl,rfl,rfl⟩
theorem Rel.over {X:Ctx} {E E':Es} {ro ro':RO} {w w':World} (h:Rel X E ro w) (k:Rel ⟨w,dQ E,ro,gm E⟩ E' ro' w'):Rel X E' ro' w' where
 own:=k.own
 inj:=k.inj
 apart:=k.apart
 rd:=k.rd
 ro0:=h.ro0.trans k.ro0
 rob:=fun b off v hc=>by
  rcases k.rob b off v hc with q | ⟨q | q,q'⟩
  · rcases h.rob b off v q with r | ⟨r,r'⟩
    · exact .inl r
    · exact .inr ⟨r,by rw [(k.ro0 b off v q).2]; exact r'⟩
  · simp only at q; have:=h.sz; exact .inr ⟨.inl (by omega),q'⟩
  · obtain ⟨n,g,blk,hE,hgb,hl⟩:=fA.1 q
    exact .inr ⟨h.par n b g blk hE hgb hl,q'⟩
 par:=fun n b g blk hn en hl=>by
  rcases k.par n b g blk hn en hl with q | q
  · simp only at q; have:=h.sz; exact .inl (by omega)
  · obtain ⟨n',g',blk',hE,hgb,hl'⟩:=fA.1 q
    exact h.par n' b g' blk' hE hgb hl'
 gx:=h.gx.trans k.gx
 sz:=Nat.le_trans h.sz k.sz
 keep:=fun b hb hp=>by
  rw [k.keep b (by have:=h.sz; simp only; omega) (fun hb'=>?_)]
  · exact h.keep b hb hp
  · obtain ⟨n,g,blk,hE,hgb,hl⟩:=fA.1 hb'
    rcases h.par n b g blk hE hgb hl with q | q
    · omega
    · exact hp q
 os:=k.os.trans h.os
 tape:=k.tape.trans h.tape
 output:=k.output.trans h.output
theorem Meets.pubB (h:Meets P f s) (n:Nat):Meets P f (pubB n s):=by
 refine ⟨h.1,fun ar vs E ro w K hl hrel hr hs hG=>?_⟩
 unfold W.pubB at hs
 split at hs
 · rename_i xs T sz hn
   obtain ⟨g,hE⟩:∃ g,E[n]? = some (g,.row xs T sz):=by
    simp only [hp,List.getElem?_map] at hn
    cases hE:E[n]? with
    | none=>rw [hE] at hn; cases hn
    | some y=>rw [hE] at hn; simp at hn; exact ⟨y.1,by rw [<-hn]⟩
   obtain ⟨ro',hext,hfz,hglen,hr'⟩:=hr.pubR hE
   have hcall:=h.2 (ar.map (S.pub n xs)) vs (bZ (B.pub n xs) (E.set n (g,.dead))) ro' w K (by simpa using hl) (fun i x v hx hv=>by
    rw [List.getElem?_map] at hx
    cases hi:ar[i]? with
    | none=>rw [hi] at hx; cases hx
    | some y=>
     rw [hi] at hx
     simp only [Option.map_some,aF] at hx
     subst hx
     rw [fN,eI hE]
     exact S.rel_pub hext (cK hE) hglen hfz (hrel i y v hi hv)) hr'.rebase (by rw [gN,hp_kill]; exact hs) (hG.mono hext)
   refine hcall.mono ?_
   rintro e w' ⟨r,v,E',ro2,rfl,hrv,hR,hrel'⟩
   exact ⟨r,v,E',ro2,rfl,hrv,hR,hr'.over hrel'⟩
 · exact hs.elim
theorem Meets.dropB (h:Meets P f s):Meets P f (dropB s):=by
 refine ⟨h.1,fun ar vs E ro w K hl hrel hr hs hG=>?_⟩
 unfold W.dropB at hs
 have hnd:([]:List Nat).Nodup:=.nil
 have hlt:∀ n ∈ ([]:List Nat),n < E.length:=fun n hn=>by cases hn
 have gxl:∀ (n m:Nat) (g:Gb),loc [] n=some m->(gm E)[n]? = some g->(gm (bZ (B.ren (loc [])) (dT E [])))[m]? = some g:=fun n m g h1 h2=>by rw [fN]; exact sP n m g h1 h2
 have hloc:Rel ⟨w,dQ (bZ (B.ren (loc [])) (dT E [])),ro,gm (bZ (B.ren (loc [])) (dT E []))⟩ (bZ (B.ren (loc [])) (dT E [])) ro w:=by
  have h0:Rel ⟨w,dQ E,ro,[]⟩ E ro w:=⟨hr.own,hr.inj,hr.apart,hr.rd,Ext.refl _,fun _ _ _ h=>.inl h,fun n b g blk hn en hl=>.inr (fA.2 ⟨n,g,blk,hn,en,hl⟩),fun n g hn=>by simp at hn,Nat.le_refl _,fun _ _ _=>rfl,rfl,rfl,rfl⟩
  exact (h0.sel hnd hlt (fun n g hn=>by simp at hn)).here
 have hcall:=h.2 (ar.map fun s=>s.nf.ren (loc [])) vs (bZ (B.ren (loc [])) (dT E [])) ro w _ (by simpa using hl) (fun i x v hx hv=>by
  rw [List.getElem?_map] at hx
  cases hi:ar[i]? with
  | none=>rw [hi] at hx; cases hx
  | some y=>
   rw [hi] at hx
   simp only [Option.map_some,aF] at hx
   subst hx
   exact S.rel_ren gxl (S.rel_nf (hrel i y v hi hv))) hloc (by rw [gN,tT]; exact hs) hG
 refine hcall.mono ?_
 rintro e w' ⟨r,v,E',ro',rfl,hrv,hR,hrel'⟩
 obtain ⟨q1,q2,q3⟩:=hr.back hnd hlt rfl hrel'
 refine ⟨_,v,_,ro',rfl,S.rel_ren q3 hrv,?_,q1⟩
 rw [vP,gN]
 rw [eD] at hR
 exact hR
def lend1 (s:Spec):Spec:=pubB 0 (dropB s)
theorem Meets.lend1 (h:Meets P f s):Meets P f (lend1 s):=h.dropB.pubB 0
def lend2 (s:Spec):Spec:=pubB 0 (pubB 1 (dropB s))
theorem Meets.lend2 (h:Meets P f s):Meets P f (lend2 s):=(h.dropB.pubB 1).pubB 0
attribute [go_sem ↓] pubB dropB lend1 lend2
end
end Go.W
namespace Go.Proofs.YtgogpogophflhaaGreatDoor
open Go.W
theorem wG {α:Type} {row:α->List C} {l:List α} {n:Nat} {c:α} (h:l[n]? = some c) (p:List C->Prop):(∀ r,(l.map row)[n]? = some r->p r)=p (row c):=by
 rw [List.getElem?_map,h]; simp
theorem aN {α:Type} {row:α->List C} {l:List α} {n:Nat} {c:α} (h:l[n]? = some c) (p:List C->Prop):(∀ r,(l.map row)[((n:Nat):Int).toNat]? = some r->p r)=p (row c):=by
 rw [Int.toNat_natCast,List.getElem?_map,h]; simp
theorem gI {α:Type} {row:α->List C} {n:Nat} (h:∀ a,(row a).length=n) (l:List α):(∀ r:List C,r ∈ l.map row->r.length=n)=True:=eq_true fun r hr=>by obtain ⟨x,_,rfl⟩:=List.mem_map.1 hr; exact h x
inductive Ty where
 | mk (k s:Int) (n:ByteArray) (e:List Ty)
instance:Inhabited Ty:=⟨.mk 0 0 ByteArray.empty []⟩
def Ty.k:Ty->Int | .mk k _ _ _=>k
def Ty.s:Ty->Int | .mk _ s _ _=>s
def Ty.n:Ty->ByteArray | .mk _ _ n _=>n
def Ty.e:Ty->List Ty | .mk _ _ _ e=>e
mutual
def aP:Ty->List C
 | .mk k s n e=>[.vl (.int .i64 k),.vl (.int .i64 s),.vl (.string n),.fz (l9 e)]
def l9:List Ty->List (List C)
 | []=>[]
 | t :: r=>aP t :: l9 r
end
theorem aU:∀ l:List Ty,l9 l=l.map aP
 | []=>rfl
 | t :: r=>by rw [l9,aU r]; rfl
theorem bX (t:Ty):aP t=[.vl (.int .i64 t.k),.vl (.int .i64 t.s),.vl (.string t.n),.fz (t.e.map aP)]:=by
 cases t with
 | mk k s n e=>rw [aP,aU]; rfl
mutual
theorem tH:∀ {a b:Ty},aP a=aP b->a=b
 | .mk k s n e,.mk k' s' n' e',h=>by
  rw [aP,aP] at h
  simp only [List.cons.injEq,C.vl.injEq,Value.int.injEq,Value.string.injEq,C.fz.injEq,true_and,and_true] at h
  obtain ⟨rfl,rfl,rfl,h4⟩:=h
  rw [EZ h4]
theorem EZ:∀ {a b:List Ty},l9 a=l9 b->a=b
 | [],[],_=>rfl
 | [],_ :: _,h=>by rw [l9,l9] at h; cases h
 | _ :: _,[],h=>by rw [l9,l9] at h; cases h
 | x :: a,y :: b,h=>by
  rw [l9,l9] at h
  obtain ⟨h1,h2⟩:=List.cons.inj h
  rw [tH h1,EZ h2]
end
mutual
def Ty.h:Ty->Nat
 | .mk _ _ _ e=>Ty.hs e + 1
def Ty.hs:List Ty->Nat
 | []=>0
 | t :: r=>max t.h (Ty.hs r)
end
theorem Ty.hs_mem:∀ {l:List Ty} {t:Ty},t ∈ l->t.h<=Ty.hs l
 | x :: l,t,h=>by
  rw [Ty.hs]
  rcases List.mem_cons.1 h with rfl | h
  · omega
  · have:=Ty.hs_mem h; omega
structure Fl where
 num:Int
 nm:ByteArray
 ty:Ty
 opt:Bool
instance:Inhabited Fl:=⟨⟨0,ByteArray.empty,default,false⟩⟩
def bD (f:Fl):List C:=[.vl (.int .i64 f.num),.vl (.string f.nm),.vl (.int .i64 f.ty.k),.vl (.int .i64 f.ty.s),.vl (.string f.ty.n),.fz (f.ty.e.map aP),.vl (.bool f.opt)]
structure St where
 nm:ByteArray
 fs:List Fl
instance:Inhabited St:=⟨⟨ByteArray.empty,[]⟩⟩
def aJ (s:St):List C:=[.vl (.string s.nm),.fz (s.fs.map bD)]
abbrev dS (n:Int):List C:=[.vl (.int .i64 n)]
abbrev bI (b:ByteArray):List C:=[.vl (.string b)]
structure En where
 nm:ByteArray
 ns:List ByteArray
 vs:List Int
instance:Inhabited En:=⟨⟨ByteArray.empty,[],[]⟩⟩
def aQ (e:En):List C:=[.vl (.string e.nm),.fz (e.ns.map bI),.fz (e.vs.map dS)]
structure Sc where
 ver:Int
 es:List En
 ss:List St
instance:Inhabited Sc:=⟨⟨0,[],[]⟩⟩
def aA (s:Sc):List C:=[.vl (.int .i64 s.ver),.fz (s.es.map aQ),.fz (s.ss.map aJ)]
theorem mR {α β:Type} {f:α->β} (hf:∀ {a b},f a=f b->a=b):∀ {l m:List α},l.map f=m.map f->l=m
 | [],[],_=>rfl
 | [],_ :: _,h=>by cases h
 | _ :: _,[],h=>by cases h
 | x :: l,y :: m,h=>by
  simp only [List.map_cons,List.cons.injEq] at h
  rw [hf h.1,mR hf h.2]
theorem yX {a b:Int} (h:dS a=dS b):a=b:=by simpa using h
theorem yU {a b:ByteArray} (h:bI a=bI b):a=b:=by simpa using h
theorem zE {a b:Fl} (h:bD a=bD b):a=b:=by
 obtain ⟨a1,a2,a3,a4⟩:=a
 obtain ⟨b1,b2,b3,b4⟩:=b
 simp only [bD,List.cons.injEq,C.vl.injEq,Value.int.injEq,Value.string.injEq,Value.bool.injEq,C.fz.injEq,true_and,and_true] at h
 obtain ⟨rfl,rfl,h3,h4,h5,h6,rfl⟩:=h
 have:a3=b3:=tH (by rw [bX,bX,h3,h4,h5,h6])
 rw [this]
theorem zB {a b:St} (h:aJ a=aJ b):a=b:=by
 obtain ⟨a1,a2⟩:=a
 obtain ⟨b1,b2⟩:=b
 simp only [aJ,List.cons.injEq,C.vl.injEq,Value.string.injEq,C.fz.injEq,and_true] at h
 obtain ⟨rfl,h2⟩:=h
 rw [mR zE h2]
theorem zC {a b:En} (h:aQ a=aQ b):a=b:=by
 obtain ⟨a1,a2,a3⟩:=a
 obtain ⟨b1,b2,b3⟩:=b
 simp only [aQ,List.cons.injEq,C.vl.injEq,Value.string.injEq,C.fz.injEq,and_true] at h
 obtain ⟨rfl,h2,h3⟩:=h
 rw [mR yU h2,mR yX h3]
theorem RA {a b:Sc} (h:aA a=aA b):a=b:=by
 obtain ⟨a1,a2,a3⟩:=a
 obtain ⟨b1,b2,b3⟩:=b
 simp only [aA,List.cons.injEq,C.vl.injEq,Value.int.injEq,C.fz.injEq,true_and,and_true] at h
 obtain ⟨rfl,h2,h3⟩:=h
 rw [mR zC h2,mR zB h3]
noncomputable def rA {α β:Type} [Inhabited α] (f:α->β) (b:β):α:=Classical.epsilon fun a=>f a=b
theorem kQ {α β:Type} [Inhabited α] {f:α->β} (hf:∀ {a b},f a=f b->a=b) (a:α):rA f (f a)=a:=hf (Classical.epsilon_spec (p:=fun x=>f x=f a) ⟨a,rfl⟩)
theorem mQ {α β:Type} [Inhabited α] {f:α->β} (hf:∀ {a b},f a=f b->a=b) (l:List α):(l.map f).map (rA f)=l:=by
 rw [List.map_map,show (rA f ∘ f)=id from funext fun a=>kQ hf a,List.map_id]
noncomputable def C.ty:=rA aP
noncomputable def C.fl:=rA bD
noncomputable def C.st:=rA aJ
noncomputable def C.en:=rA aQ
noncomputable def C.sc:=rA aA
noncomputable def C.bs:=rA bI
noncomputable def C.it:=rA dS
@[go_sem] theorem iC (t:Ty):C.ty (aP t)=t:=kQ tH t
@[go_sem] theorem aGO (t:Fl):C.fl (bD t)=t:=kQ zE t
@[go_sem] theorem KB (t:St):C.st (aJ t)=t:=kQ zB t
@[go_sem] theorem DG (t:En):C.en (aQ t)=t:=kQ zC t
@[go_sem] theorem fX (t:Sc):C.sc (aA t)=t:=kQ RA t
@[go_sem] theorem aGY (t:ByteArray):C.bs (bI t)=t:=kQ yU t
@[go_sem] theorem aIK (t:Int):C.it (dS t)=t:=kQ yX t
@[go_sem] theorem aHA (l:List Ty):(l.map aP).map C.ty=l:=mQ tH l
@[go_sem] theorem aG3 (l:List Fl):(l.map bD).map C.fl=l:=mQ zE l
@[go_sem] theorem aHJ (l:List St):(l.map aJ).map C.st=l:=mQ zB l
@[go_sem] theorem aHG (l:List En):(l.map aQ).map C.en=l:=mQ zC l
@[go_sem] theorem aIX (l:List ByteArray):(l.map bI).map C.bs=l:=mQ yU l
@[go_sem] theorem wS (l:List Int):(l.map dS).map C.it=l:=mQ yX l
theorem dO (t:Ty):(aP t).length=4:=by rw [bX]; rfl
theorem HK (t:Fl):(bD t).length=7:=rfl
theorem Q0 (t:St):(aJ t).length=2:=rfl
theorem R6 (t:En):(aQ t).length=3:=rfl
theorem x4 {a b:ByteArray} (h:bl a=bl b):a=b:=by rw [<-lL a,<-lL b,h]
theorem c7 (a b:ByteArray):(bl a == bl b)=decide (a=b):=by
 rw [Bool.eq_iff_iff,beq_iff_eq,decide_eq_true_eq]
 exact ⟨x4,fun h=>by rw [h]⟩
def cD (n:Int):Prop:=-9223372036854775808<=n/\n<=9223372036854775807
inductive TyOk:Ty->Prop
 | mk {k s:Int} {n:ByteArray} {e:List Ty}:cD k->cD s->n.size<=9223372036854775807->e.length<=9223372036854775807->(∀ t ∈ e,TyOk t)->TyOk (.mk k s n e)
theorem TyOk.len {t:Ty} (h:TyOk t):t.e.length<=9223372036854775807:=by cases h; assumption
theorem TyOk.k {t:Ty} (h:TyOk t):cD t.k:=by cases h; assumption
theorem TyOk.s {t:Ty} (h:TyOk t):cD t.s:=by cases h; assumption
theorem TyOk.n {t:Ty} (h:TyOk t):t.n.size<=9223372036854775807:=by cases h; assumption
theorem TyOk.e {t:Ty} (h:TyOk t):∀ u ∈ t.e,TyOk u:=by cases h; assumption
structure Fl.ok (f:Fl):Prop where
 num:cD f.num
 nm:f.nm.size<=9223372036854775807
 ty:TyOk f.ty
structure St.ok (s:St):Prop where
 nm:s.nm.size<=9223372036854775807
 len:s.fs.length<=9223372036854775807
 fs:∀ f ∈ s.fs,f.ok
structure En.ok (e:En):Prop where
 nm:e.nm.size<=9223372036854775807
 ln:e.ns.length<=9223372036854775807
 lv:e.vs.length<=9223372036854775807
 ns:∀ n ∈ e.ns,n.size<=9223372036854775807
 vs:∀ n ∈ e.vs,cD n
structure Sc.ok (s:Sc):Prop where
 ver:cD s.ver
 le:s.es.length<=9223372036854775807
 ls:s.ss.length<=9223372036854775807
 es:∀ e ∈ s.es,e.ok
 ss:∀ t ∈ s.ss,t.ok
def e8 (r:List C):Prop:=∃ t,r=aP t/\TyOk t
def JH (r:List C):Prop:=∃ s:St,r=aJ s/\s.ok
def vQ (r:List C):Prop:=∃ e:En,r=aQ e/\e.ok
def oH (r:List C):Prop:=∃ s:Sc,r=aA s/\s.ok
theorem eP {t:Ty} (h:TyOk t):e8 (aP t):=⟨t,rfl,h⟩
theorem FT {t:St} (h:t.ok):JH (aJ t):=⟨t,rfl,h⟩
theorem y6 {t:En} (h:t.ok):vQ (aQ t):=⟨t,rfl,h⟩
theorem yQ {t:Sc} (h:t.ok):oH (aA t):=⟨t,rfl,h⟩
def HZ (p:List C->Prop):List S->Prop:=fun av=>match av with
 | [.va (.gs r)]=>p r
 | _=>False
theorem eK {p:List C->Prop} {av:List S} (h:HZ p av):∃ r,av=[.va (.gs r)]/\p r:=by
 unfold HZ at h
 split at h
 · exact ⟨_,rfl,h⟩
 · exact h.elim
def XV {α:Type} (d:List C->α) (f:α->A):List S->A:=fun av=>match av with
 | [.va (.gs r)]=>f (d r)
 | _=>.gs []
attribute [go_sem] HZ XV
def gQ (l:List UInt8):Bool:=bR l && match l with | c :: _=>decide (65<=(c.toNat:Int)) && decide ((c.toNat:Int)<=90) | []=>false
theorem AM:Meets Tryz.prog 73 (sW fun l=>.bool (gQ l)).sp:=by
 refine aI Tryz.func73 aCV 1 (by rw [Tryz.ntmps73]; decide) (aL sZ (aC _)) n9 ?_
 rintro xs H K ⟨⟨h,rfl⟩,hK⟩
 obtain ⟨s,rfl⟩:=iF h
 have hK':K (.va (.c1 (.vl (.bool (gQ (bl s)))))) []:=hK
 clear hK h
 unfold gQ at hK'
 cases hn:bR (bl s) with
 | false=>
  rw [hn] at hK'
  simp -dsimp only [go_sem,MU,NW,hn]
  exact .done hK'
 | true=>
  cases hl:bl s with
  | nil=>rw [hl] at hn; cases hn
  | cons c r=>
   rw [hl] at hn hK'
   rw [hn] at hK'
   simp -dsimp only [go_sem,MU,NW,hl,hn]
   refine ⟨by omega,fun d hd=>⟨fun _=>by omega,fun e he=>?_⟩⟩
   subst hd
   cases hc:decide (65<=(c.toNat:Int)) with
   | false=>simp only [hc,Bool.true_and,Bool.false_and] at hK'; exact .done hK'
   | true=>
    obtain rfl:=he hc
    simp only [hc,Bool.true_and] at hK'; exact .done hK'
def qD (rs:List (List C)):Prop:=∃ l:List ByteArray,rs=l.map bI/\l.length<=9223372036854775807
theorem mP {l:List ByteArray} (h:l.length<=9223372036854775807):qD (l.map bI):=⟨l,rfl,h⟩
def BS:List S->Prop:=fun av=>match av with
 | [.va (.c1 (.fz rs)),.va (.c1 (.vl (.string _)))]=>qD rs
 | _=>False
theorem mG {av:List S} (h:BS av):∃ (l:List ByteArray) (x:ByteArray),av=[.va (.c1 (.fz (l.map bI))),tS x]/\l.length<=9223372036854775807:=by
 unfold BS at h
 split at h
 · obtain ⟨l,rfl,h⟩:=h; exact ⟨l,_,rfl,h⟩
 · exact h.elim
noncomputable def P8 (f:List ByteArray->ByteArray->Value):List S->A:=fun av=>match av with
 | [.va (.c1 (.fz rs)),.va (.c1 (.vl (.string x)))]=>.c1 (.vl (f (rs.map C.bs) x))
 | _=>.gs []
noncomputable def yO (f:List ByteArray->ByteArray->Value):Fun:=⟨BS,P8 f,fun av h=>by obtain ⟨l,x,rfl,_⟩:=mG h; trivial⟩
theorem E0 {f}:∀ av H K,(yO f).sp av H K->av.length=2:=fun av H K h=>by obtain ⟨l,x,rfl,_⟩:=mG h.1.1; rfl
attribute [go_sem] yO BS P8
def qS:List ByteArray->ByteArray->Nat->Int
 | [],_,_=>-1
 | y :: l,x,i=>bif decide (x=y) then (i:Int) else qS l x (i + 1)
def b5 (l:List ByteArray) (x:ByteArray):Bool:=l.any fun y=>decide (x=y)
theorem oT (l:List ByteArray) (x:ByteArray):b5 l x=true ↔ x ∈ l:=by
 unfold b5; rw [List.any_eq_true]
 exact ⟨fun ⟨y,hy,h⟩=>by rw [of_decide_eq_true h]; exact hy,fun h=>⟨x,h,by simp⟩⟩
theorem GT:∀ (l:List ByteArray) (x:ByteArray) (i:Nat),decide (0<=qS l x i)=b5 l x
 | [],_,_=>by simp [qS,b5]
 | y :: l,x,i=>by
  simp only [qS]
  by_cases h:x=y
  · simp [h,b5]
  · have:=GT l x (i + 1)
    simp [h,b5] at this ⊢; exact this
theorem SI:Meets Tryz.prog 122 (yO fun l x=>.int .i64 (qS l x 0)).sp:=by
 refine aI Tryz.func122 aAW 2 (by rw [Tryz.ntmps122]; decide) (aC _) E0 ?_
 rintro av H K ⟨⟨h,rfl⟩,hK⟩
 obtain ⟨l,x,rfl,hl⟩:=mG h
 have hK:K (iS .i64 (qS l x 0)) []:=by
  have:(yO fun l x=>.int .i64 (qS l x 0)).val [.va (.c1 (.fz (l.map bI))),tS x]=iA .i64 (qS l x 0):=by simp -dsimp only [go_sem]
  rw [this] at hK; exact hK
 simp -dsimp only [go_sem,OV,NX]
 refine aT (α:=Nat) (fun i=>[(0,.va (.c1 (.fz (l.map bI)))),(1,tS x),(7,iS .i64 l.length),(8,iS .i64 i)]) (fun _=>[])
  (fun i=>i<=l.length/\qS (l.drop i) x i=qS l x 0) (fun i=>l.length - i) 0 0 ⟨Nat.zero_le _,rfl⟩ ?_ ?_ ?_
 · simp [go_sem]
 · simp [go_sem]
 rintro i ⟨hi,ho⟩
 rcases bG i l.length with hlt | hge
 · have hg:decide ((i:Int) < (l.length:Int))=true:=by simp; omega
   have hx:l[i]? = some l[i]:=aV hlt
   have q1:=wG (row:=bI) hx
   have q2:=aN (row:=bI) hx
   rw [List.drop_eq_getElem_cons hlt] at ho
   simp only [qS] at ho
   generalize l[i]=y at *
   cases hc:decide (x=y) with
   | true=>
    rw [hc,aM] at ho
    simp -dsimp only [go_sem,hg,↓q2,hc,c7]
    and_intros
    all_goals first
     | omega
     | exact .done (by rw [ho]; exact hK)
   | false=>
    rw [hc,aG] at ho
    simp -dsimp only [go_sem,hg,↓q2,hc,c7]
    and_intros
    all_goals first
     | omega
     | skip
    refine aB (i + 1) 0 ⟨by omega,ho⟩ (by omega) ?_ ?_
    · simp [go_sem]
    · simp [go_sem]
 · have hg:decide ((i:Int) < (l.length:Int))=false:=by simp; omega
   have:l.drop i=[]:=List.drop_eq_nil_iff.2 (by omega)
   rw [this] at ho
   simp -dsimp only [go_sem,hg]
   exact .done (by rw [show (-1:Int)=qS l x 0 from ho]; exact hK)
theorem xR:Meets Tryz.prog 111 (yO fun l x=>.bool (b5 l x)).sp:=by
 refine aI Tryz.func111 aAT 2 (by rw [Tryz.ntmps111]; decide) (aL SI (aC _)) E0 ?_
 rintro av H K ⟨⟨h,rfl⟩,hK⟩
 obtain ⟨l,x,rfl,hl⟩:=mG h
 have hK:K (bS (b5 l x)) []:=by
  have:(yO fun l x=>.bool (b5 l x)).val [.va (.c1 (.fz (l.map bI))),tS x]=bA (b5 l x):=by simp -dsimp only [go_sem]
  rw [this] at hK; exact hK
 simp -dsimp only [go_sem,OT,N3,mP hl,GT]
 exact .done hK
theorem gC {α:Type} (row:α->List C) (l:List α) (n:Nat):(l.map row).take n=(l.take n).map row:=List.map_take.symm
theorem nD {α:Type} (l:List α) (n:Nat):(l.take n).length<=l.length:=by rw [List.length_take]; omega
theorem lA (b:ByteArray):(bI b).length=1:=rfl
noncomputable def mX {α:Type} (p:List C->Prop) (d:List C->α) (f:α->Value):Fun:=⟨HZ p,XV d fun a=>.c1 (.vl (f a)),fun av h=>by obtain ⟨r,rfl,_⟩:=eK h; trivial⟩
theorem iE {α:Type} {p:List C->Prop} {d:List C->α} {f:α->Value}:∀ av H K,(mX p d f).sp av H K->av.length=1:=fun av H K h=>by obtain ⟨r,rfl,_⟩:=eK h.1.1; rfl
attribute [go_sem] mX
theorem cX {α:Type} {l:List α} {i:Nat} {x:α} (hx:l[i]? = some x) (p:α->Bool):(l.drop i).any p=(p x || (l.drop (i + 1)).any p):=by
 obtain ⟨h,rfl⟩:=a8.1 hx
 rw [List.drop_eq_getElem_cons h,List.any_cons]
theorem eV {α:Type} {l:List α} (p:α->Bool):(l.drop l.length).any p=false:=by rw [List.drop_length]; rfl
def cM (s:Sc):Bool:=decide (16 < s.es.length) || decide (16 < s.es.length + s.ss.length) || s.es.any (fun e=>decide (16 < e.ns.length)) || s.ss.any (fun t=>decide (16 < t.fs.length))
theorem UN:Meets Tryz.prog 72 (mX oH C.sc fun s=>.bool (cM s)).sp:=by
 refine aI Tryz.func72 aD8 1 (by rw [Tryz.ntmps72]; decide) (aC _) iE ?_
 rintro av H K ⟨⟨h,rfl⟩,hK⟩
 obtain ⟨_,rfl,s,rfl,hs⟩:=eK h
 have hK:K (bS (cM s)) []:=by
  have:(mX oH C.sc fun s=>.bool (cM s)).val [.va (.gs (aA s))]=bA (cM s):=by simp -dsimp only [go_sem]
  rw [this] at hK; exact hK
 obtain ⟨hv,hle,hls,hes,hss⟩:=hs
 simp -dsimp only [go_sem,aA,SW,XF]
 refine ⟨fun _=>by omega,fun h1=>?_,fun h1=>?_⟩
 · have:cM s=true:=by
    simp only [Bool.or_eq_true,decide_eq_true_eq] at h1
    unfold cM
    rcases h1 with h1 | h1
    · simp [show 16 < s.es.length by omega]
    · simp [show 16 < s.es.length + s.ss.length by omega]
   rw [this] at hK
   exact .z ((by simpa [go_sem] using hK))
 simp only [Bool.or_eq_false_iff,decide_eq_false_iff_not] at h1
 have hL:cM s=(s.es.any (fun e=>decide (16 < e.ns.length)) || s.ss.any (fun t=>decide (16 < t.fs.length))):=by
  unfold cM; rw [decide_eq_false (by omega),decide_eq_false (by omega)]; rfl
 refine aT (α:=Nat) (fun i=>[(1,.va (.c1 (.pt 0 0))),(22,.va (.c1 (.fz (s.es.map aQ)))),(23,iS .i64 s.es.length),(24,iS .i64 i)]) (fun _=>[.cells (aA s) 25])
  (fun i=>i<=s.es.length/\(s.es.drop i).any (fun e=>decide (16 < e.ns.length))=s.es.any (fun e=>decide (16 < e.ns.length))) (fun i=>s.es.length - i) 0 1 ⟨Nat.zero_le _,rfl⟩ ?_ ?_ ?_
 · simp [go_sem]
 · simp [go_sem,aA]
 rintro i ⟨hi,ho⟩
 rcases bG i s.es.length with hlt | hge
 · have hg:decide ((i:Int) < (s.es.length:Int))=true:=by simp; omega
   obtain ⟨e,hx⟩:∃ e,s.es[i]? = some e:=⟨_,aV hlt⟩
   have q2:=aN (row:=aQ) hx
   rw [cX hx] at ho
   simp -dsimp only [go_sem,hg,↓q2,aQ,aA]
   and_intros
   all_goals first
    | omega
    | skip
   · intro hc
     have hc':decide (16 < e.ns.length)=true:=by simp at hc; simp; omega
     have:cM s=true:=by simp only [hL,<-ho,hc',Bool.true_or]
     rw [this] at hK
     exact .z ((by simpa [go_sem] using hK))
   · intro hc
     refine ⟨by omega,aB (i + 1) 1 ⟨by omega,?_⟩ (by omega) ?_ ?_⟩
     · have hc':decide (16 < e.ns.length)=false:=by simp at hc; simp; omega
       rw [<-ho,hc',Bool.false_or]
     · simp [go_sem]
     · simp [go_sem,aA]
 · have hg:decide ((i:Int) < (s.es.length:Int))=false:=by simp; omega
   obtain rfl:i=s.es.length:=by omega
   rw [eV] at ho
   rw [<-ho,Bool.false_or] at hL
   simp -dsimp only [go_sem,hg,aA]
   refine aT (α:=Nat) (fun i=>[(1,.va (.c1 (.pt 0 0))),(34,.va (.c1 (.fz (s.ss.map aJ)))),(35,iS .i64 s.ss.length),(36,iS .i64 i)]) (fun _=>[.cells (aA s) 25])
    (fun i=>i<=s.ss.length/\(s.ss.drop i).any (fun e=>decide (16 < e.fs.length))=s.ss.any (fun e=>decide (16 < e.fs.length))) (fun i=>s.ss.length - i) 0 1 ⟨Nat.zero_le _,rfl⟩ ?_ ?_ ?_
   · simp [go_sem]
   · simp [go_sem,aA]
   clear hi ho hge hg
   rintro i ⟨hi,ho⟩
   rcases bG i s.ss.length with hlt | hge
   · have hg:decide ((i:Int) < (s.ss.length:Int))=true:=by simp; omega
     obtain ⟨e,hx⟩:∃ e,s.ss[i]? = some e:=⟨_,aV hlt⟩
     have q2:=aN (row:=aJ) hx
     rw [cX hx] at ho
     simp -dsimp only [go_sem,hg,↓q2,aJ,aA]
     and_intros
     all_goals first
      | omega
      | skip
     · intro hc
       have hc':decide (16 < e.fs.length)=true:=by simp at hc; simp; omega
       have:cM s=true:=by simp only [hL,<-ho,hc',Bool.true_or]
       rw [this] at hK
       exact .z ((by simpa [go_sem] using hK))
     · intro hc
       refine ⟨by omega,aB (i + 1) 1 ⟨by omega,?_⟩ (by omega) ?_ ?_⟩
       · have hc':decide (16 < e.fs.length)=false:=by simp at hc; simp; omega
         rw [<-ho,hc',Bool.false_or]
       · simp [go_sem]
       · simp [go_sem,aA]
   · have hg:decide ((i:Int) < (s.ss.length:Int))=false:=by simp; omega
     obtain rfl:i=s.ss.length:=by omega
     rw [eV] at ho
     simp -dsimp only [go_sem,hg,aA]
     rw [hL,<-ho] at hK
     exact .z ((by simpa [go_sem] using hK))
def fE (f:Nat->Int):Nat->Nat->Int
 | 0,_=>0
 | n + 1,i=>bif f i == 0 then fE f n (i + 1) else f i
theorem GI {f:Nat->Int} {m i:Nat} (h:i < m):fE f (m - i) i=bif f i == 0 then fE f (m - (i + 1)) (i + 1) else f i:=by
 obtain ⟨k,rfl⟩:∃ k,m=i + k + 1:=⟨m - i - 1,by omega⟩
 rw [show i + k + 1 - i=k + 1 by omega,show i + k + 1 - (i + 1)=k by omega]; rfl
theorem mD {f:Nat->Int} {m i:Nat} (h:i < m) (h0:f i=0):fE f (m - i) i=fE f (m - (i + 1)) (i + 1):=by rw [GI h,h0]; rfl
theorem kJ {f:Nat->Int} {m i:Nat} (h:i < m) (h0:f i ≠ 0):fE f (m - i) i=f i:=by
 rw [GI h,beq_eq_false_iff_ne.2 h0]; rfl
theorem lW (f:Nat->Int) (m:Nat):fE f (m - m) m=0:=by rw [Nat.sub_self]; rfl
def fV (e:En) (k:Nat):Int:=match e.ns[k]?,e.vs[k]? with
 | some nm,some n=>bif !(bR (bl nm)) then 5 else bif b5 (e.ns.take k) nm then 7 else bif decide (n < 0) || decide (127 < n) then 4 else
  bif (decide ((k:Int)=0) && decide (n ≠ 0)) || (decide (0 < (k:Int)) && match e.vs[k - 1]? with | some m=>decide (n<=m) | none=>false) then 2 else 0
 | _,_=>0
def lT (e:En):Int:=bif decide (e.ns.length=0) || decide (e.ns.length ≠ e.vs.length) then 2 else fE (fV e) e.ns.length 0
theorem IF:Meets Tryz.prog 74 (mX vQ C.en fun e=>.int .i64 (lT e)).sp:=by
 refine aI Tryz.func74 aCK 1 (by rw [Tryz.ntmps74]; decide) (aL sZ (aL xR (aC _))) iE ?_
 rintro av H K ⟨⟨h,rfl⟩,hK⟩
 obtain ⟨_,rfl,e,rfl,he⟩:=eK h
 have hK:K (iS .i64 (lT e)) []:=by
  have:(mX vQ C.en fun e=>.int .i64 (lT e)).val [.va (.gs (aQ e))]=iA .i64 (lT e):=by simp -dsimp only [go_sem]
  rw [this] at hK; exact hK
 clear h
 obtain ⟨_,hln,hlv,_,_⟩:=he
 simp -dsimp only [go_sem,aQ,TD,YB]
 refine ⟨fun h1=>?_,fun h1=>?_⟩
 · have:lT e=2:=by
    unfold lT
    have:(decide (e.ns.length=0) || decide (e.ns.length ≠ e.vs.length))=true:=by
     simp only [Bool.or_eq_true,beq_iff_eq,bne_iff_ne,decide_eq_true_eq] at h1 ⊢; omega
    rw [this]; rfl
   rw [this] at hK
   exact .z ((by simpa [go_sem] using hK))
 simp only [Bool.or_eq_false_iff,beq_eq_false_iff_ne,bne_eq_false_iff_eq,ne_eq] at h1
 have hl:e.ns.length=e.vs.length:=by omega
 have hF:lT e=fE (fV e) (e.ns.length - 0) 0:=by
  unfold lT; rw [decide_eq_false (by omega),decide_eq_false (by omega)]; rfl
 refine aT (α:=Nat) (fun i=>[(1,.va (.c1 (.pt 0 0))),(20,.va (.c1 (.fz (e.ns.map bI)))),(21,iS .i64 e.ns.length),(22,iS .i64 i)]) (fun _=>[.cells (aQ e) 62])
  (fun i=>i<=e.ns.length/\fE (fV e) (e.ns.length - i) i=fE (fV e) (e.ns.length - 0) 0) (fun i=>e.ns.length - i) 0 1 ⟨Nat.zero_le _,rfl⟩ ?_ ?_ ?_
 · simp [go_sem]
 · simp [go_sem,aQ]
 rintro i ⟨hi,ho⟩
 rcases bG i e.ns.length with hlt | hge
 · have hg:decide ((i:Int) < (e.ns.length:Int))=true:=by simp; omega
   obtain ⟨nm,hx⟩:∃ nm,e.ns[i]? = some nm:=⟨_,aV hlt⟩
   obtain ⟨n,hy⟩:∃ nm,e.vs[i]? = some nm:=⟨_,aV (by omega)⟩
   have q1:=aN (row:=bI) hx
   have q2:=aN (row:=dS) hy
   have ht:qD ((e.ns.take i).map bI):=mP (Nat.le_trans (nD _ _) hln)
   have hA:fV e i=bif !(bR (bl nm)) then (5:Int) else bif b5 (e.ns.take i) nm then 7 else bif decide (n < 0) || decide (127 < n) then 4 else
    bif (decide ((i:Int)=0) && decide (n ≠ 0)) || (decide (0 < (i:Int)) && match e.vs[i - 1]? with | some m=>decide (n<=m) | none=>false) then 2 else 0:=by
    unfold fV; rw [hx,hy]
   have fin:∀ x:Int,fV e i=x->x ≠ 0->W.Fin 0 K (iS .i64 x) [.cells (aQ e) 62]:=fun x h1 h2=>by
    rw [hF,<-ho,kJ hlt (by rw [h1]; exact h2),h1] at hK
    exact .z ((by simpa [go_sem] using hK))
   have cP:fV e i=0->fE (fV e) (e.ns.length - (i + 1)) (i + 1)=fE (fV e) (e.ns.length - 0) 0:=fun h1=>by rw [<-ho,mD hlt h1]
   rcases Nat.eq_zero_or_pos i with h0 | h0
   · subst h0
     have g1:decide ((0:Int) < 0)=false:=rfl
     have g2:((0:Int) == 0)=true:=rfl
     have hb0:b5 [] nm=false:=rfl
     have ht0:qD []:=⟨[],rfl,Nat.zero_le _⟩
     rw [Int.natCast_zero] at *
     cases hc1:bR (bl nm) with
     | false=>
      simp -dsimp only [go_sem,hg,↓q1,↓q2,aQ,hc1]
      exact ⟨by omega,by omega,fin 5 (by rw [hA,hc1]; rfl) (by decide)⟩
     | true=>
      cases hc3:(decide (n < 0) || decide (127 < n)) with
      | true=>
       simp -dsimp only [go_sem,hg,↓q1,↓q2,aQ,ht0,hb0,gC,gI lA,hc1,hc3]
       exact ⟨by omega,by omega,by omega,fin 4 (by rw [hA,hc1,hc3]; rfl) (by decide)⟩
      | false=>
       cases hn:(n != 0) with
       | true=>
        simp -dsimp only [go_sem,hg,↓q1,↓q2,aQ,ht0,hb0,gC,gI lA,Bool.false_and,g1,g2,hc1,hc3,hn]
        exact ⟨by omega,by omega,by omega,fin 2 (by rw [hA,hc1,hc3]; simp at hn; simp [hn,b5]) (by decide)⟩
       | false=>
        simp -dsimp only [go_sem,hg,↓q1,↓q2,aQ,ht0,hb0,gC,gI lA,Bool.true_and,g1,g2,hc1,hc3,hn]
        refine ⟨by omega,by omega,by omega,by omega,aB 1 1 ⟨by omega,cP ?_⟩ (by omega) ?_ ?_⟩
        · rw [hA,hc1,hc3]; simp at hn; simp [hn,b5]
        · simp [go_sem]
        · simp [go_sem,aQ]
   · have g1:decide (0 < (i:Int))=true:=by simp; omega
     have g2:((i:Int) == 0)=false:=by simp; omega
     obtain ⟨m,hm⟩:∃ m,e.vs[i - 1]? = some m:=⟨_,aV (by omega)⟩
     have q4:((i:Int) - 1).toNat=i - 1:=by omega
     cases hc1:bR (bl nm) with
     | false=>
      simp -dsimp only [go_sem,hg,↓q1,↓q2,aQ,hc1]
      exact ⟨by omega,by omega,fin 5 (by rw [hA,hc1]; rfl) (by decide)⟩
     | true=>
      cases hc2:b5 (e.ns.take i) nm with
      | true=>
       simp -dsimp only [go_sem,hg,↓q1,↓q2,aQ,ht,gC,gI lA,hc1,hc2]
       exact ⟨by omega,by omega,by omega,fin 7 (by rw [hA,hc1,hc2]; rfl) (by decide)⟩
      | false=>
       cases hc3:(decide (n < 0) || decide (127 < n)) with
       | true=>
        simp -dsimp only [go_sem,hg,↓q1,↓q2,aQ,ht,gC,gI lA,hc1,hc2,hc3]
        exact ⟨by omega,by omega,by omega,fin 4 (by rw [hA,hc1,hc2,hc3]; rfl) (by decide)⟩
       | false=>
        simp -dsimp only [go_sem,hg,↓q1,↓q2,aQ,ht,gC,gI lA,Bool.true_and,g1,g2,hc1,hc2,hc3,q4]
        refine ⟨by omega,by omega,by omega,by omega,by omega,fun x hx'=>?_⟩
        rw [hm] at hx'
        obtain rfl:=bJ hx'
        refine ⟨fun hn=>fin 2 (by rw [hA,hc1,hc2,hc3,hm,g1]; simp at hn; simp [hn]) (by decide),fun hn=>⟨by omega,aB (i + 1) 1 ⟨by omega,cP ?_⟩ (by omega) ?_ ?_⟩⟩
        · have hi0:i ≠ 0:=by omega
          rw [hA,hc1,hc2,hc3,hm,g1]; simp at hn; simp [hi0,show ¬ n<=m by omega]
        · simp [go_sem]
        · simp [go_sem,aQ]
 · have hg:decide ((i:Int) < (e.ns.length:Int))=false:=by simp; omega
   obtain rfl:i=e.ns.length:=by omega
   rw [lW] at ho
   simp -dsimp only [go_sem,hg,aQ]
   rw [hF,<-ho] at hK
   exact .z ((by simpa [go_sem] using hK))
def eM (ss:List St) (n:ByteArray):Bool:=ss.any fun s=>decide (s.nm=n)
def dB (es:List En) (n:ByteArray):Bool:=es.any fun s=>decide (s.nm=n)
def gV (s:Sc) (i:Nat) (n:ByteArray):Int:=bif !(gQ (bl n)) then 5 else bif dB s.es n then 7 else bif eM (s.ss.take i) n then 7 else 0
def BL:List S->Prop:=fun av=>match av with
 | [.va (.gs r),.va (.c1 (.vl (.int .i64 i))),.va (.c1 (.vl (.string _)))]=>oH r/\0<=i/\i<=((C.sc r).ss.length:Int)
 | _=>False
theorem pZ {av:List S} (h:BL av):∃ (s:Sc) (i:Nat) (n:ByteArray),av=[.va (.gs (aA s)),iS .i64 i,tS n]/\s.ok/\i<=s.ss.length:=by
 unfold BL at h
 split at h
 · obtain ⟨⟨s,rfl,hs⟩,h1,h2⟩:=h
   rename_i i n
   rw [fX] at h2
   exact ⟨s,i.toNat,n,by rw [Int.toNat_of_nonneg h1],hs,by omega⟩
 · exact h.elim
noncomputable def N9:List S->A:=fun av=>match av with
 | [.va (.gs r),.va (.c1 (.vl (.int .i64 i))),.va (.c1 (.vl (.string n)))]=>iA .i64 (gV (C.sc r) i.toNat n)
 | _=>.gs []
noncomputable def cnFn:Fun:=⟨BL,N9,fun av h=>by obtain ⟨s,i,n,rfl,_⟩:=pZ h; trivial⟩
theorem NK:∀ av H K,cnFn.sp av H K->av.length=3:=fun av H K h=>by obtain ⟨s,i,n,rfl,_⟩:=pZ h.1.1; rfl
attribute [go_sem] cnFn BL N9
theorem H3:Meets Tryz.prog 76 cnFn.sp:=by
 refine aI Tryz.func76 aDC 3 (by rw [Tryz.ntmps76]; decide) (aL AM (aC _)) NK ?_
 rintro av H K ⟨⟨h,rfl⟩,hK⟩
 obtain ⟨s,j,n,rfl,hs,hj⟩:=pZ h
 have hK:K (iS .i64 (gV s j n)) []:=by
  have:cnFn.val [.va (.gs (aA s)),iS .i64 j,tS n]=iA .i64 (gV s j n):=by simp -dsimp only [go_sem,Int.toNat_natCast]
  rw [this] at hK; exact hK
 clear h
 obtain ⟨hv,hle,hls,hes,hss⟩:=hs
 have fin:∀ x:Int,gV s j n=x->W.Fin 0 K (iS .i64 x) [.cells (aA s) 25]:=fun x h1=>by
  rw [h1] at hK
  exact .z ((by simpa [go_sem] using hK))
 have fin2:∀ (x:Int) (b:B),gV s j n=x->W.Fin 0 K (iS .i64 x) [.cells (aA s) 25,b]:=fun x b h1=>by
  rw [h1] at hK
  exact .z ((by simpa [go_sem] using hK))
 simp -dsimp only [go_sem,aA,WC,WB]
 refine ⟨fun h1=>fin 5 (by unfold gV; rw [h1]; rfl),fun h1=>?_⟩
 simp only [Bool.not_eq_false'] at h1
 refine aT (α:=Nat) (fun i=>[(1,iS .i64 j),(2,tS n),(3,.va (.c1 (.pt 0 0))),(15,.va (.c1 (.fz (s.es.map aQ)))),(16,iS .i64 s.es.length),(17,iS .i64 i)]) (fun _=>[.cells (aA s) 25])
  (fun i=>i<=s.es.length/\dB (s.es.drop i) n=dB s.es n) (fun i=>s.es.length - i) 0 1 ⟨Nat.zero_le _,rfl⟩ ?_ ?_ ?_
 · simp [go_sem]
 · simp [go_sem,aA]
 rintro i ⟨hi,ho⟩
 rcases bG i s.es.length with hlt | hge
 · have hg:decide ((i:Int) < (s.es.length:Int))=true:=by simp; omega
   obtain ⟨e,hx⟩:∃ e,s.es[i]? = some e:=⟨_,aV hlt⟩
   have q2:=aN (row:=aQ) hx
   rw [dB,cX hx] at ho
   simp -dsimp only [go_sem,hg,↓q2,aQ,aA,c7]
   and_intros
   all_goals first
    | omega
    | skip
   · intro hc
     rw [hc,Bool.true_or] at ho
     exact fin2 7 _ (by unfold gV; rw [h1,<-ho]; rfl)
   · intro hc
     rw [hc,Bool.false_or] at ho
     refine ⟨by omega,aB (i + 1) 1 ⟨by omega,ho⟩ (by omega) ?_ ?_⟩
     · simp [go_sem]
     · simp [go_sem,aA]
 · have hg:decide ((i:Int) < (s.es.length:Int))=false:=by simp; omega
   obtain rfl:i=s.es.length:=by omega
   rw [dB,eV] at ho
   simp -dsimp only [go_sem,hg,aA,gC,Int.toNat_natCast]
   refine ⟨?_,?_⟩
   · exact ⟨by omega,fun r hr=>by obtain ⟨x,_,rfl⟩:=List.mem_map.1 hr; exact Q0 x⟩
   refine aT (α:=Nat) (fun i=>[(2,tS n),(3,.va (.c1 (.pt 0 0))),(29,.va (.c1 (.fz ((s.ss.take j).map aJ)))),(30,iS .i64 (s.ss.take j).length),(31,iS .i64 i)]) (fun _=>[.cells (aA s) 25])
    (fun i=>i<=(s.ss.take j).length/\eM ((s.ss.take j).drop i) n=eM (s.ss.take j) n) (fun i=>(s.ss.take j).length - i) 0 1 ⟨Nat.zero_le _,rfl⟩ ?_ ?_ ?_
   · simp [go_sem]
   · simp [go_sem,aA]
   have hlj:=nD s.ss j
   generalize hl:s.ss.take j=l at *
   clear hi hge hg
   rintro i ⟨hi,ho2⟩
   rcases bG i l.length with hlt | hge
   · have hg:decide ((i:Int) < (l.length:Int))=true:=by simp; omega
     obtain ⟨e,hx⟩:∃ e,l[i]? = some e:=⟨_,aV hlt⟩
     have q2:=aN (row:=aJ) hx
     rw [eM,cX hx] at ho2
     simp -dsimp only [go_sem,hg,↓q2,aJ,aA,c7]
     and_intros
     all_goals first
      | omega
      | skip
     · intro hc
       rw [hc,Bool.true_or] at ho2
       exact fin2 7 _ (by unfold gV; rw [h1,<-ho,hl,<-ho2]; rfl)
     · intro hc
       rw [hc,Bool.false_or] at ho2
       refine ⟨by omega,aB (i + 1) 1 ⟨by omega,ho2⟩ (by omega) ?_ ?_⟩
       · simp [go_sem]
       · simp [go_sem,aA]
   · have hg:decide ((i:Int) < (l.length:Int))=false:=by simp; omega
     obtain rfl:i=l.length:=by omega
     rw [eM,eV] at ho2
     simp -dsimp only [go_sem,hg,aA]
     exact fin 0 (by unfold gV; rw [h1,<-ho,hl,<-ho2]; rfl)
mutual
def valF (ss:List St) (es:List En):Ty->Bool
 | .mk k s n e=>bif k == 1 then s == 0 && bl n == [] && (e.length:Int) == 0
  else bif k == 2 then (s == 8 || s == 16 || s == 32 || s == 64) && bl n == [] && (e.length:Int) == 0
  else bif k == 3 then (s == 8 || s == 16 || s == 32 || (s == 64 && false)) && bl n == [] && (e.length:Int) == 0
  else bif k == 4 then decide (1<=s) && decide (s<=2000) && bl n == [] && (e.length:Int) == 0
  else bif k == 5 then decide (1<=s) && decide (s<=32) && bl n == [] && nW ss es e
  else bif k == 6 then eM ss n && s == 0 && (e.length:Int) == 0
  else bif k == 7 then dB es n && s == 0 && (e.length:Int) == 0 else false
def nW (ss:List St) (es:List En):List Ty->Bool
 | []=>false
 | u :: r=>valF ss es u && r.isEmpty
end
def fS (ss:List St) (n:ByteArray):Option St:=ss.find? fun s=>decide (s.nm=n)
def nN (es:List En) (n:ByteArray):Option En:=es.find? fun s=>decide (s.nm=n)
theorem C8 (ss:List St) (n:ByteArray):(fS ss n).isSome=eM ss n:=by unfold fS eM; rw [Bool.eq_iff_iff,List.find?_isSome,List.any_eq_true]
abbrev iQ (s:St):A:=.gs (aJ s)
abbrev i6 (s:En):A:=.gs (aQ s)
def kP (ks:List Value) (vs:List St) (ss:List St):Prop:=∀ n,iI ks (vs.map iQ) (.string n)=(fS ss n).map iQ
def zP (ks:List Value) (vs:List En) (es:List En):Prop:=∀ n,iI ks (vs.map i6) (.string n)=(nN es n).map i6
@[go_sem] theorem R0 (f:Nat->Option Nat) (l:List St):(l.map iQ).map (A.ren f)=l.map iQ:=by rw [List.map_map]; rfl
@[go_sem] theorem SC (f:Nat->Option Nat) (l:List En):(l.map i6).map (A.ren f)=l.map i6:=by rw [List.map_map]; rfl
@[go_sem] theorem aF9 (n:Nat) (xs:List (List C)) (l:List St):(l.map iQ).map (A.pub n xs)=l.map iQ:=by rw [List.map_map]; rfl
@[go_sem] theorem aGF (n:Nat) (xs:List (List C)) (l:List En):(l.map i6).map (A.pub n xs)=l.map i6:=by rw [List.map_map]; rfl
abbrev mB:S:=.va (.gs [.mp 0,.mp 1])
abbrev f0 (ks:List Value) (vs:List St) (ks':List Value) (vs':List En):Hp:=[.map .string ks (vs.map iQ),.map .string ks' (vs'.map i6)]
def PQ (N:Nat):W.Spec:=fun av H K=>∃ (ss:List St) (es:List En) (t:Ty) (ks:List Value) (vs:List St) (ks':List Value) (vs':List En),av=[mB,.va (.gs (aP t))]/\H=f0 ks vs ks' vs'/\
 kP ks vs ss/\zP ks' vs' es/\TyOk t/\t.h<=N/\K (bS (valF ss es t)) (f0 ks vs ks' vs')
theorem G8 (es:List En) (n:ByteArray):(nN es n).isSome=dB es n:=by unfold nN dB; rw [Bool.eq_iff_iff,List.find?_isSome,List.any_eq_true]
theorem QO {N:Nat} {ss:List St} {es:List En} {t:Ty} {ks:List Value} {vs:List St} {ks':List Value} {vs':List En} {K:S->Hp->Prop} (h1:kP ks vs ss) (h2:zP ks' vs' es) (h3:TyOk t) (h4:t.h<=N) (hK:K (bS (valF ss es t)) (f0 ks vs ks' vs')) :
 PQ N [mB,.va (.gs (aP t))] (f0 ks vs ks' vs') K:=⟨ss,es,t,ks,vs,ks',vs',rfl,rfl,h1,h2,h3,h4,hK⟩
@[go_sem] theorem aCZ (t:Ty):(aP t).take 4=aP t:=by rw [bX]; rfl
@[go_sem] theorem aIN (t:Ty):(aP t).map C.nf=aP t:=by rw [bX]; rfl
@[go_sem] theorem aFM (t:Ty) (f:Nat->Option Nat):(aP t).map (C.ren f)=aP t:=by rw [bX]; rfl
theorem Ty.h_pos (t:Ty):0 < t.h:=by cases t; rw [Ty.h]; omega
theorem LC:∀ N,Meets Tryz.prog 112 (PQ N)
 | 0=>⟨by kernel_rfl,by rintro xs vs E ro w K _ _ _ ⟨_,_,t,_,_,_,_,_,_,_,_,_,h,_⟩; have:=t.h_pos; omega⟩
 | N + 1=>by
  refine aI Tryz.func112 ZX 2 (by rw [Tryz.ntmps112]; decide) (aD (LC N) (aC _)) (fun av H K h=>by obtain ⟨_,_,_,_,_,_,_,rfl,_⟩:=h; rfl) ?_
  rintro av H K ⟨ss,es,t,ks,vs,ks',vs',rfl,rfl,h1,h2,h3,h4,hK⟩
  cases t with
  | mk k s n e=>
  have fin:∀ (b:Bool) (B1 B2:B),valF ss es (.mk k s n e)=b->W.Fin 2 K (bS b) [.map .string ks (vs.map iQ),.map .string ks' (vs'.map i6),B1,B2]:=fun b B1 B2 h=>by
   rw [h] at hK
   exact .sel [0,1] (by simp) (by simp) rfl (.done (by simp -dsimp only [go_sem]; simpa using hK))
  by_cases k1:(k == 1)=true
  · have hF:=valF.eq_1 ss es k s n e
    rw [k1] at hF
    simp only [aM] at hF
    simp -dsimp only [go_sem,aP,aU,jR,jV,k1]
    exact fin _ _ _ hF
  rw [Bool.not_eq_true] at k1
  by_cases k2:(k == 2)=true
  · have hF:=valF.eq_1 ss es k s n e
    rw [k1,k2] at hF
    simp only [aM,aG] at hF
    simp -dsimp only [go_sem,aP,aU,jR,jV,k1,k2]
    exact fin _ _ _ hF
  rw [Bool.not_eq_true] at k2
  by_cases k3:(k == 3)=true
  · have hF:=valF.eq_1 ss es k s n e
    rw [k1,k2,k3] at hF
    simp only [aM,aG] at hF
    simp -dsimp only [go_sem,aP,aU,jR,jV,k1,k2,k3]
    exact fin _ _ _ hF
  rw [Bool.not_eq_true] at k3
  by_cases k4:(k == 4)=true
  · have hF:=valF.eq_1 ss es k s n e
    rw [k1,k2,k3,k4] at hF
    simp only [aM,aG] at hF
    simp -dsimp only [go_sem,aP,aU,jR,jV,k1,k2,k3,k4]
    exact fin _ _ _ hF
  rw [Bool.not_eq_true] at k4
  by_cases k5:(k == 5)=true
  · have hF:=valF.eq_1 ss es k s n e
    rw [k1,k2,k3,k4,k5] at hF
    simp only [aM,aG] at hF
    cases hc:(decide (1<=s) && decide (s<=32) && bl n == [] && (e.length:Int) == 1) with
    | false=>
     have hF':valF ss es (.mk k s n e)=false:=by
      rw [hF]
      cases h0:(decide (1<=s) && decide (s<=32) && bl n == []) with
      | false=>rfl
      | true=>
       rw [h0,Bool.true_and] at hc
       match e,hc with
       | [],_=>rfl
       | [u],hc=>simp at hc
       | u :: v :: r,_=>simp [nW]
     simp (maxSteps:=9^6) -dsimp only [go_sem,aP,aU,jR,jV,k1,k2,k3,k4,k5,hc]
     exact fin _ _ _ hF'
    | true=>
     obtain ⟨u,rfl⟩:∃ u,e=[u]:=by
      simp only [Bool.and_eq_true,beq_iff_eq] at hc
      exact List.length_eq_one_iff.1 (by omega)
     have h0:(decide (1<=s) && decide (s<=32) && bl n == [])=true:=by
      simp only [Bool.and_eq_true] at hc ⊢; exact hc.1
     have hF':valF ss es (.mk k s n [u])=valF ss es u:=by rw [hF,h0]; simp [nW]
     have hh:u.h<=N:=by rw [Ty.h,Ty.hs,Ty.hs] at h4; omega
     have hu:TyOk u:=h3.e u (by simp [Ty.e])
     have hc':(decide (1<=s) && decide (s<=32) && bl n == [] && ((1:Nat):Int) == 1)=true:=hc
     simp (maxSteps:=9^6) -dsimp only [go_sem,aP,aU,jR,jV,k1,k2,k3,k4,k5,hc']
     refine ⟨⟨by omega,fun r hr=>by subst hr; exact dO u⟩,fun r hr=>?_⟩
     subst hr
     refine ⟨by rw [dO]; exact Nat.le_refl _,?_⟩
     simp -dsimp only [go_sem]
     refine QO h1 h2 hu hh ?_
     simp (maxSteps:=9^6) -dsimp only [go_sem]
     exact fin _ _ _ hF'
  rw [Bool.not_eq_true] at k5
  by_cases k6:(k == 6)=true
  · have hF:=valF.eq_1 ss es k s n e
    rw [k1,k2,k3,k4,k5,k6] at hF
    simp only [aM,aG] at hF
    have hm:=h1 n
    rw [<-C8] at hF
    cases hf:fS ss n with
    | none=>
     rw [hf] at hm hF
     simp only [Option.map_none] at hm
     simp (maxSteps:=9^6) -dsimp only [go_sem,aP,aU,jR,jV,k1,k2,k3,k4,k5,k6,hm]
     refine .sel [0,1] (by simp) (by simp) rfl (.done ?_)
     rw [hF] at hK
     simp -dsimp only [go_sem]; simpa using hK
    | some d=>
     rw [hf] at hm hF
     simp only [Option.map_some] at hm
     simp (maxSteps:=9^6) -dsimp only [go_sem,aP,aU,jR,jV,k1,k2,k3,k4,k5,k6,hm]
     refine ⟨by simp [aJ,go_sem],by simp [aJ],.sel [0,1] (by simp) (by simp) rfl (.done ?_)⟩
     rw [hF] at hK
     simp -dsimp only [go_sem]; simpa using hK
  rw [Bool.not_eq_true] at k6
  by_cases k7:(k == 7)=true
  · have hF:=valF.eq_1 ss es k s n e
    rw [k1,k2,k3,k4,k5,k6,k7] at hF
    simp only [aM,aG] at hF
    have hm:=h2 n
    rw [<-G8] at hF
    cases hf:nN es n with
    | none=>
     rw [hf] at hm hF
     simp only [Option.map_none] at hm
     simp (maxSteps:=9^6) -dsimp only [go_sem,aP,aU,jR,jV,k1,k2,k3,k4,k5,k6,k7,hm]
     refine .sel [0,1] (by simp) (by simp) rfl (.done ?_)
     rw [hF] at hK
     simp -dsimp only [go_sem]; simpa using hK
    | some d=>
     rw [hf] at hm hF
     simp only [Option.map_some] at hm
     simp (maxSteps:=9^6) -dsimp only [go_sem,aP,aU,jR,jV,k1,k2,k3,k4,k5,k6,k7,hm]
     refine ⟨by simp [aQ,go_sem],by simp [aQ],.sel [0,1] (by simp) (by simp) rfl (.done ?_)⟩
     rw [hF] at hK
     simp -dsimp only [go_sem]; simpa using hK
  rw [Bool.not_eq_true] at k7
  have hF:=valF.eq_1 ss es k s n e
  rw [k1,k2,k3,k4,k5,k6,k7] at hF
  simp only [aG] at hF
  simp -dsimp only [go_sem,aP,aU,jR,jV,k1,k2,k3,k4,k5,k6,k7]
  exact fin _ _ _ hF
theorem iX {P:Program} {f:FuncId} {s:W.Spec} {ι:Type} {t:ι->W.Spec} (i0:ι) (m:∀ i,Meets P f (t i)) (h:∀ av H K,s av H K->∃ i,t i av H K):Meets P f s:=⟨(m i0).1,by
 intro xs vl E ro w K h1 h2 h3 h4
 obtain ⟨i,hi⟩:=h _ _ _ h4
 exact (m i).2 xs vl E ro w K h1 h2 h3 hi⟩
def KZ:W.Spec:=fun av H K=>∃ (ss:List St) (es:List En) (t:Ty) (ks:List Value) (vs:List St) (ks':List Value) (vs':List En),av=[mB,.va (.gs (aP t))]/\H=f0 ks vs ks' vs'/\
 kP ks vs ss/\zP ks' vs' es/\TyOk t/\K (bS (valF ss es t)) (f0 ks vs ks' vs')
theorem RC:Meets Tryz.prog 112 KZ:=iX 0 LC fun _av _H _K ⟨ss,es,t,ks,vs,ks',vs',e1,e2,h4,h5,h6,hK⟩=>⟨t.h,ss,es,t,ks,vs,ks',vs',e1,e2,h4,h5,h6,Nat.le_refl _,hK⟩
theorem EC {ss:List St} {es:List En} {t:Ty} {ks:List Value} {vs:List St} {ks':List Value} {vs':List En} {K:S->Hp->Prop} (h1:kP ks vs ss) (h2:zP ks' vs' es) (h3:TyOk t) (hK:K (bS (valF ss es t)) (f0 ks vs ks' vs')) :
 KZ [mB,.va (.gs (aP t))] (f0 ks vs ks' vs') K:=⟨ss,es,t,ks,vs,ks',vs',rfl,rfl,h1,h2,h3,hK⟩
def kE (ss:List St) (es:List En) (t:St) (k:Nat):Int:=match t.fs[k]? with
 | some f=>bif decide (f.num < 1) || decide (127 < f.num) then 4 else bif decide (0 < (k:Int)) && (match t.fs[k - 1]? with | some g=>decide (f.num<=g.num) | none=>false) then 2 else
  bif !(bR (bl f.nm)) then 5 else bif (t.fs.take k).any (fun g=>decide (g.nm=f.nm)) then 7 else bif !(valF ss es f.ty) then 13 else 0
 | none=>0
def nO (ss:List St) (es:List En) (t:St):Int:=fE (kE ss es t) (t.fs.length - 0) 0
def UT:W.Spec:=fun av H K=>∃ (ss:List St) (es:List En) (t:St) (ks:List Value) (vs:List St) (ks':List Value) (vs':List En),av=[mB,.va (.gs (aJ t))]/\H=f0 ks vs ks' vs'/\
 kP ks vs ss/\zP ks' vs' es/\t.ok/\K (iS .i64 (nO ss es t)) (f0 ks vs ks' vs')
theorem T9 {ss:List St} {es:List En} {t:St} {ks:List Value} {vs:List St} {ks':List Value} {vs':List En} {K:S->Hp->Prop} (h1:kP ks vs ss) (h2:zP ks' vs' es) (h3:t.ok) (hK:K (iS .i64 (nO ss es t)) (f0 ks vs ks' vs')) :
 UT [mB,.va (.gs (aJ t))] (f0 ks vs ks' vs') K:=⟨ss,es,t,ks,vs,ks',vs',rfl,rfl,h1,h2,h3,hK⟩
theorem jC (f:Fl):[C.vl (.int .i64 f.ty.k),.vl (.int .i64 f.ty.s),.vl (.string f.ty.n),.fz (f.ty.e.map aP)]=aP f.ty:=(bX f.ty).symm
theorem CK:Meets Tryz.prog 77 UT:=by
 refine aI Tryz.func77 aBU 2 (by rw [Tryz.ntmps77]; decide) (aD RC (aL sZ (aC _))) (fun av H K h=>by obtain ⟨_,_,_,_,_,_,_,rfl,_⟩:=h; rfl) ?_
 rintro av H K ⟨ss,es,t,ks,vs,ks',vs',rfl,rfl,h1,h2,h3,hK⟩
 have fin:∀ (x:Int) (R:Hp),nO ss es t=x->W.Fin 2 K (iS .i64 x) (.map .string ks (vs.map iQ) :: .map .string ks' (vs'.map i6) :: R):=fun x R h=>by
  rw [h] at hK
  exact .sel [0,1] (by simp) (by simp) rfl (.done (by simp -dsimp only [go_sem]; simpa using hK))
 obtain ⟨_,hl,hfs⟩:=h3
 simp -dsimp only [go_sem,aJ,VG,UV]
 refine aT (α:=Nat) (fun i=>[(2,.va (.c1 (.pt 2 0))),(3,.va (.c1 (.pt 3 0))),(10,.va (.c1 (.fz (t.fs.map bD)))),(11,iS .i64 t.fs.length),(12,iS .i64 i)]) (fun _=>[.map .string ks (vs.map iQ),.map .string ks' (vs'.map i6),.cells [.mp 0,.mp 1] 117,.cells (aJ t) 56])
  (fun i=>i<=t.fs.length/\fE (kE ss es t) (t.fs.length - i) i=nO ss es t) (fun i=>t.fs.length - i) 0 4 ⟨Nat.zero_le _,rfl⟩ ?_ ?_ ?_
 · simp -dsimp only [go_sem]<;>simp
 · simp -dsimp only [go_sem,aJ]<;>simp
 rintro i ⟨hi,ho⟩
 rcases bG i t.fs.length with hlt | hge
 · have hg:decide ((i:Int) < (t.fs.length:Int))=true:=by simp; omega
   obtain ⟨f,hx⟩:∃ nm,t.fs[i]? = some nm:=⟨_,aV hlt⟩
   have q1:=aN (row:=bD) hx
   have hf:f.ok:=hfs f (bT hx)
   have hA:kE ss es t i=bif decide (f.num < 1) || decide (127 < f.num) then (4:Int) else bif decide (0 < (i:Int)) && (match t.fs[i - 1]? with | some g=>decide (f.num<=g.num) | none=>false) then 2 else
    bif !(bR (bl f.nm)) then 5 else bif (t.fs.take i).any (fun g=>decide (g.nm=f.nm)) then 7 else bif !(valF ss es f.ty) then 13 else 0:=by
    unfold kE; rw [hx]
   have fin':∀ (x:Int) (R:Hp),kE ss es t i=x->x ≠ 0->W.Fin 2 K (iS .i64 x) (.map .string ks (vs.map iQ) :: .map .string ks' (vs'.map i6) :: R):=fun x R h1 h2=>fin x R (by
    rw [<-ho,kJ hlt (by rw [h1]; exact h2),h1])
   have cP:kE ss es t i=0->fE (kE ss es t) (t.fs.length - (i + 1)) (i + 1)=nO ss es t:=fun h1=>by rw [<-ho,mD hlt h1]
   cases c1:(decide (f.num < 1) || decide (127 < f.num)) with
   | true=>
    rw [c1] at hA
    simp (maxSteps:=9^6) -dsimp only [go_sem,hg,↓q1,bD,aJ,c1]
    and_intros
    all_goals first
     | omega
     | exact fin' 4 _ hA (by decide)
   | false=>
    rw [c1] at hA
    simp only [aG] at hA
    rcases Nat.eq_zero_or_pos i with h0 | h0
    · have g1:decide (0 < (i:Int))=false:=by simp; omega
      rw [g1] at hA
      simp only [Bool.false_and,aG] at hA
      cases c3:bR (bl f.nm) with
      | false=>
       rw [c3] at hA
       simp (maxSteps:=9^6) -dsimp only [go_sem,hg,↓q1,bD,aJ,c1,c3,g1]
       and_intros
       all_goals first
        | omega
        | exact fin' 5 _ hA (by decide)
        | trace_state
      | true=>
       rw [c3] at hA
       simp only [Bool.not_true,aG] at hA
       simp (maxSteps:=9^6) -dsimp only [go_sem,hg,↓q1,bD,aJ,c1,c3,g1,gC,gI HK]
       and_intros
       all_goals first
        | omega
        | skip
       have hlj:=nD t.fs i
       generalize hm:t.fs.take i=m at *
       refine aT (α:=Nat) (fun j=>[(2,.va (.c1 (.pt 2 0))),(3,.va (.c1 (.pt 3 0))),(6,.va (.c1 (.pt 4 0))),(10,.va (.c1 (.fz (t.fs.map bD)))),(11,iS .i64 t.fs.length),(12,iS .i64 i),(49,.va (.c1 (.fz (m.map bD)))),(50,iS .i64 m.length),(51,iS .i64 j)])
        (fun _=>[.map .string ks (vs.map iQ),.map .string ks' (vs'.map i6),.cells [.mp 0,.mp 1] 117,.cells (aJ t) 56,.cells (bD f) 64])
        (fun j=>j<=m.length/\(m.drop j).any (fun g=>decide (g.nm=f.nm))=m.any (fun g=>decide (g.nm=f.nm))) (fun j=>m.length - j) 0 5 ⟨Nat.zero_le _,rfl⟩ ?_ ?_ ?_
       · simp -dsimp only [go_sem]<;>simp
       · simp -dsimp only [go_sem,aJ,bD]<;>simp
       rintro j ⟨hj,ho2⟩
       rcases bG j m.length with hjt | hjg
       · have hgj:decide ((j:Int) < (m.length:Int))=true:=by simp; omega
         obtain ⟨d,hd⟩:∃ e,m[j]? = some e:=⟨_,aV hjt⟩
         have q5:=aN (row:=bD) hd
         rw [cX hd] at ho2
         simp (maxSteps:=9^6) -dsimp only [go_sem,hgj,↓q5,bD,aJ,c7]
         and_intros
         all_goals first
          | omega
          | skip
         · intro hc
           rw [hc,Bool.true_or] at ho2
           rw [<-ho2] at hA
           exact fin' 7 _ hA (by decide)
         · intro hc
           rw [hc,Bool.false_or] at ho2
           refine ⟨by omega,aB (j + 1) 5 ⟨by omega,ho2⟩ (by omega) ?_ ?_⟩
           · simp -dsimp only [go_sem]<;>simp
           · simp -dsimp only [go_sem,aJ,bD]<;>simp
       · have hgj:decide ((j:Int) < (m.length:Int))=false:=by simp; omega
         obtain rfl:j=m.length:=by omega
         rw [eV] at ho2
         rw [<-ho2] at hA
         simp only [aG] at hA
         simp (maxSteps:=9^6) -dsimp only [go_sem,hgj,bD,aJ,jC]
         refine EC h1 h2 hf.ty ?_
         cases c5:valF ss es f.ty with
         | true=>
          rw [c5] at hA
          simp (maxSteps:=9^6) -dsimp only [go_sem]
          refine ⟨by omega,aB (i + 1) 4 ⟨by omega,cP hA⟩ (by omega) ?_ ?_⟩
          · simp -dsimp only [go_sem]<;>simp
          · simp -dsimp only [go_sem,aJ]<;>simp
         | false=>
          rw [c5] at hA
          simp (maxSteps:=9^6) -dsimp only [go_sem]
          exact fin' 13 _ hA (by decide)
    · have g1:decide (0 < (i:Int))=true:=by simp; omega
      obtain ⟨g,hy⟩:∃ m,t.fs[i - 1]? = some m:=⟨_,aV (by omega)⟩
      have q4:((i:Int) - 1).toNat=i - 1:=by omega
      rw [g1,hy,Bool.true_and] at hA
      simp only at hA
      cases c2:decide (f.num<=g.num) with
      | true=>
       rw [c2] at hA
       simp (maxSteps:=9^6) -dsimp only [go_sem,hg,↓q1,bD,aJ,c1,g1,q4,hy,aF,forall_eq',c2]
       and_intros
       all_goals first
        | omega
        | exact fin' 2 _ hA (by decide)
        | trace_state
      | false=>
       rw [c2] at hA
       simp only [aG] at hA
       cases c3:bR (bl f.nm) with
       | false=>
        rw [c3] at hA
        simp (maxSteps:=9^6) -dsimp only [go_sem,hg,↓q1,bD,aJ,c1,c3,g1,q4,hy,aF,forall_eq',c2]
        and_intros
        all_goals first
         | omega
         | exact fin' 5 _ hA (by decide)
         | trace_state
       | true=>
        rw [c3] at hA
        simp only [Bool.not_true,aG] at hA
        simp (maxSteps:=9^6) -dsimp only [go_sem,hg,↓q1,bD,aJ,c1,c3,g1,q4,hy,aF,forall_eq',c2,gC,gI HK]
        and_intros
        all_goals first
         | omega
         | skip
        have hlj:=nD t.fs i
        generalize hm:t.fs.take i=m at *
        refine aT (α:=Nat) (fun j=>[(2,.va (.c1 (.pt 2 0))),(3,.va (.c1 (.pt 3 0))),(6,.va (.c1 (.pt 4 0))),(10,.va (.c1 (.fz (t.fs.map bD)))),(11,iS .i64 t.fs.length),(12,iS .i64 i),(49,.va (.c1 (.fz (m.map bD)))),(50,iS .i64 m.length),(51,iS .i64 j)])
         (fun _=>[.map .string ks (vs.map iQ),.map .string ks' (vs'.map i6),.cells [.mp 0,.mp 1] 117,.cells (aJ t) 56,.cells (bD f) 64])
         (fun j=>j<=m.length/\(m.drop j).any (fun g=>decide (g.nm=f.nm))=m.any (fun g=>decide (g.nm=f.nm))) (fun j=>m.length - j) 0 5 ⟨Nat.zero_le _,rfl⟩ ?_ ?_ ?_
        · simp -dsimp only [go_sem]<;>simp
        · simp -dsimp only [go_sem,aJ,bD]<;>simp
        rintro j ⟨hj,ho2⟩
        rcases bG j m.length with hjt | hjg
        · have hgj:decide ((j:Int) < (m.length:Int))=true:=by simp; omega
          obtain ⟨d,hd⟩:∃ e,m[j]? = some e:=⟨_,aV hjt⟩
          have q5:=aN (row:=bD) hd
          rw [cX hd] at ho2
          simp (maxSteps:=9^6) -dsimp only [go_sem,hgj,↓q5,bD,aJ,c7]
          and_intros
          all_goals first
           | omega
           | skip
          · intro hc
            rw [hc,Bool.true_or] at ho2
            rw [<-ho2] at hA
            exact fin' 7 _ hA (by decide)
          · intro hc
            rw [hc,Bool.false_or] at ho2
            refine ⟨by omega,aB (j + 1) 5 ⟨by omega,ho2⟩ (by omega) ?_ ?_⟩
            · simp -dsimp only [go_sem]<;>simp
            · simp -dsimp only [go_sem,aJ,bD]<;>simp
        · have hgj:decide ((j:Int) < (m.length:Int))=false:=by simp; omega
          obtain rfl:j=m.length:=by omega
          rw [eV] at ho2
          rw [<-ho2] at hA
          simp only [aG] at hA
          simp (maxSteps:=9^6) -dsimp only [go_sem,hgj,bD,aJ,jC]
          refine EC h1 h2 hf.ty ?_
          cases c5:valF ss es f.ty with
          | true=>
           rw [c5] at hA
           simp (maxSteps:=9^6) -dsimp only [go_sem]
           refine ⟨by omega,aB (i + 1) 4 ⟨by omega,cP hA⟩ (by omega) ?_ ?_⟩
           · simp -dsimp only [go_sem]<;>simp
           · simp -dsimp only [go_sem,aJ]<;>simp
          | false=>
           rw [c5] at hA
           simp (maxSteps:=9^6) -dsimp only [go_sem]
           exact fin' 13 _ hA (by decide)
 · have hg:decide ((i:Int) < (t.fs.length:Int))=false:=by simp; omega
   obtain rfl:i=t.fs.length:=by omega
   rw [lW] at ho
   simp -dsimp only [go_sem,hg,aJ]
   exact fin 0 _ ho.symm
abbrev gL (ns:List ByteArray):List Value:=ns.map Value.string
def g9:List ByteArray->ByteArray->Option Nat
 | [],_=>none
 | k :: ks,q=>bif decide (q=k) then some 0 else (g9 ks q).map (· + 1)
theorem LR (a b:ByteArray):w9 (.string a) (.string b)=decide (a=b):=by
 rw [Bool.eq_iff_iff,zQ (d:=.string) (by simp [MapKept.IsKey]) (by simp [MapKept.IsKey])]; simp
theorem j5 (q:ByteArray):∀ ns:List ByteArray,oO (gL ns) (.string q)=g9 ns q
 | []=>rfl
 | k :: ks=>by
  have:=j5 q ks
  simp only [gL,List.map_cons,oO,g9,LR] at this ⊢
  rw [this]
theorem lP {q:ByteArray}:∀ {ns:List ByteArray} {i:Nat},g9 ns q=some i->ns[i]? = some q/\i < ns.length
 | [],_,h=>by cases h
 | k :: ks,i,h=>by
  simp only [g9] at h
  by_cases hk:q=k
  · simp [hk] at h; subst h; simp [hk]
  · simp [hk] at h
    obtain ⟨j,h1,rfl⟩:=h
    have:=lP h1
    simpa using this
theorem L7 (ns:List ByteArray) (q n:ByteArray):g9 (ns ++ [q]) n=match g9 ns n with | some i=>some i | none=>bif decide (n=q) then some ns.length else none:=by
 induction ns with
 | nil=>simp only [List.nil_append,g9,List.length_nil,Option.map_none]
 | cons k ks ih=>
  simp only [List.cons_append,g9,ih]
  by_cases hk:n=k
  · simp [hk]
  · simp only [hk,decide_false,cond_false]
    cases g9 ks n with
    | some i=>rfl
    | none=>by_cases hq:n=q<;>simp [hq]
theorem oW {α:Type} (row:α->A) (ns:List ByteArray) (l:List α) (n:ByteArray):iI (gL ns) (l.map row) (.string n)=(g9 ns n).bind fun i=>(l[i]?).map row:=by
 unfold iI; rw [j5]; simp only [List.getElem?_map]
theorem EB {α:Type} (row:α->A) {ns:List ByteArray} {l:List α} (h:ns.length=l.length) (q:ByteArray) (x:α):∃ (ns':List ByteArray) (l':List α),jU (gL ns) (.string q)=gL ns'/\kI (gL ns) (l.map row) (.string q) (row x)=l'.map row/\
 ns'.length=l'.length/\∀ n,iI (gL ns') (l'.map row) (.string n)=bif decide (n=q) then some (row x) else iI (gL ns) (l.map row) (.string n):=by
 cases hm:g9 ns q with
 | none=>
  refine ⟨ns ++ [q],l ++ [x],?_,?_,by simp [h],fun n=>?_⟩
  · unfold jU; rw [j5,hm]; simp
  · unfold kI; rw [j5,hm]; simp
  · rw [oW,oW,L7]
    by_cases hn:n=q
    · subst hn; rw [hm]; simp [h]
    · simp only [hn,decide_false,cond_false]
      cases hs:g9 ns n with
      | none=>rfl
      | some i=>have:=(lP hs).2; simp [List.getElem?_append_left (show i < l.length by omega)]
 | some i=>
  obtain ⟨h1,h2⟩:=lP hm
  refine ⟨ns,l.set i x,?_,?_,by simp [h],fun n=>?_⟩
  · unfold jU; rw [j5,hm]
  · unfold kI; rw [j5,hm]; simp only [List.map_set]
  · rw [oW,oW]
    by_cases hn:n=q
    · subst hn; rw [hm]; simp [show i < l.length by omega]
    · simp only [hn,decide_false,cond_false]
      cases hs:g9 ns n with
      | none=>rfl
      | some j=>
       have hj:=lP hs
       have:i ≠ j:=fun e=>hn (by subst e; rw [h1] at hj; exact (bJ hj.1).symm)
       simp [List.getElem?_set,this]
theorem R3 {ss:List St} {k:Nat} {x:St} (hx:ss[k]? = some x) (n:ByteArray):fS (ss.drop k) n=bif decide (n=x.nm) then some x else fS (ss.drop (k + 1)) n:=by
 obtain ⟨h,rfl⟩:=a8.1 hx
 rw [List.drop_eq_getElem_cons h]
 unfold fS
 rw [List.find?_cons]
 by_cases hn:n=ss[k].nm
 · simp [hn]
 · simp [hn,show ¬ ss[k].nm=n from fun e=>hn e.symm]
theorem MP {ss:List En} {k:Nat} {x:En} (hx:ss[k]? = some x) (n:ByteArray):nN (ss.drop k) n=bif decide (n=x.nm) then some x else nN (ss.drop (k + 1)) n:=by
 obtain ⟨h,rfl⟩:=a8.1 hx
 rw [List.drop_eq_getElem_cons h]
 unfold nN
 rw [List.find?_cons]
 by_cases hn:n=ss[k].nm
 · simp [hn]
 · simp [hn,show ¬ ss[k].nm=n from fun e=>hn e.symm]
def XU:W.Spec:=fun av H K=>∃ s:Sc,av=[.va (.gs (aA s))]/\H=[]/\s.ok/\∀ ks vs ks' vs',kP ks vs s.ss->zP ks' vs' s.es->K mB (f0 ks vs ks' vs')
theorem XT {s:Sc} {K:S->Hp->Prop} (h:s.ok) (hK:∀ ks vs ks' vs',kP ks vs s.ss->zP ks' vs' s.es->K mB (f0 ks vs ks' vs')):XU [.va (.gs (aA s))] [] K:=⟨s,rfl,rfl,h,hK⟩
abbrev nm2:B:=.cells [.vl (.map none),.vl (.map none)] 117
theorem ME:Meets Tryz.prog 75 XU:=by
 refine aI Tryz.func75 aDJ 1 (by rw [Tryz.ntmps75]; decide) (aC _) (fun av H K h=>by obtain ⟨_,rfl,_⟩:=h; rfl) ?_
 rintro av H K ⟨s,rfl,rfl,hs,hK⟩
 obtain ⟨_,hle,hls,_,_⟩:=hs
 simp -dsimp only [go_sem,aA,VS,VI]
 refine ⟨by omega,aT (α:=Nat × List ByteArray × List St) (fun z=>[(1,.va (.c1 (.pt 0 0))),(2,.va (.c1 (.pt 1 0))),(3,.va (.c1 (.pt 4 0))),(4,iS .i64 ((z.1:Int) - 1))]) (fun z=>[.cells (aA s) 25,nm2,.map .string (gL z.2.1) (z.2.2.map iQ),.map .string [] [],.cells [.mp 2,.mp 3] 117])
  (fun z=>z.1<=s.ss.length/\z.2.1.length=z.2.2.length/\∀ n,iI (gL z.2.1) (z.2.2.map iQ) (.string n)=(fS (s.ss.drop z.1) n).map iQ) (fun z=>z.1) (s.ss.length,[],[]) 5 ⟨Nat.le_refl _,rfl,fun n=>by rw [List.drop_length]; rfl⟩ ?_ ?_ ?_⟩
 · simp -dsimp only [go_sem]<;>simp
 · simp -dsimp only [go_sem,aA]<;>simp
 rintro ⟨m,ns,l⟩ ⟨hm,hnl,hg⟩
 simp only at hm hnl hg ⊢
 cases m with
 | zero=>
  have e0:decide (0<=((0:Nat):Int) - 1)=false:=rfl
  rw [List.drop_zero] at hg
  simp -dsimp only [go_sem,aA,e0]
  refine ⟨by omega,aT (α:=Nat × List ByteArray × List En) (fun z=>[(1,.va (.c1 (.pt 0 0))),(2,.va (.c1 (.pt 1 0))),(3,.va (.c1 (.pt 4 0))),(5,iS .i64 ((z.1:Int) - 1))]) (fun z=>[.cells (aA s) 25,nm2,.map .string (gL ns) (l.map iQ),.map .string (gL z.2.1) (z.2.2.map i6),.cells [.mp 2,.mp 3] 117])
   (fun z=>z.1<=s.es.length/\z.2.1.length=z.2.2.length/\∀ n,iI (gL z.2.1) (z.2.2.map i6) (.string n)=(nN (s.es.drop z.1) n).map i6) (fun z=>z.1) (s.es.length,[],[]) 5 ⟨Nat.le_refl _,rfl,fun n=>by rw [List.drop_length]; rfl⟩ ?_ ?_ ?_⟩
  · simp -dsimp only [go_sem]<;>simp
  · simp -dsimp only [go_sem,aA]<;>simp
  clear hnl hm
  rintro ⟨m,ms,j⟩ ⟨hm,hnl,hge⟩
  simp only at hm hnl hge ⊢
  cases m with
  | zero=>
   rw [List.drop_zero] at hge
   simp -dsimp only [go_sem,aA,e0]
   exact .sel [2,3] (by simp) (by simp) rfl (.done (by simp -dsimp only [go_sem]; simpa [go_sem] using hK (gL ns) l (gL ms) j hg hge))
  | succ k=>
   obtain ⟨x,hx⟩:∃ x,s.es[k]? = some x:=⟨_,aV (by omega)⟩
   have q2:=aN (row:=aQ) hx
   have e1:((k + 1:Nat):Int) - 1=(k:Int):=by omega
   have e2:decide (0<=(k:Int))=true:=by simp
   obtain ⟨ns',l',p1,p2,p3,p4⟩:=EB i6 hnl x.nm x
   simp -dsimp only [go_sem,aA,e1,e2,↓q2,aQ]
   refine ⟨by omega,by omega,by omega,aB (k,ns',l') 5 ⟨by simp only; omega,p3,fun n=>?_⟩ (Nat.lt_succ_self _) ?_ ?_⟩
   · simp only; rw [p4,MP hx,hge]; cases decide (n=x.nm)<;>rfl
   · simp -dsimp only [go_sem]<;>simp
   · simp -dsimp only [go_sem,aA,p1]<;>simp
     exact (congrArg (List.map (A.ren (kT 5))) p2).trans (SC _ _)
 | succ k=>
  obtain ⟨x,hx⟩:∃ x,s.ss[k]? = some x:=⟨_,aV (by omega)⟩
  have q2:=aN (row:=aJ) hx
  have e1:((k + 1:Nat):Int) - 1=(k:Int):=by omega
  have e2:decide (0<=(k:Int))=true:=by simp
  obtain ⟨ns',l',p1,p2,p3,p4⟩:=EB iQ hnl x.nm x
  simp -dsimp only [go_sem,aA,e1,e2,↓q2,aJ]
  refine ⟨by omega,by omega,by omega,aB (k,ns',l') 5 ⟨by simp only; omega,p3,fun n=>?_⟩ (Nat.lt_succ_self _) ?_ ?_⟩
  · simp only; rw [p4,R3 hx,hg]; cases decide (n=x.nm)<;>rfl
  · simp -dsimp only [go_sem]<;>simp
  · simp -dsimp only [go_sem,aA,p1]<;>simp
    exact (congrArg (List.map (A.ren (kT 5))) p2).trans (R0 _ _)
mutual
def eU:Ty->Ty
 | .mk k s n e=>bif k == 5 then C3 e (.mk k s n e) else .mk k s n e
def C3:List Ty->Ty->Ty
 | [],d=>d
 | u :: r,d=>bif r.isEmpty then eU u else d
end
def bW (t:Ty):Bool:=(eU t).k == 6 || (eU t).k == 7
def bN (t:Ty):ByteArray:=(eU t).n
theorem rX {s:Int} {n:ByteArray} {u:Ty}:eU (.mk 5 s n [u])=eU u:=by simp [eU,C3]
theorem pL {k s:Int} {n:ByteArray} {e:List Ty} (h:(k == 5 && (e.length:Int) == 1)=false):eU (.mk k s n e)=.mk k s n e:=by
 rw [eU]
 cases hk:k == 5 with
 | false=>rfl
 | true=>
  rw [hk,Bool.true_and] at h
  match e,h with
  | [],_=>rfl
  | [u],h=>simp at h
  | u :: v :: r,_=>simp [C3]
def IK:W.Spec:=fun av H K=>match av,H with
 | [.va (.gs r)],[]=>e8 r/\K (.tu [.c1 (.vl (.string (bN (C.ty r)))),bA (bW (C.ty r))]) []
 | _,_=>False
theorem AG {av:List S} {H:Hp} {K:S->Hp->Prop} (h:IK av H K):∃ t:Ty,av=[.va (.gs (aP t))]/\H=[]/\TyOk t/\K (.tu [.c1 (.vl (.string (bN t))),bA (bW t)]) []:=by
 unfold IK at h
 split at h
 · obtain ⟨⟨t,rfl,ht⟩,hK⟩:=h
   rw [iC] at hK
   exact ⟨t,rfl,rfl,ht,hK⟩
 · exact h.elim
attribute [go_sem ↓] IK
theorem yA (t:Ty):∀ c ∈ aP t,c.one:=by rw [bX]; simp [go_sem]
theorem XP:Meets Tryz.prog 124 IK:=by
 refine aI Tryz.func124 ZA 1 (by rw [Tryz.ntmps124]; decide) (aC _) (fun av H K h=>by obtain ⟨_,rfl,_⟩:=AG h; rfl) ?_
 intro av H K h
 obtain ⟨t,rfl,rfl,ht,hK⟩:=AG h
 simp -dsimp only [go_sem,OR,PJ]
 refine aT (α:=Ty) (fun z=>[(1,.va (.c1 (.pt 0 0)))]) (fun z=>[.cells (aP z) 37]) (fun z=>eU z=eU t) (fun z=>z.h) t 1 rfl ?_ ?_ ?_
 · simp -dsimp only [go_sem]<;>simp
 · simp -dsimp only [go_sem]<;>simp
 intro z hz
 cases z with
 | mk k s n e=>
 cases hc:(k == 5 && (e.length:Int) == 1) with
 | true=>
  simp only [Bool.and_eq_true,beq_iff_eq] at hc
  obtain ⟨rfl,hl⟩:=hc
  obtain ⟨u,rfl⟩:∃ u,e=[u]:=List.length_eq_one_iff.1 (by omega)
  rw [rX] at hz
  simp -dsimp only [go_sem,aP,aU]
  refine ⟨fun _=>⟨⟨by omega,fun r hr=>by subst hr; exact dO u⟩,fun r hr=>?_⟩,fun h=>by simp at h⟩
  subst hr
  simp -dsimp only [go_sem,dO]
  refine ⟨yA u,aB u 1 hz (by simp only [Ty.h,Ty.hs]; omega) ?_ ?_⟩
  · simp -dsimp only [go_sem]<;>simp
  · simp -dsimp only [go_sem]<;>simp
 | false=>
  rw [pL hc] at hz
  simp -dsimp only [go_sem,aP,aU,hc]
  rw [bN,bW,<-hz] at hK
  exact .z ((by simpa [go_sem,Ty.n,Ty.k] using hK))
abbrev AF:ByteArray->A:=fun _=>.c1 (.vl (.bool true))
@[go_sem] theorem aFP (f:Nat->Option Nat) (l:List ByteArray):(l.map AF).map (A.ren f)=l.map AF:=by rw [List.map_map]; rfl
@[go_sem] theorem aGE (n:Nat) (xs:List (List C)) (l:List ByteArray):(l.map AF).map (A.pub n xs)=l.map AF:=by rw [List.map_map]; rfl
def bP (go:St->List ByteArray->List ByteArray) (ss:List St) (o:List ByteArray) (f:Fl):List ByteArray:=
 bif !(bW f.ty) || b5 o (bN f.ty) then o else match fS ss (bN f.ty) with
  | some t=>go t (o ++ [bN f.ty])
  | none=>o ++ [bN f.ty]
def cF (ss:List St):Nat->St->List ByteArray->List ByteArray
 | 0,_,o=>o
 | N + 1,t,o=>t.fs.foldl (bP (cF ss N) ss) o
theorem p6 (n:ByteArray):∀ ns:List ByteArray,(g9 ns n).isSome=b5 ns n
 | []=>rfl
 | k :: ks=>by
  have:=p6 n ks
  unfold b5 at this
  simp only [g9,b5,List.any_cons]
  by_cases h:n=k
  · simp [h]
  · simp [h,this]
theorem QD (o:List ByteArray) (n:ByteArray):iI (gL o) (o.map AF) (.string n)=bif b5 o n then some (.c1 (.vl (.bool true))) else none:=by
 rw [oW,<-p6]
 cases h:g9 o n with
 | none=>rfl
 | some i=>simp [aV (lP h).2]
theorem M1 {o:List ByteArray} {n:ByteArray} (h:b5 o n=false):jU (gL o) (.string n)=gL (o ++ [n]):=by
 rw [<-p6] at h
 unfold jU; rw [j5]
 cases h2:g9 o n with
 | none=>simp
 | some i=>rw [h2] at h; cases h
theorem MM {o:List ByteArray} {n:ByteArray} (h:b5 o n=false):kI (gL o) (o.map AF) (.string n) (.c1 (.vl (.bool true)))=(o ++ [n]).map AF:=by
 rw [<-p6] at h
 unfold kI; rw [j5]
 cases h2:g9 o n with
 | none=>simp
 | some i=>rw [h2] at h; cases h
def fresh:List St->List ByteArray->Nat
 | [],_=>0
 | s :: ss,o=>(bif b5 o s.nm then 0 else 1) + fresh ss o
theorem GL (o p:List ByteArray) (n:ByteArray):b5 (o ++ p) n=(b5 o n || b5 p n):=by simp [b5]
theorem n7 (o p:List ByteArray):∀ ss:List St,fresh ss (o ++ p)<=fresh ss o
 | []=>Nat.le_refl _
 | s :: ss=>by
  have:=n7 o p ss
  simp only [fresh,GL]
  cases b5 o s.nm<;>cases b5 p s.nm<;>simp only [Bool.or_true,Bool.or_false,aM,aG]<;>omega
theorem vY {o:List ByteArray} {n:ByteArray} {t:St} (hn:b5 o n=false):∀ {ss:List St},fS ss n=some t->fresh ss (o ++ [n]) < fresh ss o
 | [],h=>by cases h
 | s :: ss,h=>by
  unfold fS at h
  rw [List.find?_cons] at h
  simp only [fresh,GL]
  by_cases hs:s.nm=n
  · have h1:=n7 o [n] ss
    have h2:b5 [n] s.nm=true:=by simp [b5,hs]
    have h3:b5 o s.nm=false:=by rw [hs]; exact hn
    rw [h2,h3]; simp only [Bool.or_true,aM,aG]; omega
  · simp only [hs,decide_false] at h
    have:=vY hn h
    have h2:b5 [n] s.nm=false:=by simp [b5,hs]
    rw [h2,Bool.or_false]
    omega
def Pfx (o p:List ByteArray):Prop:=∃ q,p=o ++ q
theorem Pfx.refl (o:List ByteArray):Pfx o o:=⟨[],by simp⟩
theorem Pfx.trans {a b c:List ByteArray} (h:Pfx a b) (k:Pfx b c):Pfx a c:=by
 obtain ⟨p,rfl⟩:=h; obtain ⟨q,rfl⟩:=k; exact ⟨p ++ q,by simp⟩
theorem Pfx.len {a b:List ByteArray} (h:Pfx a b):a.length<=b.length:=by obtain ⟨p,rfl⟩:=h; simp
theorem Pfx.fresh {ss:List St} {a b:List ByteArray} (h:Pfx a b):fresh ss b<=fresh ss a:=by obtain ⟨p,rfl⟩:=h; exact n7 _ _ _
theorem n8 {go:St->List ByteArray->List ByteArray} (hg:∀ t o,Pfx o (go t o)) (ss:List St) (o:List ByteArray) (f:Fl):Pfx o (bP go ss o f):=by
 unfold bP
 cases !(bW f.ty) || b5 o (bN f.ty) with
 | true=>exact .refl _
 | false=>
  cases fS ss (bN f.ty) with
  | none=>exact ⟨_,rfl⟩
  | some t=>exact Pfx.trans ⟨_,rfl⟩ (hg _ _)
theorem pU {g:List ByteArray->Fl->List ByteArray} (hg:∀ o f,Pfx o (g o f)):∀ (l:List Fl) (o:List ByteArray),Pfx o (l.foldl g o)
 | [],_o=>.refl _
 | f :: l,o=>(hg o f).trans (pU hg l _)
theorem kW (ss:List St):∀ (N:Nat) (t:St) (o:List ByteArray),Pfx o (cF ss N t o)
 | 0,_,_o=>.refl _
 | N + 1,t,o=>pU (fun o f=>n8 (kW ss N) ss o f) t.fs o
abbrev EA (ks:List Value) (vs:List St) (ks':List Value) (vs':List En) (o:List ByteArray):Hp:=
 [.map .string ks (vs.map iQ),.map .string ks' (vs'.map i6),.cells [.mp 0,.mp 1] 117,.map .string (gL o) (o.map AF),.cells [.mp 3] 154,.cells [.sl 7 o.length] 52,.cells [.fn 123 [(false,[.pt 4 0]),(false,[.pt 5 0]),(false,[.pt 2 0]),(false,[.pt 6 0])]] 155,.row (o.map bI) 9 1]
def N8 (N:Nat):W.Spec:=fun av H K=>∃ (ss:List St) (t:St) (ks:List Value) (vs:List St) (ks':List Value) (vs':List En) (o:List ByteArray),av=[.va (.gs (aJ t)),.va (.c1 (.pt 4 0)),.va (.c1 (.pt 5 0)),.va (.c1 (.pt 2 0)),.va (.c1 (.pt 6 0))]/\H=EA ks vs ks' vs' o/\
 kP ks vs ss/\(∀ s ∈ ss,s.ok)/\t.ok/\fresh ss o < N/\(cF ss N t o).length<=1000000000/\K (.tu []) (EA ks vs ks' vs' (cF ss N t o))
theorem yY {N:Nat} {ss:List St} {t:St} {ks:List Value} {vs:List St} {ks':List Value} {vs':List En} {o:List ByteArray} {K:S->Hp->Prop} {H:Hp} (hH:H=EA ks vs ks' vs' o) (h1:kP ks vs ss) (h2:∀ s ∈ ss,s.ok) (h3:t.ok) (h4:fresh ss o < N) (h5:(cF ss N t o).length<=1000000000) (hK:K (.tu []) (EA ks vs ks' vs' (cF ss N t o))) :
 N8 N [.va (.gs (aJ t)),.va (.c1 (.pt 4 0)),.va (.c1 (.pt 5 0)),.va (.c1 (.pt 2 0)),.va (.c1 (.pt 6 0))] H K:=⟨ss,t,ks,vs,ks',vs',o,rfl,hH,h1,h2,h3,h4,h5,hK⟩
theorem JM {g:List ByteArray->Fl->List ByteArray} {l:List Fl} {i:Nat} {f:Fl} (hx:l[i]? = some f) (o:List ByteArray):(l.drop i).foldl g o=(l.drop (i + 1)).foldl g (g o f):=by
 obtain ⟨h,rfl⟩:=a8.1 hx
 rw [List.drop_eq_getElem_cons h]; rfl
theorem K0:∀ N,Meets Tryz.prog 123 (N8 N)
 | 0=>⟨by kernel_rfl,by rintro xs vs E ro w K _ _ _ ⟨_,_,_,_,_,_,_,_,_,_,_,_,h,_⟩; exact absurd h (Nat.not_lt_zero _)⟩
 | N + 1=>by
  refine aI Tryz.func123 YZ 5 (by rw [Tryz.ntmps123]; decide) (aD (K0 N) (aD XP (aC _))) (fun av H K h=>by obtain ⟨_,_,_,_,_,_,_,rfl,_⟩:=h; rfl) ?_
  rintro av H K ⟨ss,t,ks,vs,ks',vs',o0,rfl,rfl,h1,h2,h3,h4,h5,hK⟩
  obtain ⟨_,hl,hfs⟩:=h3
  simp -dsimp only [go_sem,aJ,PU,P0]
  refine aT (α:=Nat × List ByteArray) (fun z=>[(1,.va (.c1 (.pt 4 0))),(2,.va (.c1 (.pt 5 0))),(3,.va (.c1 (.pt 2 0))),(4,.va (.c1 (.pt 6 0))),(13,.va (.c1 (.fz (t.fs.map bD)))),(14,iS .i64 t.fs.length),(15,iS .i64 z.1)]) (fun z=>EA ks vs ks' vs' z.2)
   (fun z=>z.1<=t.fs.length/\(t.fs.drop z.1).foldl (bP (cF ss N) ss) z.2=cF ss (N + 1) t o0/\fresh ss z.2 < N + 1) (fun z=>t.fs.length - z.1) (0,o0) 8 ⟨Nat.zero_le _,rfl,h4⟩ ?_ ?_ ?_
  · simp -dsimp only [go_sem]<;>simp
  · simp -dsimp only [go_sem]<;>simp
  rintro ⟨i,o⟩ ⟨hi,ho,hfr⟩
  simp only at hi ho hfr ⊢
  rcases bG i t.fs.length with hlt | hge
  · have hg:decide ((i:Int) < (t.fs.length:Int))=true:=by simp; omega
    obtain ⟨f,hx⟩:∃ nm,t.fs[i]? = some nm:=⟨_,aV hlt⟩
    have q1:=aN (row:=bD) hx
    have hf:f.ok:=hfs f (bT hx)
    rw [JM hx] at ho
    have ht:e8 (aP f.ty):=eP hf.ty
    cases c1:bW f.ty with
    | false=>
     simp (maxSteps:=9^6) -dsimp only [go_sem,hg,↓q1,bD,jC,ht,c1]
     have hv:bP (cF ss N) ss o f=o:=by unfold bP; rw [c1]; rfl
     rw [hv] at ho
     refine ⟨by omega,by omega,aB (i + 1,o) 8 ⟨by simp only; omega,ho,hfr⟩ (by simp only; omega) ?_ ?_⟩
     · simp -dsimp only [go_sem]<;>simp
     · simp -dsimp only [go_sem]<;>simp
    | true=>
    have hm:=QD o (bN f.ty)
    cases c2:b5 o (bN f.ty) with
    | true=>
     have hv:bP (cF ss N) ss o f=o:=by unfold bP; rw [c1,c2]; rfl
     rw [hv] at ho
     rw [c2] at hm
     simp only [aM] at hm
     simp (maxSteps:=9^6) -dsimp only [go_sem,hg,↓q1,bD,jC,ht,c1,hm]
     refine ⟨by omega,by omega,aB (i + 1,o) 8 ⟨by simp only; omega,ho,hfr⟩ (by simp only; omega) ?_ ?_⟩
     · simp -dsimp only [go_sem]<;>simp
     · simp -dsimp only [go_sem]<;>simp
    | false=>
     rw [c2] at hm
     simp only [aG] at hm
     have mk1:=M1 c2
     have mv1:=MM c2
     have hx1:=h1 (bN f.ty)
     have hb1:(bP (cF ss N) ss o f).length<=1000000000:=by
      have:=(pU (fun o f=>n8 (kW ss N) ss o f) (t.fs.drop (i + 1)) (bP (cF ss N) ss o f)).len
      rw [ho] at this; omega
     have hb:(o ++ [bN f.ty]).length<=1000000000:=by
      refine Nat.le_trans (Pfx.len ?_) hb1
      unfold bP; rw [c1,c2]
      cases fS ss (bN f.ty) with
      | none=>exact .refl _
      | some t=>exact kW _ _ _ _
     cases hs:fS ss (bN f.ty) with
     | none=>
      have hv:bP (cF ss N) ss o f=o ++ [bN f.ty]:=by unfold bP; rw [c1,c2,hs]; rfl
      rw [hv] at ho
      rw [hs] at hx1
      simp only [Option.map_none] at hx1
      simp (maxSteps:=9^6) -dsimp only [go_sem,hg,↓q1,bD,jC,ht,c1,hm,mk1,mv1,hx1]
      refine ⟨by omega,by simp at hb; omega,by omega,aB (i + 1,o ++ [bN f.ty]) 8 ⟨by simp only; omega,ho,by have:=n7 o [bN f.ty] ss; simp only; omega⟩ (by simp only; omega) ?_ ?_⟩
      · simp -dsimp only [go_sem]<;>simp
      · simp -dsimp only [go_sem]<;>simp
     | some d=>
      have hv:bP (cF ss N) ss o f=cF ss N d (o ++ [bN f.ty]):=by unfold bP; rw [c1,c2,hs]; rfl
      rw [hv] at ho hb1
      rw [hs] at hx1
      simp only [Option.map_some] at hx1
      have hd:d.ok:=h2 d (List.mem_of_find?_eq_some hs)
      have hfl:=vY c2 hs
      simp (maxSteps:=9^6) -dsimp only [go_sem,hg,↓q1,bD,jC,ht,c1,hm,mk1,mv1,hx1,aJ]
      refine ⟨by omega,by simp at hb; omega,yY (o:=o ++ [bN f.ty]) (ks':=ks') (vs':=vs') (by simp [go_sem]) h1 h2 hd (by omega) hb1 ?_⟩
      simp (maxSteps:=9^6) -dsimp only [go_sem]
      refine ⟨by omega,aB (i + 1,cF ss N d (o ++ [bN f.ty])) 8 ⟨by simp only; omega,ho,by have:=(kW ss N d (o ++ [bN f.ty])).fresh (ss:=ss); simp only; omega⟩ (by simp only; omega) ?_ ?_⟩
      · simp -dsimp only [go_sem]<;>simp
      · simp -dsimp only [go_sem]<;>simp
  · have hg:decide ((i:Int) < (t.fs.length:Int))=false:=by simp; omega
    obtain rfl:i=t.fs.length:=by omega
    rw [List.drop_length] at ho
    simp only [List.foldl_nil] at ho
    simp -dsimp only [go_sem,hg]
    rw [<-ho] at hK
    exact .sel [0,1,2,3,4,5,6,7] (by simp) (by simp) rfl (.done (by simp -dsimp only [go_sem]; simpa [go_sem] using hK))
end Go.Proofs.YtgogpogophflhaaGreatDoor
namespace Go.Proofs
open Go.Shelf
def Tryz.lays190_ren:Go.Shelf.Ren:=⟨fun | 190=>125 | 125=>133 | 258=>132 | 128=>149 | 129=>135 | 302=>140 | 303=>141 | 304=>142 | 305=>143 | 306=>144 | 307=>145 | 308=>146 | 309=>147 | 310=>148 | 333=>152 | 329=>153 | 330=>154 | 334=>155 | 335=>156 | 336=>157 | 344=>158 | n=>n,fun | 31=>52 | 9=>9 | 3=>3 | 46=>168 | 0=>0 | 51=>171 | 53=>127 | 4=>4 | 183=>176 | 182=>175 | 131=>160 | 5=>5 | 218=>183 | 222=>187 | 228=>191 | 229=>192 | n=>n,fun | n=>n⟩
theorem Tryz.lays190:Go.Proofs.Lays.n190 Tryz.prog Tryz.lays190_ren:={
 mixed:=by kernel_rfl
 f125:=Tryz.func133.trans (congrArg some (by kernel_rfl))
 f128:=Tryz.func149.trans (congrArg some (by kernel_rfl))
 f129:=Tryz.func135.trans (congrArg some (by kernel_rfl))
 f190:=Tryz.func125.trans (congrArg some (by kernel_rfl))
 f258:=Tryz.func132.trans (congrArg some (by kernel_rfl))
 f302:=Tryz.func140.trans (congrArg some (by kernel_rfl))
 f303:=Tryz.func141.trans (congrArg some (by kernel_rfl))
 f304:=Tryz.func142.trans (congrArg some (by kernel_rfl))
 f305:=Tryz.func143.trans (congrArg some (by kernel_rfl))
 f306:=Tryz.func144.trans (congrArg some (by kernel_rfl))
 f307:=Tryz.func145.trans (congrArg some (by kernel_rfl))
 f308:=Tryz.func146.trans (congrArg some (by kernel_rfl))
 f309:=Tryz.func147.trans (congrArg some (by kernel_rfl))
 f310:=Tryz.func148.trans (congrArg some (by kernel_rfl))
 f329:=Tryz.func153.trans (congrArg some (by kernel_rfl))
 f330:=Tryz.func154.trans (congrArg some (by kernel_rfl))
 f333:=Tryz.func152.trans (congrArg some (by kernel_rfl))
 f334:=Tryz.func155.trans (congrArg some (by kernel_rfl))
 f335:=Tryz.func156.trans (congrArg some (by kernel_rfl))
 f336:=Tryz.func157.trans (congrArg some (by kernel_rfl))
 f344:=Tryz.func158.trans (congrArg some (by kernel_rfl))
 t0:=Tryz.underlying0
 a0:=Tryz.isAgg0
 z0:=Tryz.sizeOf0
 v0:=Tryz.zeroValue0
 t3:=Tryz.underlying3
 a3:=Tryz.isAgg3
 z3:=Tryz.sizeOf3
 v3:=Tryz.zeroValue3
 t4:=Tryz.underlying4
 a4:=Tryz.isAgg4
 z4:=Tryz.sizeOf4
 v4:=Tryz.zeroValue4
 t5:=Tryz.underlying5
 a5:=Tryz.isAgg5
 z5:=Tryz.sizeOf5
 v5:=Tryz.zeroValue5
 t9:=Tryz.underlying9
 a9:=Tryz.isAgg9
 z9:=Tryz.sizeOf9
 v9:=Tryz.zeroValue9
 t31:=Tryz.underlying52
 a31:=Tryz.isAgg52
 z31:=Tryz.sizeOf52
 v31:=Tryz.zeroValue52
 t46:=Tryz.underlying168
 a46:=Tryz.isAgg168
 z46:=Tryz.sizeOf168
 v46:=Tryz.zeroValue168
 t51:=Tryz.underlying171
 a51:=Tryz.isAgg171
 z51:=Tryz.sizeOf171
 v51:=Tryz.zeroValue171
 t53:=Tryz.underlying127
 a53:=Tryz.isAgg127
 z53:=Tryz.sizeOf127
 v53:=Tryz.zeroValue127
 t131:=Tryz.underlying160
 a131:=Tryz.isAgg160
 z131:=Tryz.sizeOf160
 v131:=Tryz.zeroValue160
 t182:=Tryz.underlying175
 a182:=Tryz.isAgg175
 z182:=Tryz.sizeOf175
 v182:=Tryz.zeroValue175
 t183:=Tryz.underlying176
 a183:=Tryz.isAgg176
 z183:=Tryz.sizeOf176
 v183:=Tryz.zeroValue176
 t218:=Tryz.underlying183
 a218:=Tryz.isAgg183
 z218:=Tryz.sizeOf183
 v218:=Tryz.zeroValue183
 t222:=Tryz.underlying187
 a222:=Tryz.isAgg187
 z222:=Tryz.sizeOf187
 v222:=Tryz.zeroValue187
 t228:=Tryz.underlying191
 a228:=Tryz.isAgg191
 z228:=Tryz.sizeOf191
 v228:=Tryz.zeroValue191
 t229:=Tryz.underlying192
 a229:=Tryz.isAgg192
 z229:=Tryz.sizeOf192
 v229:=Tryz.zeroValue192 }
end Go.Proofs
namespace Go.Proofs.YtgogpogophflhaaGreatDoor
open Go.W Go.Sort
def fF (l:List ByteArray):List ByteArray:=((l.map bl).mergeSort fun x y=>decide (x<=y)).map mk
theorem nA (l:List ByteArray):(fF l).length=l.length:=by simp [fF]
theorem qU (w:World) (os:Array Obj) {k:Nat} (h:k < w.heap.size):(grow w os).heap[k]? = w.heap[k]?:=by
 simp [grow,Array.getElem?_append_left h]
theorem FH (enc:List UInt8->Value) (w:World) (b:Nat) (d:Array (List UInt8)) {cur:Array Value} {T:TypeId} {p:Nat × Nat} (h:w.heap[b]? = some (.cells cur T p)):(putRow enc w b 0 d).heap[b]? = some (.cells (putCells enc 0 d cur) T p):=by
 unfold putRow mapBlock
 simp [Array.getElem?_modify,h,onCells]
theorem yN (enc:List UInt8->Value) (w:World) {b k:Nat} (d:Array (List UInt8)) (h:k ≠ b):(putRow enc w b 0 d).heap[k]? = w.heap[k]?:=by
 unfold putRow mapBlock
 simp [Array.getElem?_modify,Ne.symm h]
def W3:W.Spec:=fun av H K=>∃ l:List ByteArray,av=[.va (.c1 (.sl 0 l.length))]/\H=[.row (l.map bI) 9 1]/\l.length<=1000000000/\K (.tu []) [.row ((fF l).map bI) 9 1]
theorem LG {l:List ByteArray} {K:S->Hp->Prop} (h:l.length<=1000000000) (hK:K (.tu []) [.row ((fF l).map bI) 9 1]):W3 [.va (.c1 (.sl 0 l.length))] [.row (l.map bI) 9 1] K:=⟨l,rfl,rfl,h,hK⟩
theorem uL (l:List ByteArray):(l.map bI).flatten=l.map fun x=>C.vl (.string x):=by
 induction l with
 | nil=>rfl
 | cons x l ih=>rw [List.map_cons,List.flatten_cons,ih]; rfl
theorem TP {l:List ByteArray} {vs:List Value} {ro:RO} (h:All2 (C.fv ro) (l.map bI).flatten vs):vs=l.map Value.string:=by
 rw [uL] at h
 refine List.ext_getElem? fun i=>?_
 obtain ⟨h1,h2⟩:=h
 rw [List.length_map] at h1
 rw [List.getElem?_map]
 rcases bG i l.length with hi | hi
 · obtain ⟨x,hx⟩:∃ x,l[i]? = some x:=⟨_,aV hi⟩
   obtain ⟨v,hv⟩:∃ v,vs[i]? = some v:=⟨_,aV (by omega)⟩
   have:=h2 i _ v (by rw [List.getElem?_map,hx]; rfl) hv
   rw [hv,hx]; exact congrArg some this
 · rw [List.getElem?_eq_none (by omega),List.getElem?_eq_none hi]; rfl
theorem Y2:Meets Tryz.prog 125 W3:=by
 refine ⟨by kernel_rfl,fun av vs E ro w K hlen hrel hR hs _=>?_⟩
 obtain ⟨l,rfl,hH,hl,hK⟩:=hs
 match E,hH with
 | [(g,blk)],hH=>
  obtain rfl:blk=.row (l.map bI) 9 1:=by simpa [hp] using hH
  match vs,hlen with
  | [v0],_=>
   have r0:=hrel 0 _ _ rfl rfl
   have hon:=hR.own 0 g _ rfl
   obtain ⟨o1,o2,o3,o4,o5,o6,o7⟩:=hon
   rw [List.length_map] at o2 o5
   obtain ⟨g',hg',_,_,_,hv0⟩:=r0
   obtain rfl:g=g':=by simpa [gm] using hg'
   obtain rfl:=hv0 o2.symm
   have hvs:=TP o6
   obtain ⟨l1,l2⟩:=o5
   rcases Nat.eq_zero_or_pos l.length with h0 | h0
   · obtain rfl:=List.eq_nil_of_length_eq_zero h0
     refine (Any.slices_Sort_string_none Tryz.lays190 _ _ w).mono ?_
     rintro e w' ⟨rfl,rfl⟩
     rw [show fF []=[] by simp [fF]] at hK
     exact ⟨.tu [],_,[(g,.row ([].map bI) 9 1)],ro,rfl,⟨[],rfl,.nil⟩,hK,hR⟩
   rcases l2 with ⟨_,h1⟩ | ⟨b,cap,cur,hsl,_,hb,hcap,hmax,hcs,htk⟩
   · omega
   have hob:g.ob=some b:=by
    cases hgo:g.ob with
    | none=>rw [hgo] at hsl; simp [aZ] at hsl
    | some b'=>rw [hgo] at hsl; simp [aZ] at hsl; rw [hsl.1]
   have hgc:g.cap=cap:=by simp at hsl; exact hsl.2
   have hbs:b < w.heap.size:=by
    rcases bG b w.heap.size with h' | h'
    · exact h'
    · rw [Array.getElem?_eq_none h'] at hb; cases hb
   have hcell:∀ k,k < l.length->w.cell? ⟨b,k,none⟩=(l.map Value.string)[k]?:=fun k hk=>by
    rw [<-hvs,<-htk,List.getElem?_take,if_pos (by omega)]
    simp [World.cell?,hb]
   rw [hob,hgc]
   have key:=Any.slices_Sort_string Tryz.lays190 b 0 cap (l.map bl) w (fun j hj=>by
    have hj':j < l.length:=by simpa using hj
    refine ⟨?_,by simp [World.frozen?,hb]⟩
    rw [Nat.zero_add,hcell j hj']
    simp [hj']
    exact (lL _).symm) hbs (by simp; omega)
   rw [List.length_map] at key
   refine key.mono ?_
   rintro e w' ⟨rfl,n,os,rfl⟩
   obtain ⟨D,hD⟩:∃ D,D=(l.map bl).mergeSort fun x y=>decide (x<=y):=⟨_,rfl⟩
   have hDl:D.length=l.length:=by rw [hD]; simp
   have hsD:fF l=D.map mk:=by rw [hD]; rfl
   rw [<-hD]
   obtain ⟨W',hW⟩:∃ W',W'=grow (putRow encStr (Sort.ahead w n) b 0 D.toArray) os:=⟨_,rfl⟩
   have hmod:(putRow encStr (Sort.ahead w n) b 0 D.toArray).heap.size=w.heap.size:=by simp [putRow,mapBlock,Sort.ahead]
   have hb':W'.heap[b]? = some (.cells (putCells encStr 0 D.toArray cur) 9 (0,0)):=by
    rw [hW,qU _ _ (by rw [hmod]; exact hbs)]
    exact FH encStr _ b D.toArray hb
   have hne:∀ k,k ≠ b->k < w.heap.size->W'.heap[k]? = w.heap[k]?:=fun k h1 h2=>by
    rw [hW,qU _ _ (by rw [hmod]; exact h2),yN encStr _ D.toArray h1]; rfl
   have hsz:w.heap.size<=W'.heap.size:=by rw [hW]; simp [hmod]
   have hrest:W'.os=w.os/\W'.tape=w.tape/\W'.output=w.output:=by rw [hW]; exact ⟨rfl,rfl,rfl⟩
   rw [<-hW]
   clear hW
   have htk':(putCells encStr 0 D.toArray cur).toList.take l.length=(fF l).map Value.string:=by
    have hsl':(fF l).length=l.length:=nA l
    refine List.ext_getElem? fun k=>?_
    rw [List.getElem?_take,List.getElem?_map]
    rcases bG k l.length with hk | hk
    · rw [if_pos hk,hsD]
      have h1:k < cur.size:=by omega
      have h2:k < D.length:=by omega
      simp [putCells,h1,hDl]
      rw [if_pos hk,aV h2]; rfl
    · rw [if_neg (by omega),List.getElem?_eq_none (by omega)]; rfl
   have hown:B.On (gm [(⟨some b,true,l.length,cap,g.T,(fF l).map Value.string⟩,.row ((fF l).map bI) 9 1)]) ro W' ⟨some b,true,l.length,cap,g.T,(fF l).map Value.string⟩ (.row ((fF l).map bI) 9 1):=by
    have hsl':(fF l).length=l.length:=nA l
    refine ⟨rfl,by rw [List.length_map,hsl'],fun x hx=>?_,fun c hc=>?_,⟨?_,.inr ⟨b,cap,putCells encStr 0 D.toArray cur,?_,Nat.zero_le _,hb',?_,hmax,by simp [putCells]; omega,?_⟩⟩,?_,fun b' _=>(by show 0 < cap; omega)⟩
    · obtain ⟨y,_,rfl⟩:=List.mem_map.1 hx; rfl
    · rw [uL] at hc; obtain ⟨y,_,rfl⟩:=List.mem_map.1 hc; rfl
    · simp
    · simp [aZ]
    · rw [List.length_map,hsl']; exact hcap
    · rw [List.length_map,hsl',Nat.mul_one]; exact htk'
    · rw [uL]
      refine ⟨by simp,fun i x y hx hy=>?_⟩
      rw [List.getElem?_map] at hx hy
      cases hi:(fF l)[i]? with
      | none=>rw [hi] at hx; cases hx
      | some z=>rw [hi] at hx hy; cases hx; cases hy; rfl
   have hpb:b ∈ dQ [(g,.row (l.map bI) 9 1)]:=by
    rcases hR.par 0 b g _ rfl hob rfl with h | h
    · exact absurd h (Nat.not_le.2 hbs)
    · exact h
   refine ⟨.tu [],_,[(⟨some b,true,l.length,cap,g.T,(fF l).map Value.string⟩,.row ((fF l).map bI) 9 1)],ro,rfl,⟨[],rfl,.nil⟩,hK,?_⟩
   refine ⟨fun n gn bn hn=>?_,fun n m gn gm' bn bm b' hn hm h1 h2 l1 l2=>?_,fun b' off v hv n gn bn hn hgb=>?_,fun b' off v hv=>?_,hR.ro0,hR.rob,fun n b' gn bn hn hgb hl=>?_,?_,hsz,fun k hk hkb=>hne k (fun e=>hkb (e ▸ hpb)) hk,hrest.1,hrest.2.1,hrest.2.2⟩
   · match n,hn with
     | 0,hn=>cases hn; exact hown
     | n + 1,hn=>cases hn
   · match n,m,hn,hm with
     | 0,0,_,_=>rfl
     | n + 1,_,hn,_=>cases hn
     | _,m + 1,_,hm=>cases hm
   · match n,hn with
     | 0,hn=>
      cases hn
      have hbb:b=b':=by simpa using hgb
      subst hbb
      exact absurd (hR.apart b off v hv 0 g _ rfl hob) (by simp [B.live])
     | n + 1,hn=>cases hn
   · have hne':b' ≠ b:=fun e=>by
      subst e
      exact absurd (hR.apart b' off v hv 0 g _ rfl hob) (by simp [B.live])
     have:=hR.rd b' off v hv
     rcases bG b' w.heap.size with h' | h'
     · exact this.same (hne b' hne' h')
     · have:=this.1
       simp [World.cell?,Array.getElem?_eq_none h'] at this
   · match n,hn with
     | 0,hn=>
      cases hn
      have:b=b':=by simpa using hgb
      subst this; exact .inr hpb
     | n + 1,hn=>cases hn
   · intro n g2 h2
     match n,h2 with
     | 0,h2=>
      cases h2
      exact ⟨_,rfl,o1.symm,.inl ⟨hob.symm,o2.symm,hgc.symm⟩⟩
     | n + 1,h2=>cases h2
end Go.Proofs.YtgogpogophflhaaGreatDoor
namespace Go.Proofs.YtgogpogophflhaaGreatDoor
open Go.W
def gE (ss:List St) (n:ByteArray):List ByteArray:=cF ss (ss.length + 1) ((fS ss n).getD default) []
def cY (ss:List St) (n:ByteArray):List ByteArray:=fF (gE ss n)
theorem vH (ss:List St) (o:List ByteArray):fresh ss o<=ss.length:=by
 induction ss with
 | nil=>exact Nat.le_refl _
 | cons s ss ih=>simp only [fresh,List.length_cons]; cases b5 o s.nm<;>simp only [aM,aG]<;>omega
theorem St.ok_default:(default:St).ok:=⟨by decide,by decide,fun f h=>by cases h⟩
def XE:W.Spec:=fun av H K=>∃ (ss:List St) (n:ByteArray) (ks:List Value) (vs:List St) (ks':List Value) (vs':List En),av=[mB,tS n]/\H=f0 ks vs ks' vs'/\
 kP ks vs ss/\(∀ s ∈ ss,s.ok)/\(gE ss n).length<=1000000000/\K (.va (.c1 (.fz ((cY ss n).map bI)))) (f0 ks vs ks' vs')
theorem UJ {ss:List St} {n:ByteArray} {ks:List Value} {vs:List St} {ks':List Value} {vs':List En} {K:S->Hp->Prop} (h1:kP ks vs ss) (h2:∀ s ∈ ss,s.ok) (h3:(gE ss n).length<=1000000000) (hK:K (.va (.c1 (.fz ((cY ss n).map bI)))) (f0 ks vs ks' vs')) :
 XE [mB,tS n] (f0 ks vs ks' vs') K:=⟨ss,n,ks,vs,ks',vs',rfl,rfl,h1,h2,h3,hK⟩
theorem aAI:Meets Tryz.prog 113 XE:=by
 refine iX 0 (t:=fun N=>fun av H K=>∃ (ss:List St) (n:ByteArray) (ks:List Value) (vs:List St) (ks':List Value) (vs':List En),av=[mB,tS n]/\H=f0 ks vs ks' vs'/\
  kP ks vs ss/\(∀ s ∈ ss,s.ok)/\ss.length=N/\(gE ss n).length<=1000000000/\K (.va (.c1 (.fz ((cY ss n).map bI)))) (f0 ks vs ks' vs')) (fun N=>?_) fun av H K ⟨ss,n,ks,vs,ks',vs',e1,e2,h1,h2,h3,hK⟩=>⟨ss.length,ss,n,ks,vs,ks',vs',e1,e2,h1,h2,rfl,h3,hK⟩
 refine aI Tryz.func113 Y8 2 (by rw [Tryz.ntmps113]; decide) (aD (K0 (N + 1)) (aD Y2 (aC _))) (fun av H K h=>by obtain ⟨_,_,_,_,_,_,rfl,_⟩:=h; rfl) ?_
 rintro av H K ⟨ss,n,ks,vs,ks',vs',rfl,rfl,h1,h2,rfl,h3,hK⟩
 have hx:=h1 n
 simp -dsimp only [go_sem,PN,PM]
 refine .nilc 5 0 9 1 [.vl (.slice none 0 0)] 52 rfl rfl (.done ?_)
 cases hs:fS ss n with
 | none=>
  rw [hs] at hx
  simp only [Option.map_none] at hx
  simp -dsimp only [go_sem,hx]
  have hF:gE ss n=cF ss (ss.length + 1) default []:=by unfold gE; rw [hs]; rfl
  have hU:cY ss n=fF (cF ss (ss.length + 1) default []):=by unfold cY; rw [hF]
  rw [hF] at h3
  rw [hU] at hK
  have hfr:=vH ss []
  refine yY (ss:=ss) (t:=default) (ks:=ks) (vs:=vs) (ks':=ks') (vs':=vs') (o:=[]) rfl h1 h2 St.ok_default (by omega) h3 ?_
  generalize cF ss (ss.length + 1) default []=o at h3 hK
  simp -dsimp only [go_sem]
  refine LG h3 ?_
  simp -dsimp only [go_sem]
  rw [<-nA o]
  refine .pub 7 _ _ _ rfl (.sel [0,1] (by simp) (by simp [dA]) rfl (.done ?_))
  simp -dsimp only [go_sem,dA]; exact hK
 | some d=>
  rw [hs] at hx
  simp only [Option.map_some] at hx
  simp -dsimp only [go_sem,hx,aJ]
  have hF:gE ss n=cF ss (ss.length + 1) d []:=by unfold gE; rw [hs]; rfl
  have hU:cY ss n=fF (cF ss (ss.length + 1) d []):=by unfold cY; rw [hF]
  rw [hF] at h3
  rw [hU] at hK
  have hfr:=vH ss []
  refine yY (ss:=ss) (t:=d) (ks:=ks) (vs:=vs) (ks':=ks') (vs':=vs') (o:=[]) rfl h1 h2 (h2 d (List.mem_of_find?_eq_some hs)) (by omega) h3 ?_
  generalize cF ss (ss.length + 1) d []=o at h3 hK
  simp -dsimp only [go_sem]
  refine LG h3 ?_
  simp -dsimp only [go_sem]
  rw [<-nA o]
  refine .pub 7 _ _ _ rfl (.sel [0,1] (by simp) (by simp [dA]) rfl (.done ?_))
  simp -dsimp only [go_sem,dA]; exact hK
end Go.Proofs.YtgogpogophflhaaGreatDoor
