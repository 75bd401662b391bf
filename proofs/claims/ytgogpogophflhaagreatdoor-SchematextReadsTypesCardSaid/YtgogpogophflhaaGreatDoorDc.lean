/- Lemmas and walks for the proof. -/
import Derived.Test.YtgogpogophflhaaGreatDoorDb
import Derived.Test.YtgogpogophflhaaGreatDoorProg
import Derived.Shelf.Strings.Search1
import Derived.Shelf.Small.Strs
import Derived.Shelf.Sort.Plain
import Derived.Shelf.Slices.In.SortNone
set_option maxRecDepth 100000
set_option maxHeartbeats 8000000
namespace Go.W
abbrev J.a (d:Nat) (i:I):J:=⟨some d,none,i⟩
abbrev J.q (d:Nat) (i:QI):J:=⟨some d,none,.q i⟩
abbrev J.v (d i:Nat):J:=⟨some d,none,.q (.mv (.t i))⟩
abbrev J.l (d:Nat) (i:LI):J:=⟨some d,none,.l i⟩
abbrev J.e (d:Nat) (i:EI):J:=⟨some d,none,.e i⟩
abbrev J.s (i:EI):J:=⟨none,none,.e i⟩
abbrev O.i (n:Int):O:=.k (.int .i64 n)
abbrev bT (p:PC):Prop:=∀(Γ:cO) (k0:Nat) (fr:Fr) (H:Hp) (K:Ex->Fr->Hp->Prop),vc Γ k0 p fr H K=YG Γ k0 p fr H K ⟨⟩
abbrev zv5:Array Value:=#[(.int .i64 0), (.int .i64 0), (.string (mk [])), (.slice none 0 0), (.slice none 0 0)]
theorem Fin.z {K:S->Hp->Prop} {r:S} {H:Hp} (h:K (r.ren (loc [])) ((mG H []).map (B.ren (loc [])))):Fin 0 K r H:=.sel [] (by simp) (by simp) rfl (.done h)
theorem bW (p:PC):bT p:=fun _ _ _ _ _=>rfl
end Go.W
namespace Go.Proofs.YtgogpogophflhaaGreatDoor
open Go.W
def TT:PC:=.seq (.reg [.q 2 (.mv (.k (.slice none 0 0))),.q 3 (.mv (.i 0)),.q 4 (.mv (.i 0))]) (.seq (.seq (.reg [.v 8 0,.q 9 (.lnS (.t 8)),.q 10 (.bin .gtr true (.t 9) (.i 4000))]) (.cond (.t 10) (.seq (.reg [.q 2 (.mv (.k (.slice none 0 0))),.q 3 (.mv (.i 3)),.q 4 (.mv (.i 0))]) .ret) .skip)) (.seq (.reg [.v 11 0,.q 12 (.bd [(.string (mk [])),(.int .i64 0),(.int .i64 0),(.int .i64 0)] [(0,1,(.t 11))]),.e 13 (.bx 92 (.t 12)),.v 5 13]) (.seq (.reg [.q 6 (.mv (.k (.slice none 0 0)))]) (.block 0 (.loop (.block 1 (.seq (.reg [.v 14 5,.a 15 (.cl 58 [(.t 14)] [0]),.e 7 (.al (.agg #[(.int .i64 0),(.string (mk [])),(.int .i64 0),(.int .i64 0)]) 74),.s (.st 4 (.t 7) (.t 15))]) (.seq (.seq (.reg [.v 16 5,.q 17 (.nc (.t 16)),.q 18 (.fa 2 (.t 17)),.l 19 (.ld1 (.t 18)),.q 20 (.bin .neq true (.t 19) (.i 0))]) (.cond (.t 20) (.seq (.reg [.v 21 5,.q 22 (.nc (.t 21)),.q 23 (.fa 2 (.t 22)),.l 24 (.ld1 (.t 23)),.v 25 5,.q 26 (.nc (.t 25)),.q 27 (.fa 3 (.t 26)),.l 28 (.ld1 (.t 27)),.q 2 (.mv (.k (.slice none 0 0))),.v 3 24,.v 4 28]) .ret) .skip)) (.seq (.reg [.v 29 6,.l 30 (.ldn 4 (.t 7)),.e 31 (.bsl 74 4 [(.t 30)]),.e 32 (.ap 74 4 40 (.t 29) (.t 31)),.v 6 32]) (.seq (.reg [.q 33 (.fa 0 (.t 7)),.l 34 (.ld1 (.t 33)),.q 35 (.bin .eql true (.t 34) (.i 0))]) (.cond (.t 35) (.seq (.reg [.v 36 6,.v 2 36,.q 3 (.mv (.i 0)),.q 4 (.mv (.i 0))]) .ret) .skip)))))))))))
def RT:List RV:=[.mv (.t 2),.mv (.t 3),.mv (.t 4)]
theorem ZH:aT Tryz.prog true ⟨fun r k=>if r=5/\k=1 then .own [0] else .own [],fun _=>false⟩ Tryz.f22=some (TT,RT):=by kernel_rfl
def P0:PC:=.seq (.reg [.q 2 (.mv (.k (.pointer none))),.q 3 (.mv (.i 0)),.q 4 (.mv (.i 0))]) (.seq (.reg [.v 9 0,.a 10 (.cl 22 [(.t 9)] []),.v 8 10,.q 11 (.ex (.t 8) 0),.q 12 (.ex (.t 8) 1),.q 13 (.ex (.t 8) 2),.v 5 11,.v 6 12,.v 7 13]) (.seq (.seq (.reg [.v 14 6,.q 15 (.bin .neq true (.t 14) (.i 0))]) (.cond (.t 15) (.seq (.reg [.v 16 6,.v 17 7,.q 2 (.mv (.k (.pointer none))),.v 3 16,.v 4 17]) .ret) .skip)) (.seq (.reg [.v 18 5,.q 19 (.bd [(.slice none 0 0),(.int .i64 0)] [(0,1,(.t 18))]),.e 20 (.bx 123 (.t 19)),.v 2 20,.q 3 (.mv (.i 0)),.q 4 (.mv (.i 0))]) .ret)))
def Q5:List RV:=[.mv (.t 2),.mv (.t 3),.mv (.t 4)]
theorem aB8:aT Tryz.prog true ⟨fun _ _=>.own [],fun _=>false⟩ Tryz.f33=some (P0,Q5):=by kernel_rfl
def QR:PC:=.seq (.reg [.e 2 (.al (.agg #[(.int .i64 0),(.string (mk [])),(.int .i64 0),(.int .i64 0)]) 74)]) (.seq (.seq (.reg [.v 3 0,.q 4 (.eqP false (.t 3) (.k (.pointer none))),.v 5 4,⟨some 6,(some (5,false)),.q (.mv (.t 0))⟩,⟨some 7,(some (5,false)),.q (.nc (.t 6))⟩,⟨some 8,(some (5,false)),.q (.fa 0 (.t 7))⟩,⟨some 9,(some (5,false)),.l (.ld1 (.t 8))⟩,⟨some 10,(some (5,false)),.q (.lnL (.t 9))⟩,⟨some 11,(some (5,false)),.q (.bin .eql true (.t 10) (.i 0))⟩,.a 12 (.pick (.t 5) (.k (.bool true)) (.t 11))]) (.cond (.t 12) (.seq (.reg [.q 13 (.bd [(.int .i64 0),(.string (mk [])),(.int .i64 0),(.int .i64 0)] []),.s (.st 4 (.t 2) (.t 13))]) .ret) .skip)) (.seq (.reg [.v 14 0,.q 15 (.nc (.t 14)),.q 16 (.fa 0 (.t 15)),.l 17 (.ld1 (.t 16)),.v 18 0,.q 19 (.nc (.t 18)),.q 20 (.fa 1 (.t 19)),.l 21 (.ld1 (.t 20)),.l 22 (.ia 4 (.t 17) (.t 21)),.l 23 (.ldn 4 (.t 22)),.s (.st 4 (.t 2) (.t 23))]) .ret))
def QH:List RV:=[.ld (.ldn 4 (.t 2))]
theorem Z7:aT Tryz.prog true ⟨fun _ _=>.own [],fun _=>false⟩ Tryz.f38=some (QR,QH):=by kernel_rfl
def RZ:PC:=.seq (.reg [.e 2 (.al (.agg #[(.int .i64 0),(.string (mk [])),(.int .i64 0),(.int .i64 0)]) 74)]) (.seq (.reg [.v 3 0,.a 4 (.cl 100 [(.t 3)] [0])]) (.seq (.seq (.reg [.v 5 0,.a 6 (.cl 101 [(.t 5)] [0])]) (.block 0 (.seq (.reg [.q 8 (.bin .eql true (.t 6) (.i (-1))),.v 7 8]) (.cond (.t 7) (.seq (.reg [.v 9 0,.q 10 (.nc (.t 9)),.q 11 (.fa 1 (.t 10)),.l 12 (.ld1 (.t 11)),.q 13 (.bd [(.int .i64 0),(.string (mk [])),(.int .i64 0),(.int .i64 0)] [(3,1,(.t 12))]),.s (.st 4 (.t 2) (.t 13))]) .ret) (.seq (.reg [.q 15 (.bin .eql true (.t 6) (.i 3)),.v 14 15]) (.cond (.t 14) (.seq (.reg [.v 16 0,.a 17 (.cl 102 [(.t 16)] [0]),.s (.st 4 (.t 2) (.t 17))]) .ret) (.seq (.seq (.reg [.q 19 (.bin .eql true (.t 6) (.i 4)),.v 18 19]) (.cond (.t 18) .skip (.reg [.q 20 (.bin .eql true (.t 6) (.i 5)),.v 18 20]))) (.cond (.t 18) (.seq (.reg [.v 21 0,.a 22 (.cl 103 [(.t 21)] [0]),.s (.st 4 (.t 2) (.t 22))]) .ret) (.seq (.reg [.q 24 (.bin .eql true (.t 6) (.i 7)),.v 23 24]) (.cond (.t 23) (.seq (.reg [.v 25 0,.a 26 (.cl 104 [(.t 25)] [0]),.s (.st 4 (.t 2) (.t 26))]) .ret) (.seq (.reg [.q 28 (.bin .eql true (.t 6) (.i 8)),.v 27 28]) (.cond (.t 27) (.seq (.reg [.v 29 0,.q 30 (.nc (.t 29)),.q 31 (.fa 1 (.t 30)),.l 32 (.ld1 (.t 31)),.q 33 (.bin .add true (.t 32) (.i 1)),.q 34 (.nc (.t 29)),.q 35 (.fa 1 (.t 34)),.s (.st 1 (.t 35) (.t 33))]) (.seq (.reg [.v 36 0,.q 37 (.nc (.t 36)),.q 38 (.fa 0 (.t 37)),.l 39 (.ld1 (.t 38)),.v 40 0,.q 41 (.nc (.t 40)),.q 42 (.fa 1 (.t 41)),.l 43 (.ld1 (.t 42)),.q 44 (.bin .sub true (.t 43) (.i 1)),.v 45 0,.q 46 (.nc (.t 45)),.q 47 (.fa 1 (.t 46)),.l 48 (.ld1 (.t 47)),.q 49 (.ss (.t 39) (some (.t 44)) (some (.t 48))),.v 50 0,.q 51 (.nc (.t 50)),.q 52 (.fa 1 (.t 51)),.l 53 (.ld1 (.t 52)),.q 54 (.bin .sub true (.t 53) (.i 1)),.q 55 (.bd [(.int .i64 0),(.string (mk [])),(.int .i64 0),(.int .i64 0)] [(0,1,(.i 4)),(1,1,(.t 49)),(3,1,(.t 54))]),.s (.st 4 (.t 2) (.t 55))]) .ret)) .skip)))))))))))) (.seq (.reg [.v 56 0,.v 57 0,.q 58 (.nc (.t 57)),.q 59 (.fa 1 (.t 58)),.l 60 (.ld1 (.t 59)),.a 61 (.cl 105 [(.t 56),(.i 2),(.t 60)] [0])]) (.seq (.reg [.q 62 (.bd [(.int .i64 0),(.string (mk [])),(.int .i64 0),(.int .i64 0)] []),.s (.st 4 (.t 2) (.t 62))]) .ret))))
def RI:List RV:=[.ld (.ldn 4 (.t 2))]
theorem aB4:aT Tryz.prog true ⟨fun r k=>if r=1/\k=1 then .own [0] else if r=2/\k=1 then .own [0] else if r=6/\k=1 then .own [0] else if r=9/\k=1 then .own [0] else if r=11/\k=1 then .own [0] else if r=15/\k=5 then .own [0] else .own [],fun _=>false⟩ Tryz.f58=some (RZ,RI):=by kernel_rfl
def S3:PC:=.seq (.reg [.q 2 (.mv (.i 0))]) (.seq (.reg [.v 3 0,.q 4 (.nc (.t 3)),.q 5 (.fa 1 (.t 4)),.l 6 (.ld1 (.t 5)),.q 7 (.lnL (.t 6)),.v 2 7]) .ret)
def SU:List RV:=[.mv (.t 2)]
theorem aAH:aT Tryz.prog true ⟨fun _ _=>.own [],fun _=>false⟩ Tryz.f60=some (S3,SU):=by kernel_rfl
def TY:PC:=.seq (.reg [.q 4 (.mv (.k .nilIface))]) (.seq (.reg [.v 5 0,.a 6 (.cl 109 [(.t 5)] [0,1])]) (.seq (.reg [.v 7 0,.v 8 0,.q 9 (.nc (.t 8)),.q 10 (.fa 1 (.t 9)),.l 11 (.ld1 (.t 10)),.v 12 1,.e 13 (.bsl 5 1 [(.t 12)]),.e 14 (.ap 5 1 1 (.t 11) (.t 13)),.q 15 (.nc (.t 7)),.q 16 (.fa 1 (.t 15)),.s (.st 1 (.t 16) (.t 14))]) (.seq (.reg [.q 4 (.mv (.k .nilIface))]) .ret)))
def PZ:List RV:=[.mv (.t 4)]
theorem aBO:aT Tryz.prog true ⟨fun r k=>if r=1/\k=1 then .own [0,1] else .own [],fun _=>false⟩ Tryz.f61=some (TY,PZ):=by kernel_rfl
def SK:PC:=.seq (.reg [.q 2 (.mv (.k (.string (mk []))))]) (.seq (.reg [.v 3 0,.q 4 (.nc (.t 3)),.q 5 (.fa 1 (.t 4)),.l 6 (.ld1 (.t 5)),.q 7 (.usd (.t 6)),.v 8 0,.q 9 (.nc (.t 8)),.q 10 (.fa 1 (.t 9)),.l 11 (.ld1 (.t 10)),.q 12 (.lnL (.t 11)),.e 13 (.us 5 (.t 7) (.t 12)),.v 2 13]) .ret)
def S9:List RV:=[.mv (.t 2)]
theorem aA4:aT Tryz.prog true ⟨fun _ _=>.own [],fun _=>false⟩ Tryz.f63=some (SK,S9):=by kernel_rfl
def SO:PC:=.seq (.reg [.q 4 (.mv (.k (.bool false)))]) (.seq (.reg [.v 5 0,.v 6 1,.a 7 (.cl 116 [(.t 5),(.i 1),(.t 6)] [0]),.v 4 7]) .ret)
def RX:List RV:=[.mv (.t 4)]
theorem aAI:aT Tryz.prog true ⟨fun r k=>if r=1/\k=2 then .own [0] else .own [],fun _=>false⟩ Tryz.f80=some (SO,RX):=by kernel_rfl
def T6:PC:=.seq (.reg [.e 2 (.al (.agg #[(.int .i64 0),(.string (mk [])),(.int .i64 0),(.int .i64 0)]) 74)]) (.seq (.reg [.v 4 0,.a 5 (.cl 38 [(.t 4)] [0]),.e 3 (.al (.agg #[(.int .i64 0),(.string (mk [])),(.int .i64 0),(.int .i64 0)]) 74),.s (.st 4 (.t 3) (.t 5))]) (.seq (.seq (.reg [.v 6 0,.q 7 (.eqP true (.t 6) (.k (.pointer none))),.v 8 7,⟨some 9,(some (8,true)),.q (.mv (.t 0))⟩,⟨some 10,(some (8,true)),.q (.nc (.t 9))⟩,⟨some 11,(some (8,true)),.q (.fa 1 (.t 10))⟩,⟨some 12,(some (8,true)),.l (.ld1 (.t 11))⟩,⟨some 13,(some (8,true)),.q (.mv (.t 0))⟩,⟨some 14,(some (8,true)),.q (.nc (.t 13))⟩,⟨some 15,(some (8,true)),.q (.fa 0 (.t 14))⟩,⟨some 16,(some (8,true)),.l (.ld1 (.t 15))⟩,⟨some 17,(some (8,true)),.q (.lnL (.t 16))⟩,⟨some 18,(some (8,true)),.q (.bin .sub true (.t 17) (.i 1))⟩,⟨some 19,(some (8,true)),.q (.bin .lss true (.t 12) (.t 18))⟩,.a 20 (.pick (.t 8) (.t 19) (.k (.bool false)))]) (.cond (.t 20) (.reg [.v 21 0,.q 22 (.nc (.t 21)),.q 23 (.fa 1 (.t 22)),.l 24 (.ld1 (.t 23)),.q 25 (.bin .add true (.t 24) (.i 1)),.q 26 (.nc (.t 21)),.q 27 (.fa 1 (.t 26)),.s (.st 1 (.t 27) (.t 25))]) .skip)) (.seq (.reg [.l 28 (.ldn 4 (.t 3)),.s (.st 4 (.t 2) (.t 28))]) .ret)))
def TF:List RV:=[.ld (.ldn 4 (.t 2))]
theorem Z6:aT Tryz.prog true ⟨fun r k=>if r=1/\k=1 then .own [0] else .own [],fun _=>false⟩ Tryz.f81=some (T6,TF):=by kernel_rfl
def U5:PC:=.seq (.reg [.q 4 (.mv (.k (.bool false)))]) (.seq (.reg [.v 5 0,.v 6 1,.a 7 (.cl 116 [(.t 5),(.i 4),(.t 6)] [0]),.v 4 7]) .ret)
def SL:List RV:=[.mv (.t 4)]
theorem ZB:aT Tryz.prog true ⟨fun r k=>if r=1/\k=2 then .own [0] else .own [],fun _=>false⟩ Tryz.f82=some (U5,SL):=by kernel_rfl
def P5:PC:=.seq (.reg [.q 2 (.mv (.k (.bool false)))]) (.seq (.seq (.reg [.v 5 0,.q 6 (.bin .eql true (.t 5) (.k (.string (mk [])))),.v 7 6,⟨some 8,(some (7,false)),.q (.mv (.t 0))⟩,⟨some 9,(some (7,false)),.q (.lnS (.t 8))⟩,⟨some 10,(some (7,false)),.q (.bin .gtr true (.t 9) (.i 16))⟩,.a 11 (.pick (.t 7) (.k (.bool true)) (.t 10)),.v 12 11,⟨some 13,(some (12,false)),.q (.mv (.t 0))⟩,⟨some 14,(some (12,false)),.ix (.t 13) (.i 0)⟩,⟨some 15,(some (12,false)),.cq 108 [(.t 14)]⟩,⟨some 16,(some (12,false)),.q (.bin .neq true (.t 15) (.i 3))⟩,.a 17 (.pick (.t 12) (.k (.bool true)) (.t 16))]) (.cond (.t 17) (.seq (.reg [.q 2 (.mv (.k (.bool false)))]) .ret) .skip)) (.seq (.seq (.reg [.v 18 0,.q 19 (.lnS (.t 18)),.q 20 (.mv (.i 0))]) (.block 0 (.loop (.seq (.reg [.q 21 (.bin .lss true (.t 20) (.t 19))]) (.seq (.cond (.t 21) .skip (.exit 0)) (.seq (.block 1 (.seq (.reg [.v 22 20,.v 3 22]) (.seq (.reg [.v 23 0,.v 24 3,.a 25 (.ix (.t 23) (.t 24)),.a 26 (.cq 108 [(.t 25)]),.v 4 26]) (.seq (.reg [.v 27 4,.q 28 (.bin .neq true (.t 27) (.i 3)),.v 29 28,⟨some 30,(some (29,true)),.q (.mv (.t 4))⟩,⟨some 31,(some (29,true)),.q (.bin .neq true (.t 30) (.i 4))⟩,.a 32 (.pick (.t 29) (.t 31) (.k (.bool false))),.v 33 32,⟨some 34,(some (33,true)),.q (.mv (.t 4))⟩,⟨some 35,(some (33,true)),.q (.bin .neq true (.t 34) (.i 6))⟩,.a 36 (.pick (.t 33) (.t 35) (.k (.bool false)))]) (.cond (.t 36) (.seq (.reg [.q 2 (.mv (.k (.bool false)))]) .ret) .skip))))) (.reg [.q 37 (.bin .add true (.t 20) (.i 1)),.v 20 37]))))))) (.seq (.reg [.q 2 (.mv (.k (.bool true)))]) .ret)))
def TG:List RV:=[.mv (.t 2)]
theorem ZV:aT Tryz.prog true ⟨fun r k=>if r=1/\k=10 then .q else if r=6/\k=3 then .q else .own [],fun _=>false⟩ Tryz.f95=some (P5,TG):=by kernel_rfl
def NJ:PC:=.block 0 (.loop (.seq (.seq (.reg [.v 3 0,.q 4 (.nc (.t 3)),.q 5 (.fa 1 (.t 4)),.l 6 (.ld1 (.t 5)),.v 7 0,.q 8 (.nc (.t 7)),.q 9 (.fa 0 (.t 8)),.l 10 (.ld1 (.t 9)),.q 11 (.lnS (.t 10)),.q 12 (.bin .lss true (.t 6) (.t 11))]) (.cond (.t 12) .skip (.exit 0))) (.block 1 (.seq (.reg [.v 13 0,.a 14 (.cl 101 [(.t 13)] [0])]) (.block 2 (.seq (.reg [.q 16 (.bin .eql true (.t 14) (.i 1)),.v 15 16]) (.cond (.t 15) (.reg [.v 17 0,.q 18 (.nc (.t 17)),.q 19 (.fa 1 (.t 18)),.l 20 (.ld1 (.t 19)),.q 21 (.bin .add true (.t 20) (.i 1)),.q 22 (.nc (.t 17)),.q 23 (.fa 1 (.t 22)),.s (.st 1 (.t 23) (.t 21))]) (.seq (.reg [.q 25 (.bin .eql true (.t 14) (.i 2)),.v 24 25]) (.cond (.t 24) (.seq (.reg [.v 26 0,.q 27 (.nc (.t 26)),.q 28 (.fa 0 (.t 27)),.l 29 (.ld1 (.t 28)),.v 30 0,.q 31 (.nc (.t 30)),.q 32 (.fa 1 (.t 31)),.l 33 (.ld1 (.t 32)),.q 34 (.ss (.t 29) (some (.t 33)) none),.a 35 (.cq 119 [(.t 34),(.k (.int .u8 10))]),.v 2 35]) (.seq (.reg [.v 36 2,.q 37 (.bin .geq true (.t 36) (.i 0))]) (.cond (.t 37) (.reg [.v 38 0,.q 39 (.nc (.t 38)),.q 40 (.fa 1 (.t 39)),.l 41 (.ld1 (.t 40)),.v 42 2,.q 43 (.bin .add true (.t 41) (.t 42)),.q 44 (.nc (.t 38)),.q 45 (.fa 1 (.t 44)),.s (.st 1 (.t 45) (.t 43))]) (.reg [.v 46 0,.v 47 0,.q 48 (.nc (.t 47)),.q 49 (.fa 0 (.t 48)),.l 50 (.ld1 (.t 49)),.q 51 (.lnS (.t 50)),.q 52 (.nc (.t 46)),.q 53 (.fa 1 (.t 52)),.s (.st 1 (.t 53) (.t 51))])))) .ret)))))))))
def LR:List RV:=[]
theorem VU:aT Tryz.prog true ⟨fun r k=>if r=1/\k=1 then .own [0] else if r=5/\k=9 then .q else .own [],fun _=>false⟩ Tryz.f100=some (NJ,LR):=by kernel_rfl
def L7:PC:=.seq (.reg [.q 2 (.mv (.i 0))]) (.seq (.seq (.reg [.v 3 0,.q 4 (.nc (.t 3)),.q 5 (.fa 1 (.t 4)),.l 6 (.ld1 (.t 5)),.v 7 0,.q 8 (.nc (.t 7)),.q 9 (.fa 0 (.t 8)),.l 10 (.ld1 (.t 9)),.q 11 (.lnS (.t 10)),.q 12 (.bin .geq true (.t 6) (.t 11))]) (.cond (.t 12) (.seq (.reg [.q 2 (.mv (.i (-1)))]) .ret) .skip)) (.seq (.reg [.v 13 0,.q 14 (.nc (.t 13)),.q 15 (.fa 0 (.t 14)),.l 16 (.ld1 (.t 15)),.v 17 0,.q 18 (.nc (.t 17)),.q 19 (.fa 1 (.t 18)),.l 20 (.ld1 (.t 19)),.a 21 (.ix (.t 16) (.t 20)),.a 22 (.cq 108 [(.t 21)]),.v 2 22]) .ret))
def K8:List RV:=[.mv (.t 2)]
theorem VR:aT Tryz.prog true ⟨fun r k=>if r=3/\k=9 then .q else .own [],fun _=>false⟩ Tryz.f101=some (L7,K8):=by kernel_rfl
def LX:PC:=.seq (.reg [.e 2 (.al (.agg #[(.int .i64 0),(.string (mk [])),(.int .i64 0),(.int .i64 0)]) 74)]) (.seq (.reg [.v 5 0,.q 6 (.nc (.t 5)),.q 7 (.fa 1 (.t 6)),.l 8 (.ld1 (.t 7)),.v 3 8]) (.seq (.seq (.reg [.v 9 0,.a 10 (.cl 101 [(.t 9)] [0]),.v 4 10]) (.block 0 (.loop (.seq (.seq (.reg [.v 11 4,.q 12 (.bin .eql true (.t 11) (.i 3)),.v 13 12,⟨some 14,(some (13,false)),.q (.mv (.t 4))⟩,⟨some 15,(some (13,false)),.q (.bin .eql true (.t 14) (.i 4))⟩,.a 16 (.pick (.t 13) (.k (.bool true)) (.t 15)),.v 17 16,⟨some 18,(some (17,false)),.q (.mv (.t 4))⟩,⟨some 19,(some (17,false)),.q (.bin .eql true (.t 18) (.i 6))⟩,.a 20 (.pick (.t 17) (.k (.bool true)) (.t 19))]) (.cond (.t 20) .skip (.exit 0))) (.seq (.block 1 (.reg [.v 23 0,.q 24 (.nc (.t 23)),.q 25 (.fa 1 (.t 24)),.l 26 (.ld1 (.t 25)),.q 27 (.bin .add true (.t 26) (.i 1)),.q 28 (.nc (.t 23)),.q 29 (.fa 1 (.t 28)),.s (.st 1 (.t 29) (.t 27))])) (.reg [.v 21 0,.a 22 (.cl 101 [(.t 21)] [0]),.v 4 22])))))) (.seq (.seq (.reg [.v 30 0,.q 31 (.nc (.t 30)),.q 32 (.fa 1 (.t 31)),.l 33 (.ld1 (.t 32)),.v 34 3,.q 35 (.bin .sub true (.t 33) (.t 34)),.q 36 (.bin .gtr true (.t 35) (.i 16))]) (.cond (.t 36) (.reg [.v 37 0,.v 38 3,.a 39 (.cl 105 [(.t 37),(.i 3),(.t 38)] [0])]) .skip)) (.seq (.seq (.reg [.v 40 0,.a 41 (.cl 101 [(.t 40)] [0]),.q 42 (.bin .eql true (.t 41) (.i 5))]) (.cond (.t 42) (.reg [.v 43 0,.v 44 0,.q 45 (.nc (.t 44)),.q 46 (.fa 1 (.t 45)),.l 47 (.ld1 (.t 46)),.a 48 (.cl 105 [(.t 43),(.i 2),(.t 47)] [0])]) .skip)) (.seq (.reg [.v 49 0,.q 50 (.nc (.t 49)),.q 51 (.fa 0 (.t 50)),.l 52 (.ld1 (.t 51)),.v 53 3,.v 54 0,.q 55 (.nc (.t 54)),.q 56 (.fa 1 (.t 55)),.l 57 (.ld1 (.t 56)),.q 58 (.ss (.t 52) (some (.t 53)) (some (.t 57))),.v 59 3,.q 60 (.bd [(.int .i64 0),(.string (mk [])),(.int .i64 0),(.int .i64 0)] [(0,1,(.i 1)),(1,1,(.t 58)),(3,1,(.t 59))]),.s (.st 4 (.t 2) (.t 60))]) .ret)))))
def MQ:List RV:=[.ld (.ldn 4 (.t 2))]
theorem W5:aT Tryz.prog true ⟨fun r k=>if r=2/\k=1 then .own [0] else if r=4/\k=1 then .own [0] else if r=7/\k=2 then .own [0] else if r=8/\k=1 then .own [0] else if r=9/\k=5 then .own [0] else .own [],fun _=>false⟩ Tryz.f102=some (LX,MQ):=by kernel_rfl
def pc103_15:PC:=.seq (.seq (.gh (.reg [.v 79 0,.a 80 (.cl 101 [(.t 79)] [0]),.v 9 80])) (.seq (.reg [.v 81 9,.q 82 (.bin .eql true (.t 81) (.i 3)),.v 83 82,⟨some 84,(some (83,false)),.q (.mv (.t 9))⟩,⟨some 85,(some (83,false)),.q (.bin .eql true (.t 84) (.i 6))⟩,.a 86 (.pick (.t 83) (.k (.bool true)) (.t 85)),.v 87 86,⟨some 88,(some (87,false)),.q (.mv (.t 9))⟩,⟨some 89,(some (87,false)),.q (.bin .eql true (.t 88) (.i 5))⟩,.a 90 (.pick (.t 87) (.k (.bool true)) (.t 89))]) (.cond (.t 90) (.reg [.v 91 0,.v 92 0,.q 93 (.nc (.t 92)),.q 94 (.fa 1 (.t 93)),.l 95 (.ld1 (.t 94)),.a 96 (.cl 105 [(.t 91),(.i 2),(.t 95)] [0])]) .skip))) (.seq (.reg [.v 97 7,.v 98 3,.q 99 (.bd [(.int .i64 0),(.string (mk [])),(.int .i64 0),(.int .i64 0)] [(0,1,(.i 2)),(2,1,(.t 97)),(3,1,(.t 98))]),.s (.st 4 (.t 2) (.t 99))]) .ret)
@[go_sem ↓] theorem WD:bT pc103_15:=bW _
def pc103_5:PC:=.seq (.gh (.reg [.v 25 0,.q 26 (.nc (.t 25)),.q 27 (.fa 1 (.t 26)),.l 28 (.ld1 (.t 27)),.v 5 28])) (.seq (.block 0 (.loop (.seq (.seq (.reg [.v 29 0,.a 30 (.cl 101 [(.t 29)] [0]),.q 31 (.bin .eql true (.t 30) (.i 4))]) (.cond (.t 31) .skip (.exit 0))) (.block 1 (.reg [.v 32 0,.q 33 (.nc (.t 32)),.q 34 (.fa 1 (.t 33)),.l 35 (.ld1 (.t 34)),.q 36 (.bin .add true (.t 35) (.i 1)),.q 37 (.nc (.t 32)),.q 38 (.fa 1 (.t 37)),.s (.st 1 (.t 38) (.t 36))]))))) (.seq (.reg [.v 39 0,.q 40 (.nc (.t 39)),.q 41 (.fa 0 (.t 40)),.l 42 (.ld1 (.t 41)),.v 43 5,.v 44 0,.q 45 (.nc (.t 44)),.q 46 (.fa 1 (.t 45)),.l 47 (.ld1 (.t 46)),.q 48 (.ss (.t 42) (some (.t 43)) (some (.t 47))),.v 6 48]) (.seq (.seq (.reg [.v 49 6,.q 50 (.bin .eql true (.t 49) (.k (.string (mk [])))),.v 51 50,⟨some 52,(some (51,false)),.q (.mv (.t 6))⟩,⟨some 53,(some (51,false)),.ix (.t 52) (.i 0)⟩,⟨some 54,(some (51,false)),.q (.bin .eql true (.t 53) (.k (.int .u8 48)))⟩,⟨some 55,(some (51,false)),.q (.mv (.t 54))⟩,⟨some 56,(some (55,true)),.q (.mv (.t 6))⟩,⟨some 57,(some (55,true)),.q (.lnS (.t 56))⟩,⟨some 58,(some (55,true)),.q (.bin .gtr true (.t 57) (.i 1))⟩,⟨some 59,(some (55,true)),.q (.mv (.t 58))⟩,⟨some 60,(some (59,false)),.q (.mv (.t 4))⟩,⟨some 61,(some (55,true)),.pick (.t 59) (.k (.bool true)) (.t 60)⟩,⟨some 62,(some (51,false)),.pick (.t 55) (.t 61) (.k (.bool false))⟩,.a 63 (.pick (.t 51) (.k (.bool true)) (.t 62))]) (.cond (.t 63) (.seq (.reg [.v 64 0,.v 65 3,.a 66 (.cl 105 [(.t 64),(.i 2),(.t 65)] [0])]) (.seq (.reg [.q 67 (.bd [(.int .i64 0),(.string (mk [])),(.int .i64 0),(.int .i64 0)] []),.s (.st 4 (.t 2) (.t 67))]) .ret)) .skip)) (.seq (.reg [.v 69 4,.v 70 6,.a 71 (.cl 120 [(.t 69),(.t 70)] []),.v 68 71,.q 72 (.ex (.t 68) 0),.q 73 (.ex (.t 68) 1),.v 7 72,.v 8 73]) (.seq (.seq (.reg [.v 74 8,.q 75 (.not (.t 74))]) (.cond (.t 75) (.reg [.v 76 0,.v 77 3,.a 78 (.cl 105 [(.t 76),(.i 4),(.t 77)] [0])]) .skip)) (pc103_15))))))
@[go_sem ↓] theorem YJ:bT pc103_5:=bW _
def MK:PC:=.seq (.reg [.e 2 (.al (.agg #[(.int .i64 0),(.string (mk [])),(.int .i64 0),(.int .i64 0)]) 74)]) (.seq (.reg [.v 10 0,.q 11 (.nc (.t 10)),.q 12 (.fa 1 (.t 11)),.l 13 (.ld1 (.t 12)),.v 3 13]) (.seq (.reg [.v 14 0,.a 15 (.cl 101 [(.t 14)] [0]),.q 16 (.bin .eql true (.t 15) (.i 5)),.v 4 16]) (.seq (.seq (.reg [.v 17 4]) (.cond (.t 17) (.reg [.v 18 0,.q 19 (.nc (.t 18)),.q 20 (.fa 1 (.t 19)),.l 21 (.ld1 (.t 20)),.q 22 (.bin .add true (.t 21) (.i 1)),.q 23 (.nc (.t 18)),.q 24 (.fa 1 (.t 23)),.s (.st 1 (.t 24) (.t 22))]) .skip)) (pc103_5))))
def qQ:List RV:=[.ld (.ldn 4 (.t 2))]
theorem VE:aT Tryz.prog true ⟨fun r k=>if r=2/\k=1 then .own [0] else if r=6/\k=1 then .own [0] else if r=10/\k=2 then .own [0] else if r=14/\k=2 then .own [0] else if r=15/\k=1 then .own [0] else if r=17/\k=5 then .own [0] else .own [],fun r=>[5,15].contains r⟩ Tryz.f103=some (MK,qQ):=by kernel_rfl
def MU:PC:=.seq (.reg [.e 2 (.al (.agg #[(.int .i64 0),(.string (mk [])),(.int .i64 0),(.int .i64 0)]) 74)]) (.seq (.reg [.v 6 0,.q 7 (.nc (.t 6)),.q 8 (.fa 1 (.t 7)),.l 9 (.ld1 (.t 8)),.v 3 9]) (.seq (.reg [.e 4 (.al (.agg #[(.pointer none),(.slice none 0 0)]) 95)]) (.seq (.seq (.reg [.v 10 0,.q 11 (.nc (.t 10)),.q 12 (.fa 1 (.t 11)),.l 13 (.ld1 (.t 12)),.q 14 (.bin .add true (.t 13) (.i 1)),.q 15 (.nc (.t 10)),.q 16 (.fa 1 (.t 15)),.s (.st 1 (.t 16) (.t 14))]) (.block 0 (.loop (.seq (.block 1 (.seq (.seq (.reg [.v 24 0,.q 25 (.nc (.t 24)),.q 26 (.fa 1 (.t 25)),.l 27 (.ld1 (.t 26)),.v 28 0,.q 29 (.nc (.t 28)),.q 30 (.fa 0 (.t 29)),.l 31 (.ld1 (.t 30)),.q 32 (.lnS (.t 31)),.q 33 (.bin .geq true (.t 27) (.t 32)),.v 34 33,⟨some 35,(some (34,false)),.q (.mv (.t 0))⟩,⟨some 36,(some (34,false)),.q (.nc (.t 35))⟩,⟨some 37,(some (34,false)),.q (.fa 0 (.t 36))⟩,⟨some 38,(some (34,false)),.l (.ld1 (.t 37))⟩,⟨some 39,(some (34,false)),.q (.mv (.t 0))⟩,⟨some 40,(some (34,false)),.q (.nc (.t 39))⟩,⟨some 41,(some (34,false)),.q (.fa 1 (.t 40))⟩,⟨some 42,(some (34,false)),.l (.ld1 (.t 41))⟩,⟨some 43,(some (34,false)),.ix (.t 38) (.t 42)⟩,⟨some 44,(some (34,false)),.q (.bin .lss true (.t 43) (.k (.int .u8 32)))⟩,.a 45 (.pick (.t 34) (.k (.bool true)) (.t 44)),.v 46 45,⟨some 47,(some (46,false)),.q (.mv (.t 0))⟩,⟨some 48,(some (46,false)),.q (.nc (.t 47))⟩,⟨some 49,(some (46,false)),.q (.fa 0 (.t 48))⟩,⟨some 50,(some (46,false)),.l (.ld1 (.t 49))⟩,⟨some 51,(some (46,false)),.q (.mv (.t 0))⟩,⟨some 52,(some (46,false)),.q (.nc (.t 51))⟩,⟨some 53,(some (46,false)),.q (.fa 1 (.t 52))⟩,⟨some 54,(some (46,false)),.l (.ld1 (.t 53))⟩,⟨some 55,(some (46,false)),.ix (.t 50) (.t 54)⟩,⟨some 56,(some (46,false)),.q (.bin .gtr true (.t 55) (.k (.int .u8 126)))⟩,.a 57 (.pick (.t 46) (.k (.bool true)) (.t 56))]) (.cond (.t 57) (.seq (.reg [.v 58 0,.v 59 0,.q 60 (.nc (.t 59)),.q 61 (.fa 1 (.t 60)),.l 62 (.ld1 (.t 61)),.a 63 (.cl 105 [(.t 58),(.i 2),(.t 62)] [0])]) (.seq (.reg [.q 64 (.bd [(.int .i64 0),(.string (mk [])),(.int .i64 0),(.int .i64 0)] []),.s (.st 4 (.t 2) (.t 64))]) .ret)) .skip)) (.seq (.reg [.v 65 0,.q 66 (.nc (.t 65)),.q 67 (.fa 0 (.t 66)),.l 68 (.ld1 (.t 67)),.v 69 0,.q 70 (.nc (.t 69)),.q 71 (.fa 1 (.t 70)),.l 72 (.ld1 (.t 71)),.a 73 (.ix (.t 68) (.t 72)),.v 5 73]) (.seq (.seq (.reg [.v 74 5,.q 75 (.bin .eql true (.t 74) (.k (.int .u8 34)))]) (.cond (.t 75) (.seq (.reg [.v 76 0,.q 77 (.nc (.t 76)),.q 78 (.fa 1 (.t 77)),.l 79 (.ld1 (.t 78)),.q 80 (.bin .add true (.t 79) (.i 1)),.q 81 (.nc (.t 76)),.q 82 (.fa 1 (.t 81)),.s (.st 1 (.t 82) (.t 80))]) (.exit 0)) .skip)) (.seq (.seq (.reg [.v 83 5,.q 84 (.bin .eql true (.t 83) (.k (.int .u8 92)))]) (.cond (.t 84) (.seq (.seq (.reg [.v 85 0,.q 86 (.nc (.t 85)),.q 87 (.fa 1 (.t 86)),.l 88 (.ld1 (.t 87)),.q 89 (.bin .add true (.t 88) (.i 1)),.v 90 0,.q 91 (.nc (.t 90)),.q 92 (.fa 0 (.t 91)),.l 93 (.ld1 (.t 92)),.q 94 (.lnS (.t 93)),.q 95 (.bin .geq true (.t 89) (.t 94)),.v 96 95,⟨some 97,(some (96,false)),.q (.mv (.t 0))⟩,⟨some 98,(some (96,false)),.q (.nc (.t 97))⟩,⟨some 99,(some (96,false)),.q (.fa 0 (.t 98))⟩,⟨some 100,(some (96,false)),.l (.ld1 (.t 99))⟩,⟨some 101,(some (96,false)),.q (.mv (.t 0))⟩,⟨some 102,(some (96,false)),.q (.nc (.t 101))⟩,⟨some 103,(some (96,false)),.q (.fa 1 (.t 102))⟩,⟨some 104,(some (96,false)),.l (.ld1 (.t 103))⟩,⟨some 105,(some (96,false)),.q (.bin .add true (.t 104) (.i 1))⟩,⟨some 106,(some (96,false)),.ix (.t 100) (.t 105)⟩,⟨some 107,(some (96,false)),.q (.bin .neq true (.t 106) (.k (.int .u8 34)))⟩,⟨some 108,(some (96,false)),.q (.mv (.t 107))⟩,⟨some 109,(some (108,true)),.q (.mv (.t 0))⟩,⟨some 110,(some (108,true)),.q (.nc (.t 109))⟩,⟨some 111,(some (108,true)),.q (.fa 0 (.t 110))⟩,⟨some 112,(some (108,true)),.l (.ld1 (.t 111))⟩,⟨some 113,(some (108,true)),.q (.mv (.t 0))⟩,⟨some 114,(some (108,true)),.q (.nc (.t 113))⟩,⟨some 115,(some (108,true)),.q (.fa 1 (.t 114))⟩,⟨some 116,(some (108,true)),.l (.ld1 (.t 115))⟩,⟨some 117,(some (108,true)),.q (.bin .add true (.t 116) (.i 1))⟩,⟨some 118,(some (108,true)),.ix (.t 112) (.t 117)⟩,⟨some 119,(some (108,true)),.q (.bin .neq true (.t 118) (.k (.int .u8 92)))⟩,⟨some 120,(some (96,false)),.pick (.t 108) (.t 119) (.k (.bool false))⟩,.a 121 (.pick (.t 96) (.k (.bool true)) (.t 120))]) (.cond (.t 121) (.seq (.reg [.v 122 0,.v 123 0,.q 124 (.nc (.t 123)),.q 125 (.fa 1 (.t 124)),.l 126 (.ld1 (.t 125)),.a 127 (.cl 105 [(.t 122),(.i 2),(.t 126)] [0])]) (.seq (.reg [.q 128 (.bd [(.int .i64 0),(.string (mk [])),(.int .i64 0),(.int .i64 0)] []),.s (.st 4 (.t 2) (.t 128))]) .ret)) .skip)) (.seq (.reg [.v 129 0,.q 130 (.nc (.t 129)),.q 131 (.fa 1 (.t 130)),.l 132 (.ld1 (.t 131)),.q 133 (.bin .add true (.t 132) (.i 1)),.q 134 (.nc (.t 129)),.q 135 (.fa 1 (.t 134)),.s (.st 1 (.t 135) (.t 133))]) (.reg [.v 136 0,.q 137 (.nc (.t 136)),.q 138 (.fa 0 (.t 137)),.l 139 (.ld1 (.t 138)),.v 140 0,.q 141 (.nc (.t 140)),.q 142 (.fa 1 (.t 141)),.l 143 (.ld1 (.t 142)),.a 144 (.ix (.t 139) (.t 143)),.v 5 144]))) .skip)) (.reg [.v 145 5,.a 146 (.cl 61 [(.t 4),(.t 145)] [2,3])])))))) (.reg [.v 17 0,.q 18 (.nc (.t 17)),.q 19 (.fa 1 (.t 18)),.l 20 (.ld1 (.t 19)),.q 21 (.bin .add true (.t 20) (.i 1)),.q 22 (.nc (.t 17)),.q 23 (.fa 1 (.t 22)),.s (.st 1 (.t 23) (.t 21))]))))) (.seq (.seq (.reg [.a 147 (.cl 60 [(.t 4)] [2,3]),.q 148 (.bin .gtr true (.t 147) (.i 200))]) (.cond (.t 148) (.reg [.v 149 0,.v 150 3,.a 151 (.cl 105 [(.t 149),(.i 3),(.t 150)] [0])]) .skip)) (.seq (.reg [.a 152 (.cl 63 [(.t 4)] [2,3]),.v 153 3,.q 154 (.bd [(.int .i64 0),(.string (mk [])),(.int .i64 0),(.int .i64 0)] [(0,1,(.i 3)),(1,1,(.t 152)),(3,1,(.t 153))]),.s (.st 4 (.t 2) (.t 154))]) .ret)))))
def L5:List RV:=[.ld (.ldn 4 (.t 2))]
theorem VY:aT Tryz.prog true ⟨fun r k=>if r=6/\k=5 then .own [0] else if r=13/\k=5 then .own [0] else if r=17/\k=1 then .own [2,3] else if r=18/\k=0 then .own [2,3] else if r=19/\k=2 then .own [0] else if r=20/\k=0 then .own [2,3] else .own [],fun _=>false⟩ Tryz.f104=some (MU,L5):=by kernel_rfl
def M5:PC:=.seq (.reg [.v 6 0,.q 7 (.nc (.t 6)),.q 8 (.fa 2 (.t 7)),.l 9 (.ld1 (.t 8)),.q 10 (.bin .eql true (.t 9) (.i 0))]) (.cond (.t 10) (.reg [.v 11 0,.v 12 0,.v 13 1,.v 14 2,.q 15 (.nc (.t 11)),.q 16 (.fa 2 (.t 15)),.s (.st 1 (.t 16) (.t 13)),.q 17 (.nc (.t 12)),.q 18 (.fa 3 (.t 17)),.s (.st 1 (.t 18) (.t 14))]) .skip)
def K5:List RV:=[]
theorem WM:aT Tryz.prog true ⟨fun _ _=>.own [],fun _=>false⟩ Tryz.f105=some (M5,K5):=by kernel_rfl
def LW:PC:=.seq (.reg [.q 2 (.mv (.i 0))]) (.seq (.seq (.reg [.v 4 0,.q 5 (.cvt .i32 (.t 4)),.v 3 5]) (.block 0 (.seq (.reg [.v 7 3,.q 8 (.bin .eql true (.t 7) (.k (.int .i32 32))),.v 9 8,⟨some 10,(some (9,false)),.q (.mv (.t 3))⟩,⟨some 11,(some (9,false)),.q (.bin .eql true (.t 10) (.k (.int .i32 9)))⟩,.a 12 (.pick (.t 9) (.k (.bool true)) (.t 11)),.v 13 12,⟨some 14,(some (13,false)),.q (.mv (.t 3))⟩,⟨some 15,(some (13,false)),.q (.bin .eql true (.t 14) (.k (.int .i32 10)))⟩,.a 16 (.pick (.t 13) (.k (.bool true)) (.t 15)),.v 6 16]) (.cond (.t 6) (.seq (.reg [.q 2 (.mv (.i 1))]) .ret) (.seq (.reg [.v 18 3,.q 19 (.bin .eql true (.t 18) (.k (.int .i32 35))),.v 17 19]) (.cond (.t 17) (.seq (.reg [.q 2 (.mv (.i 2))]) .ret) (.seq (.reg [.v 21 3,.q 22 (.bin .geq true (.t 21) (.k (.int .i32 97))),.v 23 22,⟨some 24,(some (23,true)),.q (.mv (.t 3))⟩,⟨some 25,(some (23,true)),.q (.bin .leq true (.t 24) (.k (.int .i32 122)))⟩,.a 26 (.pick (.t 23) (.t 25) (.k (.bool false))),.v 27 26,⟨some 28,(some (27,false)),.q (.mv (.t 3))⟩,⟨some 29,(some (27,false)),.q (.bin .geq true (.t 28) (.k (.int .i32 65)))⟩,⟨some 30,(some (27,false)),.q (.mv (.t 29))⟩,⟨some 31,(some (30,true)),.q (.mv (.t 3))⟩,⟨some 32,(some (30,true)),.q (.bin .leq true (.t 31) (.k (.int .i32 90)))⟩,⟨some 33,(some (27,false)),.pick (.t 30) (.t 32) (.k (.bool false))⟩,.a 34 (.pick (.t 27) (.k (.bool true)) (.t 33)),.v 20 34]) (.cond (.t 20) (.seq (.reg [.q 2 (.mv (.i 3))]) .ret) (.seq (.reg [.v 36 3,.q 37 (.bin .geq true (.t 36) (.k (.int .i32 48))),.v 38 37,⟨some 39,(some (38,true)),.q (.mv (.t 3))⟩,⟨some 40,(some (38,true)),.q (.bin .leq true (.t 39) (.k (.int .i32 57)))⟩,.a 41 (.pick (.t 38) (.t 40) (.k (.bool false))),.v 35 41]) (.cond (.t 35) (.seq (.reg [.q 2 (.mv (.i 4))]) .ret) (.seq (.reg [.v 43 3,.q 44 (.bin .eql true (.t 43) (.k (.int .i32 45))),.v 42 44]) (.cond (.t 42) (.seq (.reg [.q 2 (.mv (.i 5))]) .ret) (.seq (.reg [.v 46 3,.q 47 (.bin .eql true (.t 46) (.k (.int .i32 95))),.v 45 47]) (.cond (.t 45) (.seq (.reg [.q 2 (.mv (.i 6))]) .ret) (.seq (.reg [.v 49 3,.q 50 (.bin .eql true (.t 49) (.k (.int .i32 34))),.v 48 50]) (.cond (.t 48) (.seq (.reg [.q 2 (.mv (.i 7))]) .ret) (.seq (.reg [.v 52 0,.a 53 (.cq 119 [(.k (.string (mk [123,125,40,41,91,93,58,59,44,61,46,63,33,38,124,64]))),(.t 52)]),.q 54 (.bin .geq true (.t 53) (.i 0)),.v 51 54]) (.cond (.t 51) (.seq (.reg [.q 2 (.mv (.i 8))]) .ret) .skip)))))))))))))))))) (.seq (.reg [.q 2 (.mv (.i 0))]) .ret))
def LY:List RV:=[.mv (.t 2)]
theorem WQ:aT Tryz.prog true ⟨fun r k=>if r=16/\k=1 then .q else .own [],fun _=>false⟩ Tryz.f108=some (LW,LY):=by kernel_rfl
def GA:PC:=.seq (.reg [.v 2 0,.q 3 (.nc (.t 2)),.q 4 (.fa 0 (.t 3)),.l 5 (.ld1 (.t 4)),.q 6 (.eqP false (.t 5) (.k (.pointer none)))]) (.cond (.t 6) (.reg [.v 7 0,.v 8 0,.q 9 (.cu (.t 8)),.v 10 9,.q 11 (.c4u 95 2 (.t 10)),.q 12 (.nc (.t 7)),.q 13 (.fa 0 (.t 12)),.s (.st 1 (.t 13) (.t 11))]) (.seq (.reg [.v 14 0,.q 15 (.nc (.t 14)),.q 16 (.fa 0 (.t 15)),.l 17 (.ld1 (.t 16)),.v 18 0,.q 19 (.eqP true (.t 17) (.t 18))]) (.cond (.t 19) (.no) .skip)))
def GK:List RV:=[]
theorem W3:aT Tryz.prog true ⟨fun _ _=>.own [],fun _=>false⟩ Tryz.f109=some (GA,GK):=by kernel_rfl
def LZ:PC:=.seq (.reg [.q 6 (.mv (.k (.bool false)))]) (.seq (.seq (.reg [.v 8 0,.a 9 (.cl 38 [(.t 8)] [0]),.e 7 (.al (.agg #[(.int .i64 0),(.string (mk [])),(.int .i64 0),(.int .i64 0)]) 74),.s (.st 4 (.t 7) (.t 9))]) (.seq (.reg [.q 10 (.fa 0 (.t 7)),.l 11 (.ld1 (.t 10)),.v 12 1,.q 13 (.bin .neq true (.t 11) (.t 12)),.v 14 13,⟨some 15,(some (14,false)),.q (.fa 1 (.t 7))⟩,⟨some 16,(some (14,false)),.l (.ld1 (.t 15))⟩,⟨some 17,(some (14,false)),.q (.mv (.t 2))⟩,⟨some 18,(some (14,false)),.q (.bin .neq true (.t 16) (.t 17))⟩,.a 19 (.pick (.t 14) (.k (.bool true)) (.t 18))]) (.cond (.t 19) (.seq (.reg [.q 6 (.mv (.k (.bool false)))]) .ret) .skip))) (.seq (.reg [.v 20 0,.a 21 (.cl 81 [(.t 20)] [0])]) (.seq (.reg [.q 6 (.mv (.k (.bool true)))]) .ret)))
def MG:List RV:=[.mv (.t 6)]
theorem VZ:aT Tryz.prog true ⟨fun r k=>if r=1/\k=1 then .own [0] else if r=4/\k=1 then .own [0] else .own [],fun _=>false⟩ Tryz.f116=some (LZ,MG):=by kernel_rfl
def pc120_4:PC:=.seq (.gh (.reg [.q 7 (.mv (.k (.int .u64 0)))])) (.seq (.seq (.reg [.v 11 1,.q 12 (.lnS (.t 11)),.q 13 (.mv (.i 0))]) (.block 0 (.loop (.seq (.reg [.q 14 (.bin .lss true (.t 13) (.t 12))]) (.seq (.cond (.t 14) .skip (.exit 0)) (.seq (.block 1 (.seq (.reg [.v 15 13,.v 8 15]) (.seq (.reg [.v 16 1,.v 17 8,.a 18 (.ix (.t 16) (.t 17)),.q 19 (.bin .sub true (.t 18) (.k (.int .u8 48))),.q 20 (.cvt .u64 (.t 19)),.v 9 20]) (.seq (.seq (.reg [.v 21 7,.v 22 6,.v 23 9,.q 24 (.bin .sub true (.t 22) (.t 23)),.q 25 (.bin .quo true (.t 24) (.k (.int .u64 10))),.q 26 (.bin .gtr true (.t 21) (.t 25))]) (.cond (.t 26) (.seq (.reg [.q 4 (.mv (.i 0)),.q 5 (.mv (.k (.bool false)))]) .ret) .skip)) (.reg [.v 27 7,.q 28 (.bin .mul true (.k (.int .u64 10)) (.t 27)),.v 29 9,.q 30 (.bin .add true (.t 28) (.t 29)),.v 7 30]))))) (.reg [.q 31 (.bin .add true (.t 13) (.i 1)),.v 13 31]))))))) (.seq (.seq (.reg [.v 32 0]) (.cond (.t 32) (.seq (.reg [.v 33 7,.q 34 (.neg false (.t 33)),.q 35 (.cvt .i64 (.t 34)),.v 4 35,.q 5 (.mv (.k (.bool true)))]) .ret) .skip)) (.seq (.reg [.v 36 7,.q 37 (.cvt .i64 (.t 36)),.v 4 37,.q 5 (.mv (.k (.bool true)))]) .ret)))
@[go_sem ↓] theorem YW:bT pc120_4:=bW _
def NH:PC:=.seq (.reg [.q 4 (.mv (.i 0)),.q 5 (.mv (.k (.bool false)))]) (.seq (.reg [.q 6 (.mv (.k (.int .u64 9223372036854775807)))]) (.seq (.seq (.reg [.v 10 0]) (.cond (.t 10) (.reg [.q 6 (.mv (.k (.int .u64 9223372036854775808)))]) .skip)) (pc120_4)))
def y7:List RV:=[.mv (.t 4),.mv (.t 5)]
theorem XL:aT Tryz.prog true ⟨fun _ _=>.own [],fun r=>[4].contains r⟩ Tryz.f120=some (NH,y7):=by kernel_rfl
def L4:PC:=.seq (.reg [.q 4 (.mv (.k (.bool false)))]) (.seq (.reg [.v 5 0,.v 6 1,.a 7 (.cq 122 [(.t 5),(.t 6)]),.q 8 (.bin .geq true (.t 7) (.i 0)),.v 4 8]) .ret)
def LA:List RV:=[.mv (.t 4)]
theorem XT:aT Tryz.prog true ⟨fun r k=>if r=1/\k=2 then .q else .own [],fun _=>false⟩ Tryz.f111=some (L4,LA):=by kernel_rfl
def L6:PC:=.seq (.reg [.q 4 (.mv (.i 0))]) (.seq (.seq (.reg [.v 6 0,.q 7 (.lnL (.t 6)),.q 8 (.mv (.i 0))]) (.block 0 (.loop (.seq (.reg [.q 9 (.bin .lss true (.t 8) (.t 7))]) (.seq (.cond (.t 9) .skip (.exit 0)) (.seq (.block 1 (.seq (.reg [.v 10 8,.v 5 10]) (.seq (.reg [.v 11 1,.v 12 0,.v 13 5,.l 14 (.ia 1 (.t 12) (.t 13)),.l 15 (.ld1 (.t 14)),.q 16 (.bin .eql true (.t 11) (.t 15))]) (.cond (.t 16) (.seq (.reg [.v 17 5,.v 4 17]) .ret) .skip)))) (.reg [.q 18 (.bin .add true (.t 8) (.i 1)),.v 8 18]))))))) (.seq (.reg [.q 4 (.mv (.i (-1)))]) .ret))
def K3:List RV:=[.mv (.t 4)]
theorem XV:aT Tryz.prog true ⟨fun _ _=>.own [],fun _=>false⟩ Tryz.f122=some (L6,K3):=by kernel_rfl
def QP:PC:=.seq (.reg [.e 1 (.bx 25 (.t 0)),.q 2 (.mv (.i 0))]) (.seq (.seq (.reg [.q 13 (.fa 0 (.t 1)),.l 14 (.ld1 (.t 13)),.q 15 (.bin .lss true (.t 14) (.i 1)),.v 16 15,⟨some 17,(some (16,false)),.q (.fa 0 (.t 1))⟩,⟨some 18,(some (16,false)),.l (.ld1 (.t 17))⟩,⟨some 19,(some (16,false)),.q (.bin .gtr true (.t 18) (.i 999))⟩,.a 20 (.pick (.t 16) (.k (.bool true)) (.t 19))]) (.cond (.t 20) (.seq (.reg [.q 2 (.mv (.i 4))]) .ret) .skip)) (.seq (.seq (.reg [.l 21 (.ldn 3 (.t 1)),.a 22 (.cq 72 [(.t 21)])]) (.cond (.t 22) (.seq (.reg [.q 2 (.mv (.i 3))]) .ret) .skip)) (.seq (.seq (.reg [.q 23 (.fa 1 (.t 1)),.l 24 (.ld1 (.t 23)),.q 25 (.lnL (.t 24)),.q 26 (.mv (.i 0))]) (.block 0 (.loop (.seq (.reg [.q 27 (.bin .lss true (.t 26) (.t 25))]) (.seq (.cond (.t 27) .skip (.exit 0)) (.seq (.block 1 (.seq (.reg [.v 28 26,.l 29 (.ia 3 (.t 24) (.t 26)),.l 30 (.ldn 3 (.t 29)),.e 4 (.al (.agg #[(.string (mk [])),(.slice none 0 0),(.slice none 0 0)]) 62),.v 3 28,.s (.st 3 (.t 4) (.t 30))]) (.seq (.seq (.reg [.q 31 (.fa 0 (.t 4)),.l 32 (.ld1 (.t 31)),.a 33 (.cq 73 [(.t 32)]),.q 34 (.not (.t 33))]) (.cond (.t 34) (.seq (.reg [.q 2 (.mv (.i 5))]) .ret) .skip)) (.seq (.seq (.reg [.q 35 (.fa 1 (.t 1)),.l 36 (.ld1 (.t 35)),.v 37 3,.q 38 (.sf 3 (.t 36) none (some (.t 37))),.q 39 (.lnL (.t 38)),.q 40 (.mv (.i 0))]) (.block 2 (.loop (.seq (.reg [.q 41 (.bin .lss true (.t 40) (.t 39))]) (.seq (.cond (.t 41) .skip (.exit 2)) (.seq (.block 3 (.seq (.reg [.l 42 (.ia 3 (.t 38) (.t 40)),.l 43 (.ldn 3 (.t 42)),.e 6 (.al (.agg #[(.string (mk [])),(.slice none 0 0),(.slice none 0 0)]) 62),.s (.st 3 (.t 6) (.t 43))]) (.seq (.reg [.q 44 (.fa 0 (.t 6)),.l 45 (.ld1 (.t 44)),.q 46 (.fa 0 (.t 4)),.l 47 (.ld1 (.t 46)),.q 48 (.bin .eql true (.t 45) (.t 47))]) (.cond (.t 48) (.seq (.reg [.q 2 (.mv (.i 7))]) .ret) .skip)))) (.reg [.q 49 (.bin .add true (.t 40) (.i 1)),.v 40 49]))))))) (.seq (.reg [.l 50 (.ldn 3 (.t 4)),.a 51 (.cq 74 [(.t 50)]),.v 7 51]) (.seq (.reg [.v 52 7,.q 53 (.bin .neq true (.t 52) (.i 0))]) (.cond (.t 53) (.seq (.reg [.v 54 7,.v 2 54]) .ret) .skip))))))) (.reg [.q 55 (.bin .add true (.t 26) (.i 1)),.v 26 55]))))))) (.seq (.reg [.l 56 (.ldn 3 (.t 1)),.a 57 (.cl 75 [(.t 56)] []),.e 8 (.al (.agg #[(.map none),(.map none)]) 117),.s (.st 2 (.t 8) (.t 57))]) (.seq (.seq (.reg [.q 58 (.fa 2 (.t 1)),.l 59 (.ld1 (.t 58)),.q 60 (.lnL (.t 59)),.q 61 (.mv (.i 0))]) (.block 4 (.loop (.seq (.reg [.q 62 (.bin .lss true (.t 61) (.t 60))]) (.seq (.cond (.t 62) .skip (.exit 4)) (.seq (.block 5 (.seq (.reg [.v 63 61,.l 64 (.ia 2 (.t 59) (.t 61)),.l 65 (.ldn 2 (.t 64)),.e 10 (.al (.agg #[(.string (mk [])),(.slice none 0 0)]) 56),.v 9 63,.s (.st 2 (.t 10) (.t 65))]) (.seq (.seq (.reg [.l 66 (.ldn 3 (.t 1)),.v 67 9,.q 68 (.fa 0 (.t 10)),.l 69 (.ld1 (.t 68)),.a 70 (.cq 76 [(.t 66),(.t 67),(.t 69)]),.v 11 70]) (.seq (.reg [.v 71 11,.q 72 (.bin .neq true (.t 71) (.i 0))]) (.cond (.t 72) (.seq (.reg [.v 73 11,.v 2 73]) .ret) .skip))) (.seq (.reg [.l 74 (.ldn 2 (.t 8)),.l 75 (.ldn 2 (.t 10)),.a 76 (.cl 77 [(.t 74),(.t 75)] [1,2]),.v 12 76]) (.seq (.reg [.v 77 12,.q 78 (.bin .neq true (.t 77) (.i 0))]) (.cond (.t 78) (.seq (.reg [.v 79 12,.v 2 79]) .ret) .skip)))))) (.reg [.q 80 (.bin .add true (.t 61) (.i 1)),.v 61 80]))))))) (.seq (.reg [.l 81 (.ldn 3 (.t 1)),.l 82 (.ldn 2 (.t 8)),.a 83 (.cl 78 [(.t 81),(.t 82)] [1,2]),.v 2 83]) .ret))))))
def RD:List RV:=[.mv (.t 2)]
theorem ZK:aT Tryz.prog true ⟨fun r k=>if r=3/\k=1 then .q else if r=8/\k=2 then .q else if r=16/\k=1 then .q else if r=24/\k=4 then .q else if r=27/\k=2 then .own [1,2] else if r=31/\k=2 then .own [1,2] else .own [],fun _=>false⟩ Tryz.f31=some (QP,RD):=by kernel_rfl
def P2:PC:=.seq (.reg [.e 1 (.bx 25 (.t 0)),.q 2 (.mv (.k (.bool false)))]) (.seq (.seq (.reg [.q 7 (.fa 1 (.t 1)),.l 8 (.ld1 (.t 7)),.q 9 (.lnL (.t 8)),.q 10 (.bin .gtr true (.t 9) (.i 16)),.v 11 10,⟨some 12,(some (11,false)),.q (.fa 2 (.t 1))⟩,⟨some 13,(some (11,false)),.l (.ld1 (.t 12))⟩,⟨some 14,(some (11,false)),.q (.lnL (.t 13))⟩,⟨some 15,(some (11,false)),.q (.fa 1 (.t 1))⟩,⟨some 16,(some (11,false)),.l (.ld1 (.t 15))⟩,⟨some 17,(some (11,false)),.q (.lnL (.t 16))⟩,⟨some 18,(some (11,false)),.q (.bin .sub true (.i 16) (.t 17))⟩,⟨some 19,(some (11,false)),.q (.bin .gtr true (.t 14) (.t 18))⟩,.a 20 (.pick (.t 11) (.k (.bool true)) (.t 19))]) (.cond (.t 20) (.seq (.reg [.q 2 (.mv (.k (.bool true)))]) .ret) .skip)) (.seq (.seq (.reg [.q 21 (.fa 1 (.t 1)),.l 22 (.ld1 (.t 21)),.q 23 (.lnL (.t 22)),.q 24 (.mv (.i 0))]) (.block 0 (.loop (.seq (.reg [.q 25 (.bin .lss true (.t 24) (.t 23))]) (.seq (.cond (.t 25) .skip (.exit 0)) (.seq (.block 1 (.seq (.reg [.l 26 (.ia 3 (.t 22) (.t 24)),.l 27 (.ldn 3 (.t 26)),.e 4 (.al (.agg #[(.string (mk [])),(.slice none 0 0),(.slice none 0 0)]) 62),.s (.st 3 (.t 4) (.t 27))]) (.seq (.reg [.q 28 (.fa 1 (.t 4)),.l 29 (.ld1 (.t 28)),.q 30 (.lnL (.t 29)),.q 31 (.bin .gtr true (.t 30) (.i 16))]) (.cond (.t 31) (.seq (.reg [.q 2 (.mv (.k (.bool true)))]) .ret) .skip)))) (.reg [.q 32 (.bin .add true (.t 24) (.i 1)),.v 24 32]))))))) (.seq (.seq (.reg [.q 33 (.fa 2 (.t 1)),.l 34 (.ld1 (.t 33)),.q 35 (.lnL (.t 34)),.q 36 (.mv (.i 0))]) (.block 2 (.loop (.seq (.reg [.q 37 (.bin .lss true (.t 36) (.t 35))]) (.seq (.cond (.t 37) .skip (.exit 2)) (.seq (.block 3 (.seq (.reg [.l 38 (.ia 2 (.t 34) (.t 36)),.l 39 (.ldn 2 (.t 38)),.e 6 (.al (.agg #[(.string (mk [])),(.slice none 0 0)]) 56),.s (.st 2 (.t 6) (.t 39))]) (.seq (.reg [.q 40 (.fa 1 (.t 6)),.l 41 (.ld1 (.t 40)),.q 42 (.lnL (.t 41)),.q 43 (.bin .gtr true (.t 42) (.i 16))]) (.cond (.t 43) (.seq (.reg [.q 2 (.mv (.k (.bool true)))]) .ret) .skip)))) (.reg [.q 44 (.bin .add true (.t 36) (.i 1)),.v 36 44]))))))) (.seq (.reg [.q 2 (.mv (.k (.bool false)))]) .ret))))
def UC:List RV:=[.mv (.t 2)]
theorem aBY:aT Tryz.prog true ⟨fun _ _=>.own [],fun _=>false⟩ Tryz.f72=some (P2,UC):=by kernel_rfl
def JP:PC:=.seq (.reg [.q 2 (.mv (.k (.bool false)))]) (.seq (.reg [.v 3 0,.a 4 (.cq 95 [(.t 3)]),.v 5 4,⟨some 6,(some (5,true)),.q (.mv (.t 0))⟩,⟨some 7,(some (5,true)),.ix (.t 6) (.i 0)⟩,⟨some 8,(some (5,true)),.q (.bin .geq true (.t 7) (.k (.int .u8 65)))⟩,.a 9 (.pick (.t 5) (.t 8) (.k (.bool false))),.v 10 9,⟨some 11,(some (10,true)),.q (.mv (.t 0))⟩,⟨some 12,(some (10,true)),.ix (.t 11) (.i 0)⟩,⟨some 13,(some (10,true)),.q (.bin .leq true (.t 12) (.k (.int .u8 90)))⟩,.a 14 (.pick (.t 10) (.t 13) (.k (.bool false))),.v 2 14]) .ret)
def K0:List RV:=[.mv (.t 2)]
theorem aAQ:aT Tryz.prog true ⟨fun r k=>if r=1/\k=1 then .q else .own [],fun _=>false⟩ Tryz.f73=some (JP,K0):=by kernel_rfl
def QB:PC:=.seq (.reg [.e 1 (.bx 62 (.t 0)),.q 2 (.mv (.i 0))]) (.seq (.seq (.reg [.q 6 (.fa 1 (.t 1)),.l 7 (.ld1 (.t 6)),.q 8 (.lnL (.t 7)),.q 9 (.bin .eql true (.t 8) (.i 0)),.v 10 9,⟨some 11,(some (10,false)),.q (.fa 1 (.t 1))⟩,⟨some 12,(some (10,false)),.l (.ld1 (.t 11))⟩,⟨some 13,(some (10,false)),.q (.lnL (.t 12))⟩,⟨some 14,(some (10,false)),.q (.fa 2 (.t 1))⟩,⟨some 15,(some (10,false)),.l (.ld1 (.t 14))⟩,⟨some 16,(some (10,false)),.q (.lnL (.t 15))⟩,⟨some 17,(some (10,false)),.q (.bin .neq true (.t 13) (.t 16))⟩,.a 18 (.pick (.t 10) (.k (.bool true)) (.t 17))]) (.cond (.t 18) (.seq (.reg [.q 2 (.mv (.i 2))]) .ret) .skip)) (.seq (.seq (.reg [.q 19 (.fa 1 (.t 1)),.l 20 (.ld1 (.t 19)),.q 21 (.lnL (.t 20)),.q 22 (.mv (.i 0))]) (.block 0 (.loop (.seq (.reg [.q 23 (.bin .lss true (.t 22) (.t 21))]) (.seq (.cond (.t 23) .skip (.exit 0)) (.seq (.block 1 (.seq (.reg [.v 24 22,.l 25 (.ia 1 (.t 20) (.t 22)),.l 26 (.ld1 (.t 25)),.v 3 24,.v 4 26]) (.seq (.reg [.q 27 (.fa 2 (.t 1)),.l 28 (.ld1 (.t 27)),.v 29 3,.l 30 (.ia 1 (.t 28) (.t 29)),.l 31 (.ld1 (.t 30)),.v 5 31]) (.block 2 (.seq (.reg [.v 33 4,.a 34 (.cq 95 [(.t 33)]),.q 35 (.not (.t 34)),.v 32 35]) (.cond (.t 32) (.seq (.reg [.q 2 (.mv (.i 5))]) .ret) (.seq (.reg [.q 37 (.fa 1 (.t 1)),.l 38 (.ld1 (.t 37)),.v 39 3,.q 40 (.sf 1 (.t 38) none (some (.t 39))),.v 41 4,.a 42 (.cq 111 [(.t 40),(.t 41)]),.v 36 42]) (.cond (.t 36) (.seq (.reg [.q 2 (.mv (.i 7))]) .ret) (.seq (.reg [.v 44 5,.q 45 (.bin .lss true (.t 44) (.i 0)),.v 46 45,⟨some 47,(some (46,false)),.q (.mv (.t 5))⟩,⟨some 48,(some (46,false)),.q (.bin .gtr true (.t 47) (.i 127))⟩,.a 49 (.pick (.t 46) (.k (.bool true)) (.t 48)),.v 43 49]) (.cond (.t 43) (.seq (.reg [.q 2 (.mv (.i 4))]) .ret) (.seq (.reg [.v 51 3,.q 52 (.bin .eql true (.t 51) (.i 0)),.v 53 52,⟨some 54,(some (53,true)),.q (.mv (.t 5))⟩,⟨some 55,(some (53,true)),.q (.bin .neq true (.t 54) (.i 0))⟩,.a 56 (.pick (.t 53) (.t 55) (.k (.bool false))),.v 57 56,⟨some 58,(some (57,false)),.q (.mv (.t 3))⟩,⟨some 59,(some (57,false)),.q (.bin .gtr true (.t 58) (.i 0))⟩,⟨some 60,(some (57,false)),.q (.mv (.t 59))⟩,⟨some 61,(some (60,true)),.q (.mv (.t 5))⟩,⟨some 62,(some (60,true)),.q (.fa 2 (.t 1))⟩,⟨some 63,(some (60,true)),.l (.ld1 (.t 62))⟩,⟨some 64,(some (60,true)),.q (.mv (.t 3))⟩,⟨some 65,(some (60,true)),.q (.bin .sub true (.t 64) (.i 1))⟩,⟨some 66,(some (60,true)),.l (.ia 1 (.t 63) (.t 65))⟩,⟨some 67,(some (60,true)),.l (.ld1 (.t 66))⟩,⟨some 68,(some (60,true)),.q (.bin .leq true (.t 61) (.t 67))⟩,⟨some 69,(some (57,false)),.pick (.t 60) (.t 68) (.k (.bool false))⟩,.a 70 (.pick (.t 57) (.k (.bool true)) (.t 69)),.v 50 70]) (.cond (.t 50) (.seq (.reg [.q 2 (.mv (.i 2))]) .ret) .skip)))))))))))) (.reg [.q 71 (.bin .add true (.t 22) (.i 1)),.v 22 71]))))))) (.seq (.reg [.q 2 (.mv (.i 0))]) .ret)))
def U7:List RV:=[.mv (.t 2)]
theorem aAF:aT Tryz.prog true ⟨fun r k=>if r=7/\k=1 then .q else if r=9/\k=5 then .q else .own [],fun _=>false⟩ Tryz.f74=some (QB,U7):=by kernel_rfl
def SP:PC:=.seq (.reg [.e 1 (.bx 25 (.t 0)),.e 2 (.al (.agg #[(.map none),(.map none)]) 117)]) (.seq (.reg [.e 6 (.mm .string),.e 7 (.mm .string),.q 8 (.bd [(.map none),(.map none)] [(0,1,(.t 6)),(1,1,(.t 7))]),.e 3 (.al (.agg #[(.map none),(.map none)]) 117),.s (.st 2 (.t 3) (.t 8))]) (.seq (.seq (.reg [.q 9 (.fa 2 (.t 1)),.l 10 (.ld1 (.t 9)),.q 11 (.lnL (.t 10)),.q 12 (.bin .sub true (.t 11) (.i 1)),.v 4 12]) (.block 0 (.loop (.seq (.seq (.reg [.v 13 4,.q 14 (.bin .geq true (.t 13) (.i 0))]) (.cond (.t 14) .skip (.exit 0))) (.seq (.block 1 (.reg [.q 17 (.fa 0 (.t 3)),.l 18 (.ld1 (.t 17)),.q 19 (.fa 2 (.t 1)),.l 20 (.ld1 (.t 19)),.v 21 4,.l 22 (.ia 2 (.t 20) (.t 21)),.q 23 (.fa 0 (.t 22)),.l 24 (.ld1 (.t 23)),.q 25 (.fa 2 (.t 1)),.l 26 (.ld1 (.t 25)),.v 27 4,.l 28 (.ia 2 (.t 26) (.t 27)),.l 29 (.ldn 2 (.t 28)),.s (.mu .string (.t 18) (.t 24) (.t 29))])) (.reg [.v 15 4,.q 16 (.bin .sub true (.t 15) (.i 1)),.v 4 16])))))) (.seq (.seq (.reg [.q 30 (.fa 1 (.t 1)),.l 31 (.ld1 (.t 30)),.q 32 (.lnL (.t 31)),.q 33 (.bin .sub true (.t 32) (.i 1)),.v 5 33]) (.block 2 (.loop (.seq (.seq (.reg [.v 34 5,.q 35 (.bin .geq true (.t 34) (.i 0))]) (.cond (.t 35) .skip (.exit 2))) (.seq (.block 3 (.reg [.q 38 (.fa 1 (.t 3)),.l 39 (.ld1 (.t 38)),.q 40 (.fa 1 (.t 1)),.l 41 (.ld1 (.t 40)),.v 42 5,.l 43 (.ia 3 (.t 41) (.t 42)),.q 44 (.fa 0 (.t 43)),.l 45 (.ld1 (.t 44)),.q 46 (.fa 1 (.t 1)),.l 47 (.ld1 (.t 46)),.v 48 5,.l 49 (.ia 3 (.t 47) (.t 48)),.l 50 (.ldn 3 (.t 49)),.s (.mu .string (.t 39) (.t 45) (.t 50))])) (.reg [.v 36 5,.q 37 (.bin .sub true (.t 36) (.i 1)),.v 5 37])))))) (.seq (.reg [.l 51 (.ldn 2 (.t 3)),.s (.st 2 (.t 2) (.t 51))]) .ret))))
def SI:List RV:=[.ld (.ldn 2 (.t 2))]
theorem aA9:aT Tryz.prog true ⟨fun _ _=>.own [],fun _=>false⟩ Tryz.f75=some (SP,SI):=by kernel_rfl
def S8:PC:=.seq (.reg [.e 3 (.bx 25 (.t 0)),.q 6 (.mv (.i 0))]) (.seq (.seq (.reg [.v 11 2,.a 12 (.cq 73 [(.t 11)]),.q 13 (.not (.t 12))]) (.cond (.t 13) (.seq (.reg [.q 6 (.mv (.i 5))]) .ret) .skip)) (.seq (.seq (.reg [.q 14 (.fa 1 (.t 3)),.l 15 (.ld1 (.t 14)),.q 16 (.lnL (.t 15)),.q 17 (.mv (.i 0))]) (.block 0 (.loop (.seq (.reg [.q 18 (.bin .lss true (.t 17) (.t 16))]) (.seq (.cond (.t 18) .skip (.exit 0)) (.seq (.block 1 (.seq (.reg [.l 19 (.ia 3 (.t 15) (.t 17)),.l 20 (.ldn 3 (.t 19)),.e 8 (.al (.agg #[(.string (mk [])),(.slice none 0 0),(.slice none 0 0)]) 62),.s (.st 3 (.t 8) (.t 20))]) (.seq (.reg [.q 21 (.fa 0 (.t 8)),.l 22 (.ld1 (.t 21)),.v 23 2,.q 24 (.bin .eql true (.t 22) (.t 23))]) (.cond (.t 24) (.seq (.reg [.q 6 (.mv (.i 7))]) .ret) .skip)))) (.reg [.q 25 (.bin .add true (.t 17) (.i 1)),.v 17 25]))))))) (.seq (.seq (.reg [.q 26 (.fa 2 (.t 3)),.l 27 (.ld1 (.t 26)),.v 28 1,.q 29 (.sf 2 (.t 27) none (some (.t 28))),.q 30 (.lnL (.t 29)),.q 31 (.mv (.i 0))]) (.block 2 (.loop (.seq (.reg [.q 32 (.bin .lss true (.t 31) (.t 30))]) (.seq (.cond (.t 32) .skip (.exit 2)) (.seq (.block 3 (.seq (.reg [.l 33 (.ia 2 (.t 29) (.t 31)),.l 34 (.ldn 2 (.t 33)),.e 10 (.al (.agg #[(.string (mk [])),(.slice none 0 0)]) 56),.s (.st 2 (.t 10) (.t 34))]) (.seq (.reg [.q 35 (.fa 0 (.t 10)),.l 36 (.ld1 (.t 35)),.v 37 2,.q 38 (.bin .eql true (.t 36) (.t 37))]) (.cond (.t 38) (.seq (.reg [.q 6 (.mv (.i 7))]) .ret) .skip)))) (.reg [.q 39 (.bin .add true (.t 31) (.i 1)),.v 31 39]))))))) (.seq (.reg [.q 6 (.mv (.i 0))]) .ret))))
def S7:List RV:=[.mv (.t 6)]
theorem aA2:aT Tryz.prog true ⟨fun r k=>if r=1/\k=1 then .q else .own [],fun _=>false⟩ Tryz.f76=some (S8,S7):=by kernel_rfl
def SE:PC:=.seq (.reg [.e 2 (.bx 117 (.t 0)),.e 3 (.bx 56 (.t 1)),.q 4 (.mv (.i 0))]) (.seq (.seq (.reg [.q 9 (.fa 1 (.t 3)),.l 10 (.ld1 (.t 9)),.q 11 (.lnL (.t 10)),.q 12 (.mv (.i 0))]) (.block 0 (.loop (.seq (.reg [.q 13 (.bin .lss true (.t 12) (.t 11))]) (.seq (.cond (.t 13) .skip (.exit 0)) (.seq (.block 1 (.seq (.reg [.v 14 12,.l 15 (.ia 7 (.t 10) (.t 12)),.l 16 (.ldn 7 (.t 15)),.e 6 (.al (.agg #[(.int .i64 0),(.string (mk [])),(.int .i64 0),(.int .i64 0),(.string (mk [])),(.slice none 0 0),(.bool false)]) 64),.v 5 14,.s (.st 7 (.t 6) (.t 16))]) (.seq (.block 2 (.seq (.reg [.q 18 (.fa 0 (.t 6)),.l 19 (.ld1 (.t 18)),.q 20 (.bin .lss true (.t 19) (.i 1)),.v 21 20,⟨some 22,(some (21,false)),.q (.fa 0 (.t 6))⟩,⟨some 23,(some (21,false)),.l (.ld1 (.t 22))⟩,⟨some 24,(some (21,false)),.q (.bin .gtr true (.t 23) (.i 127))⟩,.a 25 (.pick (.t 21) (.k (.bool true)) (.t 24)),.v 17 25]) (.cond (.t 17) (.seq (.reg [.q 4 (.mv (.i 4))]) .ret) (.seq (.reg [.v 27 5,.q 28 (.bin .gtr true (.t 27) (.i 0)),.v 29 28,⟨some 30,(some (29,true)),.q (.fa 0 (.t 6))⟩,⟨some 31,(some (29,true)),.l (.ld1 (.t 30))⟩,⟨some 32,(some (29,true)),.q (.fa 1 (.t 3))⟩,⟨some 33,(some (29,true)),.l (.ld1 (.t 32))⟩,⟨some 34,(some (29,true)),.q (.mv (.t 5))⟩,⟨some 35,(some (29,true)),.q (.bin .sub true (.t 34) (.i 1))⟩,⟨some 36,(some (29,true)),.l (.ia 7 (.t 33) (.t 35))⟩,⟨some 37,(some (29,true)),.q (.fa 0 (.t 36))⟩,⟨some 38,(some (29,true)),.l (.ld1 (.t 37))⟩,⟨some 39,(some (29,true)),.q (.bin .leq true (.t 31) (.t 38))⟩,.a 40 (.pick (.t 29) (.t 39) (.k (.bool false))),.v 26 40]) (.cond (.t 26) (.seq (.reg [.q 4 (.mv (.i 2))]) .ret) (.seq (.reg [.q 42 (.fa 1 (.t 6)),.l 43 (.ld1 (.t 42)),.a 44 (.cq 95 [(.t 43)]),.q 45 (.not (.t 44)),.v 41 45]) (.cond (.t 41) (.seq (.reg [.q 4 (.mv (.i 5))]) .ret) .skip))))))) (.seq (.seq (.reg [.q 46 (.fa 1 (.t 3)),.l 47 (.ld1 (.t 46)),.v 48 5,.q 49 (.sf 7 (.t 47) none (some (.t 48))),.q 50 (.lnL (.t 49)),.q 51 (.mv (.i 0))]) (.block 3 (.loop (.seq (.reg [.q 52 (.bin .lss true (.t 51) (.t 50))]) (.seq (.cond (.t 52) .skip (.exit 3)) (.seq (.block 4 (.seq (.reg [.l 53 (.ia 7 (.t 49) (.t 51)),.l 54 (.ldn 7 (.t 53)),.e 8 (.al (.agg #[(.int .i64 0),(.string (mk [])),(.int .i64 0),(.int .i64 0),(.string (mk [])),(.slice none 0 0),(.bool false)]) 64),.s (.st 7 (.t 8) (.t 54))]) (.seq (.reg [.q 55 (.fa 1 (.t 8)),.l 56 (.ld1 (.t 55)),.q 57 (.fa 1 (.t 6)),.l 58 (.ld1 (.t 57)),.q 59 (.bin .eql true (.t 56) (.t 58))]) (.cond (.t 59) (.seq (.reg [.q 4 (.mv (.i 7))]) .ret) .skip)))) (.reg [.q 60 (.bin .add true (.t 51) (.i 1)),.v 51 60]))))))) (.seq (.reg [.l 61 (.ldn 2 (.t 2)),.q 62 (.fa 2 (.t 6)),.l 63 (.ldn 4 (.t 62)),.a 64 (.cl 112 [(.t 61),(.t 63)] [0,1]),.q 65 (.not (.t 64))]) (.cond (.t 65) (.seq (.reg [.q 4 (.mv (.i 13))]) .ret) .skip)))))) (.reg [.q 66 (.bin .add true (.t 12) (.i 1)),.v 12 66]))))))) (.seq (.reg [.q 4 (.mv (.i 0))]) .ret))
def RR:List RV:=[.mv (.t 4)]
theorem ZR:aT Tryz.prog true ⟨fun r k=>if r=8/\k=2 then .q else if r=16/\k=3 then .own [0,1] else .own [],fun _=>false⟩ Tryz.f77=some (SE,RR):=by kernel_rfl
def UK:PC:=.seq (.reg [.e 2 (.bx 25 (.t 0)),.e 3 (.bx 117 (.t 1)),.q 4 (.mv (.i 0))]) (.seq (.seq (.reg [.q 9 (.fa 2 (.t 2)),.l 10 (.ld1 (.t 9)),.q 11 (.lnL (.t 10)),.q 12 (.mv (.i 0))]) (.block 0 (.loop (.seq (.reg [.q 13 (.bin .lss true (.t 12) (.t 11))]) (.seq (.cond (.t 13) .skip (.exit 0)) (.seq (.block 1 (.seq (.reg [.l 14 (.ia 2 (.t 10) (.t 12)),.l 15 (.ldn 2 (.t 14)),.e 6 (.al (.agg #[(.string (mk [])),(.slice none 0 0)]) 56),.s (.st 2 (.t 6) (.t 15))]) (.seq (.ord  [.q (.l 16 (.ldn 2 (.t 3))),.q (.q 17 (.fa 0 (.t 6))),.q (.l 18 (.ld1 (.t 17))),.q (.q 20 (.fa 0 (.t 6))),.q (.l 21 (.ld1 (.t 20))),.m (.a 19 (.cl 113 [(.t 16),(.t 18)] [0,1])),.rc (.q 20 (.fa 0 (.t 6))),.rc (.l 21 (.ld1 (.t 20))),.m (.a 22 (.cq 111 [(.t 19),(.t 21)]))]) (.cond (.t 22) (.seq (.reg [.q 4 (.mv (.i 19))]) .ret) .skip)))) (.reg [.q 23 (.bin .add true (.t 12) (.i 1)),.v 12 23]))))))) (.seq (.seq (.reg [.q 24 (.fa 2 (.t 2)),.l 25 (.ld1 (.t 24)),.q 26 (.lnL (.t 25)),.q 27 (.mv (.i 0))]) (.block 2 (.loop (.seq (.reg [.q 28 (.bin .lss true (.t 27) (.t 26))]) (.seq (.cond (.t 28) .skip (.exit 2)) (.seq (.block 3 (.seq (.reg [.l 29 (.ia 2 (.t 25) (.t 27)),.l 30 (.ldn 2 (.t 29)),.e 8 (.al (.agg #[(.string (mk [])),(.slice none 0 0)]) 56),.s (.st 2 (.t 8) (.t 30))]) (.seq (.reg [.l 31 (.ldn 2 (.t 3)),.l 32 (.ldn 2 (.t 8)),.a 33 (.cl 114 [(.t 31),(.t 32)] [0,1]),.q 34 (.bin .gtr true (.t 33) (.i 6))]) (.cond (.t 34) (.seq (.reg [.q 4 (.mv (.i 9))]) .ret) .skip)))) (.reg [.q 35 (.bin .add true (.t 27) (.i 1)),.v 27 35]))))))) (.seq (.reg [.q 4 (.mv (.i 0))]) .ret)))
def QO:List RV:=[.mv (.t 4)]
theorem Z9:aT Tryz.prog true ⟨fun r k=>if r=4/\k=3 then .own [0,1] else if r=4/\k=6 then .q else if r=10/\k=2 then .own [0,1] else .own [],fun _=>false⟩ Tryz.f78=some (UK,QO):=by kernel_rfl
def iE:PC:=.seq (.reg [.e 2 (.bx 117 (.t 0)),.e 3 (.bx 37 (.t 1)),.q 4 (.mv (.k (.bool false)))]) (.seq (.seq (.reg [.q 10 (.fa 0 (.t 3)),.l 11 (.ld1 (.t 10))]) (.block 0 (.seq (.reg [.q 13 (.bin .eql true (.t 11) (.i 1)),.v 12 13]) (.cond (.t 12) (.seq (.reg [.q 14 (.fa 1 (.t 3)),.l 15 (.ld1 (.t 14)),.q 16 (.bin .eql true (.t 15) (.i 0)),.v 17 16,⟨some 18,(some (17,true)),.q (.fa 2 (.t 3))⟩,⟨some 19,(some (17,true)),.l (.ld1 (.t 18))⟩,⟨some 20,(some (17,true)),.q (.bin .eql true (.t 19) (.k (.string (mk []))))⟩,.a 21 (.pick (.t 17) (.t 20) (.k (.bool false))),.v 22 21,⟨some 23,(some (22,true)),.q (.fa 3 (.t 3))⟩,⟨some 24,(some (22,true)),.l (.ld1 (.t 23))⟩,⟨some 25,(some (22,true)),.q (.lnL (.t 24))⟩,⟨some 26,(some (22,true)),.q (.bin .eql true (.t 25) (.i 0))⟩,.a 27 (.pick (.t 22) (.t 26) (.k (.bool false))),.v 4 27]) .ret) (.seq (.seq (.reg [.q 29 (.bin .eql true (.t 11) (.i 2)),.v 28 29]) (.cond (.t 28) .skip (.reg [.q 30 (.bin .eql true (.t 11) (.i 3)),.v 28 30]))) (.cond (.t 28) (.seq (.reg [.q 31 (.fa 1 (.t 3)),.l 32 (.ld1 (.t 31)),.q 33 (.bin .eql true (.t 32) (.i 64)),.v 34 33,⟨some 35,(some (34,true)),.q (.fa 0 (.t 3))⟩,⟨some 36,(some (34,true)),.l (.ld1 (.t 35))⟩,⟨some 37,(some (34,true)),.q (.bin .eql true (.t 36) (.i 2))⟩,.a 38 (.pick (.t 34) (.t 37) (.k (.bool false))),.v 5 38]) (.seq (.reg [.q 39 (.fa 1 (.t 3)),.l 40 (.ld1 (.t 39)),.q 41 (.bin .eql true (.t 40) (.i 8)),.v 42 41,⟨some 43,(some (42,false)),.q (.fa 1 (.t 3))⟩,⟨some 44,(some (42,false)),.l (.ld1 (.t 43))⟩,⟨some 45,(some (42,false)),.q (.bin .eql true (.t 44) (.i 16))⟩,.a 46 (.pick (.t 42) (.k (.bool true)) (.t 45)),.v 47 46,⟨some 48,(some (47,false)),.q (.fa 1 (.t 3))⟩,⟨some 49,(some (47,false)),.l (.ld1 (.t 48))⟩,⟨some 50,(some (47,false)),.q (.bin .eql true (.t 49) (.i 32))⟩,.a 51 (.pick (.t 47) (.k (.bool true)) (.t 50)),.v 52 51,⟨some 53,(some (52,false)),.q (.mv (.t 5))⟩,.a 54 (.pick (.t 52) (.k (.bool true)) (.t 53)),.v 55 54,⟨some 56,(some (55,true)),.q (.fa 2 (.t 3))⟩,⟨some 57,(some (55,true)),.l (.ld1 (.t 56))⟩,⟨some 58,(some (55,true)),.q (.bin .eql true (.t 57) (.k (.string (mk []))))⟩,.a 59 (.pick (.t 55) (.t 58) (.k (.bool false))),.v 60 59,⟨some 61,(some (60,true)),.q (.fa 3 (.t 3))⟩,⟨some 62,(some (60,true)),.l (.ld1 (.t 61))⟩,⟨some 63,(some (60,true)),.q (.lnL (.t 62))⟩,⟨some 64,(some (60,true)),.q (.bin .eql true (.t 63) (.i 0))⟩,.a 65 (.pick (.t 60) (.t 64) (.k (.bool false))),.v 4 65]) .ret)) (.seq (.reg [.q 67 (.bin .eql true (.t 11) (.i 4)),.v 66 67]) (.cond (.t 66) (.seq (.reg [.q 68 (.fa 1 (.t 3)),.l 69 (.ld1 (.t 68)),.q 70 (.bin .geq true (.t 69) (.i 1)),.v 71 70,⟨some 72,(some (71,true)),.q (.fa 1 (.t 3))⟩,⟨some 73,(some (71,true)),.l (.ld1 (.t 72))⟩,⟨some 74,(some (71,true)),.q (.bin .leq true (.t 73) (.i 2000))⟩,.a 75 (.pick (.t 71) (.t 74) (.k (.bool false))),.v 76 75,⟨some 77,(some (76,true)),.q (.fa 2 (.t 3))⟩,⟨some 78,(some (76,true)),.l (.ld1 (.t 77))⟩,⟨some 79,(some (76,true)),.q (.bin .eql true (.t 78) (.k (.string (mk []))))⟩,.a 80 (.pick (.t 76) (.t 79) (.k (.bool false))),.v 81 80,⟨some 82,(some (81,true)),.q (.fa 3 (.t 3))⟩,⟨some 83,(some (81,true)),.l (.ld1 (.t 82))⟩,⟨some 84,(some (81,true)),.q (.lnL (.t 83))⟩,⟨some 85,(some (81,true)),.q (.bin .eql true (.t 84) (.i 0))⟩,.a 86 (.pick (.t 81) (.t 85) (.k (.bool false))),.v 4 86]) .ret) (.seq (.reg [.q 88 (.bin .eql true (.t 11) (.i 5)),.v 87 88]) (.cond (.t 87) (.seq (.reg [.q 89 (.fa 1 (.t 3)),.l 90 (.ld1 (.t 89)),.q 91 (.bin .geq true (.t 90) (.i 1)),.v 92 91,⟨some 93,(some (92,true)),.q (.fa 1 (.t 3))⟩,⟨some 94,(some (92,true)),.l (.ld1 (.t 93))⟩,⟨some 95,(some (92,true)),.q (.bin .leq true (.t 94) (.i 32))⟩,.a 96 (.pick (.t 92) (.t 95) (.k (.bool false))),.v 97 96,⟨some 98,(some (97,true)),.q (.fa 2 (.t 3))⟩,⟨some 99,(some (97,true)),.l (.ld1 (.t 98))⟩,⟨some 100,(some (97,true)),.q (.bin .eql true (.t 99) (.k (.string (mk []))))⟩,.a 101 (.pick (.t 97) (.t 100) (.k (.bool false))),.v 102 101,⟨some 103,(some (102,true)),.q (.fa 3 (.t 3))⟩,⟨some 104,(some (102,true)),.l (.ld1 (.t 103))⟩,⟨some 105,(some (102,true)),.q (.lnL (.t 104))⟩,⟨some 106,(some (102,true)),.q (.bin .eql true (.t 105) (.i 1))⟩,.a 107 (.pick (.t 102) (.t 106) (.k (.bool false))),.v 108 107,⟨some 109,(some (108,true)),.l (.ldn 2 (.t 2))⟩,⟨some 110,(some (108,true)),.q (.fa 3 (.t 3))⟩,⟨some 111,(some (108,true)),.l (.ld1 (.t 110))⟩,⟨some 112,(some (108,true)),.l (.ia 4 (.t 111) (.i 0))⟩,⟨some 113,(some (108,true)),.l (.ldn 4 (.t 112))⟩,⟨some 114,(some (108,true)),.cl 112 [(.t 109),(.t 113)] [0,1]⟩,.a 115 (.pick (.t 108) (.t 114) (.k (.bool false))),.v 4 115]) .ret) (.seq (.reg [.q 117 (.bin .eql true (.t 11) (.i 6)),.v 116 117]) (.cond (.t 116) (.seq (.reg [.q 119 (.fa 0 (.t 2)),.l 120 (.ld1 (.t 119)),.q 121 (.fa 2 (.t 3)),.l 122 (.ld1 (.t 121)),.l 123 (.lk .string (.agg #[(.string (mk [])),(.slice none 0 0)]) true (.t 120) (.t 122)),.v 118 123,.q 124 (.ex (.t 118) 0),.q 125 (.ex (.t 118) 1),.e 6 (.al (.agg #[(.string (mk [])),(.slice none 0 0)]) 56),.s (.st 2 (.t 6) (.t 124)),.v 7 125]) (.seq (.reg [.v 126 7,.v 127 126,⟨some 128,(some (127,true)),.q (.fa 1 (.t 3))⟩,⟨some 129,(some (127,true)),.l (.ld1 (.t 128))⟩,⟨some 130,(some (127,true)),.q (.bin .eql true (.t 129) (.i 0))⟩,.a 131 (.pick (.t 127) (.t 130) (.k (.bool false))),.v 132 131,⟨some 133,(some (132,true)),.q (.fa 3 (.t 3))⟩,⟨some 134,(some (132,true)),.l (.ld1 (.t 133))⟩,⟨some 135,(some (132,true)),.q (.lnL (.t 134))⟩,⟨some 136,(some (132,true)),.q (.bin .eql true (.t 135) (.i 0))⟩,.a 137 (.pick (.t 132) (.t 136) (.k (.bool false))),.v 4 137]) .ret)) (.seq (.reg [.q 139 (.bin .eql true (.t 11) (.i 7)),.v 138 139]) (.cond (.t 138) (.seq (.reg [.q 141 (.fa 1 (.t 2)),.l 142 (.ld1 (.t 141)),.q 143 (.fa 2 (.t 3)),.l 144 (.ld1 (.t 143)),.l 145 (.lk .string (.agg #[(.string (mk [])),(.slice none 0 0),(.slice none 0 0)]) true (.t 142) (.t 144)),.v 140 145,.q 146 (.ex (.t 140) 0),.q 147 (.ex (.t 140) 1),.e 8 (.al (.agg #[(.string (mk [])),(.slice none 0 0),(.slice none 0 0)]) 62),.s (.st 3 (.t 8) (.t 146)),.v 9 147]) (.seq (.reg [.v 148 9,.v 149 148,⟨some 150,(some (149,true)),.q (.fa 1 (.t 3))⟩,⟨some 151,(some (149,true)),.l (.ld1 (.t 150))⟩,⟨some 152,(some (149,true)),.q (.bin .eql true (.t 151) (.i 0))⟩,.a 153 (.pick (.t 149) (.t 152) (.k (.bool false))),.v 154 153,⟨some 155,(some (154,true)),.q (.fa 3 (.t 3))⟩,⟨some 156,(some (154,true)),.l (.ld1 (.t 155))⟩,⟨some 157,(some (154,true)),.q (.lnL (.t 156))⟩,⟨some 158,(some (154,true)),.q (.bin .eql true (.t 157) (.i 0))⟩,.a 159 (.pick (.t 154) (.t 158) (.k (.bool false))),.v 4 159]) .ret)) .skip)))))))))))))) (.seq (.reg [.q 4 (.mv (.k (.bool false)))]) .ret))
def iI:List RV:=[.mv (.t 4)]
theorem WY:aT Tryz.prog true ⟨fun r k=>if r=11/\k=25 then .own [0,1] else .own [],fun _=>false⟩ Tryz.f112=some (iE,iI):=by kernel_rfl
def MX:PC:=.seq (.reg [.e 2 (.bx 117 (.t 0)),.q 4 (.mv (.k (.slice none 0 0)))]) (.seq (.reg [.e 8 (.mm .string),.e 5 (.al (.map none) 154),.s (.st 1 (.t 5) (.t 8))]) (.seq (.reg [.e 6 (.al (.slice none 0 0) 52)]) (.seq (.reg [.e 7 (.al .nilFunc 155)]) (.seq (.reg [.q 9 (.mf 123 [(.t 5),(.t 6),(.t 2),(.t 7)]),.s (.st 1 (.t 7) (.t 9))]) (.seq (.gh (.reg [.l 10 (.ld1 (.t 7)),.q 11 (.fa 0 (.t 2)),.l 12 (.ld1 (.t 11)),.v 13 1,.l 14 (.lk .string (.agg #[(.string (mk [])),(.slice none 0 0)]) false (.t 12) (.t 13)),.a 15 (.ca (.t 10) [(.t 14)] [0,1,2,3,4,5,6,7])])) (.seq (.reg [.l 16 (.ld1 (.t 6)),.a 17 (.cl 125 [(.t 16)] [7])]) (.seq (.reg [.l 18 (.ld1 (.t 6)),.v 4 18]) .ret)))))))
def MV:List RV:=[.mv (.t 4)]
theorem V4:aT Tryz.prog true ⟨fun r k=>if r=5/\k=5 then .own [0,1,2,3,4,5,6,7] else if r=6/\k=1 then .own [7] else .own [],fun r=>[5].contains r⟩ Tryz.f113=some (MX,MV):=by kernel_rfl
def LO:PC:=.seq (.reg [.e 2 (.bx 117 (.t 0)),.e 3 (.bx 56 (.t 1)),.q 4 (.mv (.i 0))]) (.seq (.reg [.e 7 (.mm .string),.e 5 (.al (.map none) 158),.s (.st 1 (.t 5) (.t 7))]) (.seq (.reg [.e 6 (.al .nilFunc 159)]) (.seq (.reg [.q 8 (.mf 126 [(.t 5),(.t 6),(.t 2)]),.s (.st 1 (.t 6) (.t 8))]) (.seq (.reg [.l 9 (.ld1 (.t 6)),.l 10 (.ldn 2 (.t 3)),.a 11 (.ca (.t 9) [(.t 10)] [0,1,2,4,5,6]),.v 4 11]) .ret))))
def L1:List RV:=[.mv (.t 4)]
theorem XH:aT Tryz.prog true ⟨fun r k=>if r=4/\k=2 then .own [0,1,2,4,5,6] else .own [],fun _=>false⟩ Tryz.f114=some (LO,L1):=by kernel_rfl
def M4:PC:=.seq (.reg [.e 5 (.bx 56 (.t 0))]) (.seq (.reg [.q 12 (.fa 1 (.t 5)),.l 13 (.ld1 (.t 12)),.q 14 (.lnL (.t 13)),.q 15 (.mv (.i 0))]) (.block 0 (.loop (.seq (.reg [.q 16 (.bin .lss true (.t 15) (.t 14))]) (.seq (.cond (.t 16) .skip (.exit 0)) (.seq (.block 1 (.seq (.reg [.l 17 (.ia 7 (.t 13) (.t 15)),.l 18 (.ldn 7 (.t 17)),.e 7 (.al (.agg #[(.int .i64 0),(.string (mk [])),(.int .i64 0),(.int .i64 0),(.string (mk [])),(.slice none 0 0),(.bool false)]) 64),.s (.st 7 (.t 7) (.t 18))]) (.seq (.reg [.q 20 (.fa 2 (.t 7)),.l 21 (.ldn 4 (.t 20)),.a 22 (.cl 124 [(.t 21)] []),.v 19 22,.q 23 (.ex (.t 19) 0),.q 24 (.ex (.t 19) 1),.v 8 23,.v 9 24]) (.seq (.seq (.reg [.v 25 9,.q 26 (.not (.t 25)),.v 27 26,⟨some 28,(some (27,false)),.l (.ld1 (.t 1))⟩,⟨some 29,(some (27,false)),.q (.mv (.t 8))⟩,⟨some 30,(some (27,false)),.l (.lk .string (.bool false) false (.t 28) (.t 29))⟩,.a 31 (.pick (.t 27) (.k (.bool true)) (.t 30))]) (.cond (.t 31) (.exit 1) .skip)) (.seq (.reg [.l 32 (.ld1 (.t 1)),.v 33 8,.s (.mu .string (.t 32) (.t 33) (.k (.bool true)))]) (.seq (.reg [.l 34 (.ld1 (.t 2)),.v 35 8,.e 36 (.bsl 9 1 [(.t 35)]),.e 37 (.ap 9 1 16 (.t 34) (.t 36)),.s (.st 1 (.t 2) (.t 37))]) (.seq (.reg [.q 39 (.fa 0 (.t 3)),.l 40 (.ld1 (.t 39)),.v 41 8,.l 42 (.lk .string (.agg #[(.string (mk [])),(.slice none 0 0)]) true (.t 40) (.t 41)),.v 38 42,.q 43 (.ex (.t 38) 0),.q 44 (.ex (.t 38) 1),.e 10 (.al (.agg #[(.string (mk [])),(.slice none 0 0)]) 56),.s (.st 2 (.t 10) (.t 43)),.v 11 44]) (.seq (.reg [.v 45 11]) (.cond (.t 45) (.reg [.l 46 (.ld1 (.t 4)),.l 47 (.ldn 2 (.t 10)),.a 48 (.ca (.t 46) [(.t 47)] [0,1,2,3,4,5,6,7])]) .skip))))))))) (.reg [.q 49 (.bin .add true (.t 15) (.i 1)),.v 15 49])))))))
def NB:List RV:=[]
theorem VX:aT Tryz.prog true ⟨fun r k=>if r=10/\k=2 then .own [0,1,2,3,4,5,6,7] else .own [],fun _=>false⟩ Tryz.f123=some (M4,NB):=by kernel_rfl
def L3:PC:=.seq (.reg [.e 1 (.bx 37 (.t 0)),.q 2 (.mv (.k (.string (mk [])))),.q 3 (.mv (.k (.bool false)))]) (.seq (.block 0 (.loop (.seq (.seq (.reg [.q 4 (.fa 0 (.t 1)),.l 5 (.ld1 (.t 4)),.q 6 (.bin .eql true (.t 5) (.i 5)),.v 7 6,⟨some 8,(some (7,true)),.q (.fa 3 (.t 1))⟩,⟨some 9,(some (7,true)),.l (.ld1 (.t 8))⟩,⟨some 10,(some (7,true)),.q (.lnL (.t 9))⟩,⟨some 11,(some (7,true)),.q (.bin .eql true (.t 10) (.i 1))⟩,.a 12 (.pick (.t 7) (.t 11) (.k (.bool false)))]) (.cond (.t 12) .skip (.exit 0))) (.block 1 (.reg [.q 13 (.fa 3 (.t 1)),.l 14 (.ld1 (.t 13)),.l 15 (.ia 4 (.t 14) (.i 0)),.l 16 (.ldn 4 (.t 15)),.s (.st 4 (.t 1) (.t 16))]))))) (.seq (.reg [.q 17 (.fa 2 (.t 1)),.l 18 (.ld1 (.t 17)),.q 19 (.fa 0 (.t 1)),.l 20 (.ld1 (.t 19)),.q 21 (.bin .eql true (.t 20) (.i 6)),.v 22 21,⟨some 23,(some (22,false)),.q (.fa 0 (.t 1))⟩,⟨some 24,(some (22,false)),.l (.ld1 (.t 23))⟩,⟨some 25,(some (22,false)),.q (.bin .eql true (.t 24) (.i 7))⟩,.a 26 (.pick (.t 22) (.k (.bool true)) (.t 25)),.v 2 18,.v 3 26]) .ret))
def MS:List RV:=[.mv (.t 2),.mv (.t 3)]
theorem V6:aT Tryz.prog true ⟨fun _ _=>.own [],fun _=>false⟩ Tryz.f124=some (L3,MS):=by kernel_rfl
def F2:PC:=.seq (.reg [.e 4 (.bx 56 (.t 0)),.q 5 (.mv (.i 0))]) (.seq (.seq (.reg [.l 14 (.ld1 (.t 1)),.q 15 (.fa 0 (.t 4)),.l 16 (.ld1 (.t 15)),.l 17 (.lk .string (.int .i64 0) true (.t 14) (.t 16)),.v 13 17,.q 18 (.ex (.t 13) 0),.q 19 (.ex (.t 13) 1),.v 6 18,.v 7 19]) (.seq (.reg [.v 20 7]) (.cond (.t 20) (.seq (.reg [.v 21 6,.v 5 21]) .ret) .skip))) (.seq (.reg [.q 8 (.mv (.i 0))]) (.seq (.seq (.reg [.q 22 (.fa 1 (.t 4)),.l 23 (.ld1 (.t 22)),.q 24 (.lnL (.t 23)),.q 25 (.mv (.i 0))]) (.block 0 (.loop (.seq (.reg [.q 26 (.bin .lss true (.t 25) (.t 24))]) (.seq (.cond (.t 26) .skip (.exit 0)) (.seq (.block 1 (.seq (.reg [.l 27 (.ia 7 (.t 23) (.t 25)),.l 28 (.ldn 7 (.t 27)),.e 10 (.al (.agg #[(.int .i64 0),(.string (mk [])),(.int .i64 0),(.int .i64 0),(.string (mk [])),(.slice none 0 0),(.bool false)]) 64),.s (.st 7 (.t 10) (.t 28))]) (.seq (.ord  [.q (.q 29 (.fa 2 (.t 10))),.q (.l 30 (.ldn 4 (.t 29))),.m (.e 12 (.al (.agg #[(.int .i64 0),(.int .i64 0),(.string (mk [])),(.slice none 0 0)]) 37)),.rc (.q 29 (.fa 2 (.t 10))),.rc (.l 30 (.ldn 4 (.t 29))),.m (.q 11 (.mv (.i 0))),.rc (.q 29 (.fa 2 (.t 10))),.rc (.l 30 (.ldn 4 (.t 29))),.m (.s (.st 4 (.t 12) (.t 30)))]) (.seq (.block 2 (.loop (.seq (.seq (.reg [.q 31 (.fa 0 (.t 12)),.l 32 (.ld1 (.t 31)),.q 33 (.bin .eql true (.t 32) (.i 5))]) (.cond (.t 33) .skip (.exit 2))) (.block 3 (.seq (.reg [.v 34 11,.q 35 (.bin .add true (.t 34) (.i 1)),.v 11 35]) (.reg [.q 36 (.fa 3 (.t 12)),.l 37 (.ld1 (.t 36)),.l 38 (.ia 4 (.t 37) (.i 0)),.l 39 (.ldn 4 (.t 38)),.s (.st 4 (.t 12) (.t 39))])))))) (.seq (.seq (.reg [.q 40 (.fa 0 (.t 12)),.l 41 (.ld1 (.t 40)),.q 42 (.bin .eql true (.t 41) (.i 6))]) (.cond (.t 42) (.reg [.v 43 11,.l 44 (.ld1 (.t 2)),.q 45 (.fa 0 (.t 3)),.l 46 (.ld1 (.t 45)),.q 47 (.fa 2 (.t 12)),.l 48 (.ld1 (.t 47)),.l 49 (.lk .string (.agg #[(.string (mk [])),(.slice none 0 0)]) false (.t 46) (.t 48)),.a 50 (.ca (.t 44) [(.t 49)] [0,1,2,3,4,5]),.q 51 (.bin .add true (.t 43) (.t 50)),.v 11 51]) .skip)) (.reg [.v 52 8,.v 53 11,.q 54 (.mx true (.t 52) (.t 53)),.v 8 54])))))) (.reg [.q 55 (.bin .add true (.t 25) (.i 1)),.v 25 55]))))))) (.seq (.reg [.l 56 (.ld1 (.t 1)),.q 57 (.fa 0 (.t 4)),.l 58 (.ld1 (.t 57)),.v 59 8,.q 60 (.bin .add true (.t 59) (.i 1)),.s (.mu .string (.t 56) (.t 58) (.t 60))]) (.seq (.reg [.v 61 8,.q 62 (.bin .add true (.t 61) (.i 1)),.v 5 62]) .ret)))))
def FQ:List RV:=[.mv (.t 5)]
theorem W9:aT Tryz.prog true ⟨fun r k=>if r=13/\k=7 then .own [0,1,2,3,4,5] else .own [],fun _=>false⟩ Tryz.f126=some (F2,FQ):=by kernel_rfl
def TQ:PC:=.seq (.reg [.q 2 (.mv (.k (.slice none 0 0))),.q 3 (.mv (.i 0)),.q 4 (.mv (.i 0))]) (.seq (.seq (.reg [.v 12 0,.q 13 (.lnS (.t 12)),.q 14 (.bin .gtr true (.t 13) (.i 4000))]) (.cond (.t 14) (.seq (.reg [.q 2 (.mv (.k (.slice none 0 0))),.q 3 (.mv (.i 3)),.q 4 (.mv (.i 0))]) .ret) .skip)) (.seq (.reg [.q 5 (.mv (.k (.slice none 0 0)))]) (.seq (.reg [.v 15 0,.a 16 (.cq 86 [(.t 15),(.i 0)]),.v 6 16]) (.seq (.block 0 (.loop (.seq (.seq (.reg [.v 17 6,.v 18 0,.q 19 (.lnS (.t 18)),.q 20 (.bin .lss true (.t 17) (.t 19))]) (.cond (.t 20) .skip (.exit 0))) (.block 1 (.seq (.reg [.v 21 6,.q 22 (.bd [(.int .i64 0),(.string (mk [])),(.int .i64 0),(.int .i64 0)] [(3,1,(.t 21))]),.e 7 (.al (.agg #[(.int .i64 0),(.string (mk [])),(.int .i64 0),(.int .i64 0)]) 74),.s (.st 4 (.t 7) (.t 22))]) (.seq (.reg [.v 23 6,.q 24 (.bin .add true (.t 23) (.i 1)),.v 8 24,.q 9 (.mv (.i 0)),.q 10 (.mv (.i 0))]) (.seq (.reg [.v 25 0,.v 26 6,.a 27 (.ix (.t 25) (.t 26)),.v 11 27]) (.seq (.block 2 (.seq (.reg [.v 30 11,.a 31 (.cq 87 [(.t 30)]),.v 29 31]) (.cond (.t 29) (.seq (.reg [.v 33 0,.v 34 6,.a 35 (.cl 88 [(.t 33),(.t 34)] []),.v 32 35,.q 36 (.ex (.t 32) 0),.q 37 (.ex (.t 32) 1),.q 38 (.ex (.t 32) 2),.v 8 36,.v 9 37,.v 10 38]) (.seq (.reg [.q 39 (.fa 0 (.t 7)),.s (.st 1 (.t 39) (.i 1))]) (.reg [.v 40 0,.v 41 6,.v 42 8,.q 43 (.ss (.t 40) (some (.t 41)) (some (.t 42))),.q 44 (.fa 1 (.t 7)),.s (.st 1 (.t 44) (.t 43))]))) (.seq (.reg [.v 46 11,.a 47 (.cq 89 [(.t 46)]),.v 48 47,⟨some 49,(some (48,false)),.q (.mv (.t 11))⟩,⟨some 50,(some (48,false)),.q (.bin .eql true (.t 49) (.k (.int .u8 45)))⟩,.a 51 (.pick (.t 48) (.k (.bool true)) (.t 50)),.v 45 51]) (.cond (.t 45) (.seq (.reg [.v 53 0,.v 54 6,.a 55 (.cl 90 [(.t 53),(.t 54)] []),.v 52 55,.q 56 (.ex (.t 52) 0),.q 57 (.ex (.t 52) 1),.q 58 (.ex (.t 52) 2),.q 59 (.ex (.t 52) 3),.v 8 56,.q 60 (.fa 2 (.t 7)),.s (.st 1 (.t 60) (.t 57)),.v 9 58,.v 10 59]) (.reg [.q 61 (.fa 0 (.t 7)),.s (.st 1 (.t 61) (.i 2))])) (.seq (.reg [.v 63 11,.q 64 (.bin .eql true (.t 63) (.k (.int .u8 34))),.v 62 64]) (.cond (.t 62) (.seq (.reg [.v 66 0,.v 67 6,.a 68 (.cl 91 [(.t 66),(.t 67)] []),.v 65 68,.q 69 (.ex (.t 65) 0),.q 70 (.ex (.t 65) 1),.q 71 (.ex (.t 65) 2),.q 72 (.ex (.t 65) 3),.v 8 69,.q 73 (.fa 1 (.t 7)),.s (.st 1 (.t 73) (.t 70)),.v 9 71,.v 10 72]) (.reg [.q 74 (.fa 0 (.t 7)),.s (.st 1 (.t 74) (.i 3))])) (.seq (.reg [.v 76 11,.a 77 (.cq 92 [(.t 76)]),.v 75 77]) (.cond (.t 75) (.seq (.reg [.q 78 (.fa 0 (.t 7)),.s (.st 1 (.t 78) (.i 4))]) (.reg [.v 79 0,.v 80 6,.v 81 8,.q 82 (.ss (.t 79) (some (.t 80)) (some (.t 81))),.q 83 (.fa 1 (.t 7)),.s (.st 1 (.t 83) (.t 82))])) (.seq (.reg [.v 28 6,.q 2 (.mv (.k (.slice none 0 0))),.q 3 (.mv (.i 2)),.v 4 28]) .ret)))))))))) (.seq (.seq (.reg [.v 84 9,.q 85 (.bin .neq true (.t 84) (.i 0))]) (.cond (.t 85) (.seq (.reg [.v 86 9,.v 87 10,.q 2 (.mv (.k (.slice none 0 0))),.v 3 86,.v 4 87]) .ret) .skip)) (.seq (.reg [.v 88 5,.l 89 (.ldn 4 (.t 7)),.e 90 (.bsl 74 4 [(.t 89)]),.e 91 (.ap 74 4 40 (.t 88) (.t 90)),.v 5 91]) (.reg [.v 92 0,.v 93 8,.a 94 (.cq 86 [(.t 92),(.t 93)]),.v 6 94]))))))))))) (.seq (.reg [.v 95 5,.v 96 0,.q 97 (.lnS (.t 96)),.q 98 (.bd [(.int .i64 0),(.string (mk [])),(.int .i64 0),(.int .i64 0)] [(3,1,(.t 97))]),.e 99 (.bsl 74 4 [(.t 98)]),.e 100 (.ap 74 4 40 (.t 95) (.t 99)),.v 2 100,.q 3 (.mv (.i 0)),.q 4 (.mv (.i 0))]) .ret)))))
def SG:List RV:=[.mv (.t 2),.mv (.t 3),.mv (.t 4)]
theorem Y6:aT Tryz.prog true ⟨fun r k=>if r=4/\k=1 then .q else if r=10/\k=1 then .q else if r=14/\k=1 then .q else if r=20/\k=1 then .q else if r=26/\k=2 then .q else .own [],fun _=>false⟩ Tryz.f45=some (TQ,SG):=by kernel_rfl
def UT:PC:=.seq (.reg [.q 4 (.mv (.i 0))]) (.seq (.reg [.q 5 (.mv (.k (.bool false)))]) (.seq (.block 0 (.loop (.seq (.seq (.reg [.v 7 1,.v 8 0,.q 9 (.lnS (.t 8)),.q 10 (.bin .lss true (.t 7) (.t 9))]) (.cond (.t 10) .skip (.exit 0))) (.block 1 (.seq (.reg [.v 11 0,.v 12 1,.a 13 (.ix (.t 11) (.t 12)),.v 6 13]) (.seq (.seq (.reg [.v 14 6,.q 15 (.bin .eql true (.t 14) (.k (.int .u8 10)))]) (.cond (.t 15) (.reg [.q 5 (.mv (.k (.bool false)))]) .skip)) (.seq (.seq (.reg [.v 16 6,.q 17 (.bin .eql true (.t 16) (.k (.int .u8 35)))]) (.cond (.t 17) (.reg [.q 5 (.mv (.k (.bool true)))]) .skip)) (.seq (.seq (.reg [.v 18 5,.q 19 (.not (.t 18)),.v 20 19,⟨some 21,(some (20,true)),.q (.mv (.t 6))⟩,⟨some 22,(some (20,true)),.q (.bin .neq true (.t 21) (.k (.int .u8 32)))⟩,.a 23 (.pick (.t 20) (.t 22) (.k (.bool false))),.v 24 23,⟨some 25,(some (24,true)),.q (.mv (.t 6))⟩,⟨some 26,(some (24,true)),.q (.bin .neq true (.t 25) (.k (.int .u8 9)))⟩,.a 27 (.pick (.t 24) (.t 26) (.k (.bool false))),.v 28 27,⟨some 29,(some (28,true)),.q (.mv (.t 6))⟩,⟨some 30,(some (28,true)),.q (.bin .neq true (.t 29) (.k (.int .u8 10)))⟩,.a 31 (.pick (.t 28) (.t 30) (.k (.bool false)))]) (.cond (.t 31) (.seq (.reg [.v 32 1,.v 4 32]) .ret) .skip)) (.reg [.v 33 1,.q 34 (.bin .add true (.t 33) (.i 1)),.v 1 34]))))))))) (.seq (.reg [.v 35 1,.v 4 35]) .ret)))
def U4:List RV:=[.mv (.t 4)]
theorem aBR:aT Tryz.prog true ⟨fun _ _=>.own [],fun _=>false⟩ Tryz.f86=some (UT,U4):=by kernel_rfl
def Q3:PC:=.seq (.reg [.q 2 (.mv (.k (.bool false)))]) (.seq (.reg [.v 3 0,.q 4 (.bin .geq true (.t 3) (.k (.int .u8 97))),.v 5 4,⟨some 6,(some (5,true)),.q (.mv (.t 0))⟩,⟨some 7,(some (5,true)),.q (.bin .leq true (.t 6) (.k (.int .u8 122)))⟩,.a 8 (.pick (.t 5) (.t 7) (.k (.bool false))),.v 9 8,⟨some 10,(some (9,false)),.q (.mv (.t 0))⟩,⟨some 11,(some (9,false)),.q (.bin .geq true (.t 10) (.k (.int .u8 65)))⟩,⟨some 12,(some (9,false)),.q (.mv (.t 11))⟩,⟨some 13,(some (12,true)),.q (.mv (.t 0))⟩,⟨some 14,(some (12,true)),.q (.bin .leq true (.t 13) (.k (.int .u8 90)))⟩,⟨some 15,(some (9,false)),.pick (.t 12) (.t 14) (.k (.bool false))⟩,.a 16 (.pick (.t 9) (.k (.bool true)) (.t 15)),.v 2 16]) .ret)
def QL:List RV:=[.mv (.t 2)]
theorem ZA:aT Tryz.prog true ⟨fun _ _=>.own [],fun _=>false⟩ Tryz.f87=some (Q3,QL):=by kernel_rfl
def T7:PC:=.seq (.reg [.q 4 (.mv (.i 0)),.q 5 (.mv (.i 0)),.q 6 (.mv (.i 0))]) (.seq (.reg [.v 8 1,.v 7 8]) (.seq (.block 0 (.loop (.seq (.seq (.reg [.v 9 7,.v 10 0,.q 11 (.lnS (.t 10)),.q 12 (.bin .lss true (.t 9) (.t 11)),.v 13 12,⟨some 14,(some (13,true)),.q (.mv (.t 0))⟩,⟨some 15,(some (13,true)),.q (.mv (.t 7))⟩,⟨some 16,(some (13,true)),.ix (.t 14) (.t 15)⟩,⟨some 17,(some (13,true)),.cq 117 [(.t 16)]⟩,.a 18 (.pick (.t 13) (.t 17) (.k (.bool false)))]) (.cond (.t 18) .skip (.exit 0))) (.block 1 (.reg [.v 19 7,.q 20 (.bin .add true (.t 19) (.i 1)),.v 7 20]))))) (.seq (.seq (.reg [.v 21 7,.v 22 1,.q 23 (.bin .sub true (.t 21) (.t 22)),.q 24 (.bin .gtr true (.t 23) (.i 16))]) (.cond (.t 24) (.seq (.reg [.v 25 7,.v 26 1,.v 4 25,.q 5 (.mv (.i 3)),.v 6 26]) .ret) .skip)) (.seq (.seq (.reg [.v 27 7,.v 28 0,.q 29 (.lnS (.t 28)),.q 30 (.bin .lss true (.t 27) (.t 29)),.v 31 30,⟨some 32,(some (31,true)),.q (.mv (.t 0))⟩,⟨some 33,(some (31,true)),.q (.mv (.t 7))⟩,⟨some 34,(some (31,true)),.ix (.t 32) (.t 33)⟩,⟨some 35,(some (31,true)),.q (.bin .eql true (.t 34) (.k (.int .u8 45)))⟩,.a 36 (.pick (.t 31) (.t 35) (.k (.bool false)))]) (.cond (.t 36) (.seq (.reg [.v 37 7,.v 38 7,.v 4 37,.q 5 (.mv (.i 2)),.v 6 38]) .ret) .skip)) (.seq (.reg [.v 39 7,.v 4 39,.q 5 (.mv (.i 0)),.q 6 (.mv (.i 0))]) .ret)))))
def P3:List RV:=[.mv (.t 4),.mv (.t 5),.mv (.t 6)]
theorem aAN:aT Tryz.prog true ⟨fun r k=>if r=2/\k=8 then .q else .own [],fun _=>false⟩ Tryz.f88=some (T7,P3):=by kernel_rfl
def TL:PC:=.seq (.reg [.q 2 (.mv (.k (.bool false)))]) (.seq (.reg [.v 3 0,.q 4 (.bin .geq true (.t 3) (.k (.int .u8 48))),.v 5 4,⟨some 6,(some (5,true)),.q (.mv (.t 0))⟩,⟨some 7,(some (5,true)),.q (.bin .leq true (.t 6) (.k (.int .u8 57)))⟩,.a 8 (.pick (.t 5) (.t 7) (.k (.bool false))),.v 2 8]) .ret)
def QU:List RV:=[.mv (.t 2)]
theorem ZN:aT Tryz.prog true ⟨fun _ _=>.own [],fun _=>false⟩ Tryz.f89=some (TL,QU):=by kernel_rfl
def pc90_6:PC:=.seq (.gh (.reg [.v 31 0,.v 32 1,.v 33 8,.q 34 (.ss (.t 31) (some (.t 32)) (some (.t 33))),.a 35 (.cl 118 [(.t 34)] []),.v 30 35,.q 36 (.ex (.t 30) 0),.q 37 (.ex (.t 30) 1),.v 9 36,.v 10 37])) (.seq (.seq (.reg [.v 38 10,.q 39 (.bin .eql true (.t 38) (.i 2))]) (.cond (.t 39) (.seq (.reg [.v 40 8,.v 41 1,.v 4 40,.q 5 (.mv (.i 0)),.q 6 (.mv (.i 2)),.v 7 41]) .ret) .skip)) (.seq (.seq (.reg [.v 42 10,.q 43 (.bin .eql true (.t 42) (.i 1))]) (.cond (.t 43) (.seq (.reg [.v 44 8,.v 45 1,.v 4 44,.q 5 (.mv (.i 0)),.q 6 (.mv (.i 4)),.v 7 45]) .ret) .skip)) (.seq (.seq (.reg [.v 46 8,.v 47 0,.q 48 (.lnS (.t 47)),.q 49 (.bin .lss true (.t 46) (.t 48)),.v 50 49,⟨some 51,(some (50,true)),.q (.mv (.t 0))⟩,⟨some 52,(some (50,true)),.q (.mv (.t 8))⟩,⟨some 53,(some (50,true)),.ix (.t 51) (.t 52)⟩,⟨some 54,(some (50,true)),.cq 117 [(.t 53)]⟩,⟨some 55,(some (50,true)),.q (.mv (.t 54))⟩,⟨some 56,(some (55,false)),.q (.mv (.t 0))⟩,⟨some 57,(some (55,false)),.q (.mv (.t 8))⟩,⟨some 58,(some (55,false)),.ix (.t 56) (.t 57)⟩,⟨some 59,(some (55,false)),.q (.bin .eql true (.t 58) (.k (.int .u8 45)))⟩,⟨some 60,(some (50,true)),.pick (.t 55) (.k (.bool true)) (.t 59)⟩,.a 61 (.pick (.t 50) (.t 60) (.k (.bool false)))]) (.cond (.t 61) (.seq (.reg [.v 62 8,.v 63 8,.v 4 62,.q 5 (.mv (.i 0)),.q 6 (.mv (.i 2)),.v 7 63]) .ret) .skip)) (.seq (.reg [.v 64 8,.v 65 9,.v 4 64,.v 5 65,.q 6 (.mv (.i 0)),.q 7 (.mv (.i 0))]) .ret))))
@[go_sem ↓] theorem aCH:bT pc90_6:=bW _
def RM:PC:=.seq (.reg [.q 4 (.mv (.i 0)),.q 5 (.mv (.i 0)),.q 6 (.mv (.i 0)),.q 7 (.mv (.i 0))]) (.seq (.reg [.v 11 1,.v 8 11]) (.seq (.seq (.reg [.v 12 0,.v 13 8,.a 14 (.ix (.t 12) (.t 13)),.q 15 (.bin .eql true (.t 14) (.k (.int .u8 45)))]) (.cond (.t 15) (.reg [.v 16 8,.q 17 (.bin .add true (.t 16) (.i 1)),.v 8 17]) .skip)) (.seq (.block 0 (.loop (.seq (.seq (.reg [.v 18 8,.v 19 0,.q 20 (.lnS (.t 19)),.q 21 (.bin .lss true (.t 18) (.t 20)),.v 22 21,⟨some 23,(some (22,true)),.q (.mv (.t 0))⟩,⟨some 24,(some (22,true)),.q (.mv (.t 8))⟩,⟨some 25,(some (22,true)),.ix (.t 23) (.t 24)⟩,⟨some 26,(some (22,true)),.cq 89 [(.t 25)]⟩,.a 27 (.pick (.t 22) (.t 26) (.k (.bool false)))]) (.cond (.t 27) .skip (.exit 0))) (.block 1 (.reg [.v 28 8,.q 29 (.bin .add true (.t 28) (.i 1)),.v 8 29]))))) (pc90_6))))
def FE:List RV:=[.mv (.t 4),.mv (.t 5),.mv (.t 6),.mv (.t 7)]
theorem aBC:aT Tryz.prog true ⟨fun r k=>if r=4/\k=8 then .q else if r=11/\k=8 then .q else .own [],fun r=>[6].contains r⟩ Tryz.f90=some (RM,FE):=by kernel_rfl
def Q7:PC:=.seq (.reg [.q 4 (.mv (.i 0)),.q 5 (.mv (.k (.string (mk [])))),.q 6 (.mv (.i 0)),.q 7 (.mv (.i 0))]) (.seq (.reg [.q 8 (.mv (.k (.string (mk []))))]) (.seq (.reg [.v 11 1,.q 12 (.bin .add true (.t 11) (.i 1)),.v 9 12]) (.block 0 (.loop (.block 1 (.seq (.seq (.reg [.v 13 9,.v 14 0,.q 15 (.lnS (.t 14)),.q 16 (.bin .geq true (.t 13) (.t 15))]) (.cond (.t 16) (.seq (.reg [.v 17 9,.v 18 0,.q 19 (.lnS (.t 18)),.v 4 17,.q 5 (.mv (.k (.string (mk [])))),.q 6 (.mv (.i 2)),.v 7 19]) .ret) .skip)) (.seq (.reg [.v 20 0,.v 21 9,.a 22 (.ix (.t 20) (.t 21)),.v 10 22]) (.seq (.seq (.reg [.v 23 10,.q 24 (.bin .eql true (.t 23) (.k (.int .u8 34)))]) (.cond (.t 24) (.seq (.seq (.reg [.v 25 8,.q 26 (.lnS (.t 25)),.q 27 (.bin .gtr true (.t 26) (.i 200))]) (.cond (.t 27) (.seq (.reg [.v 28 9,.v 29 1,.v 4 28,.q 5 (.mv (.k (.string (mk [])))),.q 6 (.mv (.i 3)),.v 7 29]) .ret) .skip)) (.seq (.reg [.v 30 9,.q 31 (.bin .add true (.t 30) (.i 1)),.v 32 8,.v 4 31,.v 5 32,.q 6 (.mv (.i 0)),.q 7 (.mv (.i 0))]) .ret)) .skip)) (.seq (.seq (.reg [.v 33 10,.q 34 (.bin .lss true (.t 33) (.k (.int .u8 32))),.v 35 34,⟨some 36,(some (35,false)),.q (.mv (.t 10))⟩,⟨some 37,(some (35,false)),.q (.bin .gtr true (.t 36) (.k (.int .u8 126)))⟩,.a 38 (.pick (.t 35) (.k (.bool true)) (.t 37)),.v 39 38,⟨some 40,(some (39,false)),.q (.mv (.t 10))⟩,⟨some 41,(some (39,false)),.q (.bin .eql true (.t 40) (.k (.int .u8 92)))⟩,⟨some 42,(some (39,false)),.q (.mv (.t 41))⟩,⟨some 43,(some (42,true)),.q (.mv (.t 9))⟩,⟨some 44,(some (42,true)),.q (.bin .add true (.t 43) (.i 1))⟩,⟨some 45,(some (42,true)),.q (.mv (.t 0))⟩,⟨some 46,(some (42,true)),.q (.lnS (.t 45))⟩,⟨some 47,(some (42,true)),.q (.bin .geq true (.t 44) (.t 46))⟩,⟨some 48,(some (42,true)),.q (.mv (.t 47))⟩,⟨some 49,(some (48,false)),.q (.mv (.t 0))⟩,⟨some 50,(some (48,false)),.q (.mv (.t 9))⟩,⟨some 51,(some (48,false)),.q (.bin .add true (.t 50) (.i 1))⟩,⟨some 52,(some (48,false)),.ix (.t 49) (.t 51)⟩,⟨some 53,(some (48,false)),.q (.bin .neq true (.t 52) (.k (.int .u8 34)))⟩,⟨some 54,(some (48,false)),.q (.mv (.t 53))⟩,⟨some 55,(some (54,true)),.q (.mv (.t 0))⟩,⟨some 56,(some (54,true)),.q (.mv (.t 9))⟩,⟨some 57,(some (54,true)),.q (.bin .add true (.t 56) (.i 1))⟩,⟨some 58,(some (54,true)),.ix (.t 55) (.t 57)⟩,⟨some 59,(some (54,true)),.q (.bin .neq true (.t 58) (.k (.int .u8 92)))⟩,⟨some 60,(some (48,false)),.pick (.t 54) (.t 59) (.k (.bool false))⟩,⟨some 61,(some (42,true)),.pick (.t 48) (.k (.bool true)) (.t 60)⟩,⟨some 62,(some (39,false)),.pick (.t 42) (.t 61) (.k (.bool false))⟩,.a 63 (.pick (.t 39) (.k (.bool true)) (.t 62))]) (.cond (.t 63) (.seq (.reg [.v 64 9,.v 65 9,.v 4 64,.q 5 (.mv (.k (.string (mk [])))),.q 6 (.mv (.i 2)),.v 7 65]) .ret) .skip)) (.seq (.seq (.reg [.v 66 10,.q 67 (.bin .eql true (.t 66) (.k (.int .u8 92)))]) (.cond (.t 67) (.reg [.v 68 9,.q 69 (.bin .add true (.t 68) (.i 1)),.v 9 69]) .skip)) (.seq (.reg [.v 70 8,.v 71 0,.v 72 9,.v 73 9,.q 74 (.bin .add true (.t 73) (.i 1)),.q 75 (.ss (.t 71) (some (.t 72)) (some (.t 74))),.q 76 (.bin .add true (.t 70) (.t 75)),.v 8 76]) (.reg [.v 77 9,.q 78 (.bin .add true (.t 77) (.i 1)),.v 9 78]))))))))))))
def TM:List RV:=[.mv (.t 4),.mv (.t 5),.mv (.t 6),.mv (.t 7)]
theorem aAM:aT Tryz.prog true ⟨fun _ _=>.own [],fun _=>false⟩ Tryz.f91=some (Q7,TM):=by kernel_rfl
def TD:PC:=.seq (.reg [.q 2 (.mv (.k (.bool false)))]) (.seq (.reg [.q 3 (.mv (.k (.string (mk [123,125,40,41,91,93,58,59,44,61,46,63,33,38,124,64]))))]) (.seq (.seq (.reg [.q 4 (.mv (.i 0))]) (.block 0 (.loop (.seq (.seq (.reg [.v 5 4,.v 6 3,.q 7 (.lnS (.t 6)),.q 8 (.bin .lss true (.t 5) (.t 7))]) (.cond (.t 8) .skip (.exit 0))) (.seq (.block 1 (.seq (.reg [.v 11 3,.v 12 4,.a 13 (.ix (.t 11) (.t 12)),.v 14 0,.q 15 (.bin .eql true (.t 13) (.t 14))]) (.cond (.t 15) (.seq (.reg [.q 2 (.mv (.k (.bool true)))]) .ret) .skip))) (.reg [.v 9 4,.q 10 (.bin .add true (.t 9) (.i 1)),.v 4 10])))))) (.seq (.reg [.q 2 (.mv (.k (.bool false)))]) .ret)))
def Q4:List RV:=[.mv (.t 2)]
theorem aB6:aT Tryz.prog true ⟨fun _ _=>.own [],fun _=>false⟩ Tryz.f92=some (TD,Q4):=by kernel_rfl
def MM:PC:=.seq (.reg [.q 2 (.mv (.k (.bool false)))]) (.seq (.reg [.v 3 0,.a 4 (.cq 87 [(.t 3)]),.v 5 4,⟨some 6,(some (5,false)),.q (.mv (.t 0))⟩,⟨some 7,(some (5,false)),.cq 89 [(.t 6)]⟩,.a 8 (.pick (.t 5) (.k (.bool true)) (.t 7)),.v 9 8,⟨some 10,(some (9,false)),.q (.mv (.t 0))⟩,⟨some 11,(some (9,false)),.q (.bin .eql true (.t 10) (.k (.int .u8 95)))⟩,.a 12 (.pick (.t 9) (.k (.bool true)) (.t 11)),.v 2 12]) .ret)
def LL:List RV:=[.mv (.t 2)]
theorem WP:aT Tryz.prog true ⟨fun r k=>if r=1/\k=1 then .q else if r=1/\k=4 then .q else .own [],fun _=>false⟩ Tryz.f117=some (MM,LL):=by kernel_rfl
def pc118_4:PC:=.seq (.seq (.gh (.reg [.v 16 4,.v 17 0,.q 18 (.lnS (.t 17)),.q 19 (.bin .geq true (.t 16) (.t 18)),.v 20 19,⟨some 21,(some (20,false)),.q (.mv (.t 0))⟩,⟨some 22,(some (20,false)),.q (.lnS (.t 21))⟩,⟨some 23,(some (20,false)),.q (.mv (.t 4))⟩,⟨some 24,(some (20,false)),.q (.bin .sub true (.t 22) (.t 23))⟩,⟨some 25,(some (20,false)),.q (.bin .gtr true (.t 24) (.i 1))⟩,⟨some 26,(some (20,false)),.q (.mv (.t 25))⟩,⟨some 27,(some (26,true)),.q (.mv (.t 0))⟩,⟨some 28,(some (26,true)),.q (.mv (.t 4))⟩,⟨some 29,(some (26,true)),.ix (.t 27) (.t 28)⟩,⟨some 30,(some (26,true)),.q (.bin .eql true (.t 29) (.k (.int .u8 48)))⟩,⟨some 31,(some (20,false)),.pick (.t 26) (.t 30) (.k (.bool false))⟩,.a 32 (.pick (.t 20) (.k (.bool true)) (.t 31)),.v 33 32,⟨some 34,(some (33,false)),.q (.mv (.t 4))⟩,⟨some 35,(some (33,false)),.q (.bin .eql true (.t 34) (.i 1))⟩,⟨some 36,(some (33,false)),.q (.mv (.t 35))⟩,⟨some 37,(some (36,true)),.q (.mv (.t 0))⟩,⟨some 38,(some (36,true)),.q (.mv (.t 4))⟩,⟨some 39,(some (36,true)),.ix (.t 37) (.t 38)⟩,⟨some 40,(some (36,true)),.q (.bin .eql true (.t 39) (.k (.int .u8 48)))⟩,⟨some 41,(some (33,false)),.pick (.t 36) (.t 40) (.k (.bool false))⟩,.a 42 (.pick (.t 33) (.k (.bool true)) (.t 41))])) (.cond (.t 42) (.seq (.reg [.q 2 (.mv (.i 0)),.q 3 (.mv (.i 2))]) .ret) .skip)) (.seq (.reg [.q 5 (.mv (.k (.int .u64 0)))]) (.seq (.seq (.reg [.v 43 4,.v 6 43]) (.block 0 (.loop (.seq (.seq (.reg [.v 44 6,.v 45 0,.q 46 (.lnS (.t 45)),.q 47 (.bin .lss true (.t 44) (.t 46))]) (.cond (.t 47) .skip (.exit 0))) (.seq (.block 1 (.seq (.seq (.reg [.v 50 0,.v 51 6,.a 52 (.ix (.t 50) (.t 51)),.a 53 (.cq 89 [(.t 52)]),.q 54 (.not (.t 53))]) (.cond (.t 54) (.seq (.reg [.q 2 (.mv (.i 0)),.q 3 (.mv (.i 2))]) .ret) .skip)) (.seq (.seq (.reg [.v 55 5,.q 56 (.bin .gtr true (.t 55) (.k (.int .u64 1000000000000000000)))]) (.cond (.t 56) (.seq (.reg [.q 2 (.mv (.i 0)),.q 3 (.mv (.i 1))]) .ret) .skip)) (.reg [.v 57 5,.q 58 (.bin .mul true (.k (.int .u64 10)) (.t 57)),.v 59 0,.v 60 6,.a 61 (.ix (.t 59) (.t 60)),.q 62 (.bin .sub true (.t 61) (.k (.int .u8 48))),.q 63 (.cvt .u64 (.t 62)),.q 64 (.bin .add true (.t 58) (.t 63)),.v 5 64])))) (.reg [.v 48 6,.q 49 (.bin .add true (.t 48) (.i 1)),.v 6 49])))))) (.seq (.seq (.reg [.v 65 4,.q 66 (.bin .eql true (.t 65) (.i 1))]) (.cond (.t 66) (.seq (.seq (.reg [.v 67 5,.q 68 (.bin .gtr true (.t 67) (.k (.int .u64 9223372036854775808)))]) (.cond (.t 68) (.seq (.reg [.q 2 (.mv (.i 0)),.q 3 (.mv (.i 1))]) .ret) .skip)) (.seq (.reg [.v 69 5,.q 70 (.bin .sub true (.t 69) (.k (.int .u64 1))),.q 71 (.cvt .i64 (.t 70)),.q 72 (.bin .sub true (.i 0) (.t 71)),.q 73 (.bin .sub true (.t 72) (.i 1)),.v 2 73,.q 3 (.mv (.i 0))]) .ret)) .skip)) (.seq (.seq (.reg [.v 74 5,.q 75 (.bin .gtr true (.t 74) (.k (.int .u64 9223372036854775807)))]) (.cond (.t 75) (.seq (.reg [.q 2 (.mv (.i 0)),.q 3 (.mv (.i 1))]) .ret) .skip)) (.seq (.reg [.v 76 5,.q 77 (.cvt .i64 (.t 76)),.v 2 77,.q 3 (.mv (.i 0))]) .ret)))))
@[go_sem ↓] theorem YU:bT pc118_4:=bW _
def LJ:PC:=.seq (.reg [.q 2 (.mv (.i 0)),.q 3 (.mv (.i 0))]) (.seq (.reg [.q 4 (.mv (.i 0))]) (.seq (.seq (.reg [.v 7 4,.v 8 0,.q 9 (.lnS (.t 8)),.q 10 (.bin .lss true (.t 7) (.t 9)),.v 11 10,⟨some 12,(some (11,true)),.q (.mv (.t 0))⟩,⟨some 13,(some (11,true)),.ix (.t 12) (.i 0)⟩,⟨some 14,(some (11,true)),.q (.bin .eql true (.t 13) (.k (.int .u8 45)))⟩,.a 15 (.pick (.t 11) (.t 14) (.k (.bool false)))]) (.cond (.t 15) (.reg [.q 4 (.mv (.i 1))]) .skip)) (pc118_4)))
def zD:List RV:=[.mv (.t 2),.mv (.t 3)]
theorem WL:aT Tryz.prog true ⟨fun r k=>if r=10/\k=3 then .q else .own [],fun r=>[4].contains r⟩ Tryz.f118=some (LJ,zD):=by kernel_rfl
def c8 (c:Int):Bool:=(decide (97<=c) && decide (c<=122)) || (decide (65<=c) && decide (c<=90))
def kR (c:Int):Bool:=decide (48<=c) && decide (c<=57)
def jU (c:Int):Bool:=c8 c || kR c || c == 95
def marksB:List UInt8:=[123,125,40,41,91,93,58,59,44,61,46,63,33,38,124,64]
def d3 (c:Int):Bool:=decide (c.toNat.toUInt8 ∈ marksB)
def cW (c:Int):Int:=
 bif c == 32 || c == 9 || c == 10 then 1 else bif c == 35 then 2 else bif c8 c then 3 else bif kR c then 4
 else bif c == 45 then 5 else bif c == 95 then 6 else bif c == 34 then 7 else bif d3 c then 8 else 0
theorem yU (l:List UInt8) (c:UInt8):decide (0<=Lib.indexByte l c)=decide (c ∈ l):=by
 rw [decide_eq_decide]
 induction l with
 | nil=>simp [Lib.indexByte]
 | cons b l ih=>
  have hge:=Lib.indexByte_ge l c
  rw [Lib.indexByte]
  by_cases hb:b=c
  · simp [hb]
  · have hb2:(b == c)=false:=by simpa using hb
    have hb3:¬ c=b:=fun e=>hb e.symm
    simp only [hb2,Bool.false_eq_true,if_false,List.mem_cons,hb3,false_or,<-ih]
    by_cases h:Lib.indexByte l c=-1
    · simp [h]
    · have h2:(Lib.indexByte l c == -1)=false:=by simpa using h
      simp only [h2,Bool.false_eq_true,if_false]; omega
def cP (l:List UInt8) (at':Nat):Int:=match l[at']? with | some c=>cW c.toNat | none=>-1
def dT:Bool->List UInt8->Nat
 | _,[]=>0
 | r,c :: l=>
  let r':=bif c == 35 then true else bif c == 10 then false else r
  bif !r' && !(c == 32 || c == 9 || c == 10) then 0 else dT r' l + 1
def bP (l:List UInt8) (a:Nat):Nat:=a + dT false (l.drop a)
theorem sZ:∀ r l,dT r l<=l.length
 | _,[]=>Nat.le_refl 0
 | r,c :: l=>by
  simp only [dT,List.length_cons]
  cases hh:(!(bif c == 35 then true else bif c == 10 then false else r) && !(c == 32 || c == 9 || c == 10))
  · have:=sZ (bif c == 35 then true else bif c == 10 then false else r) l; simp only [aH]; omega
  · simp
theorem lU {l:List UInt8} {a:Nat} (h:a<=l.length):bP l a<=l.length:=by
 have:=sZ false (l.drop a); simp at this; unfold bP; omega
theorem QW (c:UInt8):(cW c.toNat == 1)=(c == 32 || c == 9 || c == 10):=by
 have:=dB (p:=fun c=>(cW c.toNat == 1) == (c == 32 || c == 9 || c == 10)) (by decide +kernel) c
 simpa using this
theorem KY (c:UInt8):(cW c.toNat == 2)=(c == 35):=by
 have:=dB (p:=fun c=>(cW c.toNat == 2) == (c == 35)) (by decide +kernel) c
 simpa using this
theorem x6 (l:List UInt8):dT true l=bif decide (0<=Lib.indexByte l 10) then (Lib.indexByte l 10).toNat + dT false (l.drop (Lib.indexByte l 10).toNat) else l.length:=by
 induction l with
 | nil=>rfl
 | cons c l ih=>
  have hge:=Lib.indexByte_ge l 10
  by_cases hc:c=10
  · subst hc; simp [dT,Lib.indexByte]
  · have hc2:(c == 10)=false:=by simpa using hc
    have e:dT true (c :: l)=dT true l + 1:=by simp [dT,hc2]
    rw [e,ih,Lib.indexByte]
    simp only [hc2,Bool.false_eq_true,if_false]
    by_cases h:Lib.indexByte l 10=-1
    · simp [h]
    · have h2:(Lib.indexByte l 10 == -1)=false:=by simpa using h
      have h3:0<=Lib.indexByte l 10:=by omega
      have h4:0<=Lib.indexByte l 10 + 1:=by omega
      have h5:(Lib.indexByte l 10 + 1).toNat=(Lib.indexByte l 10).toNat + 1:=by omega
      simp only [h2,Bool.false_eq_true,if_false,h3,h4,decide_true,aO,h5,List.drop_succ_cons]
      omega
theorem cC {l:List UInt8} {i:Nat} {c:UInt8} (h:l[i]? = some c):l.drop i=c :: l.drop (i + 1):=by
 obtain ⟨hi,rfl⟩:=aU.1 h
 exact List.drop_eq_getElem_cons hi
theorem GG {l:List UInt8} {i:Nat} {c:UInt8} (h:l[i]? = some c) (hc:(c == 32 || c == 9 || c == 10)=true):bP l (i + 1)=bP l i:=by
 have h35:(c == 35)=false:=by
  have:=dB (p:=fun c=>!(c == 32 || c == 9 || c == 10) || !(c == 35)) (by decide +kernel) c
  simp only [hc,Bool.not_true,Bool.false_or] at this; simpa using this
 simp only [bP,cC h,dT,h35,hc,aH,Bool.not_true,Bool.and_false,Bool.cond_self]
 omega
theorem GC {l:List UInt8} {i:Nat} {c:UInt8} (h:l[i]? = some c) (hc:(c == 32 || c == 9 || c == 10)=false) (h35:(c == 35)=false):bP l i=i:=by
 simp only [bP,cC h,dT,h35,hc,aH,Bool.not_false,Bool.and_true,Bool.cond_self]
 simp
theorem BP {l:List UInt8} {i:Nat} (h:l.length<=i):bP l i=i:=by
 simp [bP,List.drop_eq_nil_iff.2 h,dT]
theorem xM {l:List UInt8} {i:Nat} (h:l[i]? = some 35):bP l i=i + dT true (l.drop i):=by
 simp [bP,cC h,dT]
theorem GF {l:List UInt8} {i:Nat} (h:l[i]? = some 35) (h0:0<=Lib.indexByte (l.drop i) 10) :
 ∃ n:Nat,Lib.indexByte (l.drop i) 10=n/\0 < n/\i + n<=l.length/\bP l (i + n)=bP l i:=by
 obtain ⟨n,hn⟩:∃ n:Nat,Lib.indexByte (l.drop i) 10=n:=⟨_,(Int.toNat_of_nonneg h0).symm⟩
 have h1:dT true (l.drop i)=n + dT false ((l.drop i).drop n):=by rw [x6,hn]; simp
 have hp:0 < n:=by
  rcases Nat.eq_zero_or_pos n with h2 | h2
  · subst h2; rw [cC h,Lib.indexByte] at hn
    exfalso
    have hge:=Lib.indexByte_ge (l.drop (i + 1)) 10
    simp at hn
    split at hn<;>omega
  · exact h2
 have hle:=sZ true (l.drop i)
 simp only [List.length_drop] at hle
 have hi:i < l.length:=(aU.1 h).1
 refine ⟨n,hn,hp,by omega,?_⟩
 rw [xM h,h1,bP,List.drop_drop]
 omega
theorem FJ {l:List UInt8} {i:Nat} (h:l[i]? = some 35) (h0:¬ 0<=Lib.indexByte (l.drop i) 10):bP l l.length=bP l i:=by
 have hi:i < l.length:=(aU.1 h).1
 rw [xM h,x6,BP (Nat.le_refl _)]
 simp [h0]; omega
inductive R where
 | ok (k:Int) (t:List UInt8) (n:Int) (z:Nat)
 | bad (e t:Int)
def bJ (c:UInt8):Bool:=jU c.toNat
def bI (p:UInt8->Bool) (l:List UInt8) (a:Nat):Nat:=a + ((l.drop a).takeWhile p).length
theorem fO {p:UInt8->Bool} {l:List UInt8} {a:Nat} {c:UInt8} (h:l[a]? = some c) (hp:p c=true):bI p l (a + 1)=bI p l a:=by
 simp only [bI,cC h,List.takeWhile_cons,hp,if_true,List.length_cons]; omega
theorem jZ {p:UInt8->Bool} {l:List UInt8} {a:Nat} (h:∀ c,l[a]? = some c->p c=false):bI p l a=a:=by
 rcases cM a l.length with h1 | h1
 · have h2:=getD_some (l:=l) 0 h1
   simp only [bI,cC h2,List.takeWhile_cons,h _ h2,Bool.false_eq_true,if_false,List.length_nil,Nat.add_zero]
 · simp [bI,List.drop_eq_nil_iff.2 h1]
theorem kZ {p:UInt8->Bool} {l:List UInt8} {a:Nat} (h:a<=l.length):bI p l a<=l.length:=by
 have:=(List.takeWhile_sublist (l:=l.drop a) p).length_le
 simp at this; unfold bI; omega
theorem nL {p:UInt8->Bool} {l:List UInt8} {a:Nat}:a<=bI p l a:=by unfold bI; omega
theorem BC (c:UInt8):(cW c.toNat == 3 || cW c.toNat == 4 || cW c.toNat == 6)=bJ c:=by
 have:=dB (p:=fun c=>(cW c.toNat == 3 || cW c.toNat == 4 || cW c.toNat == 6) == bJ c) (by decide +kernel) c
 simpa using this
theorem SQ (c:UInt8):(cW c.toNat == 5)=(c == 45):=by
 have:=dB (p:=fun c=>(cW c.toNat == 5) == (c == 45)) (by decide +kernel) c
 simpa using this
def eW (l:List UInt8) (a:Nat):R:=
 let z:=bI bJ l a
 bif decide (16 < z - a) then .bad 3 a else bif l[z]? == some 45 then .bad 2 z else .ok 1 ((l.take z).drop a) 0 z
theorem n8 {p:UInt8->Bool} {l:List UInt8} {a:Nat}:∀ c ∈ (l.take (bI p l a)).drop a,p c=true:=by
 intro c hc
 have e:(l.take (bI p l a)).drop a=(l.drop a).takeWhile p:=by
  rw [List.drop_take,bI,Nat.add_sub_cancel_left]
  exact (List.prefix_iff_eq_take.1 (List.takeWhile_prefix p)).symm
 rw [e] at hc
 have:∀ (q:List UInt8),∀ c ∈ q.takeWhile p,p c=true:=by
  intro q
  induction q with
  | nil=>intro c h; simp at h
  | cons x q ih=>
   intro c h
   rw [List.takeWhile_cons] at h
   split at h
   · rcases List.mem_cons.1 h with rfl | h
     · assumption
     · exact ih c h
   · simp at h
 exact this _ c hc
def bD (c:UInt8):Bool:=kR c.toNat
theorem Z4 (c:UInt8):(cW c.toNat == 4)=bD c:=by
 have:=dB (p:=fun c=>(cW c.toNat == 4) == bD c) (by decide +kernel) c
 simpa using this
theorem S5 (c:UInt8):(cW c.toNat == 3 || cW c.toNat == 6 || cW c.toNat == 5)=((bJ c && !bD c) || c == 45):=by
 have:=dB (p:=fun c=>(cW c.toNat == 3 || cW c.toNat == 6 || cW c.toNat == 5) == ((bJ c && !bD c) || c == 45)) (by decide +kernel) c
 simpa using this
theorem lY {c:UInt8}:bD c=true ↔ 48<=c.toNat/\c.toNat<=57:=by
 simp [bD,kR]; omega
def valL (lim:Nat):Nat->List UInt8->Option Nat
 | n,[]=>some n
 | n,c :: l=>if (lim - (c.toNat - 48)) / 10 < n then none else valL lim (10 * n + (c.toNat - 48)) l
def cF (neg:Bool):Nat:=bif neg then 9223372036854775808 else 9223372036854775807
theorem ED {lim:Nat} (h:9<=lim):∀ {l:List UInt8} {n m:Nat},n<=lim->(∀ c ∈ l,bD c=true)->valL lim n l=some m->m<=lim
 | [],n,m,hn,_,hv=>by simp [valL] at hv; omega
 | c :: l,n,m,hn,hd,hv=>by
  simp only [valL] at hv
  split at hv
  · cases hv
  · rename_i hc
    have:=lY.1 (hd c (by simp))
    exact ED h (by omega) (fun x hx=>hd x (by simp [hx])) hv
def signed (neg:Bool) (n:Nat):Int:=bif neg then -n else n
def lC (l:List UInt8) (i:Nat):Bool:=match l[i]? with | some c=>bJ c && !bD c || c == 45 | none=>false
def fF (l:List UInt8) (a:Nat):R:=
 let neg:=l[a]? == some 45
 let f:=bif neg then a + 1 else a
 let z:=bI bD l f
 let s:=(l.take z).drop f
 bif s == [] || (s[0]? == some 48 && (decide (1 < s.length) || neg)) then .bad 2 a
 else match valL (cF neg) 0 s with
  | none=>.bad 4 a
  | some n=>bif lC l z then .bad 2 z else .ok 2 [] (signed neg n) z
end Go.Proofs.YtgogpogophflhaaGreatDoor
namespace Go.Proofs
open Go.Shelf
def Tryz.lays137_ren:Go.Shelf.Ren:=⟨fun | 137=>119 | 217=>131 | 266=>139 | n=>n,fun | 9=>9 | 5=>5 | 3=>3 | n=>n,fun | n=>n⟩
theorem Tryz.lays137:Go.Proofs.Lays.n137 Tryz.prog Tryz.lays137_ren:={
 mixed:=by kernel_rfl
 f137:=Tryz.func119.trans (congrArg some (by kernel_rfl))
 f217:=Tryz.func131.trans (congrArg some (by kernel_rfl))
 f266:=Tryz.func139.trans (congrArg some (by kernel_rfl))
 t3:=Tryz.underlying3
 a3:=Tryz.isAgg3
 z3:=Tryz.sizeOf3
 v3:=Tryz.zeroValue3
 t5:=Tryz.underlying5
 a5:=Tryz.isAgg5
 z5:=Tryz.sizeOf5
 v5:=Tryz.zeroValue5
 t9:=Tryz.underlying9
 a9:=Tryz.isAgg9
 z9:=Tryz.sizeOf9
 v9:=Tryz.zeroValue9 }
open Go.RowKit in
theorem Tryz.strings_IndexByte (s:ByteArray) (c:Int) (w:World) :
 Calls Tryz.prog 119 #[.string s,.int .u8 c] w fun e w'=>e=.returned (.int .i64 (Lib.indexByte s.data.toList c.toNat.toUInt8))/\w'=w:=Any.strings_IndexByte Tryz.lays137 s c w
end Go.Proofs
namespace Go.Proofs.YtgogpogophflhaaGreatDoor
open Go.W
abbrev iA (k:IntKind) (n:Int):A:=.c1 (.vl (.int k n))
abbrev bA (b:Bool):A:=.c1 (.vl (.bool b))
abbrev tA (b:ByteArray):A:=.c1 (.vl (.string b))
def qI:List S->Prop:=fun xs=>match xs with
 | [.va (.c1 (.vl (.int .u8 c)))]=>0<=c/\c<=255
 | _=>False
theorem eN {xs:List S} (h:qI xs):∃ c:Int,xs=[iS .u8 c]/\0<=c/\c<=255:=by
 unfold qI at h
 split at h
 · exact ⟨_,rfl,h⟩
 · exact h.elim
def C9 (f:Int->Value):List S->A:=fun xs=>match xs with
 | [.va (.c1 (.vl (.int .u8 c)))]=>.c1 (.vl (f c))
 | _=>.gs []
def iC (f:Int->Value):Fun:=⟨qI,C9 f,fun xs h=>by obtain ⟨c,rfl,_⟩:=eN h; trivial⟩
theorem iZ {f:Int->Value}:∀ xs H K,(iC f).sp xs H K->xs.length=1:=fun xs H K h=>by obtain ⟨c,rfl,_⟩:=eN h.1.1; rfl
attribute [go_sem] iC qI C9
def yY:List S->Prop:=fun xs=>match xs with | [.va (.c1 (.vl (.string _))),.va (.c1 (.vl (.int .u8 _)))]=>True | _=>False
def MI:List S->A:=fun xs=>match xs with | [.va (.c1 (.vl (.string s))),.va (.c1 (.vl (.int .u8 c)))]=>iA .i64 (Lib.indexByte (bl s) c.toNat.toUInt8) | _=>.gs []
theorem vP {xs:List S} (h:yY xs):∃ s c,xs=[tS s,iS .u8 c]:=by
 unfold yY at h
 split at h
 · exact ⟨_,_,rfl⟩
 · exact h.elim
def fnIb:Fun:=⟨yY,MI,fun xs h=>by obtain ⟨s,c,rfl⟩:=vP h; trivial⟩
attribute [go_sem] fnIb yY MI
theorem YH:Meets Tryz.prog 119 fnIb.sp:=by
 refine ⟨by kernel_rfl,?_⟩
 rintro xs vs E ro w K hl hrel hr ⟨⟨h,hE⟩,hK⟩ _
 obtain ⟨s,c,rfl⟩:=vP h
 obtain ⟨v0,v1,rfl⟩:∃ v0 v1,vs=[v0,v1]:=by
  match vs,hl with
  | [v0,v1],_=>exact ⟨v0,v1,rfl⟩
 have h0:v0=.string s:=hrel 0 _ _ rfl rfl
 have h1:v1=.int .u8 c:=hrel 1 _ _ rfl rfl
 subst h0 h1
 refine (Tryz.strings_IndexByte s c w).mono ?_
 rintro e w' ⟨rfl,rfl⟩
 exact ⟨iS .i64 _,_,E,ro,rfl,rfl,by rw [hE]; exact hK,hr⟩
theorem C4:Meets Tryz.prog 87 (iC fun c=>.bool (c8 c)).sp:=by
 refine aF Tryz.func87 ZA 1 (by rw [Tryz.ntmps87]; decide) (aB _) iZ ?_
 rintro xs H K ⟨⟨h,rfl⟩,hK⟩
 obtain ⟨c,rfl,hc⟩:=eN h
 simp -dsimp only [go_sem,Q3,QL] at hK ⊢
 and_intros
 all_goals first | exact cH hK (by simp [c8]) | (simp; omega)
theorem uH:Meets Tryz.prog 89 (iC fun c=>.bool (kR c)).sp:=by
 refine aF Tryz.func89 ZN 1 (by rw [Tryz.ntmps89]; decide) (aB _) iZ ?_
 rintro xs H K ⟨⟨h,rfl⟩,hK⟩
 obtain ⟨c,rfl,hc⟩:=eN h
 simp -dsimp only [go_sem,TL,QU] at hK ⊢
 exact cH hK (by simp [kR])
theorem HI:Meets Tryz.prog 117 (iC fun c=>.bool (jU c)).sp:=by
 refine aF Tryz.func117 WP 1 (by rw [Tryz.ntmps117]; decide) (aK C4 (aK uH (aB _))) iZ ?_
 rintro xs H K ⟨⟨h,rfl⟩,hK⟩
 obtain ⟨c,rfl,hc⟩:=eN h
 simp -dsimp only [go_sem,MM,LL] at hK ⊢
 and_intros
 all_goals first | exact cH hK (by simp [jU]) | (intros; simp_all; done) | omega
theorem H8:Meets Tryz.prog 108 (iC fun c=>.int .i64 (cW c)).sp:=by
 refine aF Tryz.func108 WQ 1 (by rw [Tryz.ntmps108]; decide) (aK YH (aB _)) iZ ?_
 rintro xs H K ⟨⟨h,rfl⟩,hK⟩
 obtain ⟨c,rfl,hc⟩:=eN h
 simp -dsimp (maxSteps:=9^6) only [go_sem,LW,LY] at hK ⊢
 have hw:IntKind.i32.wrap c=c:=lJ (by simp [inr,IntKind.min,IntKind.max,IntKind.signed,IntKind.bits]; omega)
 rw [hw]
 have hm:decide (0<=Lib.indexByte [123,125,40,41,91,93,58,59,44,61,46,63,33,38,124,64] c.toNat.toUInt8)=d3 c:=yU _ _
 rw [hm]
 clear hm hw
 refine ⟨fun h1=>cH hK ?_,fun h1=>⟨fun h2=>cH hK ?_,fun h2=>⟨by simp; omega,fun h3=>cH hK ?_,fun h3=>⟨fun h4=>cH hK ?_,fun h4=>⟨fun h5=>cH hK ?_,fun h5=>⟨fun h6=>cH hK ?_,fun h6=>⟨fun h7=>cH hK ?_,fun h7=>⟨fun h8=>cH hK ?_,fun h8=>cH hK ?_⟩⟩⟩⟩⟩⟩⟩⟩
 all_goals simp only [cW,c8,kR, *,aO,aH]
theorem WW:Meets Tryz.prog 92 (iC fun c=>.bool (d3 c)).sp:=by
 refine aF Tryz.func92 aB6 1 (by rw [Tryz.ntmps92]; decide) (aB _) iZ ?_
 rintro xs H K ⟨⟨h,rfl⟩,hK⟩
 obtain ⟨c,rfl,hc⟩:=eN h
 simp -dsimp only [go_sem,TD,Q4] at hK ⊢
 have hml:marksB.length=16:=rfl
 refine a7 (α:=Nat) (fun i=>[(0,iS .u8 c),(3,.va (tA (mk marksB))),(4,iS .i64 i)]) (fun _=>[]) (fun i=>i<=16/\∀ j < i,marksB[j]? ≠ some c.toNat.toUInt8) (fun i=>16 - i) 0 0 ⟨by omega,by omega⟩ ?_ rfl ?_
 · simp [go_sem,marksB]
 rintro i ⟨hi,hj⟩
 simp -dsimp only [go_sem,hml]
 refine ⟨fun h1=>⟨by simp at h1; omega,fun b hb=>⟨fun h2=>cH hK ?_,fun h2=>⟨by omega,aD (i + 1) 0 ⟨by simp at h1; omega,?_⟩ (by simp at h1; omega) (by simp [go_sem]) rfl⟩⟩⟩,fun h1=>cH hK ?_⟩
 · simp only [d3]
   congr; symm
   rw [decide_eq_true_eq]
   simp at h2
   rw [<-h2]
   simpa using b6 hb
 · intro j hj2 e
   by_cases hji:j=i
   · subst hji
     rw [hb] at e
     simp only [aC] at e
     rw [e] at h2
     simp at h2; omega
   · exact hj j (by omega) e
 · simp only [d3]
   congr; symm
   rw [decide_eq_false_iff_not]
   intro hm
   obtain ⟨j,h3⟩:=List.mem_iff_getElem?.1 hm
   refine hj j ?_ h3
   have:=(aU.1 h3).1
   simp at h1; omega
abbrev iT (s:ByteArray) (a e t:Int):B:=.cells [.vl (.string s),.vl (.int .i64 a),.vl (.int .i64 e),.vl (.int .i64 t)] 92
def pW (pre:List UInt8->Int->Int->Int->Prop) (post:ByteArray->Int->Int->Int->(S->Hp->Prop)->Prop):W.Spec:=fun xs H K=>
 match xs,H with
 | [.va (.c1 (.pt 0 0))],[.cells [.vl (.string s),.vl (.int .i64 a),.vl (.int .i64 e),.vl (.int .i64 t)] 92]=>
  (0<=a/\a<=(bl s).length/\(bl s).length<=4000/\pre (bl s) a e t)/\post s a e t K
 | _,_=>False
theorem j6 {pre:List UInt8->Int->Int->Int->Prop} {post:ByteArray->Int->Int->Int->(S->Hp->Prop)->Prop} {xs:List S} {H:Hp} {K:S->Hp->Prop} (h:pW pre post xs H K) :
 ∃ s a e t,xs=[.va (.c1 (.pt 0 0))]/\H=[iT s a e t]/\0<=a/\a<=(bl s).length/\(bl s).length<=4000/\pre (bl s) a e t/\post s a e t K:=by
 unfold pW at h
 split at h
 · obtain ⟨⟨h1,h2,h3,h4⟩,h5⟩:=h
   exact ⟨_,_,_,_,rfl,rfl,h1,h2,h3,h4,h5⟩
 · exact h.elim
theorem tC {pre:List UInt8->Int->Int->Int->Prop} {post:ByteArray->Int->Int->Int->(S->Hp->Prop)->Prop}:∀ xs H K,pW pre post xs H K->xs.length=1:=fun xs H K h=>by
 obtain ⟨s,a,e,t,rfl,_⟩:=j6 h; rfl
attribute [go_sem ↓] pW
def vD:W.Spec:=pW (fun _ _ _ _=>True) fun s a e t K=>K (iS .i64 (cP (bl s) a.toNat)) [iT s a e t]
attribute [go_sem ↓] vD iT
theorem yZ:Meets Tryz.prog 101 vD:=by
 refine aF Tryz.func101 VR 1 (by rw [Tryz.ntmps101]; decide) (aK H8 (aB _)) tC ?_
 intro xs H K h
 obtain ⟨s,a,e,t,rfl,rfl,h0,h1,h2,-,hK⟩:=j6 h
 simp -dsimp only [go_sem,L7,K8] at hK ⊢
 refine ⟨fun h3=>cH hK ?_,fun h3=>⟨by simp at h3; omega,fun c hc=>⟨⟨by omega,by have:=c.toNat_lt; omega⟩,cH hK ?_⟩⟩⟩
 · simp at h3; rw [cP,List.getElem?_eq_none (by omega)]
 · rw [cP,hc]
def m3:W.Spec:=fun xs H K=>
 match xs,H with
 | [.va (.c1 (.pt 0 0)),.va (.c1 (.vl (.int .i64 x))),.va (.c1 (.vl (.int .i64 y)))],[.cells [.vl (.string s),.vl (.int .i64 a),.vl (.int .i64 e),.vl (.int .i64 t)] 92]=>
  K (.tu []) [iT s a (bif e == 0 then x else e) (bif e == 0 then y else t)]
 | _,_=>False
attribute [go_sem ↓] m3
theorem rV {xs:List S} {H:Hp} {K:S->Hp->Prop} (h:m3 xs H K) :
 ∃ x y s a e t,xs=[.va (.c1 (.pt 0 0)),iS .i64 x,iS .i64 y]/\H=[iT s a e t]/\K (.tu []) [iT s a (bif e == 0 then x else e) (bif e == 0 then y else t)]:=by
 unfold m3 at h
 split at h
 · exact ⟨_,_,_,_,_,_,rfl,rfl,h⟩
 · exact h.elim
theorem zI:Meets Tryz.prog 105 m3:=by
 refine aF Tryz.func105 WM 3 (by rw [Tryz.ntmps105]; decide) (aB _) (fun xs H K h=>by obtain ⟨x,y,s,a,e,t,rfl,_⟩:=rV h; rfl) ?_
 intro xs H K h
 obtain ⟨x,y,s,a,e,t,rfl,rfl,hK⟩:=rV h
 simp -dsimp only [go_sem,M5,K5] at hK ⊢
 refine ⟨fun h1=>?_,fun h1=>?_⟩
 · simp only [h1,aO] at hK; exact .done hK
 · simp only [h1,aH] at hK; exact .done hK
def H4:W.Spec:=pW (fun _ _ _ _=>True) fun s a e t K=>K (.tu []) [iT s (bP (bl s) a.toNat) e t]
attribute [go_sem ↓] H4
theorem XN:Meets Tryz.prog 100 H4:=by
 refine aF Tryz.func100 VU 1 (by rw [Tryz.ntmps100]; decide) (aA yZ (aK YH (aB _))) tC ?_
 intro xs H K h
 obtain ⟨s,a,e,t,rfl,rfl,h0,h1,h2,-,hK⟩:=j6 h
 simp -dsimp only [go_sem,NJ,LR] at hK ⊢
 refine a7 (α:=Nat) (fun i=>[(0,.va (.c1 (.pt 0 0)))]) (fun i=>[iT s i e t]) (fun i=>i<=(bl s).length/\bP (bl s) i=bP (bl s) a.toNat) (fun i=>(bl s).length - i) a.toNat 1 ⟨by omega,rfl⟩ ?_ ?_ ?_
 · simp [go_sem]
 · simp [go_sem]; omega
 rintro i ⟨hi,hj⟩
 simp -dsimp only [go_sem]
 have hget:i < (bl s).length->(bl s)[i]? = some ((bl s).getD i 0):=getD_some 0
 refine ⟨fun h3=>⟨⟨by omega,by omega,h2⟩,fun h4=>⟨by omega,aD (i + 1) 1 ?_ ?_ ?_ ?_⟩,fun h4=>⟨fun h5=>⟨by omega,fun h6=>?_,fun h6=>?_⟩,fun h5=>?_⟩⟩,fun h3=>?_⟩
 · simp at h3
   have h7:=hget h3
   rw [cP,h7] at h4
   simp only [QW] at h4
   exact ⟨h3,by rw [GG h7 h4,hj]⟩
 · simp at h3; omega
 · simp [go_sem]
 · simp [go_sem]
 · simp at h3
   have h7:=hget h3
   rw [cP,h7] at h5
   simp only [KY,beq_iff_eq] at h5
   rw [h5] at h7
   have h8:Nat.toUInt8 10=(10:UInt8):=rfl
   rw [h8] at h6 ⊢
   obtain ⟨n,hn,hp,hl,hs⟩:=GF h7 (by simpa using h6)
   rw [hn]
   refine ⟨by omega,aD (i + n) 1 ⟨hl,by rw [hs,hj]⟩ (by omega) (by simp [go_sem]) (by simp [go_sem])⟩
 · simp at h3
   have h7:=hget h3
   rw [cP,h7] at h5
   simp only [KY,beq_iff_eq] at h5
   rw [h5] at h7
   have h8:Nat.toUInt8 10=(10:UInt8):=rfl
   rw [h8] at h6
   exact aD (bl s).length 1 ⟨Nat.le_refl _,by rw [FJ h7 (by simpa using h6),hj]⟩ (by omega) (by simp [go_sem]) (by simp [go_sem])
 · simp at h3
   have h7:=hget h3
   rw [cP,h7] at h5 h4
   simp only [KY,QW] at h5 h4
   rw [<-hj,GC h7 h4 h5] at hK
   exact .done hK
 · simp at h3
   rw [<-hj,BP h3] at hK
   exact .done hK
abbrev oQ (k:Int) (x:ByteArray) (n a:Int):List C:=[.vl (.int .i64 k),.vl (.string x),.vl (.int .i64 n),.vl (.int .i64 a)]
def iV (s:ByteArray) (a:Int) (K:S->Hp->Prop):R->Prop
 | .ok k x n z=>K (.va (.gs (oQ k (mk x) n a))) [iT s z 0 0]
 | .bad e' t'=>∀ k x n y (z:Nat),K (.va (.gs (oQ k x n y))) [iT s z e' t']
def X2:R->Int->Int->ByteArray->Int->Int->Int->Int->Int->Prop
 | .ok k x n z,a,k',x',n',a',z',e',t'=>k'=k/\x'=mk x/\n'=n/\a'=a/\z'=z/\e'=0/\t'=0
 | .bad e t,_,_,_,_,_,z',e',t'=>e'=e/\t'=t/\∃ z:Nat,z'=z
def E0 (s:ByteArray) (a:Int) (K:S->Hp->Prop) (r:R):Prop:=∀ k x n y z e t,X2 r a k x n y z e t->K (.va (.gs (oQ k x n y))) [iT s z e t]
theorem P1 {s:ByteArray} {a:Int} {K:S->Hp->Prop} {r:R} (h:E0 s a K r):iV s a K r:=by
 cases r with
 | ok k x n z=>exact h _ _ _ _ _ _ _ ⟨rfl,rfl,rfl,rfl,rfl,rfl,rfl⟩
 | bad e t=>exact fun k x n y z=>h k x n y z e t ⟨rfl,rfl,z,rfl⟩
def rC (pre:List UInt8->Nat->Prop) (f:List UInt8->Nat->R):W.Spec:=pW (fun l a e t=>e=0/\t=0/\pre l a.toNat) fun s a _ _ K=>E0 s a K (f (bl s) a.toNat)
theorem kQ {pre:List UInt8->Nat->Prop} {f:List UInt8->Nat->R} {xs:List S} {H:Hp} {K:S->Hp->Prop} (h:rC pre f xs H K) :
 ∃ s a,xs=[.va (.c1 (.pt 0 0))]/\H=[iT s a 0 0]/\0<=a/\a<=(bl s).length/\(bl s).length<=4000/\pre (bl s) a.toNat/\iV s a K (f (bl s) a.toNat):=by
 obtain ⟨s,a,e,t,rfl,rfl,h0,h1,h2,⟨rfl,rfl,h3⟩,h4⟩:=j6 h
 exact ⟨_,_,rfl,rfl,h0,h1,h2,h3,P1 h4⟩
theorem qE {pre:List UInt8->Nat->Prop} {f:List UInt8->Nat->R}:∀ xs H K,rC pre f xs H K->xs.length=1:=fun xs H K h=>by
 obtain ⟨s,a,rfl,_⟩:=kQ h; rfl
attribute [go_sem ↓] rC oQ E0
def IT:W.Spec:=rC (fun _ _=>True) eW
attribute [go_sem ↓] IT
theorem W1:Meets Tryz.prog 102 IT:=by
 refine aF Tryz.func102 W5 1 (by rw [Tryz.ntmps102]; decide) (aA yZ (aA zI (aB _))) qE ?_
 intro xs H K h
 obtain ⟨s,a,rfl,rfl,h0,h1,h2,-,hK⟩:=kQ h
 simp -dsimp only [go_sem,LX,MQ] at hK ⊢
 refine ⟨⟨h0,h1,h2⟩,a7 (α:=Nat) (fun i=>[(0,.va (.c1 (.pt 0 0))),(2,.va (.c1 (.pt 1 0))),(3,iS .i64 a),(4,iS .i64 (cP (bl s) i))]) (fun i=>[iT s i 0 0,.cells (oQ 0 (mk []) 0 0) 74]) (fun i=>a.toNat<=i/\i<=(bl s).length/\bI bJ (bl s) i=bI bJ (bl s) a.toNat) (fun i=>(bl s).length - i) a.toNat 2 ⟨Nat.le_refl _,by omega,rfl⟩ ?_ ?_ ?_⟩
 · simp -dsimp only [go_sem]
 · simp [go_sem]; omega
 rintro i ⟨hai,hi,hj⟩
 simp -dsimp only [go_sem]
 have hget:i < (bl s).length->(bl s)[i]? = some ((bl s).getD i 0):=getD_some 0
 have hz:(cP (bl s) i == 3 || cP (bl s) i == 4 || cP (bl s) i == 6)=false->bI bJ (bl s) a.toNat=i:=fun h=>by
  rw [<-hj]; exact jZ fun c hc=>by rw [cP,hc] at h; simp only [BC] at h; exact h
 have hm:(cP (bl s) i == 5)=((bl s)[i]? == some 45):=by
  unfold cP
  cases hc:(bl s)[i]? with
  | none=>rfl
  | some c=>simp only [SQ]; rfl
 refine ⟨fun h3=>?_,fun h3=>?_⟩
 · have hlt:i < (bl s).length:=by
    rcases cM i (bl s).length with h4 | h4
    · exact h4
    · rw [cP,List.getElem?_eq_none h4] at h3; simp at h3
   have h7:=hget hlt
   refine ⟨by omega,⟨by omega,by omega,h2⟩,aD (i + 1) 2 ⟨by omega,hlt,?_⟩ (by omega) ?_ ?_⟩
   · rw [cP,h7] at h3; simp only [BC] at h3
     rw [fO h7 h3,hj]
   · simp -dsimp only [go_sem]; simp [go_sem]
   · simp [go_sem]
 · have hz:=hz h3
   simp only [eW,hz,hm.symm] at hK
   refine ⟨by omega,fun h4=>⟨⟨by omega,by omega,h2⟩,fun h5=>⟨by omega,?_⟩,fun h5=>⟨by omega,?_⟩⟩,fun h4=>⟨⟨by omega,by omega,h2⟩,fun h5=>⟨by omega,?_⟩,fun h5=>⟨by omega,?_⟩⟩⟩
   all_goals refine .sel [0] (by simp) (by simp) rfl (.done ?_)
   all_goals simp only [decide_eq_true_eq,decide_eq_false_iff_not] at h4
   · have h6:decide (16 < i - a.toNat)=true:=by simp; omega
     simp only [h6,aO,iV] at hK
     have:=hK 1 (mk (List.drop a.toNat (List.take i (bl s)))) 0 a i
     rw [Int.toNat_of_nonneg h0] at this
     exact this
   · have h6:decide (16 < i - a.toNat)=true:=by simp; omega
     simp only [h6,aO,iV] at hK
     have:=hK 1 (mk (List.drop a.toNat (List.take i (bl s)))) 0 a i
     rw [Int.toNat_of_nonneg h0] at this
     exact this
   · have h6:decide (16 < i - a.toNat)=false:=by simp; omega
     simp only [h6,h5,aO,aH,iV] at hK
     exact hK 1 (mk (List.drop a.toNat (List.take i (bl s)))) 0 a i
   · have h6:decide (16 < i - a.toNat)=false:=by simp; omega
     simp only [h6,h5,aH,iV] at hK
     exact hK
def pA (neg:Bool) (l:List UInt8):Int:=match valL (cF neg) 0 l with | some n=>signed neg n | none=>0
def mU (neg:Bool) (l:List UInt8):Bool:=(valL (cF neg) 0 l).isSome
def nJ:W.Spec:=fun xs H K=>
 match xs,H with
 | [.va (.c1 (.vl (.bool neg))),.va (.c1 (.vl (.string s)))],[]=>((bl s).length<=4000/\∀ c ∈ bl s,bD c=true)/\
  K (.tu [iA .i64 (pA neg (bl s)),bA (mU neg (bl s))]) []
 | _,_=>False
attribute [go_sem ↓] nJ
theorem rL {xs:List S} {H:Hp} {K:S->Hp->Prop} (h:nJ xs H K):∃ neg s,xs=[bS neg,tS s]/\H=[]/\(bl s).length<=4000/\(∀ c ∈ bl s,bD c=true)/\
 K (.tu [iA .i64 (pA neg (bl s)),bA (mU neg (bl s))]) []:=by
 unfold nJ at h
 split at h
 · exact ⟨_,_,rfl,rfl,h.1.1,h.1.2,h.2⟩
 · exact h.elim
theorem Q0:Meets Tryz.prog 120 nJ:=by
 refine aF Tryz.func120 XL 2 (by rw [Tryz.ntmps120]; decide) (aB _) (fun xs H K h=>by obtain ⟨neg,s,rfl,_⟩:=rL h; rfl) ?_
 intro xs H K h
 obtain ⟨neg,s,rfl,rfl,hl,hd,hK⟩:=rL h
 have rest:vc [] 0 pc120_4.ungh (cN [(0,bS neg),(1,tS s),(6,iS .u64 (cF neg))]) [] (eB 0 y7 K):=by
  simp -dsimp only [go_sem,pc120_4,y7]
  refine a7 (α:=Nat × Nat) (fun z=>[(0,bS neg),(1,tS s),(6,iS .u64 (cF neg)),(7,iS .u64 z.2),(12,iS .i64 (bl s).length),(13,iS .i64 z.1)]) (fun _=>[]) (fun z=>z.1<=(bl s).length/\z.2<=cF neg/\valL (cF neg) z.2 ((bl s).drop z.1)=valL (cF neg) 0 (bl s)) (fun z=>(bl s).length - z.1) (0,0) 0 ⟨by omega,by omega,rfl⟩ ?_ rfl ?_
  · simp [go_sem]
  rintro ⟨i,n⟩ ⟨hi,hn,hv⟩
  simp only at hi hn hv
  have hL:cF neg<=9223372036854775808/\9<=cF neg:=by cases neg<;>simp [cF]
  simp -dsimp only [go_sem]
  refine ⟨fun h1=>⟨by simp at h1; omega,fun c hc=>?_⟩,fun h1=>?_⟩
  · simp at h1
    have hdc:=lY.1 (hd c (b6 hc))
    have w1:IntKind.u64.wrap ((c.toNat:Int) - 48)=(c.toNat:Int) - 48:=lJ (by simp [inr,IntKind.min,IntKind.max,IntKind.signed,IntKind.bits]; omega)
    have hq:((cF neg:Int) - ((c.toNat:Int) - 48)).tdiv 10=((cF neg - (c.toNat - 48)) / 10:Nat):=by
     rw [Int.tdiv_eq_ediv_of_nonneg (by omega)]; omega
    rw [cC hc] at hv
    rw [w1,hq]
    refine ⟨by omega,by omega,⟨by decide,by omega⟩,fun h2=>?_,fun h2=>?_⟩
    · simp only [decide_eq_true_eq,Int.ofNat_lt] at h2
      simp only [valL,h2,if_true] at hv
      simp only [pA,mU,<-hv] at hK
      exact .done hK
    · simp only [decide_eq_false_iff_not,Int.ofNat_lt] at h2
      simp only [valL,h2,if_false] at hv
      refine ⟨by omega,by omega,by omega,aD (i + 1,10 * n + (c.toNat - 48)) 0 ⟨h1,by omega,hv⟩ (by simp only; omega) ?_ rfl⟩
      simp [go_sem]
      omega
  · simp at h1
    have hi2:i=(bl s).length:=by omega
    subst hi2
    simp only [List.drop_length,valL] at hv
    simp only [pA,mU,<-hv] at hK
    refine ⟨fun h2=>cH hK ?_,fun h2=>cH hK ?_⟩
    · subst h2
      simp [signed,iA,bA,IntKind.wrap,IntKind.signed,IntKind.bits]
      omega
    · subst h2
      simp [signed,iA,bA,IntKind.wrap,IntKind.signed,IntKind.bits,cF] at hn ⊢
      omega
 simp -dsimp only [go_sem,NH,y7]
 refine ⟨fun h=>bK 0 rest ?_ rfl,fun h=>bK 0 rest ?_ rfl⟩
 all_goals simp [go_sem,cF,h]
def MC:W.Spec:=rC (fun l a=>∃ c,l[a]? = some c/\(bD c=true\/c=45)) fF
attribute [go_sem ↓] MC
theorem CU {l:List UInt8} {i:Nat}:(cP l i == 4)=(match l[i]? with | some c=>bD c | none=>false):=by
 unfold cP
 cases l[i]? with
 | none=>rfl
 | some c=>exact Z4 c
theorem FV {l:List UInt8} {i:Nat}:(cP l i == 5)=(l[i]? == some 45):=by
 unfold cP
 cases hc:l[i]? with
 | none=>rfl
 | some c=>simp only [SQ]; rfl
theorem NU {l:List UInt8} {i:Nat}:(cP l i == 3 || cP l i == 6 || cP l i == 5)=lC l i:=by
 unfold cP lC
 cases hc:l[i]? with
 | none=>rfl
 | some c=>simp only [S5]
theorem PR:Meets Tryz.prog 103 MC:=by
 refine aF Tryz.func103 VE 1 (by rw [Tryz.ntmps103]; decide) (aA yZ (aA zI (aA Q0 (aB _)))) qE ?_
 intro xs H K h
 obtain ⟨s,a,rfl,rfl,h0,h1,h2,⟨c0,hc0,hc1⟩,hK⟩:=kQ h
 have hlt:a.toNat < (bl s).length:=(aU.1 hc0).1
 generalize hneg:((bl s)[a.toNat]? == some 45)=neg at hK
 generalize hfe:(bif neg then a.toNat + 1 else a.toNat)=f
 have hf1:a.toNat<=f/\f<=(bl s).length:=by subst hfe; cases neg<;>simp<;>omega
 have rest:vc [(101,.s vD),(105,.s m3),(120,.s nJ)] 1 pc103_5.ungh (cN [(0,.va (.c1 (.pt 0 0))),(2,.va (.c1 (.pt 1 0))),(3,iS .i64 a),(4,bS neg)]) [iT s f 0 0,.cells (oQ 0 (mk []) 0 0) 74] (eB 1 qQ K):=by
  simp -dsimp only [go_sem,pc103_5,qQ]
  refine a7 (α:=Nat) (fun i=>[(0,.va (.c1 (.pt 0 0))),(2,.va (.c1 (.pt 1 0))),(3,iS .i64 a),(4,bS neg),(5,iS .i64 f)]) (fun i=>[iT s i 0 0,.cells (oQ 0 (mk []) 0 0) 74]) (fun i=>f<=i/\i<=(bl s).length/\bI bD (bl s) i=bI bD (bl s) f) (fun i=>(bl s).length - i) f 2 ⟨Nat.le_refl _,hf1.2,rfl⟩ ?_ ?_ ?_
  · simp -dsimp only [go_sem]
  · simp -dsimp only [go_sem]
  rintro i ⟨hai,hi,hj⟩
  simp -dsimp only [go_sem]
  refine ⟨by omega,fun h3=>?_,fun h3=>?_⟩
  · rw [CU] at h3
    split at h3
    · rename_i c hc
      have hlt':=(aU.1 hc).1
      refine ⟨by omega,aD (i + 1) 2 ⟨by omega,hlt',by rw [fO hc h3,hj]⟩ (by omega) ?_ ?_⟩
      · simp -dsimp only [go_sem]
      · simp -dsimp only [go_sem]; simp
    · cases h3
  · have hz:bI bD (bl s) f=i:=by
     rw [<-hj]
     refine jZ fun c hc=>?_
     rw [CU,hc] at h3
     exact h3
    have hcond:∀ c:UInt8,((List.drop f (List.take i (bl s)) == [])=false->(List.drop f (List.take i (bl s)))[0]? = some c)->
     (List.drop f (List.take i (bl s)) == [] || (c.toNat:Int) == 48 && (decide (1 < ((List.drop f (List.take i (bl s))).length:Int)) || neg)) =
     (List.drop f (List.take i (bl s)) == [] || ((List.drop f (List.take i (bl s)))[0]? == some 48 && (decide (1 < (List.drop f (List.take i (bl s))).length) || neg))):=by
     intro c hc
     cases hd:(List.drop f (List.take i (bl s))) with
     | nil=>rfl
     | cons x l=>
      rw [hd] at hc
      have:=hc rfl
      simp only [List.getElem?_cons_zero,aC] at this
      subst this
      rw [eO 48]
      have h9:decide (1 < (((x :: l).length:Nat):Int))=decide (1 < (x :: l).length):=by rw [decide_eq_decide]; omega
      rw [h9]
      simp only [List.getElem?_cons_zero]
      rfl
    simp only [fF,hneg,hfe,hz] at hK
    refine ⟨by omega,fun h4=>⟨by omega,by cases hd:(List.drop f (List.take i (bl s)))<;>simp_all⟩,fun c hc=>⟨fun h5 h6=>by rw [h5]; simpa using h6,fun h5 h6=>by simp_all,fun h5=>?_,fun h5=>?_⟩⟩
    · rw [hcond c hc] at h5
      simp only [h5,aO,iV] at hK
      refine .sel [0] (by simp) (by simp) rfl (.done ?_)
      have:=hK 0 (mk []) 0 0 i
      rw [Int.toNat_of_nonneg h0] at this
      exact this
    · rw [hcond c hc] at h5
      simp only [h5,aH] at hK
      have hdig:∀ c ∈ List.drop f (List.take i (bl s)),bD c=true:=by
       intro c hc
       rw [<-hz] at hc
       exact n8 c hc
      refine ⟨⟨by simp; omega,hdig⟩,?_⟩
      have rest2:∀ e t:Int,(e=0/\t=0/\mU neg ((List.take i (bl s)).drop f)=true\/e=4/\t=a/\mU neg ((List.take i (bl s)).drop f)=false)->vc [(101,.s vD),(105,.s m3),(120,.s nJ)] 1 pc103_15.ungh (cN [(0,.va (.c1 (.pt 0 0))),(2,.va (.c1 (.pt 1 0))),(3,iS .i64 a),(7,iS .i64 (pA neg ((List.take i (bl s)).drop f)))]) [iT s i e t,.cells (oQ 0 (mk []) 0 0) 74] (eB 1 qQ K):=by
       intro e t het
       simp -dsimp only [go_sem,pc103_15,qQ]
       rw [NU]
       refine ⟨by omega,fun h7=>.sel [0] (by simp) (by simp) rfl (.done ?_),fun h7=>.sel [0] (by simp) (by simp) rfl (.done ?_)⟩
       · rcases het with ⟨rfl,rfl,hb⟩ | ⟨rfl,rfl,hb⟩
         · cases hv:valL (cF neg) 0 (List.drop f (List.take i (bl s))) with
           | none=>simp [mU,hv] at hb
           | some n=>
            simp only [hv,h7,aO,iV] at hK
            exact hK _ _ _ _ i
         · cases hv:valL (cF neg) 0 (List.drop f (List.take i (bl s))) with
           | some n=>simp [mU,hv] at hb
           | none=>
            simp only [hv,iV] at hK
            have:=hK 2 (mk []) (pA neg (List.drop f (List.take i (bl s)))) t i
            rw [Int.toNat_of_nonneg h0] at this
            exact this
       · rcases het with ⟨rfl,rfl,hb⟩ | ⟨rfl,rfl,hb⟩
         · cases hv:valL (cF neg) 0 (List.drop f (List.take i (bl s))) with
           | none=>simp [mU,hv] at hb
           | some n=>
            simp only [hv,h7,aH,iV] at hK
            simp only [pA,hv]
            exact hK
         · cases hv:valL (cF neg) 0 (List.drop f (List.take i (bl s))) with
           | some n=>simp [mU,hv] at hb
           | none=>
            simp only [hv,iV] at hK
            have:=hK 2 (mk []) (pA neg (List.drop f (List.take i (bl s)))) t i
            rw [Int.toNat_of_nonneg h0] at this
            exact this
      refine ⟨fun h6=>bK 2 (rest2 4 a (.inr ⟨rfl,rfl,by simpa using h6⟩)) ?_ ?_,fun h6=>bK 2 (rest2 0 0 (.inl ⟨rfl,rfl,by simpa using h6⟩)) ?_ ?_⟩
      all_goals simp -dsimp only [go_sem]
 simp -dsimp only [go_sem,MK,qQ]
 rw [FV,hneg]
 refine ⟨by omega,fun h3=>⟨by omega,bK 2 rest ?_ ?_⟩,fun h3=>bK 2 rest ?_ ?_⟩
 all_goals simp -dsimp only [go_sem]
 all_goals (subst h3; simp at hfe; subst hfe; simp; try omega)
abbrev AE (c:UInt8):List C:=[.vl (.int .u8 c.toNat)]
def mB (p:C) (n:Nat) (xs:List (List C)):Prop:=(p=.vl (.pointer none)\/p=.pt 0 0)/\n=xs.length/\(∀ r ∈ xs,∃ c:UInt8,r=AE c)/\xs.length<=1000000000
def FC:W.Spec:=fun av H K=>
 match av,H with
 | [.va (.c1 (.pt 0 0))],[.cells [p,.sl 1 n] 95,.row xs 5 1]=>mB p n xs/\K (.tu []) [.cells [.pt 0 0,.sl 1 n] 95,.row xs 5 1]
 | _,_=>False
theorem yO {av:List S} {H:Hp} {K:S->Hp->Prop} (h:FC av H K):∃ p n xs,av=[.va (.c1 (.pt 0 0))]/\H=[.cells [p,.sl 1 n] 95,.row xs 5 1]/\mB p n xs/\
 K (.tu []) [.cells [.pt 0 0,.sl 1 n] 95,.row xs 5 1]:=by
 unfold FC at h
 split at h
 · exact ⟨_,_,_,rfl,rfl,h⟩
 · exact h.elim
attribute [go_sem ↓] FC
theorem FB:Meets Tryz.prog 109 FC:=by
 refine aF Tryz.func109 W3 1 (by rw [Tryz.ntmps109]; decide) (aB _) (fun av H K h=>by obtain ⟨_,_,_,rfl,_⟩:=yO h; rfl) ?_
 intro av H K h
 obtain ⟨p,n,xs,rfl,rfl,hp,hK⟩:=yO h
 rcases hp.1 with rfl | rfl
 · simp -dsimp only [go_sem,GA,GK] at hK ⊢
   simp only [Option.isNone,Bool.true_eq_false,false_implies,and_true,true_implies]
   exact .done hK
 · simp -dsimp only [go_sem,GA,GK] at hK ⊢
   exact .done hK
def FX:W.Spec:=fun av H K=>
 match av,H with
 | [.va (.c1 (.pt 0 0)),.va (.c1 (.vl (.int .u8 c)))],[.cells [p,.sl 1 n] 95,.row xs 5 1]=>(mB p n xs/\0<=c/\c<=255)/\
  K (.va (.c1 (.vl .nilIface))) [.cells [.pt 0 0,.sl 1 (n + 1)] 95,.row (xs ++ [[.vl (.int .u8 c)]]) 5 1]
 | _,_=>False
theorem xR {av:List S} {H:Hp} {K:S->Hp->Prop} (h:FX av H K):∃ p n xs c,av=[.va (.c1 (.pt 0 0)),iS .u8 c]/\H=[.cells [p,.sl 1 n] 95,.row xs 5 1]/\mB p n xs/\(0<=c/\c<=255)/\
 K (.va (.c1 (.vl .nilIface))) [.cells [.pt 0 0,.sl 1 (n + 1)] 95,.row (xs ++ [[.vl (.int .u8 c)]]) 5 1]:=by
 unfold FX at h
 split at h
 · exact ⟨_,_,_,_,rfl,rfl,h.1.1,h.1.2,h.2⟩
 · exact h.elim
attribute [go_sem ↓] FX
theorem E4:Meets Tryz.prog 61 FX:=by
 refine aF Tryz.func61 aBO 2 (by rw [Tryz.ntmps61]; decide) (aA FB (aB _)) (fun av H K h=>by obtain ⟨_,_,_,_,rfl,_⟩:=xR h; rfl) ?_
 intro av H K h
 obtain ⟨p,n,xs,c,rfl,rfl,hp,hc,hK⟩:=xR h
 obtain ⟨hp1,rfl,hp2,hp3⟩:=hp
 rcases hp1 with rfl | rfl
 all_goals
  simp -dsimp only [go_sem,TY,PZ] at hK ⊢
  refine ⟨⟨by simp,rfl,hp2,hp3⟩,by omega,.sel [0,1] (by simp) (by simp) rfl (.done ?_)⟩
  simpa [go_sem] using hK
def yW:W.Spec:=fun av H K=>
 match av,H with
 | [.va (.c1 (.pt 0 0))],[.cells [p,.sl 1 n] 95,.row xs 5 1]=>mB p n xs/\K (iS .i64 n) [.cells [p,.sl 1 n] 95,.row xs 5 1]
 | _,_=>False
theorem uF {av:List S} {H:Hp} {K:S->Hp->Prop} (h:yW av H K):∃ p n xs,av=[.va (.c1 (.pt 0 0))]/\H=[.cells [p,.sl 1 n] 95,.row xs 5 1]/\mB p n xs/\
 K (iS .i64 n) [.cells [p,.sl 1 n] 95,.row xs 5 1]:=by
 unfold yW at h
 split at h
 · exact ⟨_,_,_,rfl,rfl,h⟩
 · exact h.elim
attribute [go_sem ↓] yW
theorem ZL:Meets Tryz.prog 60 yW:=by
 refine aF Tryz.func60 aAH 1 (by rw [Tryz.ntmps60]; decide) (aB _) (fun av H K h=>by obtain ⟨_,_,_,rfl,_⟩:=uF h; rfl) ?_
 intro av H K h
 obtain ⟨p,n,xs,rfl,rfl,⟨hp1,rfl,hp2,hp3⟩,hK⟩:=uF h
 simp -dsimp only [go_sem,S3,SU] at hK ⊢
 exact .done hK
def zK:W.Spec:=fun av H K=>
 match av,H with
 | [.va (.c1 (.pt 0 0))],[.cells [p,.sl 1 n] 95,.row xs 5 1]=>mB p n xs/\K (tS (mk (lM xs))) [.cells [p,.sl 1 n] 95,.dead]
 | _,_=>False
theorem uD {av:List S} {H:Hp} {K:S->Hp->Prop} (h:zK av H K):∃ p n xs,av=[.va (.c1 (.pt 0 0))]/\H=[.cells [p,.sl 1 n] 95,.row xs 5 1]/\mB p n xs/\
 K (tS (mk (lM xs))) [.cells [p,.sl 1 n] 95,.dead]:=by
 unfold zK at h
 split at h
 · exact ⟨_,_,_,rfl,rfl,h⟩
 · exact h.elim
attribute [go_sem ↓] zK
theorem OV:Meets Tryz.prog 63 zK:=by
 refine aF Tryz.func63 aA4 1 (by rw [Tryz.ntmps63]; decide) (aB _) (fun av H K h=>by obtain ⟨_,_,_,rfl,_⟩:=uD h; rfl) ?_
 intro av H K h
 obtain ⟨p,n,xs,rfl,rfl,⟨hp1,rfl,hp2,hp3⟩,hK⟩:=uD h
 simp -dsimp only [go_sem,SK,S9] at hK ⊢
 exact ⟨⟨hp2,by omega⟩,.done hK⟩
def quoL:Nat->List UInt8->List UInt8->Nat × Option (List UInt8)
 | i,[],_=>(i,none)
 | i,c :: r,out=>
  bif decide (c < 32) || decide (126 < c) then (i,none)
  else bif c == 34 then (i + 1,some out)
  else bif c == 92 then match r with
   | d :: r'=>bif d == 34 || d == 92 then quoL (i + 2) r' (out ++ [d]) else (i,none)
   | []=>(i,none)
  else quoL (i + 1) r (out ++ [c])
theorem lT (i:Nat) (out:List UInt8):quoL i [] out=(i,none):=by rw [quoL.eq_def]
theorem gL (i:Nat) (c:UInt8) (r out:List UInt8):quoL i (c :: r) out=bif decide (c < 32) || decide (126 < c) then (i,none)
 else bif c == 34 then (i + 1,some out)
 else bif c == 92 then match r with
  | d :: r'=>bif d == 34 || d == 92 then quoL (i + 2) r' (out ++ [d]) else (i,none)
  | []=>(i,none)
 else quoL (i + 1) r (out ++ [c]):=by rw [quoL.eq_def]
def eP (l:List UInt8) (a:Nat):R:=match quoL (a + 1) (l.drop (a + 1)) [] with
 | (i,none)=>.bad 2 i
 | (z,some out)=>bif decide (200 < out.length) then .bad 3 a else .ok 3 out 0 z
def H3:W.Spec:=rC (fun l a=>l[a]? = some 34) eP
attribute [go_sem ↓] H3
theorem XO:Meets Tryz.prog 104 H3:=by
 refine aF Tryz.func104 VY 1 (by rw [Tryz.ntmps104]; decide) (aA zI (aA E4 (aA ZL (aA OV (aB _))))) qE ?_
 intro xs H K h
 obtain ⟨s,a,rfl,rfl,h0,h1,h2,hc0,hK⟩:=kQ h
 have hlt:a.toNat < (bl s).length:=(aU.1 hc0).1
 simp -dsimp only [go_sem,MU,L5] at hK ⊢
 refine ⟨by omega,cL (α:=C × Nat × List UInt8) (fun z=>[(0,.va (.c1 (.pt 0 0))),(2,.va (.c1 (.pt 1 0))),(3,iS .i64 a),(4,.va (.c1 (.pt 2 0)))])
  (fun z=>[iT s z.2.1 0 0,.cells (oQ 0 (mk []) 0 0) 74,.cells [z.1,.sl 3 z.2.2.length] 95,.row (z.2.2.map AE) 5 1])
  (fun z=>(z.1=.vl (.pointer none)\/z.1=.pt 2 0)/\z.2.1<=(bl s).length/\z.2.2.length<=z.2.1/\quoL z.2.1 ((bl s).drop z.2.1) z.2.2=quoL (a.toNat + 1) ((bl s).drop (a.toNat + 1)) []) (fun z=>(bl s).length - z.2.1)
  (.nilc 2 1 5 1 _ _ rfl rfl (gT (.vl (.pointer none),a.toNat + 1,[]) 4 ⟨.inl rfl,by simp only; omega,by simp,rfl⟩ ?_ ?_)) ?_⟩
 · simp -dsimp only [go_sem]
 · simp -dsimp only [go_sem]; simp; omega
 rintro ⟨p,i,out⟩ ⟨hp,hi,ho,hq⟩
 simp only at hp hi ho hq
 have hby:∀ r ∈ out.map AE,∃ c:UInt8,r=AE c:=fun r hr=>by obtain ⟨c,_,rfl⟩:=List.mem_map.1 hr; exact ⟨c,rfl⟩
 have hbl:(out.map AE).length<=1000000000:=by simp; omega
 have hrb:lM (out.map AE)=out:=by
  simp only [lM,List.map_map]
  conv=>rhs; rw [<-List.map_id out]
  apply List.map_congr_left
  intro c _
  simp [C.gi,AE]
 have hn:(bl s).length<=i->quoL i ((bl s).drop i) out=(i,none):=fun h=>by rw [List.drop_eq_nil_iff.2 h,lT]
 have hcs:∀ c:UInt8,(bl s)[i]? = some c->(bl s).drop i=c :: (bl s).drop (i + 1):=fun c hc=>cC hc
 have lt32:∀ c:UInt8,decide ((c.toNat:Int) < 32)=decide (c < 32):=fun c=>by rw [decide_eq_decide,UInt8.lt_iff_toNat_lt]; show (c.toNat:Int) < 32 ↔ c.toNat < 32; omega
 have gt126:∀ c:UInt8,decide (126 < (c.toNat:Int))=decide (126 < c):=fun c=>by rw [decide_eq_decide,UInt8.lt_iff_toNat_lt]; show 126 < (c.toNat:Int) ↔ 126 < c.toNat; omega
 have e34:∀ c:UInt8,((c.toNat:Int) == 34)=(c == 34):=fun c=>eO 34
 have e92:∀ c:UInt8,((c.toNat:Int) == 92)=(c == 92):=fun c=>eO 92
 have n34:∀ c:UInt8,((c.toNat:Int) != 34)=!(c == 34):=fun c=>by rw [bne,e34]
 have n92:∀ c:UInt8,((c.toNat:Int) != 92)=!(c == 92):=fun c=>by rw [bne,e92]
 have bad:quoL (a.toNat + 1) ((bl s).drop (a.toNat + 1)) []=(i,none)->∀ k x n y,K (.va (.gs (oQ k x n y))) [iT s i 2 i]:=fun h=>by
  simp only [eP,h,iV] at hK
  exact fun k x n y=>hK k x n y i
 rcases hp with rfl | rfl
 all_goals
  simp -dsimp only [go_sem,lt32,gt126,e34,e92,n34,n92,hrb]
  refine ⟨fun h3=>by simp at h3; omega,fun c hc=>⟨fun h3=>by simp at h3; omega,fun c1 hc1=>⟨fun h3=>?_,fun h3=>?_⟩⟩⟩
  · refine .sel [0] (by simp) (by simp) rfl (.done (bad ?_ _ _ _ _))
    rw [<-hq]
    by_cases h4:(bl s).length<=i
    · exact hn h4
    · have h5:decide (((bl s).length:Int)<=i)=false:=by simp; omega
      have h6:=hc h5
      rw [hcs c h6,gL]
      by_cases h7:c < 32
      · simp [h7]
      · have h8:=hc1 (by rw [h5]; simp [h7])
        rw [h6] at h8
        simp only [aC] at h8
        subst h8
        simp only [h5,h7,decide_false,Bool.false_or] at h3
        simp [h3]
  · simp only [Bool.or_eq_false_iff] at h3
    obtain ⟨⟨h4,h5⟩,h6⟩:=h3
    have hc':=hc h4
    have hc1':=hc1 (by rw [h4,h5]; rfl)
    rw [hc'] at hc1'
    simp only [aC] at hc1'
    subst hc1'
    simp at h4
    refine ⟨by omega,fun c2 hc2=>?_⟩
    rw [hc'] at hc2
    simp only [aC] at hc2
    subst hc2
    rw [hcs c hc',gL] at hq
    simp only [h5,h6,Bool.false_or,aH] at hq
    refine ⟨fun h7=>?_,fun h7=>?_⟩
    · simp only [h7,aO] at hq
      simp only [eP,<-hq] at hK
      refine ⟨by omega,⟨by simp,by simp,hby,hbl⟩,fun h8=>⟨⟨by simp,by simp,hby,hbl⟩,.sel [0] (by simp) (by simp) rfl (.done ?_)⟩,fun h8=>⟨⟨by simp,by simp,hby,hbl⟩,.sel [0] (by simp) (by simp) rfl (.done ?_)⟩⟩
      · have h9:decide (200 < out.length)=true:=by simp at h8 ⊢; omega
        simp only [h9,aO,iV] at hK
        have:=hK 3 (mk out) 0 a (i + 1)
        rw [Int.toNat_of_nonneg h0] at this
        exact this
      · have h9:decide (200 < out.length)=false:=by simp at h8 ⊢; omega
        simp only [h9,aH,iV] at hK
        exact hK
    · simp only [h7,aH] at hq
      have hi1:((i:Int) + 1).toNat=i + 1:=by omega
      rw [hi1]
      refine ⟨fun h8=>⟨by omega,fun _=>by omega,fun h9=>by simp at h9; omega,fun c1 hc1'=>⟨fun _=>by omega,fun h9=>by simp at h9; omega,fun c2 hc2=>⟨fun h9 h10=>by rw [h9,h10]; rfl,fun h9=>?_,fun h9=>?_⟩⟩⟩,fun h8=>?_⟩
      · refine .sel [0] (by simp) (by simp) rfl (.done (bad ?_ _ _ _ _))
        simp only [h8,aO] at hq
        rw [<-hq]
        by_cases h10:(bl s).length<=i + 1
        · rw [List.drop_eq_nil_iff.2 h10]
        · have h11:decide (((bl s).length:Int)<=i + 1)=false:=by simp; omega
          have h12:=hc1' h11
          rw [cC h12]
          simp only [h11,Bool.false_or,Bool.and_eq_true,Bool.not_eq_true'] at h9
          have h13:=hc2 (by rw [h11,h9.1]; rfl)
          rw [h12] at h13
          simp only [aC] at h13
          subst h13
          simp only [h9.1,h9.2,Bool.or_self,aH]
      · simp only [Bool.or_eq_false_iff] at h9
        have h12:=hc1' h9.1
        have hlt1:=(aU.1 h12).1
        refine ⟨by omega,by omega,fun c3 hc3=>?_⟩
        rw [h12] at hc3
        simp only [aC] at hc3
        subst hc3
        have h14:(c1 == 34 || c1 == 92)=true:=by
         cases h15:(c1 == 34) with
         | true=>rfl
         | false=>
          have h13:=hc2 (by rw [h9.1,h15]; rfl)
          rw [h12] at h13
          simp only [aC] at h13
          subst h13
          rw [h15] at h9
          simpa using h9.2
        simp only [h8,aO,cC h12,h14] at hq
        refine ⟨⟨⟨by simp,by simp,hby,hbl⟩,by omega,by have:=c1.toNat_lt; omega⟩,by omega,aD (.pt 2 0,i + 2,out ++ [c1]) 4 ⟨.inr rfl,by simp only; omega,by simp; omega,hq⟩ (by simp only; omega) ?_ ?_⟩
        · simp -dsimp only [go_sem]
        · simp -dsimp only [go_sem]; simp; omega
      · simp only [h8,aH] at hq
        refine ⟨⟨⟨by simp,by simp,hby,hbl⟩,by omega,by have:=c.toNat_lt; omega⟩,by omega,aD (.pt 2 0,i + 1,out ++ [c]) 4 ⟨.inr rfl,by simp only; omega,by simp; omega,hq⟩ (by simp only; omega) ?_ ?_⟩
        · simp -dsimp only [go_sem]
        · simp -dsimp only [go_sem]; simp
def dJ (l:List UInt8) (p:Nat):R:=match l[p]? with
 | none=>.ok 0 [] 0 p
 | some c=>bif c8 c.toNat then eW l p else bif bD c || c == 45 then fF l p else bif c == 34 then eP l p
  else bif d3 c.toNat then .ok 4 [c] 0 (p + 1) else .bad 2 p
theorem UM (c:UInt8):(cW c.toNat == 3)=c8 c.toNat:=by
 have:=dB (p:=fun c=>(cW c.toNat == 3) == c8 c.toNat) (by decide +kernel) c
 simpa using this
theorem LQ (c:UInt8):(cW c.toNat == 4 || cW c.toNat == 5)=(bD c || c == 45):=by
 have:=dB (p:=fun c=>(cW c.toNat == 4 || cW c.toNat == 5) == (bD c || c == 45)) (by decide +kernel) c
 simpa using this
theorem SN (c:UInt8):(cW c.toNat == 7)=(c == 34):=by
 have:=dB (p:=fun c=>(cW c.toNat == 7) == (c == 34)) (by decide +kernel) c
 simpa using this
theorem aAA (c:UInt8):(cW c.toNat == 8)=d3 c.toNat:=by
 have:=dB (p:=fun c=>(cW c.toNat == 8) == d3 c.toNat) (by decide +kernel) c
 simpa using this
theorem XB (c:UInt8):(cW c.toNat == -1)=false:=by
 have:=dB (p:=fun c=>(cW c.toNat == -1) == false) (by decide +kernel) c
 simpa using this
def HZ:W.Spec:=pW (fun _ _ e t=>e=0/\t=0) fun s a _ _ K=>E0 s (bP (bl s) a.toNat) K (dJ (bl s) (bP (bl s) a.toNat))
attribute [go_sem ↓] HZ
theorem WU:Meets Tryz.prog 58 HZ:=by
 refine aF Tryz.func58 aB4 1 (by rw [Tryz.ntmps58]; decide)
  (aA XN (aA yZ (aA W1 (aA PR (aA XO (aA zI (aB _))))))) tC ?_
 intro xs H K h
 obtain ⟨s,a,e,t,rfl,rfl,h0,h1,h2,⟨rfl,rfl⟩,hK⟩:=j6 h
 generalize hp:bP (bl s) a.toNat=p at hK
 have hpl:p<=(bl s).length:=by rw [<-hp]; exact lU (by omega)
 have hfin:∀ {k x n y z e t} {B2:B},X2 (dJ (bl s) p) p k x n y z e t->W.Fin 1 K (.va (.gs (oQ k x n y))) [iT s z e t,B2]:=fun h=>.sel [0] (by simp) (by simp) rfl (.done (hK _ _ _ _ _ _ _ h))
 have ht:dJ (bl s) p=match (bl s)[p]? with
  | none=>.ok 0 [] 0 p
  | some c=>bif cW c.toNat == 3 then eW (bl s) p else bif cW c.toNat == 4 || cW c.toNat == 5 then fF (bl s) p else bif cW c.toNat == 7 then eP (bl s) p
   else bif cW c.toNat == 8 then .ok 4 [c] 0 (p + 1) else .bad 2 p:=by
  unfold dJ
  cases (bl s)[p]? with
  | none=>rfl
  | some c=>simp only [UM,LQ,SN,aAA]
 rw [ht] at hfin
 simp -dsimp only [go_sem,RZ,RI,hp] at ⊢
 cases hc:(bl s)[p]? with
 | none=>
  rw [hc] at hfin
  have hk:cP (bl s) p=-1:=by rw [cP,hc]
  simp only [hk]
  refine ⟨⟨h0,h1,h2⟩,⟨by omega,by omega,h2⟩,fun _=>hfin ⟨rfl,rfl,rfl,rfl,rfl,rfl,rfl⟩,fun h=>by simp at h⟩
 | some c=>
  rw [hc] at hfin
  have hplt:p < (bl s).length:=(aU.1 hc).1
  have hk:cP (bl s) p=cW c.toNat:=by rw [cP,hc]
  have hd:(List.take (p + 1) (bl s)).drop p=[c]:=by
   rw [List.drop_take,cC hc]; simp
  simp only [hk,XB]
  have q45:=LQ c
  have q7:=SN c
  have hi1:((p:Int) + 1 - 1)=p:=by omega
  have hi2:((p:Int) + 1).toNat=p + 1:=by omega
  rw [hi1,hi2]
  refine ⟨⟨h0,h1,h2⟩,⟨by omega,by omega,h2⟩,fun h=>by simp at h,fun _=>?_⟩
  simp only [Int.toNat_natCast,hd]
  repeat' (first | apply And.intro | intro)
  all_goals first
   | omega
   | (refine hfin ?_; simp_all; done)
   | (exact ⟨c,rfl,by simp_all⟩)
   | (simp_all; done)
   | skip
  · rename_i g3 g4 g5 g7 g8
    refine hfin ?_
    simp only [g3,g4,g5,g7,g8,aO,aH,Bool.or_self]
    exact ⟨rfl,rfl,rfl,rfl,by simp,rfl,rfl⟩
  · rename_i g3 g4 g5 g7 g8
    refine hfin ?_
    simp only [g3,g4,g5,g7,g8,aH,Bool.or_self]
    exact ⟨rfl,rfl,p,rfl⟩
structure Tk where
 k:Int
 x:List UInt8
 n:Int
 a:Nat
abbrev cI (t:Tk):List C:=oQ t.k (mk t.x) t.n t.a
inductive SR where
 | ok (l:List Tk)
 | bad (e t:Int)
def SR.cons (t:Tk):SR->SR
 | .ok l=>.ok (t :: l)
 | .bad e t=>.bad e t
def SR.app (acc:List Tk):SR->SR
 | .ok l=>.ok (acc ++ l)
 | .bad e t=>.bad e t
theorem SR.app_cons (acc:List Tk) (t:Tk) (r:SR):SR.app acc (SR.cons t r)=SR.app (acc ++ [t]) r:=by cases r<;>simp [SR.app,SR.cons]
def dX:Nat->List UInt8->Nat->SR
 | 0,_,_=>.ok []
 | f + 1,l,a=>match dJ l (bP l a) with
  | .bad e t=>.bad e t
  | .ok k x n z=>bif k == 0 then .ok [⟨k,x,n,bP l a⟩] else SR.cons ⟨k,x,n,bP l a⟩ (dX f l z)
def aI (l:List UInt8):SR:=bif decide (4000 < l.length) then .bad 3 0 else dX (l.length + 1) l 0
def SR.toks:SR->List Tk
 | .ok l=>l
 | .bad _ _=>[]
def SR.err:SR->Int
 | .ok _=>0
 | .bad e _=>e
def SR.off:SR->Int
 | .ok _=>0
 | .bad _ t=>t
theorem FT {l:List UInt8} {a:Nat} {c:UInt8} (hc:l[a]? = some c) (hd:bD c=true\/c=45):(∀ {e t},fF l a=.bad e t->e ≠ 0)/\∀ {k x n z},fF l a=.ok k x n z->k ≠ 0/\a < z/\z<=l.length:=by
 have hlt:a < l.length:=(aU.1 hc).1
 have hne:(l[a]? == some 45)=(c == 45):=by rw [hc]; rfl
 have hge:(bif c == 45 then a + 1 else a)<=l.length:=by cases (c == 45)<;>simp<;>omega
 have hz2:=kZ (p:=bD) hge
 have hz:∀ {p:UInt8->Bool} {f:Nat},f<=bI p l f:=fun {p f}=>nL
 have hz1:a < bI bD l (bif c == 45 then a + 1 else a):=by
  rcases hd with hd | hd
  · have h45:(c == 45)=false:=by
     have:=dB (p:=fun c=>!(bD c) || !(c == 45)) (by decide +kernel) c
     simpa [hd] using this
    simp only [h45,aH]
    rw [<-fO hc hd]
    exact Nat.lt_of_lt_of_le (Nat.lt_succ_self a) hz
  · subst hd
    simp only [beq_self_eq_true,aO]
    exact Nat.lt_of_lt_of_le (Nat.lt_succ_self a) hz
 constructor
 · intro e t h
   unfold fF at h
   simp only at h
   revert h
   cases (List.drop (bif l[a]? == some 45 then a + 1 else a) (List.take (bI bD l (bif l[a]? == some 45 then a + 1 else a)) l) == [] || ((List.drop (bif l[a]? == some 45 then a + 1 else a) (List.take (bI bD l (bif l[a]? == some 45 then a + 1 else a)) l))[0]? == some 48 && (decide (1 < (List.drop (bif l[a]? == some 45 then a + 1 else a) (List.take (bI bD l (bif l[a]? == some 45 then a + 1 else a)) l)).length) || l[a]? == some 45))) with
   | true=>intro h; simp only [aO,R.bad.injEq] at h; omega
   | false=>
    simp only [aH]
    split
    · intro h; simp only [R.bad.injEq] at h; omega
    · cases lC l (bI bD l (bif l[a]? == some 45 then a + 1 else a))<;>simp only [aO,aH,R.bad.injEq,reduceCtorEq,false_implies]; intro h; omega
 · intro k x n z h
   unfold fF at h
   simp only at h
   rw [hne] at h
   revert h
   generalize (List.drop (bif c == 45 then a + 1 else a) (List.take (bI bD l (bif c == 45 then a + 1 else a)) l))=q
   cases (q == [] || (q[0]? == some 48 && (decide (1 < q.length) || c == 45))) with
   | true=>intro h; simp only [aO,reduceCtorEq] at h
   | false=>
    simp only [aH]
    split
    · intro h; cases h
    · cases lC l (bI bD l (bif c == 45 then a + 1 else a))<;>simp only [aO,aH,R.ok.injEq,reduceCtorEq,false_implies]
      rintro ⟨rfl,rfl,rfl,rfl⟩
      exact ⟨by decide,hz1,hz2⟩
theorem CY {l:List UInt8} {a:Nat} {c:UInt8} (hc:l[a]? = some c) (hd:c8 c.toNat=true):(∀ {e t},eW l a=.bad e t->e ≠ 0)/\∀ {k x n z},eW l a=.ok k x n z->k ≠ 0/\a < z/\z<=l.length:=by
 have hlt:a < l.length:=(aU.1 hc).1
 have hz2:=kZ (p:=bJ) (Nat.le_of_lt hlt)
 have hw:bJ c=true:=by simp [bJ,jU,hd]
 have hz1:a < bI bJ l a:=by
  rw [<-fO hc hw]
  exact Nat.lt_of_lt_of_le (Nat.lt_succ_self a) nL
 unfold eW
 simp only
 cases decide (16 < bI bJ l a - a)<;>cases (l[bI bJ l a]? == some 45)<;>simp only [aO,aH]
 all_goals refine ⟨fun {e t} h=>?_,fun {k x n z} h=>?_⟩
 all_goals simp only [R.bad.injEq,R.ok.injEq,reduceCtorEq] at h
 all_goals first | omega | (obtain ⟨rfl,rfl,rfl,rfl⟩:=h; exact ⟨by decide,hz1,hz2⟩)
theorem C2 {l:List UInt8} {a:Nat} (hc:l[a]? = some 34):(∀ {e t},eP l a=.bad e t->e ≠ 0)/\∀ {k x n z},eP l a=.ok k x n z->k ≠ 0/\a < z/\z<=l.length:=by
 have hlt:a < l.length:=(aU.1 hc).1
 have key:∀ (m:Nat) (r:List UInt8) (i:Nat) (out:List UInt8) (z:Nat) (o:List UInt8),r.length=m->quoL i r out=(z,some o)->i < z/\z<=i + r.length:=by
  intro m
  induction m using Nat.strongRecOn with
  | ind m ih=>
   intro r i out z o hm h
   cases r with
   | nil=>rw [lT] at h; cases h
   | cons c r=>
    rw [gL] at h
    simp only [List.length_cons] at hm
    revert h
    cases (decide (c < 32) || decide (126 < c)) with
    | true=>intro h; cases h
    | false=>
     cases (c == 34) with
     | true=>intro h; simp only [aH,aO,Prod.mk.injEq] at h; simp; omega
     | false=>
      cases (c == 92) with
      | true=>
       simp only [aH,aO]
       cases r with
       | nil=>intro h; cases h
       | cons d r'=>
        simp only
        cases (d == 34 || d == 92) with
        | true=>intro h; have:=ih r'.length (by simp at hm; omega) r' _ _ _ _ rfl h; simp; omega
        | false=>intro h; cases h
      | false=>
       simp only [aH]
       intro h; have:=ih r.length (by omega) r _ _ _ _ rfl h; simp; omega
 unfold eP
 split
 · constructor
   · intro e t h; simp only [R.bad.injEq] at h; omega
   · intro k x n z h; cases h
 · rename_i z o hq
   have:=key _ _ _ _ _ _ rfl hq
   simp only [List.length_drop] at this
   cases decide (200 < o.length)<;>simp [R.bad.injEq,R.ok.injEq]
   all_goals (intros; omega)
theorem tQ {l:List UInt8} {p:Nat} (hp:p<=l.length):(∀ {e t},dJ l p=.bad e t->e ≠ 0)/\∀ {k x n z},dJ l p=.ok k x n z->(k=0->p=l.length)/\(k ≠ 0->p < z/\z<=l.length):=by
 unfold dJ
 cases hc:l[p]? with
 | none=>
  have:l.length<=p:=List.getElem?_eq_none_iff.1 hc
  simp only [R.ok.injEq,reduceCtorEq,false_implies,implies_true,true_and]
  rintro k x n z ⟨rfl,rfl,rfl,rfl⟩
  exact ⟨fun _=>by omega,fun h=>absurd rfl h⟩
 | some c=>
  have hlt:p < l.length:=(aU.1 hc).1
  simp only
  cases h1:c8 c.toNat with
  | true=>
   simp only [aO]
   obtain ⟨q1,q2⟩:=CY hc h1
   exact ⟨q1,fun h=>⟨fun e=>absurd e (q2 h).1,fun _=>(q2 h).2⟩⟩
  | false=>
   simp only [aH]
   cases h2:(bD c || c == 45) with
   | true=>
    simp only [aO]
    obtain ⟨q1,q2⟩:=FT hc (by simpa using h2)
    exact ⟨q1,fun h=>⟨fun e=>absurd e (q2 h).1,fun _=>(q2 h).2⟩⟩
   | false=>
    simp only [aH]
    cases h3:(c == 34) with
    | true=>
     simp only [aO]
     have:c=34:=by simpa using h3
     subst this
     obtain ⟨q1,q2⟩:=C2 hc
     exact ⟨q1,fun h=>⟨fun e=>absurd e (q2 h).1,fun _=>(q2 h).2⟩⟩
    | false=>
     simp only [aH]
     cases d3 c.toNat with
     | true=>
      simp only [aO,R.ok.injEq,reduceCtorEq,false_implies,implies_true,true_and]
      rintro k x n z ⟨rfl,rfl,rfl,rfl⟩
      exact ⟨fun e=>by omega,fun _=>by omega⟩
     | false=>
      simp only [aH,R.bad.injEq,reduceCtorEq,false_implies,implies_true,and_true]
      rintro e t ⟨rfl,rfl⟩
      decide
theorem sJ {l:List UInt8} {a:Nat}:a<=bP l a:=by unfold bP; omega
def hJ:W.Spec:=fun xs H K=>
 match xs,H with
 | [.va (.c1 (.vl (.string s)))],[]=>K (.tu [.c1 (.fz ((aI (bl s)).toks.map cI)),iA .i64 (aI (bl s)).err,iA .i64 (aI (bl s)).off]) []
 | _,_=>False
theorem jP {xs:List S} {H:Hp} {K:S->Hp->Prop} (h:hJ xs H K):∃ s,xs=[tS s]/\H=[]/\K (.tu [.c1 (.fz ((aI (bl s)).toks.map cI)),iA .i64 (aI (bl s)).err,iA .i64 (aI (bl s)).off]) []:=by
 unfold hJ at h
 split at h
 · exact ⟨_,rfl,rfl,h⟩
 · exact h.elim
attribute [go_sem ↓] hJ
theorem XM:Meets Tryz.prog 22 hJ:=by
 refine aF Tryz.func22 ZH 1 (by rw [Tryz.ntmps22]; decide) (aA WU (aB _)) (fun xs H K h=>by obtain ⟨s,rfl,_⟩:=jP h; rfl) ?_
 intro xs H K h
 obtain ⟨s,rfl,rfl,hK⟩:=jP h
 simp -dsimp only [go_sem,TT,RT] at hK ⊢
 refine ⟨fun h1=>?_,fun h1=>?_⟩
 · have h2:decide (4000 < (bl s).length)=true:=by simp at h1 ⊢; omega
   simp only [aI,h2,aO,SR.toks,SR.err,SR.off] at hK
   exact .done hK
 have h2:decide (4000 < (bl s).length)=false:=by simp at h1 ⊢; omega
 have hlen:(bl s).length<=4000:=by simpa using h2
 refine cL (α:=Nat × Nat × List Tk) (fun z=>[(5,.va (.c1 (.pt 0 0))),(6,.va (.c1 (.sl 1 z.2.2.length)))]) (fun z=>[iT s z.2.1 0 0,.row (z.2.2.map cI) 74 4])
  (fun z=>(bl s).length < z.1 + z.2.1/\z.2.1<=(bl s).length/\z.2.2.length<=z.2.1/\SR.app z.2.2 (dX z.1 (bl s) z.2.1)=aI (bl s)) (fun z=>z.1)
  (.nil 6 74 4 ?_ (gT ((bl s).length + 1,0,[]) 2 ⟨by simp only; omega,by simp,by simp,?_⟩ ?_ ?_)) ?_
 · simp -dsimp only [go_sem]; rfl
 · simp only [aI,h2,aH]
   cases dX ((bl s).length + 1) (bl s) 0<;>rfl
 · simp -dsimp only [go_sem]
 · simp -dsimp only [go_sem]; rfl
 rintro ⟨f,a,acc⟩ ⟨hf,ha,hac,hr⟩
 simp only at hf ha hac hr
 simp -dsimp only [go_sem]
 have hpl:bP (bl s) a<=(bl s).length:=lU ha
 have hpa:a<=bP (bl s) a:=sJ
 obtain ⟨hb,ho⟩:=tQ hpl
 obtain ⟨f,rfl⟩:∃ g,f=g + 1:=⟨f - 1,by omega⟩
 rw [dX] at hr
 refine ⟨⟨by omega,by omega,hlen⟩,fun k x n y z e t ht=>?_⟩
 cases hR:dJ (bl s) (bP (bl s) a) with
 | bad e' t'=>
  rw [hR] at ht hr
  obtain ⟨rfl,rfl,z,rfl⟩:=ht
  have he:=hb hR
  simp only [SR.app] at hr
  rw [<-hr] at hK
  simp only [SR.toks,SR.err,SR.off] at hK
  refine ⟨fun h3=>.z (?_),fun h3=>absurd h3 (by simpa using he)⟩
  simpa [go_sem] using hK
 | ok k' x' n' z'=>
  rw [hR] at ht hr
  obtain ⟨rfl,rfl,rfl,rfl,rfl,rfl,rfl⟩:=ht
  obtain ⟨o1,o2⟩:=ho hR
  refine ⟨fun h3=>absurd h3 (by simp),fun _=>⟨by omega,fun h3=>?_,fun h3=>?_⟩⟩
  · simp only [h3,aO,SR.app] at hr
    rw [<-hr] at hK
    simp only [SR.toks,SR.err,SR.off,List.map_append,List.map_cons,List.map_nil] at hK
    refine .pub 1 _ _ _ rfl (.sel [] (by simp) (by simp [b5]) rfl (.done ?_))
    simpa [go_sem] using hK
  · simp only [h3,aH,SR.app_cons] at hr
    obtain ⟨o3,o4⟩:=o2 (by simpa using h3)
    refine aD (f,z',acc ++ [⟨k,x',n,bP (bl s) a⟩]) 2 ⟨by simp only; omega,o4,by simp; omega,hr⟩ (by simp only; omega) ?_ ?_
    · simp -dsimp only [go_sem]
    · simp -dsimp only [go_sem]
def bX (l:List UInt8):Bool:=match l with
 | []=>false
 | c :: _=>decide (l.length<=16) && c8 c.toNat && l.all bJ
def vF:List S->Prop:=fun xs=>match xs with
 | [.va (.c1 (.vl (.string _)))]=>True
 | _=>False
theorem gY {xs:List S} (h:vF xs):∃ s,xs=[tS s]:=by
 unfold vF at h
 split at h
 · exact ⟨_,rfl⟩
 · exact h.elim
def HC (f:List UInt8->Value):List S->A:=fun xs=>match xs with
 | [.va (.c1 (.vl (.string s)))]=>.c1 (.vl (f (bl s)))
 | _=>.gs []
def tL (f:List UInt8->Value):Fun:=⟨vF,HC f,fun xs h=>by obtain ⟨s,rfl⟩:=gY h; trivial⟩
theorem p6 {f:List UInt8->Value}:∀ xs H K,(tL f).sp xs H K->xs.length=1:=fun xs H K h=>by obtain ⟨s,rfl⟩:=gY h.1.1; rfl
attribute [go_sem] tL vF HC
theorem pP {l:List UInt8} (h:16 < l.length):bX l=false:=by
 cases l with
 | nil=>rfl
 | cons c l=>
  simp only [bX]
  have:decide ((c :: l).length<=16)=false:=by simp at h ⊢; omega
  rw [this]; rfl
theorem FH {l:List UInt8} {c:UInt8} (h:l[0]? = some c) (hc:c8 c.toNat=false):bX l=false:=by
 cases l with
 | nil=>rfl
 | cons d l=>simp at h; subst h; simp [bX,hc]
theorem EA {l:List UInt8} {i:Nat} {c:UInt8} (h:l[i]? = some c) (hc:bJ c=false):bX l=false:=by
 cases l with
 | nil=>rfl
 | cons d l=>
  have:(d :: l).all bJ=false:=by rw [List.all_eq_false]; exact ⟨c,b6 h,by simp [hc]⟩
  simp only [bX,this,Bool.and_false]
theorem yR {l:List UInt8} {c:UInt8} (h:l[0]? = some c) (hl:l.length<=16) (hc:c8 c.toNat=true) (ha:∀ (j:Nat) (x:UInt8),l[j]? = some x->bJ x=true):bX l=true:=by
 cases l with
 | nil=>simp at h
 | cons d l=>
  simp at h; subst h
  have h1:(d :: l).all bJ=true:=by
   rw [List.all_eq_true]; intro x hx
   obtain ⟨j,hj⟩:=List.mem_iff_getElem?.1 hx
   exact ha j x hj
  simp only [bX,h1,hc,Bool.and_true,decide_eq_true_eq]; exact hl
theorem OC (c:UInt8):((cW c.toNat != 3) && (cW c.toNat != 4) && (cW c.toNat != 6))=!(bJ c):=by
 rw [<-BC]; simp [bne,Bool.not_or]
theorem qM:Meets Tryz.prog 95 (tL fun l=>.bool (bX l)).sp:=by
 refine aF Tryz.func95 ZV 1 (by rw [Tryz.ntmps95]; decide) (aK H8 (aB _)) p6 ?_
 rintro xs H K ⟨⟨h,rfl⟩,hK⟩
 obtain ⟨s,rfl⟩:=gY h
 have hn:∀ c:UInt8,(cW c.toNat != 3)=!(c8 c.toNat):=fun c=>by rw [bne,UM]
 simp -dsimp only [go_sem,P5,TG,hn] at hK ⊢
 generalize hg:(bl s == [] || decide (16 < ((bl s).length:Int)))=g
 have hg1:g=false->0 < (bl s).length/\(bl s).length<=16:=fun h=>by
  subst hg; simp at h
  exact ⟨List.length_pos_iff.2 h.1,by omega⟩
 have hg2:g=true->bX (bl s)=false:=fun h=>by
  subst hg; simp at h
  rcases h with h | h
  · rw [h]; rfl
  · exact pP (by omega)
 refine ⟨fun h=>⟨by omega,by have:=hg1 h; omega⟩,fun c hc=>⟨fun h=>?_,fun h=>?_,fun h=>?_⟩⟩
 · have:=c.toNat_lt; omega
 · refine cH hK ?_
   cases g with
   | true=>rw [hg2 rfl]
   | false=>simp at h; rw [FH (hc rfl) h]
 simp at h
 obtain ⟨rfl,h3⟩:=h
 have hc:=hc rfl
 obtain ⟨hl0,hl⟩:=hg1 rfl
 refine a7 (α:=Nat) (fun i=>[(0,tS s),(19,iS .i64 (bl s).length),(20,iS .i64 i)]) (fun i=>[]) (fun i=>i<=(bl s).length/\∀ (j:Nat) (x:UInt8),j < i->(bl s)[j]? = some x->bJ x=true) (fun i=>(bl s).length - i) 0 0 ⟨by omega,by omega⟩ ?_ ?_ ?_
 · simp -dsimp only [go_sem]; simp
 · simp [go_sem]
 rintro i ⟨hi,ha⟩
 simp -dsimp only [go_sem,OC]
 have hlt:(bl s).length < 2^64:=by omega
 refine ⟨fun h1=>⟨⟨by omega,by simpa using h1⟩,fun d hd=>⟨by have:=d.toNat_lt; omega,fun h2=>?_,fun h2=>⟨by omega,?_⟩⟩⟩,fun h1=>?_⟩
 · refine cH hK ?_
   rw [EA hd h2]
 · refine aD (i + 1) 0 ⟨by have:=(aU.1 hd).1; omega,fun j x hj hx=>?_⟩ (by have:=(aU.1 hd).1; omega) ?_ ?_
   · rcases cM j i with h4 | h4
     · exact ha j x h4 hx
     · obtain rfl:j=i:=by omega
       rw [hd] at hx; obtain rfl:=aZ hx
       simpa [bJ] using h2
   · simp -dsimp only [go_sem]; simp
   · simp [go_sem]
 · refine cH hK ?_
   have:i=(bl s).length:=by simp at h1; omega
   subst this
   rw [yR hc hl h3 fun j x hx=>ha j x (aU.1 hx).1 hx]
def qTrue:Fun:=⟨fun xs=>xs=[],fun _=>bA true,fun xs h=>trivial⟩
theorem HP:∀ xs H K,qTrue.sp xs H K->xs.length=0:=fun xs H K h=>by rw [show xs=[] from h.1.1]; rfl
attribute [go_sem] qTrue
theorem zL (l:List UInt8):bl (mk l)=l:=by simp [bl,mk]
end Go.Proofs.YtgogpogophflhaaGreatDoor
namespace Go.W
section
variable {P:Program} {f:FuncId} {s:Spec}
def pubB (n:Nat) (s:Spec):Spec:=fun ar H K=>match H[n]? with
 | some (.row xs _ _)=>s (ar.map (S.pub n xs)) (b5 n xs H) K
 | _=>False
def dropB (s:Spec):Spec:=fun ar H K=>s (ar.map fun a=>a.nf.ren (loc [])) [] fun r H'=>K (r.ren (back [] H.length)) (l0 [] H (H'.map (B.ren (back [] H.length))))
theorem Rel.rebase {X:Ctx} {E:Es} {ro:RO} {w:World} (h:Rel X E ro w):Rel ⟨w,cZ E,ro,gm E⟩ E ro w:=
 ⟨h.own,h.inj,h.apart,h.rd,Ext.refl _,fun _ _ _ h=>.inl h,fun n b g blk hn en hl=>.inr (dZ.2 ⟨n,g,blk,hn,en,hl⟩),.refl _,Nat.le_refl _,fun _ _ _=>rfl,rfl,rfl,rfl⟩
theorem Rel.over {X:Ctx} {E E':Es} {ro ro':RO} {w w':World} (h:Rel X E ro w) (k:Rel ⟨w,cZ E,ro,gm E⟩ E' ro' w'):Rel X E' ro' w' where
 own:=k.own
 inj:=k.inj
 apart:=k.apart
 rd:=k.rd
 ro0:=h.ro0.trans k.ro0
 rob:=fun b off v hc=>by
  rcases k.rob b off v hc with q | ⟨q | q,q'⟩
  · rcases h.rob b off v q with r | ⟨r,r'⟩
    · exact .inl r
    · exact .inr ⟨r,by rw [(k.ro0 b off v q).2]; exact r'⟩
  · simp only at q; have:=h.sz; exact .inr ⟨.inl (by omega),q'⟩
  · obtain ⟨n,g,blk,hE,hgb,hl⟩:=dZ.1 q
    exact .inr ⟨h.par n b g blk hE hgb hl,q'⟩
 par:=fun n b g blk hn en hl=>by
  rcases k.par n b g blk hn en hl with q | q
  · simp only at q; have:=h.sz; exact .inl (by omega)
  · obtain ⟨n',g',blk',hE,hgb,hl'⟩:=dZ.1 q
    exact h.par n' b g' blk' hE hgb hl'
 gx:=h.gx.trans k.gx
 sz:=Nat.le_trans h.sz k.sz
 keep:=fun b hb hp=>by
  rw [k.keep b (by have:=h.sz; simp only; omega) (fun hb'=>?_)]
  · exact h.keep b hb hp
  · obtain ⟨n,g,blk,hE,hgb,hl⟩:=dZ.1 hb'
    rcases h.par n b g blk hE hgb hl with q | q
    · omega
    · exact hp q
 os:=k.os.trans h.os
 tape:=k.tape.trans h.tape
 output:=k.output.trans h.output
theorem Meets.pubB (h:Meets P f s) (n:Nat):Meets P f (pubB n s):=by
 refine ⟨h.1,fun ar vs E ro w K hl hrel hr hs hG=>?_⟩
 unfold W.pubB at hs
 split at hs
 · rename_i xs T sz hn
   obtain ⟨g,hE⟩:∃ g,E[n]? = some (g,.row xs T sz):=by
    simp only [hp,List.getElem?_map] at hn
    cases hE:E[n]? with
    | none=>rw [hE] at hn; cases hn
    | some y=>rw [hE] at hn; simp at hn; exact ⟨y.1,by rw [<-hn]⟩
   obtain ⟨ro',hext,hfz,hglen,hr'⟩:=hr.pubR hE
   have hcall:=h.2 (ar.map (S.pub n xs)) vs (bR (B.pub n xs) (E.set n (g,.dead))) ro' w K (by simpa using hl) (fun i x v hx hv=>by
    rw [List.getElem?_map] at hx
    cases hi:ar[i]? with
    | none=>rw [hi] at hx; cases hx
    | some y=>
     rw [hi] at hx
     simp only [Option.map_some,aC] at hx
     subst hx
     rw [eI,dP hE]
     exact S.rel_pub hext (cA hE) hglen hfz (hrel i y v hi hv)) hr'.rebase (by rw [fI,hp_kill]; exact hs) (hG.mono hext)
   refine hcall.mono ?_
   rintro e w' ⟨r,v,E',ro2,rfl,hrv,hR,hrel'⟩
   exact ⟨r,v,E',ro2,rfl,hrv,hR,hr'.over hrel'⟩
 · exact hs.elim
theorem Meets.dropB (h:Meets P f s):Meets P f (dropB s):=by
 refine ⟨h.1,fun ar vs E ro w K hl hrel hr hs hG=>?_⟩
 unfold W.dropB at hs
 have hnd:([]:List Nat).Nodup:=.nil
 have hlt:∀ n ∈ ([]:List Nat),n < E.length:=fun n hn=>by cases hn
 have gxl:∀ (n m:Nat) (g:Gb),loc [] n=some m->(gm E)[n]? = some g->(gm (bR (B.ren (loc [])) (c7 E [])))[m]? = some g:=fun n m g h1 h2=>by rw [eI]; exact qD n m g h1 h2
 have hloc:Rel ⟨w,cZ (bR (B.ren (loc [])) (c7 E [])),ro,gm (bR (B.ren (loc [])) (c7 E []))⟩ (bR (B.ren (loc [])) (c7 E [])) ro w:=by
  have h0:Rel ⟨w,cZ E,ro,[]⟩ E ro w:=⟨hr.own,hr.inj,hr.apart,hr.rd,Ext.refl _,fun _ _ _ h=>.inl h,fun n b g blk hn en hl=>.inr (dZ.2 ⟨n,g,blk,hn,en,hl⟩),fun n g hn=>by simp at hn,Nat.le_refl _,fun _ _ _=>rfl,rfl,rfl,rfl⟩
  exact (h0.sel hnd hlt (fun n g hn=>by simp at hn)).here
 have hcall:=h.2 (ar.map fun s=>s.nf.ren (loc [])) vs (bR (B.ren (loc [])) (c7 E [])) ro w _ (by simpa using hl) (fun i x v hx hv=>by
  rw [List.getElem?_map] at hx
  cases hi:ar[i]? with
  | none=>rw [hi] at hx; cases hx
  | some y=>
   rw [hi] at hx
   simp only [Option.map_some,aC] at hx
   subst hx
   exact S.rel_ren gxl (S.rel_nf (hrel i y v hi hv))) hloc (by rw [fI,rG]; exact hs) hG
 refine hcall.mono ?_
 rintro e w' ⟨r,v,E',ro',rfl,hrv,hR,hrel'⟩
 obtain ⟨q1,q2,q3⟩:=hr.back hnd hlt rfl hrel'
 refine ⟨_,v,_,ro',rfl,S.rel_ren q3 hrv,?_,q1⟩
 rw [sX,fI]
 rw [dL] at hR
 exact hR
def lend1 (s:Spec):Spec:=pubB 0 (dropB s)
theorem Meets.lend1 (h:Meets P f s):Meets P f (lend1 s):=h.dropB.pubB 0
def lend2 (s:Spec):Spec:=pubB 0 (pubB 1 (dropB s))
theorem Meets.lend2 (h:Meets P f s):Meets P f (lend2 s):=(h.dropB.pubB 1).pubB 0
attribute [go_sem ↓] pubB dropB lend1 lend2
end
end Go.W
namespace Go.Proofs.YtgogpogophflhaaGreatDoor
open Go.W
theorem QZ {α:Type} {row:α->List C} {l:List α} {n:Nat} {c:α} (h:l[n]? = some c) (p:List C->Prop):(∀ r,(l.map row)[n]? = some r->p r)=p (row c):=by
 rw [List.getElem?_map,h]; simp
theorem bH {α:Type} {row:α->List C} {l:List α} {n:Nat} {c:α} (h:l[n]? = some c) (p:List C->Prop):(∀ r,(l.map row)[((n:Nat):Int).toNat]? = some r->p r)=p (row c):=by
 rw [Int.toNat_natCast,List.getElem?_map,h]; simp
theorem fV {α:Type} {row:α->List C} {n:Nat} (h:∀ a,(row a).length=n) (l:List α):(∀ r:List C,r ∈ l.map row->r.length=n)=True:=eq_true fun r hr=>by obtain ⟨x,_,rfl⟩:=List.mem_map.1 hr; exact h x
inductive Ty where
 | mk (k s:Int) (n:ByteArray) (e:List Ty)
instance:Inhabited Ty:=⟨.mk 0 0 ByteArray.empty []⟩
def Ty.k:Ty->Int | .mk k _ _ _=>k
def Ty.s:Ty->Int | .mk _ s _ _=>s
def Ty.n:Ty->ByteArray | .mk _ _ n _=>n
def Ty.e:Ty->List Ty | .mk _ _ _ e=>e
mutual
def aP:Ty->List C
 | .mk k s n e=>[.vl (.int .i64 k),.vl (.int .i64 s),.vl (.string n),.fz (kA e)]
def kA:List Ty->List (List C)
 | []=>[]
 | t :: r=>aP t :: kA r
end
theorem bQ:∀ l:List Ty,kA l=l.map aP
 | []=>rfl
 | t :: r=>by rw [kA,bQ r]; rfl
theorem aY (t:Ty):aP t=[.vl (.int .i64 t.k),.vl (.int .i64 t.s),.vl (.string t.n),.fz (t.e.map aP)]:=by
 cases t with
 | mk k s n e=>rw [aP,bQ]; rfl
mutual
theorem qV:∀ {a b:Ty},aP a=aP b->a=b
 | .mk k s n e,.mk k' s' n' e',h=>by
  rw [aP,aP] at h
  simp only [List.cons.injEq,C.vl.injEq,Value.int.injEq,Value.string.injEq,C.fz.injEq,true_and,and_true] at h
  obtain ⟨rfl,rfl,rfl,h4⟩:=h
  rw [CK h4]
theorem CK:∀ {a b:List Ty},kA a=kA b->a=b
 | [],[],_=>rfl
 | [],_ :: _,h=>by rw [kA,kA] at h; cases h
 | _ :: _,[],h=>by rw [kA,kA] at h; cases h
 | x :: a,y :: b,h=>by
  rw [kA,kA] at h
  obtain ⟨h1,h2⟩:=List.cons.inj h
  rw [qV h1,CK h2]
end
mutual
def Ty.h:Ty->Nat
 | .mk _ _ _ e=>Ty.hs e + 1
def Ty.hs:List Ty->Nat
 | []=>0
 | t :: r=>max t.h (Ty.hs r)
end
theorem Ty.hs_mem:∀ {l:List Ty} {t:Ty},t ∈ l->t.h<=Ty.hs l
 | x :: l,t,h=>by
  rw [Ty.hs]
  rcases List.mem_cons.1 h with rfl | h
  · omega
  · have:=Ty.hs_mem h; omega
structure Fl where
 num:Int
 nm:ByteArray
 ty:Ty
 opt:Bool
instance:Inhabited Fl:=⟨⟨0,ByteArray.empty,default,false⟩⟩
def bU (f:Fl):List C:=[.vl (.int .i64 f.num),.vl (.string f.nm),.vl (.int .i64 f.ty.k),.vl (.int .i64 f.ty.s),.vl (.string f.ty.n),.fz (f.ty.e.map aP),.vl (.bool f.opt)]
structure St where
 nm:ByteArray
 fs:List Fl
instance:Inhabited St:=⟨⟨ByteArray.empty,[]⟩⟩
def aV (s:St):List C:=[.vl (.string s.nm),.fz (s.fs.map bU)]
abbrev iQ (n:Int):List C:=[.vl (.int .i64 n)]
abbrev cQ (b:ByteArray):List C:=[.vl (.string b)]
structure En where
 nm:ByteArray
 ns:List ByteArray
 vs:List Int
instance:Inhabited En:=⟨⟨ByteArray.empty,[],[]⟩⟩
def bC (e:En):List C:=[.vl (.string e.nm),.fz (e.ns.map cQ),.fz (e.vs.map iQ)]
structure Sc where
 ver:Int
 es:List En
 ss:List St
instance:Inhabited Sc:=⟨⟨0,[],[]⟩⟩
def aR (s:Sc):List C:=[.vl (.int .i64 s.ver),.fz (s.es.map bC),.fz (s.ss.map aV)]
theorem kX {α β:Type} {f:α->β} (hf:∀ {a b},f a=f b->a=b):∀ {l m:List α},l.map f=m.map f->l=m
 | [],[],_=>rfl
 | [],_ :: _,h=>by cases h
 | _ :: _,[],h=>by cases h
 | x :: l,y :: m,h=>by
  simp only [List.map_cons,List.cons.injEq] at h
  rw [hf h.1,kX hf h.2]
theorem wP {a b:Int} (h:iQ a=iQ b):a=b:=by simpa using h
theorem wN {a b:ByteArray} (h:cQ a=cQ b):a=b:=by simpa using h
theorem wX {a b:Fl} (h:bU a=bU b):a=b:=by
 obtain ⟨a1,a2,a3,a4⟩:=a
 obtain ⟨b1,b2,b3,b4⟩:=b
 simp only [bU,List.cons.injEq,C.vl.injEq,Value.int.injEq,Value.string.injEq,Value.bool.injEq,C.fz.injEq,true_and,and_true] at h
 obtain ⟨rfl,rfl,h3,h4,h5,h6,rfl⟩:=h
 have:a3=b3:=qV (by rw [aY,aY,h3,h4,h5,h6])
 rw [this]
theorem wU {a b:St} (h:aV a=aV b):a=b:=by
 obtain ⟨a1,a2⟩:=a
 obtain ⟨b1,b2⟩:=b
 simp only [aV,List.cons.injEq,C.vl.injEq,Value.string.injEq,C.fz.injEq,and_true] at h
 obtain ⟨rfl,h2⟩:=h
 rw [kX wX h2]
theorem wV {a b:En} (h:bC a=bC b):a=b:=by
 obtain ⟨a1,a2,a3⟩:=a
 obtain ⟨b1,b2,b3⟩:=b
 simp only [bC,List.cons.injEq,C.vl.injEq,Value.string.injEq,C.fz.injEq,and_true] at h
 obtain ⟨rfl,h2,h3⟩:=h
 rw [kX wN h2,kX wP h3]
theorem OI {a b:Sc} (h:aR a=aR b):a=b:=by
 obtain ⟨a1,a2,a3⟩:=a
 obtain ⟨b1,b2,b3⟩:=b
 simp only [aR,List.cons.injEq,C.vl.injEq,Value.int.injEq,C.fz.injEq,true_and,and_true] at h
 obtain ⟨rfl,h2,h3⟩:=h
 rw [kX wV h2,kX wU h3]
noncomputable def rJ {α β:Type} [Inhabited α] (f:α->β) (b:β):α:=Classical.epsilon fun a=>f a=b
theorem j8 {α β:Type} [Inhabited α] {f:α->β} (hf:∀ {a b},f a=f b->a=b) (a:α):rJ f (f a)=a:=hf (Classical.epsilon_spec (p:=fun x=>f x=f a) ⟨a,rfl⟩)
theorem kW {α β:Type} [Inhabited α] {f:α->β} (hf:∀ {a b},f a=f b->a=b) (l:List α):(l.map f).map (rJ f)=l:=by
 rw [List.map_map,show (rJ f ∘ f)=id from funext fun a=>j8 hf a,List.map_id]
noncomputable def C.ty:=rJ aP
noncomputable def C.fl:=rJ bU
noncomputable def C.st:=rJ aV
noncomputable def C.en:=rJ bC
noncomputable def C.sc:=rJ aR
noncomputable def C.bs:=rJ cQ
noncomputable def C.it:=rJ iQ
@[go_sem] theorem g6 (t:Ty):C.ty (aP t)=t:=j8 qV t
@[go_sem] theorem aEC (t:Fl):C.fl (bU t)=t:=j8 wX t
@[go_sem] theorem aEX (t:St):C.st (aV t)=t:=j8 wU t
@[go_sem] theorem R3 (t:En):C.en (bC t)=t:=j8 wV t
@[go_sem] theorem pU (t:Sc):C.sc (aR t)=t:=j8 OI t
@[go_sem] theorem aEM (t:ByteArray):C.bs (cQ t)=t:=j8 wN t
@[go_sem] theorem aF9 (t:Int):C.it (iQ t)=t:=j8 wP t
@[go_sem] theorem aEZ (l:List Ty):(l.map aP).map C.ty=l:=kW qV l
@[go_sem] theorem aER (l:List Fl):(l.map bU).map C.fl=l:=kW wX l
@[go_sem] theorem aE9 (l:List St):(l.map aV).map C.st=l:=kW wU l
@[go_sem] theorem aE6 (l:List En):(l.map bC).map C.en=l:=kW wV l
@[go_sem] theorem aGM (l:List ByteArray):(l.map cQ).map C.bs=l:=kW wN l
@[go_sem] theorem aE1 (l:List Int):(l.map iQ).map C.it=l:=kW wP l
theorem cU (t:Ty):(aP t).length=4:=by rw [aY]; rfl
theorem EQ (t:Fl):(bU t).length=7:=rfl
theorem N9 (t:St):(aV t).length=2:=rfl
theorem PE (t:En):(bC t).length=3:=rfl
theorem UE {a b:ByteArray} (h:bl a=bl b):a=b:=by rw [<-jO a,<-jO b,h]
theorem jY (a b:ByteArray):(bl a == bl b)=decide (a=b):=by
 rw [Bool.eq_iff_iff,beq_iff_eq,decide_eq_true_eq]
 exact ⟨UE,fun h=>by rw [h]⟩
def cT (n:Int):Prop:=-9223372036854775808<=n/\n<=9223372036854775807
inductive TyOk:Ty->Prop
 | mk {k s:Int} {n:ByteArray} {e:List Ty}:cT k->cT s->n.size<=9223372036854775807->e.length<=9223372036854775807->(∀ t ∈ e,TyOk t)->TyOk (.mk k s n e)
theorem TyOk.len {t:Ty} (h:TyOk t):t.e.length<=9223372036854775807:=by cases h; assumption
theorem TyOk.k {t:Ty} (h:TyOk t):cT t.k:=by cases h; assumption
theorem TyOk.s {t:Ty} (h:TyOk t):cT t.s:=by cases h; assumption
theorem TyOk.n {t:Ty} (h:TyOk t):t.n.size<=9223372036854775807:=by cases h; assumption
theorem TyOk.e {t:Ty} (h:TyOk t):∀ u ∈ t.e,TyOk u:=by cases h; assumption
structure Fl.ok (f:Fl):Prop where
 num:cT f.num
 nm:f.nm.size<=9223372036854775807
 ty:TyOk f.ty
structure St.ok (s:St):Prop where
 nm:s.nm.size<=9223372036854775807
 len:s.fs.length<=9223372036854775807
 fs:∀ f ∈ s.fs,f.ok
structure En.ok (e:En):Prop where
 nm:e.nm.size<=9223372036854775807
 ln:e.ns.length<=9223372036854775807
 lv:e.vs.length<=9223372036854775807
 ns:∀ n ∈ e.ns,n.size<=9223372036854775807
 vs:∀ n ∈ e.vs,cT n
structure Sc.ok (s:Sc):Prop where
 ver:cT s.ver
 le:s.es.length<=9223372036854775807
 ls:s.ss.length<=9223372036854775807
 es:∀ e ∈ s.es,e.ok
 ss:∀ t ∈ s.ss,t.ok
def jI (r:List C):Prop:=∃ t,r=aP t/\TyOk t
def F9 (r:List C):Prop:=∃ e:En,r=bC e/\e.ok
def A6 (r:List C):Prop:=∃ s:Sc,r=aR s/\s.ok
theorem gQ {t:Ty} (h:TyOk t):jI (aP t):=⟨t,rfl,h⟩
theorem OZ {t:En} (h:t.ok):F9 (bC t):=⟨t,rfl,h⟩
theorem OQ {t:Sc} (h:t.ok):A6 (aR t):=⟨t,rfl,h⟩
def E7 (p:List C->Prop):List S->Prop:=fun av=>match av with
 | [.va (.gs r)]=>p r
 | _=>False
theorem fT {p:List C->Prop} {av:List S} (h:E7 p av):∃ r,av=[.va (.gs r)]/\p r:=by
 unfold E7 at h
 split at h
 · exact ⟨_,rfl,h⟩
 · exact h.elim
def UU {α:Type} (d:List C->α) (f:α->A):List S->A:=fun av=>match av with
 | [.va (.gs r)]=>f (d r)
 | _=>.gs []
attribute [go_sem] E7 UU
def fR (l:List UInt8):Bool:=bX l && match l with | c :: _=>decide (65<=(c.toNat:Int)) && decide ((c.toNat:Int)<=90) | []=>false
theorem x7:Meets Tryz.prog 73 (tL fun l=>.bool (fR l)).sp:=by
 refine aF Tryz.func73 aAQ 1 (by rw [Tryz.ntmps73]; decide) (aK qM (aB _)) p6 ?_
 rintro xs H K ⟨⟨h,rfl⟩,hK⟩
 obtain ⟨s,rfl⟩:=gY h
 have hK':K (.va (.c1 (.vl (.bool (fR (bl s)))))) []:=hK
 clear hK h
 unfold fR at hK'
 cases hn:bX (bl s) with
 | false=>
  rw [hn] at hK'
  simp -dsimp only [go_sem,JP,K0,hn]
  exact .done hK'
 | true=>
  cases hl:bl s with
  | nil=>rw [hl] at hn; cases hn
  | cons c r=>
   rw [hl] at hn hK'
   rw [hn] at hK'
   simp -dsimp only [go_sem,JP,K0,hl,hn]
   refine ⟨by omega,fun d hd=>⟨fun _=>by omega,fun e he=>?_⟩⟩
   subst hd
   cases hc:decide (65<=(c.toNat:Int)) with
   | false=>simp only [hc,Bool.true_and,Bool.false_and] at hK'; exact .done hK'
   | true=>
    obtain rfl:=he hc
    simp only [hc,Bool.true_and] at hK'; exact .done hK'
def CB (rs:List (List C)):Prop:=∃ l:List ByteArray,rs=l.map cQ/\l.length<=9223372036854775807
theorem wR {l:List ByteArray} (h:l.length<=9223372036854775807):CB (l.map cQ):=⟨l,rfl,h⟩
def zC:List S->Prop:=fun av=>match av with
 | [.va (.c1 (.fz rs)),.va (.c1 (.vl (.string _)))]=>CB rs
 | _=>False
theorem kL {av:List S} (h:zC av):∃ (l:List ByteArray) (x:ByteArray),av=[.va (.c1 (.fz (l.map cQ))),tS x]/\l.length<=9223372036854775807:=by
 unfold zC at h
 split at h
 · obtain ⟨l,rfl,h⟩:=h; exact ⟨l,_,rfl,h⟩
 · exact h.elim
noncomputable def NK (f:List ByteArray->ByteArray->Value):List S->A:=fun av=>match av with
 | [.va (.c1 (.fz rs)),.va (.c1 (.vl (.string x)))]=>.c1 (.vl (f (rs.map C.bs) x))
 | _=>.gs []
noncomputable def wH (f:List ByteArray->ByteArray->Value):Fun:=⟨zC,NK f,fun av h=>by obtain ⟨l,x,rfl,_⟩:=kL h; trivial⟩
theorem CL {f}:∀ av H K,(wH f).sp av H K->av.length=2:=fun av H K h=>by obtain ⟨l,x,rfl,_⟩:=kL h.1.1; rfl
attribute [go_sem] wH zC NK
def oP:List ByteArray->ByteArray->Nat->Int
 | [],_,_=>-1
 | y :: l,x,i=>bif decide (x=y) then (i:Int) else oP l x (i + 1)
def cG (l:List ByteArray) (x:ByteArray):Bool:=l.any fun y=>decide (x=y)
theorem qL (l:List ByteArray) (x:ByteArray):cG l x=true ↔ x ∈ l:=by
 unfold cG; rw [List.any_eq_true]
 exact ⟨fun ⟨y,hy,h⟩=>by rw [of_decide_eq_true h]; exact hy,fun h=>⟨x,h,by simp⟩⟩
theorem D6:∀ (l:List ByteArray) (x:ByteArray) (i:Nat),decide (0<=oP l x i)=cG l x
 | [],_,_=>by simp [oP,cG]
 | y :: l,x,i=>by
  simp only [oP]
  by_cases h:x=y
  · simp [h,cG]
  · have:=D6 l x (i + 1)
    simp [h,cG] at this ⊢; exact this
theorem PS:Meets Tryz.prog 122 (wH fun l x=>.int .i64 (oP l x 0)).sp:=by
 refine aF Tryz.func122 XV 2 (by rw [Tryz.ntmps122]; decide) (aB _) CL ?_
 rintro av H K ⟨⟨h,rfl⟩,hK⟩
 obtain ⟨l,x,rfl,hl⟩:=kL h
 have hK:K (iS .i64 (oP l x 0)) []:=by
  have:(wH fun l x=>.int .i64 (oP l x 0)).val [.va (.c1 (.fz (l.map cQ))),tS x]=iA .i64 (oP l x 0):=by simp -dsimp only [go_sem]
  rw [this] at hK; exact hK
 simp -dsimp only [go_sem,L6,K3]
 refine a7 (α:=Nat) (fun i=>[(0,.va (.c1 (.fz (l.map cQ)))),(1,tS x),(7,iS .i64 l.length),(8,iS .i64 i)]) (fun _=>[])
  (fun i=>i<=l.length/\oP (l.drop i) x i=oP l x 0) (fun i=>l.length - i) 0 0 ⟨Nat.zero_le _,rfl⟩ ?_ ?_ ?_
 · simp [go_sem]
 · simp [go_sem]
 rintro i ⟨hi,ho⟩
 rcases cM i l.length with hlt | hge
 · have hg:decide ((i:Int) < (l.length:Int))=true:=by simp; omega
   have hx:l[i]? = some l[i]:=a8 hlt
   have q1:=QZ (row:=cQ) hx
   have q2:=bH (row:=cQ) hx
   rw [List.drop_eq_getElem_cons hlt] at ho
   simp only [oP] at ho
   generalize l[i]=y at *
   cases hc:decide (x=y) with
   | true=>
    rw [hc,aO] at ho
    simp -dsimp only [go_sem,hg,↓q2,hc,jY]
    and_intros
    all_goals first
     | omega
     | exact .done (by rw [ho]; exact hK)
   | false=>
    rw [hc,aH] at ho
    simp -dsimp only [go_sem,hg,↓q2,hc,jY]
    and_intros
    all_goals first
     | omega
     | skip
    refine aD (i + 1) 0 ⟨by omega,ho⟩ (by omega) ?_ ?_
    · simp [go_sem]
    · simp [go_sem]
 · have hg:decide ((i:Int) < (l.length:Int))=false:=by simp; omega
   have:l.drop i=[]:=List.drop_eq_nil_iff.2 (by omega)
   rw [this] at ho
   simp -dsimp only [go_sem,hg]
   exact .done (by rw [show (-1:Int)=oP l x 0 from ho]; exact hK)
theorem u7:Meets Tryz.prog 111 (wH fun l x=>.bool (cG l x)).sp:=by
 refine aF Tryz.func111 XT 2 (by rw [Tryz.ntmps111]; decide) (aK PS (aB _)) CL ?_
 rintro av H K ⟨⟨h,rfl⟩,hK⟩
 obtain ⟨l,x,rfl,hl⟩:=kL h
 have hK:K (bS (cG l x)) []:=by
  have:(wH fun l x=>.bool (cG l x)).val [.va (.c1 (.fz (l.map cQ))),tS x]=bA (cG l x):=by simp -dsimp only [go_sem]
  rw [this] at hK; exact hK
 simp -dsimp only [go_sem,L4,LA,wR hl,D6]
 exact .done hK
theorem eZ {α:Type} (row:α->List C) (l:List α) (n:Nat):(l.map row).take n=(l.take n).map row:=List.map_take.symm
theorem lQ {α:Type} (l:List α) (n:Nat):(l.take n).length<=l.length:=by rw [List.length_take]; omega
theorem kU (b:ByteArray):(cQ b).length=1:=rfl
noncomputable def rM {α:Type} (p:List C->Prop) (d:List C->α) (f:α->Value):Fun:=⟨E7 p,UU d fun a=>.c1 (.vl (f a)),fun av h=>by obtain ⟨r,rfl,_⟩:=fT h; trivial⟩
theorem kS {α:Type} {p:List C->Prop} {d:List C->α} {f:α->Value}:∀ av H K,(rM p d f).sp av H K->av.length=1:=fun av H K h=>by obtain ⟨r,rfl,_⟩:=fT h.1.1; rfl
attribute [go_sem] rM
theorem fX {α:Type} {l:List α} {i:Nat} {x:α} (hx:l[i]? = some x) (p:α->Bool):(l.drop i).any p=(p x || (l.drop (i + 1)).any p):=by
 obtain ⟨h,rfl⟩:=aU.1 hx
 rw [List.drop_eq_getElem_cons h,List.any_cons]
theorem gP {α:Type} {l:List α} (p:α->Bool):(l.drop l.length).any p=false:=by rw [List.drop_length]; rfl
def d8 (s:Sc):Bool:=decide (16 < s.es.length) || decide (16 < s.es.length + s.ss.length) || s.es.any (fun e=>decide (16 < e.ns.length)) || s.ss.any (fun t=>decide (16 < t.fs.length))
theorem RG:Meets Tryz.prog 72 (rM A6 C.sc fun s=>.bool (d8 s)).sp:=by
 refine aF Tryz.func72 aBY 1 (by rw [Tryz.ntmps72]; decide) (aB _) kS ?_
 rintro av H K ⟨⟨h,rfl⟩,hK⟩
 obtain ⟨_,rfl,s,rfl,hs⟩:=fT h
 have hK:K (bS (d8 s)) []:=by
  have:(rM A6 C.sc fun s=>.bool (d8 s)).val [.va (.gs (aR s))]=bA (d8 s):=by simp -dsimp only [go_sem]
  rw [this] at hK; exact hK
 obtain ⟨hv,hle,hls,hes,hss⟩:=hs
 simp -dsimp only [go_sem,aR,P2,UC]
 refine ⟨fun _=>by omega,fun h1=>?_,fun h1=>?_⟩
 · have:d8 s=true:=by
    simp only [Bool.or_eq_true,decide_eq_true_eq] at h1
    unfold d8
    rcases h1 with h1 | h1
    · simp [show 16 < s.es.length by omega]
    · simp [show 16 < s.es.length + s.ss.length by omega]
   rw [this] at hK
   exact .z ((by simpa [go_sem] using hK))
 simp only [Bool.or_eq_false_iff,decide_eq_false_iff_not] at h1
 have hL:d8 s=(s.es.any (fun e=>decide (16 < e.ns.length)) || s.ss.any (fun t=>decide (16 < t.fs.length))):=by
  unfold d8; rw [decide_eq_false (by omega),decide_eq_false (by omega)]; rfl
 refine a7 (α:=Nat) (fun i=>[(1,.va (.c1 (.pt 0 0))),(22,.va (.c1 (.fz (s.es.map bC)))),(23,iS .i64 s.es.length),(24,iS .i64 i)]) (fun _=>[.cells (aR s) 25])
  (fun i=>i<=s.es.length/\(s.es.drop i).any (fun e=>decide (16 < e.ns.length))=s.es.any (fun e=>decide (16 < e.ns.length))) (fun i=>s.es.length - i) 0 1 ⟨Nat.zero_le _,rfl⟩ ?_ ?_ ?_
 · simp [go_sem]
 · simp [go_sem,aR]
 rintro i ⟨hi,ho⟩
 rcases cM i s.es.length with hlt | hge
 · have hg:decide ((i:Int) < (s.es.length:Int))=true:=by simp; omega
   obtain ⟨e,hx⟩:∃ e,s.es[i]? = some e:=⟨_,a8 hlt⟩
   have q2:=bH (row:=bC) hx
   rw [fX hx] at ho
   simp -dsimp only [go_sem,hg,↓q2,bC,aR]
   and_intros
   all_goals first
    | omega
    | skip
   · intro hc
     have hc':decide (16 < e.ns.length)=true:=by simp at hc; simp; omega
     have:d8 s=true:=by simp only [hL,<-ho,hc',Bool.true_or]
     rw [this] at hK
     exact .z ((by simpa [go_sem] using hK))
   · intro hc
     refine ⟨by omega,aD (i + 1) 1 ⟨by omega,?_⟩ (by omega) ?_ ?_⟩
     · have hc':decide (16 < e.ns.length)=false:=by simp at hc; simp; omega
       rw [<-ho,hc',Bool.false_or]
     · simp [go_sem]
     · simp [go_sem,aR]
 · have hg:decide ((i:Int) < (s.es.length:Int))=false:=by simp; omega
   obtain rfl:i=s.es.length:=by omega
   rw [gP] at ho
   rw [<-ho,Bool.false_or] at hL
   simp -dsimp only [go_sem,hg,aR]
   refine a7 (α:=Nat) (fun i=>[(1,.va (.c1 (.pt 0 0))),(34,.va (.c1 (.fz (s.ss.map aV)))),(35,iS .i64 s.ss.length),(36,iS .i64 i)]) (fun _=>[.cells (aR s) 25])
    (fun i=>i<=s.ss.length/\(s.ss.drop i).any (fun e=>decide (16 < e.fs.length))=s.ss.any (fun e=>decide (16 < e.fs.length))) (fun i=>s.ss.length - i) 0 1 ⟨Nat.zero_le _,rfl⟩ ?_ ?_ ?_
   · simp [go_sem]
   · simp [go_sem,aR]
   clear hi ho hge hg
   rintro i ⟨hi,ho⟩
   rcases cM i s.ss.length with hlt | hge
   · have hg:decide ((i:Int) < (s.ss.length:Int))=true:=by simp; omega
     obtain ⟨e,hx⟩:∃ e,s.ss[i]? = some e:=⟨_,a8 hlt⟩
     have q2:=bH (row:=aV) hx
     rw [fX hx] at ho
     simp -dsimp only [go_sem,hg,↓q2,aV,aR]
     and_intros
     all_goals first
      | omega
      | skip
     · intro hc
       have hc':decide (16 < e.fs.length)=true:=by simp at hc; simp; omega
       have:d8 s=true:=by simp only [hL,<-ho,hc',Bool.true_or]
       rw [this] at hK
       exact .z ((by simpa [go_sem] using hK))
     · intro hc
       refine ⟨by omega,aD (i + 1) 1 ⟨by omega,?_⟩ (by omega) ?_ ?_⟩
       · have hc':decide (16 < e.fs.length)=false:=by simp at hc; simp; omega
         rw [<-ho,hc',Bool.false_or]
       · simp [go_sem]
       · simp [go_sem,aR]
   · have hg:decide ((i:Int) < (s.ss.length:Int))=false:=by simp; omega
     obtain rfl:i=s.ss.length:=by omega
     rw [gP] at ho
     simp -dsimp only [go_sem,hg,aR]
     rw [hL,<-ho] at hK
     exact .z ((by simpa [go_sem] using hK))
def fE (f:Nat->Int):Nat->Nat->Int
 | 0,_=>0
 | n + 1,i=>bif f i == 0 then fE f n (i + 1) else f i
theorem DY {f:Nat->Int} {m i:Nat} (h:i < m):fE f (m - i) i=bif f i == 0 then fE f (m - (i + 1)) (i + 1) else f i:=by
 obtain ⟨k,rfl⟩:∃ k,m=i + k + 1:=⟨m - i - 1,by omega⟩
 rw [show i + k + 1 - i=k + 1 by omega,show i + k + 1 - (i + 1)=k by omega]; rfl
theorem tG {f:Nat->Int} {m i:Nat} (h:i < m) (h0:f i=0):fE f (m - i) i=fE f (m - (i + 1)) (i + 1):=by rw [DY h,h0]; rfl
theorem pS {f:Nat->Int} {m i:Nat} (h:i < m) (h0:f i ≠ 0):fE f (m - i) i=f i:=by
 rw [DY h,beq_eq_false_iff_ne.2 h0]; rfl
theorem uK (f:Nat->Int) (m:Nat):fE f (m - m) m=0:=by rw [Nat.sub_self]; rfl
def jJ (e:En) (k:Nat):Int:=match e.ns[k]?,e.vs[k]? with
 | some nm,some n=>bif !(bX (bl nm)) then 5 else bif cG (e.ns.take k) nm then 7 else bif decide (n < 0) || decide (127 < n) then 4 else
  bif (decide ((k:Int)=0) && decide (n ≠ 0)) || (decide (0 < (k:Int)) && match e.vs[k - 1]? with | some m=>decide (n<=m) | none=>false) then 2 else 0
 | _,_=>0
def m6 (e:En):Int:=bif decide (e.ns.length=0) || decide (e.ns.length ≠ e.vs.length) then 2 else fE (jJ e) e.ns.length 0
theorem FM:Meets Tryz.prog 74 (rM F9 C.en fun e=>.int .i64 (m6 e)).sp:=by
 refine aF Tryz.func74 aAF 1 (by rw [Tryz.ntmps74]; decide) (aK qM (aK u7 (aB _))) kS ?_
 rintro av H K ⟨⟨h,rfl⟩,hK⟩
 obtain ⟨_,rfl,e,rfl,he⟩:=fT h
 have hK:K (iS .i64 (m6 e)) []:=by
  have:(rM F9 C.en fun e=>.int .i64 (m6 e)).val [.va (.gs (bC e))]=iA .i64 (m6 e):=by simp -dsimp only [go_sem]
  rw [this] at hK; exact hK
 clear h
 obtain ⟨_,hln,hlv,_,_⟩:=he
 simp -dsimp only [go_sem,bC,QB,U7]
 refine ⟨fun h1=>?_,fun h1=>?_⟩
 · have:m6 e=2:=by
    unfold m6
    have:(decide (e.ns.length=0) || decide (e.ns.length ≠ e.vs.length))=true:=by
     simp only [Bool.or_eq_true,beq_iff_eq,bne_iff_ne,decide_eq_true_eq] at h1 ⊢; omega
    rw [this]; rfl
   rw [this] at hK
   exact .z ((by simpa [go_sem] using hK))
 simp only [Bool.or_eq_false_iff,beq_eq_false_iff_ne,bne_eq_false_iff_eq,ne_eq] at h1
 have hl:e.ns.length=e.vs.length:=by omega
 have hF:m6 e=fE (jJ e) (e.ns.length - 0) 0:=by
  unfold m6; rw [decide_eq_false (by omega),decide_eq_false (by omega)]; rfl
 refine a7 (α:=Nat) (fun i=>[(1,.va (.c1 (.pt 0 0))),(20,.va (.c1 (.fz (e.ns.map cQ)))),(21,iS .i64 e.ns.length),(22,iS .i64 i)]) (fun _=>[.cells (bC e) 62])
  (fun i=>i<=e.ns.length/\fE (jJ e) (e.ns.length - i) i=fE (jJ e) (e.ns.length - 0) 0) (fun i=>e.ns.length - i) 0 1 ⟨Nat.zero_le _,rfl⟩ ?_ ?_ ?_
 · simp [go_sem]
 · simp [go_sem,bC]
 rintro i ⟨hi,ho⟩
 rcases cM i e.ns.length with hlt | hge
 · have hg:decide ((i:Int) < (e.ns.length:Int))=true:=by simp; omega
   obtain ⟨nm,hx⟩:∃ nm,e.ns[i]? = some nm:=⟨_,a8 hlt⟩
   obtain ⟨n,hy⟩:∃ nm,e.vs[i]? = some nm:=⟨_,a8 (by omega)⟩
   have q1:=bH (row:=cQ) hx
   have q2:=bH (row:=iQ) hy
   have ht:CB ((e.ns.take i).map cQ):=wR (Nat.le_trans (lQ _ _) hln)
   have hA:jJ e i=bif !(bX (bl nm)) then (5:Int) else bif cG (e.ns.take i) nm then 7 else bif decide (n < 0) || decide (127 < n) then 4 else
    bif (decide ((i:Int)=0) && decide (n ≠ 0)) || (decide (0 < (i:Int)) && match e.vs[i - 1]? with | some m=>decide (n<=m) | none=>false) then 2 else 0:=by
    unfold jJ; rw [hx,hy]
   have fin:∀ x:Int,jJ e i=x->x ≠ 0->W.Fin 0 K (iS .i64 x) [.cells (bC e) 62]:=fun x h1 h2=>by
    rw [hF,<-ho,pS hlt (by rw [h1]; exact h2),h1] at hK
    exact .z ((by simpa [go_sem] using hK))
   have dR:jJ e i=0->fE (jJ e) (e.ns.length - (i + 1)) (i + 1)=fE (jJ e) (e.ns.length - 0) 0:=fun h1=>by rw [<-ho,tG hlt h1]
   rcases Nat.eq_zero_or_pos i with h0 | h0
   · subst h0
     have g1:decide ((0:Int) < 0)=false:=rfl
     have g2:((0:Int) == 0)=true:=rfl
     have hb0:cG [] nm=false:=rfl
     have ht0:CB []:=⟨[],rfl,Nat.zero_le _⟩
     rw [Int.natCast_zero] at *
     cases hc1:bX (bl nm) with
     | false=>
      simp -dsimp only [go_sem,hg,↓q1,↓q2,bC,hc1]
      exact ⟨by omega,by omega,fin 5 (by rw [hA,hc1]; rfl) (by decide)⟩
     | true=>
      cases hc3:(decide (n < 0) || decide (127 < n)) with
      | true=>
       simp -dsimp only [go_sem,hg,↓q1,↓q2,bC,ht0,hb0,eZ,fV kU,hc1,hc3]
       exact ⟨by omega,by omega,by omega,fin 4 (by rw [hA,hc1,hc3]; rfl) (by decide)⟩
      | false=>
       cases hn:(n != 0) with
       | true=>
        simp -dsimp only [go_sem,hg,↓q1,↓q2,bC,ht0,hb0,eZ,fV kU,Bool.false_and,g1,g2,hc1,hc3,hn]
        exact ⟨by omega,by omega,by omega,fin 2 (by rw [hA,hc1,hc3]; simp at hn; simp [hn,cG]) (by decide)⟩
       | false=>
        simp -dsimp only [go_sem,hg,↓q1,↓q2,bC,ht0,hb0,eZ,fV kU,Bool.true_and,g1,g2,hc1,hc3,hn]
        refine ⟨by omega,by omega,by omega,by omega,aD 1 1 ⟨by omega,dR ?_⟩ (by omega) ?_ ?_⟩
        · rw [hA,hc1,hc3]; simp at hn; simp [hn,cG]
        · simp [go_sem]
        · simp [go_sem,bC]
   · have g1:decide (0 < (i:Int))=true:=by simp; omega
     have g2:((i:Int) == 0)=false:=by simp; omega
     obtain ⟨m,hm⟩:∃ m,e.vs[i - 1]? = some m:=⟨_,a8 (by omega)⟩
     have q4:((i:Int) - 1).toNat=i - 1:=by omega
     cases hc1:bX (bl nm) with
     | false=>
      simp -dsimp only [go_sem,hg,↓q1,↓q2,bC,hc1]
      exact ⟨by omega,by omega,fin 5 (by rw [hA,hc1]; rfl) (by decide)⟩
     | true=>
      cases hc2:cG (e.ns.take i) nm with
      | true=>
       simp -dsimp only [go_sem,hg,↓q1,↓q2,bC,ht,eZ,fV kU,hc1,hc2]
       exact ⟨by omega,by omega,by omega,fin 7 (by rw [hA,hc1,hc2]; rfl) (by decide)⟩
      | false=>
       cases hc3:(decide (n < 0) || decide (127 < n)) with
       | true=>
        simp -dsimp only [go_sem,hg,↓q1,↓q2,bC,ht,eZ,fV kU,hc1,hc2,hc3]
        exact ⟨by omega,by omega,by omega,fin 4 (by rw [hA,hc1,hc2,hc3]; rfl) (by decide)⟩
       | false=>
        simp -dsimp only [go_sem,hg,↓q1,↓q2,bC,ht,eZ,fV kU,Bool.true_and,g1,g2,hc1,hc2,hc3,q4]
        refine ⟨by omega,by omega,by omega,by omega,by omega,fun x hx'=>?_⟩
        rw [hm] at hx'
        obtain rfl:=aZ hx'
        refine ⟨fun hn=>fin 2 (by rw [hA,hc1,hc2,hc3,hm,g1]; simp at hn; simp [hn]) (by decide),fun hn=>⟨by omega,aD (i + 1) 1 ⟨by omega,dR ?_⟩ (by omega) ?_ ?_⟩⟩
        · have hi0:i ≠ 0:=by omega
          rw [hA,hc1,hc2,hc3,hm,g1]; simp at hn; simp [hi0,show ¬ n<=m by omega]
        · simp [go_sem]
        · simp [go_sem,bC]
 · have hg:decide ((i:Int) < (e.ns.length:Int))=false:=by simp; omega
   obtain rfl:i=e.ns.length:=by omega
   rw [uK] at ho
   simp -dsimp only [go_sem,hg,bC]
   rw [hF,<-ho] at hK
   exact .z ((by simpa [go_sem] using hK))
def gX (ss:List St) (n:ByteArray):Bool:=ss.any fun s=>decide (s.nm=n)
def fD (es:List En) (n:ByteArray):Bool:=es.any fun s=>decide (s.nm=n)
def iR (s:Sc) (i:Nat) (n:ByteArray):Int:=bif !(fR (bl n)) then 5 else bif fD s.es n then 7 else bif gX (s.ss.take i) n then 7 else 0
def y6:List S->Prop:=fun av=>match av with
 | [.va (.gs r),.va (.c1 (.vl (.int .i64 i))),.va (.c1 (.vl (.string _)))]=>A6 r/\0<=i/\i<=((C.sc r).ss.length:Int)
 | _=>False
theorem nX {av:List S} (h:y6 av):∃ (s:Sc) (i:Nat) (n:ByteArray),av=[.va (.gs (aR s)),iS .i64 i,tS n]/\s.ok/\i<=s.ss.length:=by
 unfold y6 at h
 split at h
 · obtain ⟨⟨s,rfl,hs⟩,h1,h2⟩:=h
   rename_i i n
   rw [pU] at h2
   exact ⟨s,i.toNat,n,by rw [Int.toNat_of_nonneg h1],hs,by omega⟩
 · exact h.elim
noncomputable def LE:List S->A:=fun av=>match av with
 | [.va (.gs r),.va (.c1 (.vl (.int .i64 i))),.va (.c1 (.vl (.string n)))]=>iA .i64 (iR (C.sc r) i.toNat n)
 | _=>.gs []
noncomputable def cnFn:Fun:=⟨y6,LE,fun av h=>by obtain ⟨s,i,n,rfl,_⟩:=nX h; trivial⟩
theorem KL:∀ av H K,cnFn.sp av H K->av.length=3:=fun av H K h=>by obtain ⟨s,i,n,rfl,_⟩:=nX h.1.1; rfl
attribute [go_sem] cnFn y6 LE
theorem FA:Meets Tryz.prog 76 cnFn.sp:=by
 refine aF Tryz.func76 aA2 3 (by rw [Tryz.ntmps76]; decide) (aK x7 (aB _)) KL ?_
 rintro av H K ⟨⟨h,rfl⟩,hK⟩
 obtain ⟨s,j,n,rfl,hs,hj⟩:=nX h
 have hK:K (iS .i64 (iR s j n)) []:=by
  have:cnFn.val [.va (.gs (aR s)),iS .i64 j,tS n]=iA .i64 (iR s j n):=by simp -dsimp only [go_sem,Int.toNat_natCast]
  rw [this] at hK; exact hK
 clear h
 obtain ⟨hv,hle,hls,hes,hss⟩:=hs
 have fin:∀ x:Int,iR s j n=x->W.Fin 0 K (iS .i64 x) [.cells (aR s) 25]:=fun x h1=>by
  rw [h1] at hK
  exact .z ((by simpa [go_sem] using hK))
 have fin2:∀ (x:Int) (b:B),iR s j n=x->W.Fin 0 K (iS .i64 x) [.cells (aR s) 25,b]:=fun x b h1=>by
  rw [h1] at hK
  exact .z ((by simpa [go_sem] using hK))
 simp -dsimp only [go_sem,aR,S8,S7]
 refine ⟨fun h1=>fin 5 (by unfold iR; rw [h1]; rfl),fun h1=>?_⟩
 simp only [Bool.not_eq_false'] at h1
 refine a7 (α:=Nat) (fun i=>[(1,iS .i64 j),(2,tS n),(3,.va (.c1 (.pt 0 0))),(15,.va (.c1 (.fz (s.es.map bC)))),(16,iS .i64 s.es.length),(17,iS .i64 i)]) (fun _=>[.cells (aR s) 25])
  (fun i=>i<=s.es.length/\fD (s.es.drop i) n=fD s.es n) (fun i=>s.es.length - i) 0 1 ⟨Nat.zero_le _,rfl⟩ ?_ ?_ ?_
 · simp [go_sem]
 · simp [go_sem,aR]
 rintro i ⟨hi,ho⟩
 rcases cM i s.es.length with hlt | hge
 · have hg:decide ((i:Int) < (s.es.length:Int))=true:=by simp; omega
   obtain ⟨e,hx⟩:∃ e,s.es[i]? = some e:=⟨_,a8 hlt⟩
   have q2:=bH (row:=bC) hx
   rw [fD,fX hx] at ho
   simp -dsimp only [go_sem,hg,↓q2,bC,aR,jY]
   and_intros
   all_goals first
    | omega
    | skip
   · intro hc
     rw [hc,Bool.true_or] at ho
     exact fin2 7 _ (by unfold iR; rw [h1,<-ho]; rfl)
   · intro hc
     rw [hc,Bool.false_or] at ho
     refine ⟨by omega,aD (i + 1) 1 ⟨by omega,ho⟩ (by omega) ?_ ?_⟩
     · simp [go_sem]
     · simp [go_sem,aR]
 · have hg:decide ((i:Int) < (s.es.length:Int))=false:=by simp; omega
   obtain rfl:i=s.es.length:=by omega
   rw [fD,gP] at ho
   simp -dsimp only [go_sem,hg,aR,eZ,Int.toNat_natCast]
   refine ⟨?_,?_⟩
   · exact ⟨by omega,fun r hr=>by obtain ⟨x,_,rfl⟩:=List.mem_map.1 hr; exact N9 x⟩
   refine a7 (α:=Nat) (fun i=>[(2,tS n),(3,.va (.c1 (.pt 0 0))),(29,.va (.c1 (.fz ((s.ss.take j).map aV)))),(30,iS .i64 (s.ss.take j).length),(31,iS .i64 i)]) (fun _=>[.cells (aR s) 25])
    (fun i=>i<=(s.ss.take j).length/\gX ((s.ss.take j).drop i) n=gX (s.ss.take j) n) (fun i=>(s.ss.take j).length - i) 0 1 ⟨Nat.zero_le _,rfl⟩ ?_ ?_ ?_
   · simp [go_sem]
   · simp [go_sem,aR]
   have hlj:=lQ s.ss j
   generalize hl:s.ss.take j=l at *
   clear hi hge hg
   rintro i ⟨hi,ho2⟩
   rcases cM i l.length with hlt | hge
   · have hg:decide ((i:Int) < (l.length:Int))=true:=by simp; omega
     obtain ⟨e,hx⟩:∃ e,l[i]? = some e:=⟨_,a8 hlt⟩
     have q2:=bH (row:=aV) hx
     rw [gX,fX hx] at ho2
     simp -dsimp only [go_sem,hg,↓q2,aV,aR,jY]
     and_intros
     all_goals first
      | omega
      | skip
     · intro hc
       rw [hc,Bool.true_or] at ho2
       exact fin2 7 _ (by unfold iR; rw [h1,<-ho,hl,<-ho2]; rfl)
     · intro hc
       rw [hc,Bool.false_or] at ho2
       refine ⟨by omega,aD (i + 1) 1 ⟨by omega,ho2⟩ (by omega) ?_ ?_⟩
       · simp [go_sem]
       · simp [go_sem,aR]
   · have hg:decide ((i:Int) < (l.length:Int))=false:=by simp; omega
     obtain rfl:i=l.length:=by omega
     rw [gX,gP] at ho2
     simp -dsimp only [go_sem,hg,aR]
     exact fin 0 (by unfold iR; rw [h1,<-ho,hl,<-ho2]; rfl)
mutual
def valF (ss:List St) (es:List En):Ty->Bool
 | .mk k s n e=>bif k == 1 then s == 0 && bl n == [] && (e.length:Int) == 0
  else bif k == 2 then (s == 8 || s == 16 || s == 32 || s == 64) && bl n == [] && (e.length:Int) == 0
  else bif k == 3 then (s == 8 || s == 16 || s == 32 || (s == 64 && false)) && bl n == [] && (e.length:Int) == 0
  else bif k == 4 then decide (1<=s) && decide (s<=2000) && bl n == [] && (e.length:Int) == 0
  else bif k == 5 then decide (1<=s) && decide (s<=32) && bl n == [] && qN ss es e
  else bif k == 6 then gX ss n && s == 0 && (e.length:Int) == 0
  else bif k == 7 then fD es n && s == 0 && (e.length:Int) == 0 else false
def qN (ss:List St) (es:List En):List Ty->Bool
 | []=>false
 | u :: r=>valF ss es u && r.isEmpty
end
def fS (ss:List St) (n:ByteArray):Option St:=ss.find? fun s=>decide (s.nm=n)
def yS (es:List En) (n:ByteArray):Option En:=es.find? fun s=>decide (s.nm=n)
theorem HG (ss:List St) (n:ByteArray):(fS ss n).isSome=gX ss n:=by unfold fS gX; rw [Bool.eq_iff_iff,List.find?_isSome,List.any_eq_true]
abbrev gG (s:St):A:=.gs (aV s)
abbrev gN (s:En):A:=.gs (bC s)
def i6 (ks:List Value) (vs:List St) (ss:List St):Prop:=∀ n,gC ks (vs.map gG) (.string n)=(fS ss n).map gG
def xE (ks:List Value) (vs:List En) (es:List En):Prop:=∀ n,gC ks (vs.map gN) (.string n)=(yS es n).map gN
@[go_sem] theorem O7 (f:Nat->Option Nat) (l:List St):(l.map gG).map (A.ren f)=l.map gG:=by rw [List.map_map]; rfl
@[go_sem] theorem PO (f:Nat->Option Nat) (l:List En):(l.map gN).map (A.ren f)=l.map gN:=by rw [List.map_map]; rfl
@[go_sem] theorem aDX (n:Nat) (xs:List (List C)) (l:List St):(l.map gG).map (A.pub n xs)=l.map gG:=by rw [List.map_map]; rfl
@[go_sem] theorem aD3 (n:Nat) (xs:List (List C)) (l:List En):(l.map gN).map (A.pub n xs)=l.map gN:=by rw [List.map_map]; rfl
abbrev kE:S:=.va (.gs [.mp 0,.mp 1])
abbrev eQ (ks:List Value) (vs:List St) (ks':List Value) (vs':List En):Hp:=[.map .string ks (vs.map gG),.map .string ks' (vs'.map gN)]
def M0 (N:Nat):W.Spec:=fun av H K=>∃ (ss:List St) (es:List En) (t:Ty) (ks:List Value) (vs:List St) (ks':List Value) (vs':List En),av=[kE,.va (.gs (aP t))]/\H=eQ ks vs ks' vs'/\
 i6 ks vs ss/\xE ks' vs' es/\TyOk t/\t.h<=N/\K (bS (valF ss es t)) (eQ ks vs ks' vs')
theorem PJ (es:List En) (n:ByteArray):(yS es n).isSome=fD es n:=by unfold yS fD; rw [Bool.eq_iff_iff,List.find?_isSome,List.any_eq_true]
theorem NW {N:Nat} {ss:List St} {es:List En} {t:Ty} {ks:List Value} {vs:List St} {ks':List Value} {vs':List En} {K:S->Hp->Prop} (h1:i6 ks vs ss) (h2:xE ks' vs' es) (h3:TyOk t) (h4:t.h<=N) (hK:K (bS (valF ss es t)) (eQ ks vs ks' vs')) :
 M0 N [kE,.va (.gs (aP t))] (eQ ks vs ks' vs') K:=⟨ss,es,t,ks,vs,ks',vs',rfl,rfl,h1,h2,h3,h4,hK⟩
@[go_sem] theorem aAV (t:Ty):(aP t).take 4=aP t:=by rw [aY]; rfl
@[go_sem] theorem aGC (t:Ty):(aP t).map C.nf=aP t:=by rw [aY]; rfl
@[go_sem] theorem aDA (t:Ty) (f:Nat->Option Nat):(aP t).map (C.ren f)=aP t:=by rw [aY]; rfl
theorem Ty.h_pos (t:Ty):0 < t.h:=by cases t; rw [Ty.h]; omega
theorem H6:∀ N,Meets Tryz.prog 112 (M0 N)
 | 0=>⟨by kernel_rfl,by rintro xs vs E ro w K _ _ _ ⟨_,_,t,_,_,_,_,_,_,_,_,_,h,_⟩; have:=t.h_pos; omega⟩
 | N + 1=>by
  refine aF Tryz.func112 WY 2 (by rw [Tryz.ntmps112]; decide) (aA (H6 N) (aB _)) (fun av H K h=>by obtain ⟨_,_,_,_,_,_,_,rfl,_⟩:=h; rfl) ?_
  rintro av H K ⟨ss,es,t,ks,vs,ks',vs',rfl,rfl,h1,h2,h3,h4,hK⟩
  cases t with
  | mk k s n e=>
  have fin:∀ (b:Bool) (B1 B2:B),valF ss es (.mk k s n e)=b->W.Fin 2 K (bS b) [.map .string ks (vs.map gG),.map .string ks' (vs'.map gN),B1,B2]:=fun b B1 B2 h=>by
   rw [h] at hK
   exact .sel [0,1] (by simp) (by simp) rfl (.done (by simp -dsimp only [go_sem]; simpa using hK))
  by_cases k1:(k == 1)=true
  · have hF:=valF.eq_1 ss es k s n e
    rw [k1] at hF
    simp only [aO] at hF
    simp -dsimp only [go_sem,aP,bQ,iE,iI,k1]
    exact fin _ _ _ hF
  rw [Bool.not_eq_true] at k1
  by_cases k2:(k == 2)=true
  · have hF:=valF.eq_1 ss es k s n e
    rw [k1,k2] at hF
    simp only [aO,aH] at hF
    simp -dsimp only [go_sem,aP,bQ,iE,iI,k1,k2]
    exact fin _ _ _ hF
  rw [Bool.not_eq_true] at k2
  by_cases k3:(k == 3)=true
  · have hF:=valF.eq_1 ss es k s n e
    rw [k1,k2,k3] at hF
    simp only [aO,aH] at hF
    simp -dsimp only [go_sem,aP,bQ,iE,iI,k1,k2,k3]
    exact fin _ _ _ hF
  rw [Bool.not_eq_true] at k3
  by_cases k4:(k == 4)=true
  · have hF:=valF.eq_1 ss es k s n e
    rw [k1,k2,k3,k4] at hF
    simp only [aO,aH] at hF
    simp -dsimp only [go_sem,aP,bQ,iE,iI,k1,k2,k3,k4]
    exact fin _ _ _ hF
  rw [Bool.not_eq_true] at k4
  by_cases k5:(k == 5)=true
  · have hF:=valF.eq_1 ss es k s n e
    rw [k1,k2,k3,k4,k5] at hF
    simp only [aO,aH] at hF
    cases hc:(decide (1<=s) && decide (s<=32) && bl n == [] && (e.length:Int) == 1) with
    | false=>
     have hF':valF ss es (.mk k s n e)=false:=by
      rw [hF]
      cases h0:(decide (1<=s) && decide (s<=32) && bl n == []) with
      | false=>rfl
      | true=>
       rw [h0,Bool.true_and] at hc
       match e,hc with
       | [],_=>rfl
       | [u],hc=>simp at hc
       | u :: v :: r,_=>simp [qN]
     simp (maxSteps:=9^6) -dsimp only [go_sem,aP,bQ,iE,iI,k1,k2,k3,k4,k5,hc]
     exact fin _ _ _ hF'
    | true=>
     obtain ⟨u,rfl⟩:∃ u,e=[u]:=by
      simp only [Bool.and_eq_true,beq_iff_eq] at hc
      exact List.length_eq_one_iff.1 (by omega)
     have h0:(decide (1<=s) && decide (s<=32) && bl n == [])=true:=by
      simp only [Bool.and_eq_true] at hc ⊢; exact hc.1
     have hF':valF ss es (.mk k s n [u])=valF ss es u:=by rw [hF,h0]; simp [qN]
     have hh:u.h<=N:=by rw [Ty.h,Ty.hs,Ty.hs] at h4; omega
     have hu:TyOk u:=h3.e u (by simp [Ty.e])
     have hc':(decide (1<=s) && decide (s<=32) && bl n == [] && ((1:Nat):Int) == 1)=true:=hc
     simp (maxSteps:=9^6) -dsimp only [go_sem,aP,bQ,iE,iI,k1,k2,k3,k4,k5,hc']
     refine ⟨⟨by omega,fun r hr=>by subst hr; exact cU u⟩,fun r hr=>?_⟩
     subst hr
     refine ⟨by rw [cU]; exact Nat.le_refl _,?_⟩
     simp -dsimp only [go_sem]
     refine NW h1 h2 hu hh ?_
     simp (maxSteps:=9^6) -dsimp only [go_sem]
     exact fin _ _ _ hF'
  rw [Bool.not_eq_true] at k5
  by_cases k6:(k == 6)=true
  · have hF:=valF.eq_1 ss es k s n e
    rw [k1,k2,k3,k4,k5,k6] at hF
    simp only [aO,aH] at hF
    have hm:=h1 n
    rw [<-HG] at hF
    cases hf:fS ss n with
    | none=>
     rw [hf] at hm hF
     simp only [Option.map_none] at hm
     simp (maxSteps:=9^6) -dsimp only [go_sem,aP,bQ,iE,iI,k1,k2,k3,k4,k5,k6,hm]
     refine .sel [0,1] (by simp) (by simp) rfl (.done ?_)
     rw [hF] at hK
     simp -dsimp only [go_sem]; simpa using hK
    | some d=>
     rw [hf] at hm hF
     simp only [Option.map_some] at hm
     simp (maxSteps:=9^6) -dsimp only [go_sem,aP,bQ,iE,iI,k1,k2,k3,k4,k5,k6,hm]
     refine ⟨by simp [aV,go_sem],by simp [aV],.sel [0,1] (by simp) (by simp) rfl (.done ?_)⟩
     rw [hF] at hK
     simp -dsimp only [go_sem]; simpa using hK
  rw [Bool.not_eq_true] at k6
  by_cases k7:(k == 7)=true
  · have hF:=valF.eq_1 ss es k s n e
    rw [k1,k2,k3,k4,k5,k6,k7] at hF
    simp only [aO,aH] at hF
    have hm:=h2 n
    rw [<-PJ] at hF
    cases hf:yS es n with
    | none=>
     rw [hf] at hm hF
     simp only [Option.map_none] at hm
     simp (maxSteps:=9^6) -dsimp only [go_sem,aP,bQ,iE,iI,k1,k2,k3,k4,k5,k6,k7,hm]
     refine .sel [0,1] (by simp) (by simp) rfl (.done ?_)
     rw [hF] at hK
     simp -dsimp only [go_sem]; simpa using hK
    | some d=>
     rw [hf] at hm hF
     simp only [Option.map_some] at hm
     simp (maxSteps:=9^6) -dsimp only [go_sem,aP,bQ,iE,iI,k1,k2,k3,k4,k5,k6,k7,hm]
     refine ⟨by simp [bC,go_sem],by simp [bC],.sel [0,1] (by simp) (by simp) rfl (.done ?_)⟩
     rw [hF] at hK
     simp -dsimp only [go_sem]; simpa using hK
  rw [Bool.not_eq_true] at k7
  have hF:=valF.eq_1 ss es k s n e
  rw [k1,k2,k3,k4,k5,k6,k7] at hF
  simp only [aH] at hF
  simp -dsimp only [go_sem,aP,bQ,iE,iI,k1,k2,k3,k4,k5,k6,k7]
  exact fin _ _ _ hF
theorem j0 {P:Program} {f:FuncId} {s:W.Spec} {ι:Type} {t:ι->W.Spec} (i0:ι) (m:∀ i,Meets P f (t i)) (h:∀ av H K,s av H K->∃ i,t i av H K):Meets P f s:=⟨(m i0).1,by
 intro xs vl E ro w K h1 h2 h3 h4
 obtain ⟨i,hi⟩:=h _ _ _ h4
 exact (m i).2 xs vl E ro w K h1 h2 h3 hi⟩
def HS:W.Spec:=fun av H K=>∃ (ss:List St) (es:List En) (t:Ty) (ks:List Value) (vs:List St) (ks':List Value) (vs':List En),av=[kE,.va (.gs (aP t))]/\H=eQ ks vs ks' vs'/\
 i6 ks vs ss/\xE ks' vs' es/\TyOk t/\K (bS (valF ss es t)) (eQ ks vs ks' vs')
theorem ON:Meets Tryz.prog 112 HS:=j0 0 H6 fun _av _H _K ⟨ss,es,t,ks,vs,ks',vs',e1,e2,h4,h5,h6,hK⟩=>⟨t.h,ss,es,t,ks,vs,ks',vs',e1,e2,h4,h5,h6,Nat.le_refl _,hK⟩
theorem BW {ss:List St} {es:List En} {t:Ty} {ks:List Value} {vs:List St} {ks':List Value} {vs':List En} {K:S->Hp->Prop} (h1:i6 ks vs ss) (h2:xE ks' vs' es) (h3:TyOk t) (hK:K (bS (valF ss es t)) (eQ ks vs ks' vs')) :
 HS [kE,.va (.gs (aP t))] (eQ ks vs ks' vs') K:=⟨ss,es,t,ks,vs,ks',vs',rfl,rfl,h1,h2,h3,hK⟩
def pI (ss:List St) (es:List En) (t:St) (k:Nat):Int:=match t.fs[k]? with
 | some f=>bif decide (f.num < 1) || decide (127 < f.num) then 4 else bif decide (0 < (k:Int)) && (match t.fs[k - 1]? with | some g=>decide (f.num<=g.num) | none=>false) then 2 else
  bif !(bX (bl f.nm)) then 5 else bif (t.fs.take k).any (fun g=>decide (g.nm=f.nm)) then 7 else bif !(valF ss es f.ty) then 13 else 0
 | none=>0
def rK (ss:List St) (es:List En) (t:St):Int:=fE (pI ss es t) (t.fs.length - 0) 0
def RP:W.Spec:=fun av H K=>∃ (ss:List St) (es:List En) (t:St) (ks:List Value) (vs:List St) (ks':List Value) (vs':List En),av=[kE,.va (.gs (aV t))]/\H=eQ ks vs ks' vs'/\
 i6 ks vs ss/\xE ks' vs' es/\t.ok/\K (iS .i64 (rK ss es t)) (eQ ks vs ks' vs')
theorem Q6 {ss:List St} {es:List En} {t:St} {ks:List Value} {vs:List St} {ks':List Value} {vs':List En} {K:S->Hp->Prop} (h1:i6 ks vs ss) (h2:xE ks' vs' es) (h3:t.ok) (hK:K (iS .i64 (rK ss es t)) (eQ ks vs ks' vs')) :
 RP [kE,.va (.gs (aV t))] (eQ ks vs ks' vs') K:=⟨ss,es,t,ks,vs,ks',vs',rfl,rfl,h1,h2,h3,hK⟩
theorem mM (f:Fl):[C.vl (.int .i64 f.ty.k),.vl (.int .i64 f.ty.s),.vl (.string f.ty.n),.fz (f.ty.e.map aP)]=aP f.ty:=(aY f.ty).symm
theorem z7:Meets Tryz.prog 77 RP:=by
 refine aF Tryz.func77 ZR 2 (by rw [Tryz.ntmps77]; decide) (aA ON (aK qM (aB _))) (fun av H K h=>by obtain ⟨_,_,_,_,_,_,_,rfl,_⟩:=h; rfl) ?_
 rintro av H K ⟨ss,es,t,ks,vs,ks',vs',rfl,rfl,h1,h2,h3,hK⟩
 have fin:∀ (x:Int) (R:Hp),rK ss es t=x->W.Fin 2 K (iS .i64 x) (.map .string ks (vs.map gG) :: .map .string ks' (vs'.map gN) :: R):=fun x R h=>by
  rw [h] at hK
  exact .sel [0,1] (by simp) (by simp) rfl (.done (by simp -dsimp only [go_sem]; simpa using hK))
 obtain ⟨_,hl,hfs⟩:=h3
 simp -dsimp only [go_sem,aV,SE,RR]
 refine a7 (α:=Nat) (fun i=>[(2,.va (.c1 (.pt 2 0))),(3,.va (.c1 (.pt 3 0))),(10,.va (.c1 (.fz (t.fs.map bU)))),(11,iS .i64 t.fs.length),(12,iS .i64 i)]) (fun _=>[.map .string ks (vs.map gG),.map .string ks' (vs'.map gN),.cells [.mp 0,.mp 1] 117,.cells (aV t) 56])
  (fun i=>i<=t.fs.length/\fE (pI ss es t) (t.fs.length - i) i=rK ss es t) (fun i=>t.fs.length - i) 0 4 ⟨Nat.zero_le _,rfl⟩ ?_ ?_ ?_
 · simp -dsimp only [go_sem]<;>simp
 · simp -dsimp only [go_sem,aV]<;>simp
 rintro i ⟨hi,ho⟩
 rcases cM i t.fs.length with hlt | hge
 · have hg:decide ((i:Int) < (t.fs.length:Int))=true:=by simp; omega
   obtain ⟨f,hx⟩:∃ nm,t.fs[i]? = some nm:=⟨_,a8 hlt⟩
   have q1:=bH (row:=bU) hx
   have hf:f.ok:=hfs f (b6 hx)
   have hA:pI ss es t i=bif decide (f.num < 1) || decide (127 < f.num) then (4:Int) else bif decide (0 < (i:Int)) && (match t.fs[i - 1]? with | some g=>decide (f.num<=g.num) | none=>false) then 2 else
    bif !(bX (bl f.nm)) then 5 else bif (t.fs.take i).any (fun g=>decide (g.nm=f.nm)) then 7 else bif !(valF ss es f.ty) then 13 else 0:=by
    unfold pI; rw [hx]
   have fin':∀ (x:Int) (R:Hp),pI ss es t i=x->x ≠ 0->W.Fin 2 K (iS .i64 x) (.map .string ks (vs.map gG) :: .map .string ks' (vs'.map gN) :: R):=fun x R h1 h2=>fin x R (by
    rw [<-ho,pS hlt (by rw [h1]; exact h2),h1])
   have dR:pI ss es t i=0->fE (pI ss es t) (t.fs.length - (i + 1)) (i + 1)=rK ss es t:=fun h1=>by rw [<-ho,tG hlt h1]
   cases c1:(decide (f.num < 1) || decide (127 < f.num)) with
   | true=>
    rw [c1] at hA
    simp (maxSteps:=9^6) -dsimp only [go_sem,hg,↓q1,bU,aV,c1]
    and_intros
    all_goals first
     | omega
     | exact fin' 4 _ hA (by decide)
   | false=>
    rw [c1] at hA
    simp only [aH] at hA
    rcases Nat.eq_zero_or_pos i with h0 | h0
    · have g1:decide (0 < (i:Int))=false:=by simp; omega
      rw [g1] at hA
      simp only [Bool.false_and,aH] at hA
      cases c3:bX (bl f.nm) with
      | false=>
       rw [c3] at hA
       simp (maxSteps:=9^6) -dsimp only [go_sem,hg,↓q1,bU,aV,c1,c3,g1]
       and_intros
       all_goals first
        | omega
        | exact fin' 5 _ hA (by decide)
        | trace_state
      | true=>
       rw [c3] at hA
       simp only [Bool.not_true,aH] at hA
       simp (maxSteps:=9^6) -dsimp only [go_sem,hg,↓q1,bU,aV,c1,c3,g1,eZ,fV EQ]
       and_intros
       all_goals first
        | omega
        | skip
       have hlj:=lQ t.fs i
       generalize hm:t.fs.take i=m at *
       refine a7 (α:=Nat) (fun j=>[(2,.va (.c1 (.pt 2 0))),(3,.va (.c1 (.pt 3 0))),(6,.va (.c1 (.pt 4 0))),(10,.va (.c1 (.fz (t.fs.map bU)))),(11,iS .i64 t.fs.length),(12,iS .i64 i),(49,.va (.c1 (.fz (m.map bU)))),(50,iS .i64 m.length),(51,iS .i64 j)])
        (fun _=>[.map .string ks (vs.map gG),.map .string ks' (vs'.map gN),.cells [.mp 0,.mp 1] 117,.cells (aV t) 56,.cells (bU f) 64])
        (fun j=>j<=m.length/\(m.drop j).any (fun g=>decide (g.nm=f.nm))=m.any (fun g=>decide (g.nm=f.nm))) (fun j=>m.length - j) 0 5 ⟨Nat.zero_le _,rfl⟩ ?_ ?_ ?_
       · simp -dsimp only [go_sem]<;>simp
       · simp -dsimp only [go_sem,aV,bU]<;>simp
       rintro j ⟨hj,ho2⟩
       rcases cM j m.length with hjt | hjg
       · have hgj:decide ((j:Int) < (m.length:Int))=true:=by simp; omega
         obtain ⟨d,hd⟩:∃ e,m[j]? = some e:=⟨_,a8 hjt⟩
         have q5:=bH (row:=bU) hd
         rw [fX hd] at ho2
         simp (maxSteps:=9^6) -dsimp only [go_sem,hgj,↓q5,bU,aV,jY]
         and_intros
         all_goals first
          | omega
          | skip
         · intro hc
           rw [hc,Bool.true_or] at ho2
           rw [<-ho2] at hA
           exact fin' 7 _ hA (by decide)
         · intro hc
           rw [hc,Bool.false_or] at ho2
           refine ⟨by omega,aD (j + 1) 5 ⟨by omega,ho2⟩ (by omega) ?_ ?_⟩
           · simp -dsimp only [go_sem]<;>simp
           · simp -dsimp only [go_sem,aV,bU]<;>simp
       · have hgj:decide ((j:Int) < (m.length:Int))=false:=by simp; omega
         obtain rfl:j=m.length:=by omega
         rw [gP] at ho2
         rw [<-ho2] at hA
         simp only [aH] at hA
         simp (maxSteps:=9^6) -dsimp only [go_sem,hgj,bU,aV,mM]
         refine BW h1 h2 hf.ty ?_
         cases c5:valF ss es f.ty with
         | true=>
          rw [c5] at hA
          simp (maxSteps:=9^6) -dsimp only [go_sem]
          refine ⟨by omega,aD (i + 1) 4 ⟨by omega,dR hA⟩ (by omega) ?_ ?_⟩
          · simp -dsimp only [go_sem]<;>simp
          · simp -dsimp only [go_sem,aV]<;>simp
         | false=>
          rw [c5] at hA
          simp (maxSteps:=9^6) -dsimp only [go_sem]
          exact fin' 13 _ hA (by decide)
    · have g1:decide (0 < (i:Int))=true:=by simp; omega
      obtain ⟨g,hy⟩:∃ m,t.fs[i - 1]? = some m:=⟨_,a8 (by omega)⟩
      have q4:((i:Int) - 1).toNat=i - 1:=by omega
      rw [g1,hy,Bool.true_and] at hA
      simp only at hA
      cases c2:decide (f.num<=g.num) with
      | true=>
       rw [c2] at hA
       simp (maxSteps:=9^6) -dsimp only [go_sem,hg,↓q1,bU,aV,c1,g1,q4,hy,aC,forall_eq',c2]
       and_intros
       all_goals first
        | omega
        | exact fin' 2 _ hA (by decide)
        | trace_state
      | false=>
       rw [c2] at hA
       simp only [aH] at hA
       cases c3:bX (bl f.nm) with
       | false=>
        rw [c3] at hA
        simp (maxSteps:=9^6) -dsimp only [go_sem,hg,↓q1,bU,aV,c1,c3,g1,q4,hy,aC,forall_eq',c2]
        and_intros
        all_goals first
         | omega
         | exact fin' 5 _ hA (by decide)
         | trace_state
       | true=>
        rw [c3] at hA
        simp only [Bool.not_true,aH] at hA
        simp (maxSteps:=9^6) -dsimp only [go_sem,hg,↓q1,bU,aV,c1,c3,g1,q4,hy,aC,forall_eq',c2,eZ,fV EQ]
        and_intros
        all_goals first
         | omega
         | skip
        have hlj:=lQ t.fs i
        generalize hm:t.fs.take i=m at *
        refine a7 (α:=Nat) (fun j=>[(2,.va (.c1 (.pt 2 0))),(3,.va (.c1 (.pt 3 0))),(6,.va (.c1 (.pt 4 0))),(10,.va (.c1 (.fz (t.fs.map bU)))),(11,iS .i64 t.fs.length),(12,iS .i64 i),(49,.va (.c1 (.fz (m.map bU)))),(50,iS .i64 m.length),(51,iS .i64 j)])
         (fun _=>[.map .string ks (vs.map gG),.map .string ks' (vs'.map gN),.cells [.mp 0,.mp 1] 117,.cells (aV t) 56,.cells (bU f) 64])
         (fun j=>j<=m.length/\(m.drop j).any (fun g=>decide (g.nm=f.nm))=m.any (fun g=>decide (g.nm=f.nm))) (fun j=>m.length - j) 0 5 ⟨Nat.zero_le _,rfl⟩ ?_ ?_ ?_
        · simp -dsimp only [go_sem]<;>simp
        · simp -dsimp only [go_sem,aV,bU]<;>simp
        rintro j ⟨hj,ho2⟩
        rcases cM j m.length with hjt | hjg
        · have hgj:decide ((j:Int) < (m.length:Int))=true:=by simp; omega
          obtain ⟨d,hd⟩:∃ e,m[j]? = some e:=⟨_,a8 hjt⟩
          have q5:=bH (row:=bU) hd
          rw [fX hd] at ho2
          simp (maxSteps:=9^6) -dsimp only [go_sem,hgj,↓q5,bU,aV,jY]
          and_intros
          all_goals first
           | omega
           | skip
          · intro hc
            rw [hc,Bool.true_or] at ho2
            rw [<-ho2] at hA
            exact fin' 7 _ hA (by decide)
          · intro hc
            rw [hc,Bool.false_or] at ho2
            refine ⟨by omega,aD (j + 1) 5 ⟨by omega,ho2⟩ (by omega) ?_ ?_⟩
            · simp -dsimp only [go_sem]<;>simp
            · simp -dsimp only [go_sem,aV,bU]<;>simp
        · have hgj:decide ((j:Int) < (m.length:Int))=false:=by simp; omega
          obtain rfl:j=m.length:=by omega
          rw [gP] at ho2
          rw [<-ho2] at hA
          simp only [aH] at hA
          simp (maxSteps:=9^6) -dsimp only [go_sem,hgj,bU,aV,mM]
          refine BW h1 h2 hf.ty ?_
          cases c5:valF ss es f.ty with
          | true=>
           rw [c5] at hA
           simp (maxSteps:=9^6) -dsimp only [go_sem]
           refine ⟨by omega,aD (i + 1) 4 ⟨by omega,dR hA⟩ (by omega) ?_ ?_⟩
           · simp -dsimp only [go_sem]<;>simp
           · simp -dsimp only [go_sem,aV]<;>simp
          | false=>
           rw [c5] at hA
           simp (maxSteps:=9^6) -dsimp only [go_sem]
           exact fin' 13 _ hA (by decide)
 · have hg:decide ((i:Int) < (t.fs.length:Int))=false:=by simp; omega
   obtain rfl:i=t.fs.length:=by omega
   rw [uK] at ho
   simp -dsimp only [go_sem,hg,aV]
   exact fin 0 _ ho.symm
abbrev fH (ns:List ByteArray):List Value:=ns.map Value.string
def f0:List ByteArray->ByteArray->Option Nat
 | [],_=>none
 | k :: ks,q=>bif decide (q=k) then some 0 else (f0 ks q).map (· + 1)
theorem IM (a b:ByteArray):uJ (.string a) (.string b)=decide (a=b):=by
 rw [Bool.eq_iff_iff,xG (d:=.string) (by simp [MapKept.IsKey]) (by simp [MapKept.IsKey])]; simp
theorem iN (q:ByteArray):∀ ns:List ByteArray,mX (fH ns) (.string q)=f0 ns q
 | []=>rfl
 | k :: ks=>by
  have:=iN q ks
  simp only [fH,List.map_cons,mX,f0,IM] at this ⊢
  rw [this]
theorem jS {q:ByteArray}:∀ {ns:List ByteArray} {i:Nat},f0 ns q=some i->ns[i]? = some q/\i < ns.length
 | [],_,h=>by cases h
 | k :: ks,i,h=>by
  simp only [f0] at h
  by_cases hk:q=k
  · simp [hk] at h; subst h; simp [hk]
  · simp [hk] at h
    obtain ⟨j,h1,rfl⟩:=h
    have:=jS h1
    simpa using this
theorem I2 (ns:List ByteArray) (q n:ByteArray):f0 (ns ++ [q]) n=match f0 ns n with | some i=>some i | none=>bif decide (n=q) then some ns.length else none:=by
 induction ns with
 | nil=>simp only [List.nil_append,f0,List.length_nil,Option.map_none]
 | cons k ks ih=>
  simp only [List.cons_append,f0,ih]
  by_cases hk:n=k
  · simp [hk]
  · simp only [hk,decide_false,cond_false]
    cases f0 ks n with
    | some i=>rfl
    | none=>by_cases hq:n=q<;>simp [hq]
theorem m9 {α:Type} (row:α->A) (ns:List ByteArray) (l:List α) (n:ByteArray):gC (fH ns) (l.map row) (.string n)=(f0 ns n).bind fun i=>(l[i]?).map row:=by
 unfold gC; rw [iN]; simp only [List.getElem?_map]
theorem BV {α:Type} (row:α->A) {ns:List ByteArray} {l:List α} (h:ns.length=l.length) (q:ByteArray) (x:α):∃ (ns':List ByteArray) (l':List α),iF (fH ns) (.string q)=fH ns'/\iW (fH ns) (l.map row) (.string q) (row x)=l'.map row/\
 ns'.length=l'.length/\∀ n,gC (fH ns') (l'.map row) (.string n)=bif decide (n=q) then some (row x) else gC (fH ns) (l.map row) (.string n):=by
 cases hm:f0 ns q with
 | none=>
  refine ⟨ns ++ [q],l ++ [x],?_,?_,by simp [h],fun n=>?_⟩
  · unfold iF; rw [iN,hm]; simp
  · unfold iW; rw [iN,hm]; simp
  · rw [m9,m9,I2]
    by_cases hn:n=q
    · subst hn; rw [hm]; simp [h]
    · simp only [hn,decide_false,cond_false]
      cases hs:f0 ns n with
      | none=>rfl
      | some i=>have:=(jS hs).2; simp [List.getElem?_append_left (show i < l.length by omega)]
 | some i=>
  obtain ⟨h1,h2⟩:=jS hm
  refine ⟨ns,l.set i x,?_,?_,by simp [h],fun n=>?_⟩
  · unfold iF; rw [iN,hm]
  · unfold iW; rw [iN,hm]; simp only [List.map_set]
  · rw [m9,m9]
    by_cases hn:n=q
    · subst hn; rw [hm]; simp [show i < l.length by omega]
    · simp only [hn,decide_false,cond_false]
      cases hs:f0 ns n with
      | none=>rfl
      | some j=>
       have hj:=jS hs
       have:i ≠ j:=fun e=>hn (by subst e; rw [h1] at hj; exact (aZ hj.1).symm)
       simp [List.getElem?_set,this]
theorem O9 {ss:List St} {k:Nat} {x:St} (hx:ss[k]? = some x) (n:ByteArray):fS (ss.drop k) n=bif decide (n=x.nm) then some x else fS (ss.drop (k + 1)) n:=by
 obtain ⟨h,rfl⟩:=aU.1 hx
 rw [List.drop_eq_getElem_cons h]
 unfold fS
 rw [List.find?_cons]
 by_cases hn:n=ss[k].nm
 · simp [hn]
 · simp [hn,show ¬ ss[k].nm=n from fun e=>hn e.symm]
theorem JJ {ss:List En} {k:Nat} {x:En} (hx:ss[k]? = some x) (n:ByteArray):yS (ss.drop k) n=bif decide (n=x.nm) then some x else yS (ss.drop (k + 1)) n:=by
 obtain ⟨h,rfl⟩:=aU.1 hx
 rw [List.drop_eq_getElem_cons h]
 unfold yS
 rw [List.find?_cons]
 by_cases hn:n=ss[k].nm
 · simp [hn]
 · simp [hn,show ¬ ss[k].nm=n from fun e=>hn e.symm]
def US:W.Spec:=fun av H K=>∃ s:Sc,av=[.va (.gs (aR s))]/\H=[]/\s.ok/\∀ ks vs ks' vs',i6 ks vs s.ss->xE ks' vs' s.es->K kE (eQ ks vs ks' vs')
theorem UR {s:Sc} {K:S->Hp->Prop} (h:s.ok) (hK:∀ ks vs ks' vs',i6 ks vs s.ss->xE ks' vs' s.es->K kE (eQ ks vs ks' vs')):US [.va (.gs (aR s))] [] K:=⟨s,rfl,rfl,h,hK⟩
abbrev YC:B:=.cells [.vl (.map none),.vl (.map none)] 117
theorem I7:Meets Tryz.prog 75 US:=by
 refine aF Tryz.func75 aA9 1 (by rw [Tryz.ntmps75]; decide) (aB _) (fun av H K h=>by obtain ⟨_,rfl,_⟩:=h; rfl) ?_
 rintro av H K ⟨s,rfl,rfl,hs,hK⟩
 obtain ⟨_,hle,hls,_,_⟩:=hs
 simp -dsimp only [go_sem,aR,SP,SI]
 refine ⟨by omega,a7 (α:=Nat × List ByteArray × List St) (fun z=>[(1,.va (.c1 (.pt 0 0))),(2,.va (.c1 (.pt 1 0))),(3,.va (.c1 (.pt 4 0))),(4,iS .i64 ((z.1:Int) - 1))]) (fun z=>[.cells (aR s) 25,YC,.map .string (fH z.2.1) (z.2.2.map gG),.map .string [] [],.cells [.mp 2,.mp 3] 117])
  (fun z=>z.1<=s.ss.length/\z.2.1.length=z.2.2.length/\∀ n,gC (fH z.2.1) (z.2.2.map gG) (.string n)=(fS (s.ss.drop z.1) n).map gG) (fun z=>z.1) (s.ss.length,[],[]) 5 ⟨Nat.le_refl _,rfl,fun n=>by rw [List.drop_length]; rfl⟩ ?_ ?_ ?_⟩
 · simp -dsimp only [go_sem]<;>simp
 · simp -dsimp only [go_sem,aR]<;>simp
 rintro ⟨m,ns,l⟩ ⟨hm,hnl,hg⟩
 simp only at hm hnl hg ⊢
 cases m with
 | zero=>
  have e0:decide (0<=((0:Nat):Int) - 1)=false:=rfl
  rw [List.drop_zero] at hg
  simp -dsimp only [go_sem,aR,e0]
  refine ⟨by omega,a7 (α:=Nat × List ByteArray × List En) (fun z=>[(1,.va (.c1 (.pt 0 0))),(2,.va (.c1 (.pt 1 0))),(3,.va (.c1 (.pt 4 0))),(5,iS .i64 ((z.1:Int) - 1))]) (fun z=>[.cells (aR s) 25,YC,.map .string (fH ns) (l.map gG),.map .string (fH z.2.1) (z.2.2.map gN),.cells [.mp 2,.mp 3] 117])
   (fun z=>z.1<=s.es.length/\z.2.1.length=z.2.2.length/\∀ n,gC (fH z.2.1) (z.2.2.map gN) (.string n)=(yS (s.es.drop z.1) n).map gN) (fun z=>z.1) (s.es.length,[],[]) 5 ⟨Nat.le_refl _,rfl,fun n=>by rw [List.drop_length]; rfl⟩ ?_ ?_ ?_⟩
  · simp -dsimp only [go_sem]<;>simp
  · simp -dsimp only [go_sem,aR]<;>simp
  clear hnl hm
  rintro ⟨m,ms,j⟩ ⟨hm,hnl,hge⟩
  simp only at hm hnl hge ⊢
  cases m with
  | zero=>
   rw [List.drop_zero] at hge
   simp -dsimp only [go_sem,aR,e0]
   exact .sel [2,3] (by simp) (by simp) rfl (.done (by simp -dsimp only [go_sem]; simpa [go_sem] using hK (fH ns) l (fH ms) j hg hge))
  | succ k=>
   obtain ⟨x,hx⟩:∃ x,s.es[k]? = some x:=⟨_,a8 (by omega)⟩
   have q2:=bH (row:=bC) hx
   have e1:((k + 1:Nat):Int) - 1=(k:Int):=by omega
   have e2:decide (0<=(k:Int))=true:=by simp
   obtain ⟨ns',l',p1,p2,p3,p4⟩:=BV gN hnl x.nm x
   simp -dsimp only [go_sem,aR,e1,e2,↓q2,bC]
   refine ⟨by omega,by omega,by omega,aD (k,ns',l') 5 ⟨by simp only; omega,p3,fun n=>?_⟩ (Nat.lt_succ_self _) ?_ ?_⟩
   · simp only; rw [p4,JJ hx,hge]; cases decide (n=x.nm)<;>rfl
   · simp -dsimp only [go_sem]<;>simp
   · simp -dsimp only [go_sem,aR,p1]<;>simp
     exact (congrArg (List.map (A.ren (jA 5))) p2).trans (PO _ _)
 | succ k=>
  obtain ⟨x,hx⟩:∃ x,s.ss[k]? = some x:=⟨_,a8 (by omega)⟩
  have q2:=bH (row:=aV) hx
  have e1:((k + 1:Nat):Int) - 1=(k:Int):=by omega
  have e2:decide (0<=(k:Int))=true:=by simp
  obtain ⟨ns',l',p1,p2,p3,p4⟩:=BV gG hnl x.nm x
  simp -dsimp only [go_sem,aR,e1,e2,↓q2,aV]
  refine ⟨by omega,by omega,by omega,aD (k,ns',l') 5 ⟨by simp only; omega,p3,fun n=>?_⟩ (Nat.lt_succ_self _) ?_ ?_⟩
  · simp only; rw [p4,O9 hx,hg]; cases decide (n=x.nm)<;>rfl
  · simp -dsimp only [go_sem]<;>simp
  · simp -dsimp only [go_sem,aR,p1]<;>simp
    exact (congrArg (List.map (A.ren (jA 5))) p2).trans (O7 _ _)
mutual
def d4:Ty->Ty
 | .mk k s n e=>bif k == 5 then AR e (.mk k s n e) else .mk k s n e
def AR:List Ty->Ty->Ty
 | [],d=>d
 | u :: r,d=>bif r.isEmpty then d4 u else d
end
def cR (t:Ty):Bool:=(d4 t).k == 6 || (d4 t).k == 7
def bO (t:Ty):ByteArray:=(d4 t).n
theorem x9 {s:Int} {n:ByteArray} {u:Ty}:d4 (.mk 5 s n [u])=d4 u:=by simp [d4,AR]
theorem tI {k s:Int} {n:ByteArray} {e:List Ty} (h:(k == 5 && (e.length:Int) == 1)=false):d4 (.mk k s n e)=.mk k s n e:=by
 rw [d4]
 cases hk:k == 5 with
 | false=>rfl
 | true=>
  rw [hk,Bool.true_and] at h
  match e,h with
  | [],_=>rfl
  | [u],h=>simp at h
  | u :: v :: r,_=>simp [AR]
def FP:W.Spec:=fun av H K=>match av,H with
 | [.va (.gs r)],[]=>jI r/\K (.tu [.c1 (.vl (.string (bO (C.ty r)))),bA (cR (C.ty r))]) []
 | _,_=>False
theorem xX {av:List S} {H:Hp} {K:S->Hp->Prop} (h:FP av H K):∃ t:Ty,av=[.va (.gs (aP t))]/\H=[]/\TyOk t/\K (.tu [.c1 (.vl (.string (bO t))),bA (cR t)]) []:=by
 unfold FP at h
 split at h
 · obtain ⟨⟨t,rfl,ht⟩,hK⟩:=h
   rw [g6] at hK
   exact ⟨t,rfl,rfl,ht,hK⟩
 · exact h.elim
attribute [go_sem ↓] FP
theorem vY (t:Ty):∀ c ∈ aP t,c.one:=by rw [aY]; simp [go_sem]
theorem UN:Meets Tryz.prog 124 FP:=by
 refine aF Tryz.func124 V6 1 (by rw [Tryz.ntmps124]; decide) (aB _) (fun av H K h=>by obtain ⟨_,rfl,_⟩:=xX h; rfl) ?_
 intro av H K h
 obtain ⟨t,rfl,rfl,ht,hK⟩:=xX h
 simp -dsimp only [go_sem,L3,MS]
 refine a7 (α:=Ty) (fun z=>[(1,.va (.c1 (.pt 0 0)))]) (fun z=>[.cells (aP z) 37]) (fun z=>d4 z=d4 t) (fun z=>z.h) t 1 rfl ?_ ?_ ?_
 · simp -dsimp only [go_sem]<;>simp
 · simp -dsimp only [go_sem]<;>simp
 intro z hz
 cases z with
 | mk k s n e=>
 cases hc:(k == 5 && (e.length:Int) == 1) with
 | true=>
  simp only [Bool.and_eq_true,beq_iff_eq] at hc
  obtain ⟨rfl,hl⟩:=hc
  obtain ⟨u,rfl⟩:∃ u,e=[u]:=List.length_eq_one_iff.1 (by omega)
  rw [x9] at hz
  simp -dsimp only [go_sem,aP,bQ]
  refine ⟨fun _=>⟨⟨by omega,fun r hr=>by subst hr; exact cU u⟩,fun r hr=>?_⟩,fun h=>by simp at h⟩
  subst hr
  simp -dsimp only [go_sem,cU]
  refine ⟨vY u,aD u 1 hz (by simp only [Ty.h,Ty.hs]; omega) ?_ ?_⟩
  · simp -dsimp only [go_sem]<;>simp
  · simp -dsimp only [go_sem]<;>simp
 | false=>
  rw [tI hc] at hz
  simp -dsimp only [go_sem,aP,bQ,hc]
  rw [bO,cR,<-hz] at hK
  exact .z ((by simpa [go_sem,Ty.n,Ty.k] using hK))
abbrev xW:ByteArray->A:=fun _=>.c1 (.vl (.bool true))
@[go_sem] theorem aDD (f:Nat->Option Nat) (l:List ByteArray):(l.map xW).map (A.ren f)=l.map xW:=by rw [List.map_map]; rfl
@[go_sem] theorem aD2 (n:Nat) (xs:List (List C)) (l:List ByteArray):(l.map xW).map (A.pub n xs)=l.map xW:=by rw [List.map_map]; rfl
def bG (go:St->List ByteArray->List ByteArray) (ss:List St) (o:List ByteArray) (f:Fl):List ByteArray:=
 bif !(cR f.ty) || cG o (bO f.ty) then o else match fS ss (bO f.ty) with
  | some t=>go t (o ++ [bO f.ty])
  | none=>o ++ [bO f.ty]
def b7 (ss:List St):Nat->St->List ByteArray->List ByteArray
 | 0,_,o=>o
 | N + 1,t,o=>t.fs.foldl (bG (b7 ss N) ss) o
theorem nY (n:ByteArray):∀ ns:List ByteArray,(f0 ns n).isSome=cG ns n
 | []=>rfl
 | k :: ks=>by
  have:=nY n ks
  unfold cG at this
  simp only [f0,cG,List.any_cons]
  by_cases h:n=k
  · simp [h]
  · simp [h,this]
theorem NO (o:List ByteArray) (n:ByteArray):gC (fH o) (o.map xW) (.string n)=bif cG o n then some (.c1 (.vl (.bool true))) else none:=by
 rw [m9,<-nY]
 cases h:f0 o n with
 | none=>rfl
 | some i=>simp [a8 (jS h).2]
theorem J0 {o:List ByteArray} {n:ByteArray} (h:cG o n=false):iF (fH o) (.string n)=fH (o ++ [n]):=by
 rw [<-nY] at h
 unfold iF; rw [iN]
 cases h2:f0 o n with
 | none=>simp
 | some i=>rw [h2] at h; cases h
theorem JE {o:List ByteArray} {n:ByteArray} (h:cG o n=false):iW (fH o) (o.map xW) (.string n) (.c1 (.vl (.bool true)))=(o ++ [n]).map xW:=by
 rw [<-nY] at h
 unfold iW; rw [iN]
 cases h2:f0 o n with
 | none=>simp
 | some i=>rw [h2] at h; cases h
def fresh:List St->List ByteArray->Nat
 | [],_=>0
 | s :: ss,o=>(bif cG o s.nm then 0 else 1) + fresh ss o
theorem D2 (o p:List ByteArray) (n:ByteArray):cG (o ++ p) n=(cG o n || cG p n):=by simp [cG]
theorem mJ (o p:List ByteArray):∀ ss:List St,fresh ss (o ++ p)<=fresh ss o
 | []=>Nat.le_refl _
 | s :: ss=>by
  have:=mJ o p ss
  simp only [fresh,D2]
  cases cG o s.nm<;>cases cG p s.nm<;>simp only [Bool.or_true,Bool.or_false,aO,aH]<;>omega
theorem tE {o:List ByteArray} {n:ByteArray} {t:St} (hn:cG o n=false):∀ {ss:List St},fS ss n=some t->fresh ss (o ++ [n]) < fresh ss o
 | [],h=>by cases h
 | s :: ss,h=>by
  unfold fS at h
  rw [List.find?_cons] at h
  simp only [fresh,D2]
  by_cases hs:s.nm=n
  · have h1:=mJ o [n] ss
    have h2:cG [n] s.nm=true:=by simp [cG,hs]
    have h3:cG o s.nm=false:=by rw [hs]; exact hn
    rw [h2,h3]; simp only [Bool.or_true,aO,aH]; omega
  · simp only [hs,decide_false] at h
    have:=tE hn h
    have h2:cG [n] s.nm=false:=by simp [cG,hs]
    rw [h2,Bool.or_false]
    omega
def Pfx (o p:List ByteArray):Prop:=∃ q,p=o ++ q
theorem Pfx.refl (o:List ByteArray):Pfx o o:=⟨[],by simp⟩
theorem Pfx.trans {a b c:List ByteArray} (h:Pfx a b) (k:Pfx b c):Pfx a c:=by
 obtain ⟨p,rfl⟩:=h; obtain ⟨q,rfl⟩:=k; exact ⟨p ++ q,by simp⟩
theorem Pfx.len {a b:List ByteArray} (h:Pfx a b):a.length<=b.length:=by obtain ⟨p,rfl⟩:=h; simp
theorem Pfx.fresh {ss:List St} {a b:List ByteArray} (h:Pfx a b):fresh ss b<=fresh ss a:=by obtain ⟨p,rfl⟩:=h; exact mJ _ _ _
theorem mL {go:St->List ByteArray->List ByteArray} (hg:∀ t o,Pfx o (go t o)) (ss:List St) (o:List ByteArray) (f:Fl):Pfx o (bG go ss o f):=by
 unfold bG
 cases !(cR f.ty) || cG o (bO f.ty) with
 | true=>exact .refl _
 | false=>
  cases fS ss (bO f.ty) with
  | none=>exact ⟨_,rfl⟩
  | some t=>exact Pfx.trans ⟨_,rfl⟩ (hg _ _)
theorem nR {g:List ByteArray->Fl->List ByteArray} (hg:∀ o f,Pfx o (g o f)):∀ (l:List Fl) (o:List ByteArray),Pfx o (l.foldl g o)
 | [],_o=>.refl _
 | f :: l,o=>(hg o f).trans (nR hg l _)
theorem jD (ss:List St):∀ (N:Nat) (t:St) (o:List ByteArray),Pfx o (b7 ss N t o)
 | 0,_,_o=>.refl _
 | N + 1,t,o=>nR (fun o f=>mL (jD ss N) ss o f) t.fs o
abbrev BU (ks:List Value) (vs:List St) (ks':List Value) (vs':List En) (o:List ByteArray):Hp:=
 [.map .string ks (vs.map gG),.map .string ks' (vs'.map gN),.cells [.mp 0,.mp 1] 117,.map .string (fH o) (o.map xW),.cells [.mp 3] 154,.cells [.sl 7 o.length] 52,.cells [.fn 123 [(false,[.pt 4 0]),(false,[.pt 5 0]),(false,[.pt 2 0]),(false,[.pt 6 0])]] 155,.row (o.map cQ) 9 1]
def LD (N:Nat):W.Spec:=fun av H K=>∃ (ss:List St) (t:St) (ks:List Value) (vs:List St) (ks':List Value) (vs':List En) (o:List ByteArray),av=[.va (.gs (aV t)),.va (.c1 (.pt 4 0)),.va (.c1 (.pt 5 0)),.va (.c1 (.pt 2 0)),.va (.c1 (.pt 6 0))]/\H=BU ks vs ks' vs' o/\
 i6 ks vs ss/\(∀ s ∈ ss,s.ok)/\t.ok/\fresh ss o < N/\(b7 ss N t o).length<=1000000000/\K (.tu []) (BU ks vs ks' vs' (b7 ss N t o))
theorem wQ {N:Nat} {ss:List St} {t:St} {ks:List Value} {vs:List St} {ks':List Value} {vs':List En} {o:List ByteArray} {K:S->Hp->Prop} {H:Hp} (hH:H=BU ks vs ks' vs' o) (h1:i6 ks vs ss) (h2:∀ s ∈ ss,s.ok) (h3:t.ok) (h4:fresh ss o < N) (h5:(b7 ss N t o).length<=1000000000) (hK:K (.tu []) (BU ks vs ks' vs' (b7 ss N t o))) :
 LD N [.va (.gs (aV t)),.va (.c1 (.pt 4 0)),.va (.c1 (.pt 5 0)),.va (.c1 (.pt 2 0)),.va (.c1 (.pt 6 0))] H K:=⟨ss,t,ks,vs,ks',vs',o,rfl,hH,h1,h2,h3,h4,h5,hK⟩
theorem GS {g:List ByteArray->Fl->List ByteArray} {l:List Fl} {i:Nat} {f:Fl} (hx:l[i]? = some f) (o:List ByteArray):(l.drop i).foldl g o=(l.drop (i + 1)).foldl g (g o f):=by
 obtain ⟨h,rfl⟩:=aU.1 hx
 rw [List.drop_eq_getElem_cons h]; rfl
theorem HU:∀ N,Meets Tryz.prog 123 (LD N)
 | 0=>⟨by kernel_rfl,by rintro xs vs E ro w K _ _ _ ⟨_,_,_,_,_,_,_,_,_,_,_,_,h,_⟩; exact absurd h (Nat.not_lt_zero _)⟩
 | N + 1=>by
  refine aF Tryz.func123 VX 5 (by rw [Tryz.ntmps123]; decide) (aA (HU N) (aA UN (aB _))) (fun av H K h=>by obtain ⟨_,_,_,_,_,_,_,rfl,_⟩:=h; rfl) ?_
  rintro av H K ⟨ss,t,ks,vs,ks',vs',o0,rfl,rfl,h1,h2,h3,h4,h5,hK⟩
  obtain ⟨_,hl,hfs⟩:=h3
  simp -dsimp only [go_sem,aV,M4,NB]
  refine a7 (α:=Nat × List ByteArray) (fun z=>[(1,.va (.c1 (.pt 4 0))),(2,.va (.c1 (.pt 5 0))),(3,.va (.c1 (.pt 2 0))),(4,.va (.c1 (.pt 6 0))),(13,.va (.c1 (.fz (t.fs.map bU)))),(14,iS .i64 t.fs.length),(15,iS .i64 z.1)]) (fun z=>BU ks vs ks' vs' z.2)
   (fun z=>z.1<=t.fs.length/\(t.fs.drop z.1).foldl (bG (b7 ss N) ss) z.2=b7 ss (N + 1) t o0/\fresh ss z.2 < N + 1) (fun z=>t.fs.length - z.1) (0,o0) 8 ⟨Nat.zero_le _,rfl,h4⟩ ?_ ?_ ?_
  · simp -dsimp only [go_sem]<;>simp
  · simp -dsimp only [go_sem]<;>simp
  rintro ⟨i,o⟩ ⟨hi,ho,hfr⟩
  simp only at hi ho hfr ⊢
  rcases cM i t.fs.length with hlt | hge
  · have hg:decide ((i:Int) < (t.fs.length:Int))=true:=by simp; omega
    obtain ⟨f,hx⟩:∃ nm,t.fs[i]? = some nm:=⟨_,a8 hlt⟩
    have q1:=bH (row:=bU) hx
    have hf:f.ok:=hfs f (b6 hx)
    rw [GS hx] at ho
    have ht:jI (aP f.ty):=gQ hf.ty
    cases c1:cR f.ty with
    | false=>
     simp (maxSteps:=9^6) -dsimp only [go_sem,hg,↓q1,bU,mM,ht,c1]
     have hv:bG (b7 ss N) ss o f=o:=by unfold bG; rw [c1]; rfl
     rw [hv] at ho
     refine ⟨by omega,by omega,aD (i + 1,o) 8 ⟨by simp only; omega,ho,hfr⟩ (by simp only; omega) ?_ ?_⟩
     · simp -dsimp only [go_sem]<;>simp
     · simp -dsimp only [go_sem]<;>simp
    | true=>
    have hm:=NO o (bO f.ty)
    cases c2:cG o (bO f.ty) with
    | true=>
     have hv:bG (b7 ss N) ss o f=o:=by unfold bG; rw [c1,c2]; rfl
     rw [hv] at ho
     rw [c2] at hm
     simp only [aO] at hm
     simp (maxSteps:=9^6) -dsimp only [go_sem,hg,↓q1,bU,mM,ht,c1,hm]
     refine ⟨by omega,by omega,aD (i + 1,o) 8 ⟨by simp only; omega,ho,hfr⟩ (by simp only; omega) ?_ ?_⟩
     · simp -dsimp only [go_sem]<;>simp
     · simp -dsimp only [go_sem]<;>simp
    | false=>
     rw [c2] at hm
     simp only [aH] at hm
     have mk1:=J0 c2
     have mv1:=JE c2
     have hx1:=h1 (bO f.ty)
     have hb1:(bG (b7 ss N) ss o f).length<=1000000000:=by
      have:=(nR (fun o f=>mL (jD ss N) ss o f) (t.fs.drop (i + 1)) (bG (b7 ss N) ss o f)).len
      rw [ho] at this; omega
     have hb:(o ++ [bO f.ty]).length<=1000000000:=by
      refine Nat.le_trans (Pfx.len ?_) hb1
      unfold bG; rw [c1,c2]
      cases fS ss (bO f.ty) with
      | none=>exact .refl _
      | some t=>exact jD _ _ _ _
     cases hs:fS ss (bO f.ty) with
     | none=>
      have hv:bG (b7 ss N) ss o f=o ++ [bO f.ty]:=by unfold bG; rw [c1,c2,hs]; rfl
      rw [hv] at ho
      rw [hs] at hx1
      simp only [Option.map_none] at hx1
      simp (maxSteps:=9^6) -dsimp only [go_sem,hg,↓q1,bU,mM,ht,c1,hm,mk1,mv1,hx1]
      refine ⟨by omega,by simp at hb; omega,by omega,aD (i + 1,o ++ [bO f.ty]) 8 ⟨by simp only; omega,ho,by have:=mJ o [bO f.ty] ss; simp only; omega⟩ (by simp only; omega) ?_ ?_⟩
      · simp -dsimp only [go_sem]<;>simp
      · simp -dsimp only [go_sem]<;>simp
     | some d=>
      have hv:bG (b7 ss N) ss o f=b7 ss N d (o ++ [bO f.ty]):=by unfold bG; rw [c1,c2,hs]; rfl
      rw [hv] at ho hb1
      rw [hs] at hx1
      simp only [Option.map_some] at hx1
      have hd:d.ok:=h2 d (List.mem_of_find?_eq_some hs)
      have hfl:=tE c2 hs
      simp (maxSteps:=9^6) -dsimp only [go_sem,hg,↓q1,bU,mM,ht,c1,hm,mk1,mv1,hx1,aV]
      refine ⟨by omega,by simp at hb; omega,wQ (o:=o ++ [bO f.ty]) (ks':=ks') (vs':=vs') (by simp [go_sem]) h1 h2 hd (by omega) hb1 ?_⟩
      simp (maxSteps:=9^6) -dsimp only [go_sem]
      refine ⟨by omega,aD (i + 1,b7 ss N d (o ++ [bO f.ty])) 8 ⟨by simp only; omega,ho,by have:=(jD ss N d (o ++ [bO f.ty])).fresh (ss:=ss); simp only; omega⟩ (by simp only; omega) ?_ ?_⟩
      · simp -dsimp only [go_sem]<;>simp
      · simp -dsimp only [go_sem]<;>simp
  · have hg:decide ((i:Int) < (t.fs.length:Int))=false:=by simp; omega
    obtain rfl:i=t.fs.length:=by omega
    rw [List.drop_length] at ho
    simp only [List.foldl_nil] at ho
    simp -dsimp only [go_sem,hg]
    rw [<-ho] at hK
    exact .sel [0,1,2,3,4,5,6,7] (by simp) (by simp) rfl (.done (by simp -dsimp only [go_sem]; simpa [go_sem] using hK))
end Go.Proofs.YtgogpogophflhaaGreatDoor
namespace Go.Proofs
open Go.Shelf
def Tryz.lays190_ren:Go.Shelf.Ren:=⟨fun | 190=>125 | 125=>133 | 258=>132 | 128=>149 | 129=>135 | 302=>140 | 303=>141 | 304=>142 | 305=>143 | 306=>144 | 307=>145 | 308=>146 | 309=>147 | 310=>148 | 333=>152 | 329=>153 | 330=>154 | 334=>155 | 335=>156 | 336=>157 | 344=>158 | n=>n,fun | 31=>52 | 9=>9 | 3=>3 | 46=>168 | 0=>0 | 51=>171 | 53=>127 | 4=>4 | 183=>176 | 182=>175 | 131=>160 | 5=>5 | 218=>183 | 222=>187 | 228=>191 | 229=>192 | n=>n,fun | n=>n⟩
theorem Tryz.lays190:Go.Proofs.Lays.n190 Tryz.prog Tryz.lays190_ren:={
 mixed:=by kernel_rfl
 f125:=Tryz.func133.trans (congrArg some (by kernel_rfl))
 f128:=Tryz.func149.trans (congrArg some (by kernel_rfl))
 f129:=Tryz.func135.trans (congrArg some (by kernel_rfl))
 f190:=Tryz.func125.trans (congrArg some (by kernel_rfl))
 f258:=Tryz.func132.trans (congrArg some (by kernel_rfl))
 f302:=Tryz.func140.trans (congrArg some (by kernel_rfl))
 f303:=Tryz.func141.trans (congrArg some (by kernel_rfl))
 f304:=Tryz.func142.trans (congrArg some (by kernel_rfl))
 f305:=Tryz.func143.trans (congrArg some (by kernel_rfl))
 f306:=Tryz.func144.trans (congrArg some (by kernel_rfl))
 f307:=Tryz.func145.trans (congrArg some (by kernel_rfl))
 f308:=Tryz.func146.trans (congrArg some (by kernel_rfl))
 f309:=Tryz.func147.trans (congrArg some (by kernel_rfl))
 f310:=Tryz.func148.trans (congrArg some (by kernel_rfl))
 f329:=Tryz.func153.trans (congrArg some (by kernel_rfl))
 f330:=Tryz.func154.trans (congrArg some (by kernel_rfl))
 f333:=Tryz.func152.trans (congrArg some (by kernel_rfl))
 f334:=Tryz.func155.trans (congrArg some (by kernel_rfl))
 f335:=Tryz.func156.trans (congrArg some (by kernel_rfl))
 f336:=Tryz.func157.trans (congrArg some (by kernel_rfl))
 f344:=Tryz.func158.trans (congrArg some (by kernel_rfl))
 t0:=Tryz.underlying0
 a0:=Tryz.isAgg0
 z0:=Tryz.sizeOf0
 v0:=Tryz.zeroValue0
 t3:=Tryz.underlying3
 a3:=Tryz.isAgg3
 z3:=Tryz.sizeOf3
 v3:=Tryz.zeroValue3
 t4:=Tryz.underlying4
 a4:=Tryz.isAgg4
 z4:=Tryz.sizeOf4
 v4:=Tryz.zeroValue4
 t5:=Tryz.underlying5
 a5:=Tryz.isAgg5
 z5:=Tryz.sizeOf5
 v5:=Tryz.zeroValue5
 t9:=Tryz.underlying9
 a9:=Tryz.isAgg9
 z9:=Tryz.sizeOf9
 v9:=Tryz.zeroValue9
 t31:=Tryz.underlying52
 a31:=Tryz.isAgg52
 z31:=Tryz.sizeOf52
 v31:=Tryz.zeroValue52
 t46:=Tryz.underlying168
 a46:=Tryz.isAgg168
 z46:=Tryz.sizeOf168
 v46:=Tryz.zeroValue168
 t51:=Tryz.underlying171
 a51:=Tryz.isAgg171
 z51:=Tryz.sizeOf171
 v51:=Tryz.zeroValue171
 t53:=Tryz.underlying127
 a53:=Tryz.isAgg127
 z53:=Tryz.sizeOf127
 v53:=Tryz.zeroValue127
 t131:=Tryz.underlying160
 a131:=Tryz.isAgg160
 z131:=Tryz.sizeOf160
 v131:=Tryz.zeroValue160
 t182:=Tryz.underlying175
 a182:=Tryz.isAgg175
 z182:=Tryz.sizeOf175
 v182:=Tryz.zeroValue175
 t183:=Tryz.underlying176
 a183:=Tryz.isAgg176
 z183:=Tryz.sizeOf176
 v183:=Tryz.zeroValue176
 t218:=Tryz.underlying183
 a218:=Tryz.isAgg183
 z218:=Tryz.sizeOf183
 v218:=Tryz.zeroValue183
 t222:=Tryz.underlying187
 a222:=Tryz.isAgg187
 z222:=Tryz.sizeOf187
 v222:=Tryz.zeroValue187
 t228:=Tryz.underlying191
 a228:=Tryz.isAgg191
 z228:=Tryz.sizeOf191
 v228:=Tryz.zeroValue191
 t229:=Tryz.underlying192
 a229:=Tryz.isAgg192
 z229:=Tryz.sizeOf192
 v229:=Tryz.zeroValue192 }
end Go.Proofs
namespace Go.Proofs.YtgogpogophflhaaGreatDoor
open Go.W Go.Sort
def eS (l:List ByteArray):List ByteArray:=((l.map bl).mergeSort fun x y=>decide (x<=y)).map mk
theorem lL (l:List ByteArray):(eS l).length=l.length:=by simp [eS]
theorem oR (w:World) (os:Array Obj) {k:Nat} (h:k < w.heap.size):(grow w os).heap[k]? = w.heap[k]?:=by
 simp [grow,Array.getElem?_append_left h]
theorem C1 (enc:List UInt8->Value) (w:World) (b:Nat) (d:Array (List UInt8)) {cur:Array Value} {T:TypeId} {p:Nat × Nat} (h:w.heap[b]? = some (.cells cur T p)):(putRow enc w b 0 d).heap[b]? = some (.cells (putCells enc 0 d cur) T p):=by
 unfold putRow mapBlock
 simp [Array.getElem?_modify,h,onCells]
theorem wG (enc:List UInt8->Value) (w:World) {b k:Nat} (d:Array (List UInt8)) (h:k ≠ b):(putRow enc w b 0 d).heap[k]? = w.heap[k]?:=by
 unfold putRow mapBlock
 simp [Array.getElem?_modify,Ne.symm h]
def TX:W.Spec:=fun av H K=>∃ l:List ByteArray,av=[.va (.c1 (.sl 0 l.length))]/\H=[.row (l.map cQ) 9 1]/\l.length<=1000000000/\K (.tu []) [.row ((eS l).map cQ) 9 1]
theorem IB {l:List ByteArray} {K:S->Hp->Prop} (h:l.length<=1000000000) (hK:K (.tu []) [.row ((eS l).map cQ) 9 1]):TX [.va (.c1 (.sl 0 l.length))] [.row (l.map cQ) 9 1] K:=⟨l,rfl,rfl,h,hK⟩
theorem sB (l:List ByteArray):(l.map cQ).flatten=l.map fun x=>C.vl (.string x):=by
 induction l with
 | nil=>rfl
 | cons x l ih=>rw [List.map_cons,List.flatten_cons,ih]; rfl
theorem QQ {l:List ByteArray} {vs:List Value} {ro:RO} (h:All2 (C.fv ro) (l.map cQ).flatten vs):vs=l.map Value.string:=by
 rw [sB] at h
 refine List.ext_getElem? fun i=>?_
 obtain ⟨h1,h2⟩:=h
 rw [List.length_map] at h1
 rw [List.getElem?_map]
 rcases cM i l.length with hi | hi
 · obtain ⟨x,hx⟩:∃ x,l[i]? = some x:=⟨_,a8 hi⟩
   obtain ⟨v,hv⟩:∃ v,vs[i]? = some v:=⟨_,a8 (by omega)⟩
   have:=h2 i _ v (by rw [List.getElem?_map,hx]; rfl) hv
   rw [hv,hx]; exact congrArg some this
 · rw [List.getElem?_eq_none (by omega),List.getElem?_eq_none hi]; rfl
theorem V0:Meets Tryz.prog 125 TX:=by
 refine ⟨by kernel_rfl,fun av vs E ro w K hlen hrel hR hs _=>?_⟩
 obtain ⟨l,rfl,hH,hl,hK⟩:=hs
 match E,hH with
 | [(g,blk)],hH=>
  obtain rfl:blk=.row (l.map cQ) 9 1:=by simpa [hp] using hH
  match vs,hlen with
  | [v0],_=>
   have r0:=hrel 0 _ _ rfl rfl
   have hon:=hR.own 0 g _ rfl
   obtain ⟨o1,o2,o3,o4,o5,o6,o7⟩:=hon
   rw [List.length_map] at o2 o5
   obtain ⟨g',hg',_,_,_,hv0⟩:=r0
   obtain rfl:g=g':=by simpa [gm] using hg'
   obtain rfl:=hv0 o2.symm
   have hvs:=QQ o6
   obtain ⟨l1,l2⟩:=o5
   rcases Nat.eq_zero_or_pos l.length with h0 | h0
   · obtain rfl:=List.eq_nil_of_length_eq_zero h0
     refine (Any.slices_Sort_string_none Tryz.lays190 _ _ w).mono ?_
     rintro e w' ⟨rfl,rfl⟩
     rw [show eS []=[] by simp [eS]] at hK
     exact ⟨.tu [],_,[(g,.row ([].map cQ) 9 1)],ro,rfl,⟨[],rfl,.nil⟩,hK,hR⟩
   rcases l2 with ⟨_,h1⟩ | ⟨b,cap,cur,hsl,_,hb,hcap,hmax,hcs,htk⟩
   · omega
   have hob:g.ob=some b:=by
    cases hgo:g.ob with
    | none=>rw [hgo] at hsl; simp [aW] at hsl
    | some b'=>rw [hgo] at hsl; simp [aW] at hsl; rw [hsl.1]
   have hgc:g.cap=cap:=by simp at hsl; exact hsl.2
   have hbs:b < w.heap.size:=by
    rcases cM b w.heap.size with h' | h'
    · exact h'
    · rw [Array.getElem?_eq_none h'] at hb; cases hb
   have hcell:∀ k,k < l.length->w.cell? ⟨b,k,none⟩=(l.map Value.string)[k]?:=fun k hk=>by
    rw [<-hvs,<-htk,List.getElem?_take,if_pos (by omega)]
    simp [World.cell?,hb]
   rw [hob,hgc]
   have key:=Any.slices_Sort_string Tryz.lays190 b 0 cap (l.map bl) w (fun j hj=>by
    have hj':j < l.length:=by simpa using hj
    refine ⟨?_,by simp [World.frozen?,hb]⟩
    rw [Nat.zero_add,hcell j hj']
    simp [hj']
    exact (jO _).symm) hbs (by simp; omega)
   rw [List.length_map] at key
   refine key.mono ?_
   rintro e w' ⟨rfl,n,os,rfl⟩
   obtain ⟨D,hD⟩:∃ D,D=(l.map bl).mergeSort fun x y=>decide (x<=y):=⟨_,rfl⟩
   have hDl:D.length=l.length:=by rw [hD]; simp
   have hsD:eS l=D.map mk:=by rw [hD]; rfl
   rw [<-hD]
   obtain ⟨W',hW⟩:∃ W',W'=grow (putRow encStr (Sort.ahead w n) b 0 D.toArray) os:=⟨_,rfl⟩
   have hmod:(putRow encStr (Sort.ahead w n) b 0 D.toArray).heap.size=w.heap.size:=by simp [putRow,mapBlock,Sort.ahead]
   have hb':W'.heap[b]? = some (.cells (putCells encStr 0 D.toArray cur) 9 (0,0)):=by
    rw [hW,oR _ _ (by rw [hmod]; exact hbs)]
    exact C1 encStr _ b D.toArray hb
   have hne:∀ k,k ≠ b->k < w.heap.size->W'.heap[k]? = w.heap[k]?:=fun k h1 h2=>by
    rw [hW,oR _ _ (by rw [hmod]; exact h2),wG encStr _ D.toArray h1]; rfl
   have hsz:w.heap.size<=W'.heap.size:=by rw [hW]; simp [hmod]
   have hrest:W'.os=w.os/\W'.tape=w.tape/\W'.output=w.output:=by rw [hW]; exact ⟨rfl,rfl,rfl⟩
   rw [<-hW]
   clear hW
   have htk':(putCells encStr 0 D.toArray cur).toList.take l.length=(eS l).map Value.string:=by
    have hsl':(eS l).length=l.length:=lL l
    refine List.ext_getElem? fun k=>?_
    rw [List.getElem?_take,List.getElem?_map]
    rcases cM k l.length with hk | hk
    · rw [if_pos hk,hsD]
      have h1:k < cur.size:=by omega
      have h2:k < D.length:=by omega
      simp [putCells,h1,hDl]
      rw [if_pos hk,a8 h2]; rfl
    · rw [if_neg (by omega),List.getElem?_eq_none (by omega)]; rfl
   have hown:B.On (gm [(⟨some b,true,l.length,cap,g.T,(eS l).map Value.string⟩,.row ((eS l).map cQ) 9 1)]) ro W' ⟨some b,true,l.length,cap,g.T,(eS l).map Value.string⟩ (.row ((eS l).map cQ) 9 1):=by
    have hsl':(eS l).length=l.length:=lL l
    refine ⟨rfl,by rw [List.length_map,hsl'],fun x hx=>?_,fun c hc=>?_,⟨?_,.inr ⟨b,cap,putCells encStr 0 D.toArray cur,?_,Nat.zero_le _,hb',?_,hmax,by simp [putCells]; omega,?_⟩⟩,?_,fun b' _=>(by show 0 < cap; omega)⟩
    · obtain ⟨y,_,rfl⟩:=List.mem_map.1 hx; rfl
    · rw [sB] at hc; obtain ⟨y,_,rfl⟩:=List.mem_map.1 hc; rfl
    · simp
    · simp [aW]
    · rw [List.length_map,hsl']; exact hcap
    · rw [List.length_map,hsl',Nat.mul_one]; exact htk'
    · rw [sB]
      refine ⟨by simp,fun i x y hx hy=>?_⟩
      rw [List.getElem?_map] at hx hy
      cases hi:(eS l)[i]? with
      | none=>rw [hi] at hx; cases hx
      | some z=>rw [hi] at hx hy; cases hx; cases hy; rfl
   have hpb:b ∈ cZ [(g,.row (l.map cQ) 9 1)]:=by
    rcases hR.par 0 b g _ rfl hob rfl with h | h
    · exact absurd h (Nat.not_le.2 hbs)
    · exact h
   refine ⟨.tu [],_,[(⟨some b,true,l.length,cap,g.T,(eS l).map Value.string⟩,.row ((eS l).map cQ) 9 1)],ro,rfl,⟨[],rfl,.nil⟩,hK,?_⟩
   refine ⟨fun n gn bn hn=>?_,fun n m gn gm' bn bm b' hn hm h1 h2 l1 l2=>?_,fun b' off v hv n gn bn hn hgb=>?_,fun b' off v hv=>?_,hR.ro0,hR.rob,fun n b' gn bn hn hgb hl=>?_,?_,hsz,fun k hk hkb=>hne k (fun e=>hkb (e ▸ hpb)) hk,hrest.1,hrest.2.1,hrest.2.2⟩
   · match n,hn with
     | 0,hn=>cases hn; exact hown
     | n + 1,hn=>cases hn
   · match n,m,hn,hm with
     | 0,0,_,_=>rfl
     | n + 1,_,hn,_=>cases hn
     | _,m + 1,_,hm=>cases hm
   · match n,hn with
     | 0,hn=>
      cases hn
      have hbb:b=b':=by simpa using hgb
      subst hbb
      exact absurd (hR.apart b off v hv 0 g _ rfl hob) (by simp [B.live])
     | n + 1,hn=>cases hn
   · have hne':b' ≠ b:=fun e=>by
      subst e
      exact absurd (hR.apart b' off v hv 0 g _ rfl hob) (by simp [B.live])
     have:=hR.rd b' off v hv
     rcases cM b' w.heap.size with h' | h'
     · exact this.same (hne b' hne' h')
     · have:=this.1
       simp [World.cell?,Array.getElem?_eq_none h'] at this
   · match n,hn with
     | 0,hn=>
      cases hn
      have:b=b':=by simpa using hgb
      subst this; exact .inr hpb
     | n + 1,hn=>cases hn
   · intro n g2 h2
     match n,h2 with
     | 0,h2=>
      cases h2
      exact ⟨_,rfl,o1.symm,.inl ⟨hob.symm,o2.symm,hgc.symm⟩⟩
     | n + 1,h2=>cases h2
end Go.Proofs.YtgogpogophflhaaGreatDoor
namespace Go.Proofs.YtgogpogophflhaaGreatDoor
open Go.W
def fA (ss:List St) (n:ByteArray):List ByteArray:=b7 ss (ss.length + 1) ((fS ss n).getD default) []
def eU (ss:List St) (n:ByteArray):List ByteArray:=eS (fA ss n)
theorem sU (ss:List St) (o:List ByteArray):fresh ss o<=ss.length:=by
 induction ss with
 | nil=>exact Nat.le_refl _
 | cons s ss ih=>simp only [fresh,List.length_cons]; cases cG o s.nm<;>simp only [aO,aH]<;>omega
theorem St.ok_default:(default:St).ok:=⟨by decide,by decide,fun f h=>by cases h⟩
def UA:W.Spec:=fun av H K=>∃ (ss:List St) (n:ByteArray) (ks:List Value) (vs:List St) (ks':List Value) (vs':List En),av=[kE,tS n]/\H=eQ ks vs ks' vs'/\
 i6 ks vs ss/\(∀ s ∈ ss,s.ok)/\(fA ss n).length<=1000000000/\K (.va (.c1 (.fz ((eU ss n).map cQ)))) (eQ ks vs ks' vs')
theorem RB {ss:List St} {n:ByteArray} {ks:List Value} {vs:List St} {ks':List Value} {vs':List En} {K:S->Hp->Prop} (h1:i6 ks vs ss) (h2:∀ s ∈ ss,s.ok) (h3:(fA ss n).length<=1000000000) (hK:K (.va (.c1 (.fz ((eU ss n).map cQ)))) (eQ ks vs ks' vs')) :
 UA [kE,tS n] (eQ ks vs ks' vs') K:=⟨ss,n,ks,vs,ks',vs',rfl,rfl,h1,h2,h3,hK⟩
theorem XJ:Meets Tryz.prog 113 UA:=by
 refine j0 0 (t:=fun N=>fun av H K=>∃ (ss:List St) (n:ByteArray) (ks:List Value) (vs:List St) (ks':List Value) (vs':List En),av=[kE,tS n]/\H=eQ ks vs ks' vs'/\
  i6 ks vs ss/\(∀ s ∈ ss,s.ok)/\ss.length=N/\(fA ss n).length<=1000000000/\K (.va (.c1 (.fz ((eU ss n).map cQ)))) (eQ ks vs ks' vs')) (fun N=>?_) fun av H K ⟨ss,n,ks,vs,ks',vs',e1,e2,h1,h2,h3,hK⟩=>⟨ss.length,ss,n,ks,vs,ks',vs',e1,e2,h1,h2,rfl,h3,hK⟩
 refine aF Tryz.func113 V4 2 (by rw [Tryz.ntmps113]; decide) (aA (HU (N + 1)) (aA V0 (aB _))) (fun av H K h=>by obtain ⟨_,_,_,_,_,_,rfl,_⟩:=h; rfl) ?_
 rintro av H K ⟨ss,n,ks,vs,ks',vs',rfl,rfl,h1,h2,rfl,h3,hK⟩
 have hx:=h1 n
 simp -dsimp only [go_sem,MX,MV]
 refine .nilc 5 0 9 1 [.vl (.slice none 0 0)] 52 rfl rfl (.done ?_)
 cases hs:fS ss n with
 | none=>
  rw [hs] at hx
  simp only [Option.map_none] at hx
  simp -dsimp only [go_sem,hx]
  have hF:fA ss n=b7 ss (ss.length + 1) default []:=by unfold fA; rw [hs]; rfl
  have hU:eU ss n=eS (b7 ss (ss.length + 1) default []):=by unfold eU; rw [hF]
  rw [hF] at h3
  rw [hU] at hK
  have hfr:=sU ss []
  refine wQ (ss:=ss) (t:=default) (ks:=ks) (vs:=vs) (ks':=ks') (vs':=vs') (o:=[]) rfl h1 h2 St.ok_default (by omega) h3 ?_
  generalize b7 ss (ss.length + 1) default []=o at h3 hK
  simp -dsimp only [go_sem]
  refine IB h3 ?_
  simp -dsimp only [go_sem]
  rw [<-lL o]
  refine .pub 7 _ _ _ rfl (.sel [0,1] (by simp) (by simp [b5]) rfl (.done ?_))
  simp -dsimp only [go_sem,b5]; exact hK
 | some d=>
  rw [hs] at hx
  simp only [Option.map_some] at hx
  simp -dsimp only [go_sem,hx,aV]
  have hF:fA ss n=b7 ss (ss.length + 1) d []:=by unfold fA; rw [hs]; rfl
  have hU:eU ss n=eS (b7 ss (ss.length + 1) d []):=by unfold eU; rw [hF]
  rw [hF] at h3
  rw [hU] at hK
  have hfr:=sU ss []
  refine wQ (ss:=ss) (t:=d) (ks:=ks) (vs:=vs) (ks':=ks') (vs':=vs') (o:=[]) rfl h1 h2 (h2 d (List.mem_of_find?_eq_some hs)) (by omega) h3 ?_
  generalize b7 ss (ss.length + 1) d []=o at h3 hK
  simp -dsimp only [go_sem]
  refine IB h3 ?_
  simp -dsimp only [go_sem]
  rw [<-lL o]
  refine .pub 7 _ _ _ rfl (.sel [0,1] (by simp) (by simp [b5]) rfl (.done ?_))
  simp -dsimp only [go_sem,b5]; exact hK
mutual
def bL:Ty->Nat × Ty
 | .mk k s n e=>bif k == 5 then D5 e (.mk k s n e) else (0,.mk k s n e)
def D5:List Ty->Ty->Nat × Ty
 | [],d=>(0,d)
 | u :: _,_=>((bL u).1 + 1,(bL u).2)
end
def eT (dp:ByteArray->Int) (t:Ty):Int:=(bL t).1 + bif (bL t).2.k == 6 then dp (bL t).2.n else 0
def j9 (dp:ByteArray->Int) (fs:List Fl):Int:=fs.foldl (fun m f=>max m (eT dp f.ty)) 0
def dN (ss:List St):Nat->ByteArray->Int
 | 0,_=>1
 | N + 1,n=>j9 (dN ss N) ((fS ss n).getD default).fs + 1
inductive LOk:Ty->Prop
 | stop {k s n e}:(k == 5)=false->LOk (.mk k s n e)
 | list {s n u r}:LOk u->LOk (.mk 5 s n (u :: r))
abbrev lZ (d:Int):A:=.c1 (.vl (.int .i64 d))
@[go_sem] theorem aD0 (f:Nat->Option Nat) (l:List Int):(l.map lZ).map (A.ren f)=l.map lZ:=by rw [List.map_map]; rfl
@[go_sem] theorem aC3 (n:Nat) (xs:List (List C)) (l:List Int):(l.map lZ).map (A.pub n xs)=l.map lZ:=by rw [List.map_map]; rfl
structure Dp (ss:List St) (D:ByteArray->Int) (r:ByteArray->Nat):Prop where
 ok:∀ s ∈ ss,s.ok
 eq:∀ n t,fS ss n=some t->D n=j9 D t.fs + 1
 lo:∀ n,0<=D n
 hi:∀ n,D n<=1000000000000
 ls:∀ n t,fS ss n=some t->∀ f ∈ t.fs,LOk f.ty
 rf:∀ n t,fS ss n=some t->∀ f ∈ t.fs,((bL f.ty).2.k == 6)=true->∃ u,fS ss (bL f.ty).2.n=some u/\r (bL f.ty).2.n < r n
def qU (D:ByteArray->Int) (ms:List ByteArray) (ds:List Int):Prop:=ms.length=ds.length/\∀ n v,gC (fH ms) (ds.map lZ) (.string n)=some v->v=lZ (D n)
abbrev EX (ks:List Value) (vs:List St) (ks':List Value) (vs':List En) (ms:List ByteArray) (ds:List Int):Hp:=
 [.map .string ks (vs.map gG),.map .string ks' (vs'.map gN),.cells [.mp 0,.mp 1] 117,.map .string (fH ms) (ds.map lZ),.cells [.mp 3] 158,.cells [.fn 126 [(false,[.pt 4 0]),(false,[.pt 5 0]),(false,[.pt 2 0])]] 159]
def VP (N:Nat):W.Spec:=fun av H K=>∃ (ss:List St) (D:ByteArray->Int) (r:ByteArray->Nat) (t:St) (ks:List Value) (vs:List St) (ks':List Value) (vs':List En) (ms:List ByteArray) (ds:List Int),
 av=[.va (.gs (aV t)),.va (.c1 (.pt 4 0)),.va (.c1 (.pt 5 0)),.va (.c1 (.pt 2 0))]/\H=EX ks vs ks' vs' ms ds/\
 i6 ks vs ss/\Dp ss D r/\fS ss t.nm=some t/\r t.nm < N/\qU D ms ds/\∀ ms' ds',qU D ms' ds'->K (iS .i64 (D t.nm)) (EX ks vs ks' vs' ms' ds')
theorem H7 {D:ByteArray->Int} {ms:List ByteArray} {ds:List Int} (h:qU D ms ds) (n:ByteArray):gC (fH ms) (ds.map lZ) (.string n)=none\/gC (fH ms) (ds.map lZ) (.string n)=some (lZ (D n)):=by
 cases hm:gC (fH ms) (ds.map lZ) (.string n) with
 | none=>exact .inl rfl
 | some v=>rw [h.2 n v hm]; exact .inr rfl
theorem HO {D:ByteArray->Int} {ms:List ByteArray} {ds:List Int} (h:qU D ms ds) (n:ByteArray):∃ ms' ds',iF (fH ms) (.string n)=fH ms'/\iW (fH ms) (ds.map lZ) (.string n) (lZ (D n))=ds'.map lZ/\qU D ms' ds':=by
 obtain ⟨ms',ds',h1,h2,h3,h4⟩:=BV lZ h.1 n (D n)
 refine ⟨ms',ds',h1,h2,h3,fun k v hk=>?_⟩
 rw [h4] at hk
 by_cases e:k=n
 · subst e; simp at hk; exact hk.symm
 · simp [e] at hk; exact h.2 k v hk
abbrev gF (D:ByteArray->Int):Int->Fl->Int:=fun m f=>max m (eT D f.ty)
theorem yX (D:ByteArray->Int):∀ (l:List Fl) (m:Int),m<=l.foldl (gF D) m
 | [],_=>Int.le_refl _
 | f :: l,m=>by
  have:=yX D l (max m (eT D f.ty))
  show m<=l.foldl (gF D) (max m (eT D f.ty)); omega
theorem NZ {D:ByteArray->Int} {l:List Fl} {i:Nat} {f:Fl} (hx:l[i]? = some f) (m:Int):(l.drop i).foldl (gF D) m=(l.drop (i + 1)).foldl (gF D) (max m (eT D f.ty)):=by
 obtain ⟨h,rfl⟩:=aU.1 hx
 rw [List.drop_eq_getElem_cons h]; rfl
theorem UL:∀ N,Meets Tryz.prog 126 (VP N)
 | 0=>⟨by kernel_rfl,by rintro xs vs E ro w K _ _ _ ⟨_,_,_,_,_,_,_,_,_,_,_,_,_,_,_,h,_⟩; exact absurd h (Nat.not_lt_zero _)⟩
 | N + 1=>by
  refine aF Tryz.func126 W9 4 (by rw [Tryz.ntmps126]; decide) (aA (UL N) (aB _)) (fun av H K h=>by obtain ⟨_,_,_,_,_,_,_,_,_,_,rfl,_⟩:=h; rfl) ?_
  rintro av H K ⟨ss,D,r,t,ks,vs,ks',vs',ms,ds,rfl,rfl,h1,h2,ht,hr,hk,hK⟩
  have htok:=h2.ok t (List.mem_of_find?_eq_some ht)
  obtain ⟨_,hl,hfs⟩:=htok
  rcases H7 hk t.nm with hm | hm
  · simp (maxSteps:=9^6) -dsimp only [go_sem,aV,F2,FQ,hm]
    have hD:=h2.eq t.nm t ht
    have hDh:=h2.hi t.nm
    refine a7 (α:=Nat × Int × List ByteArray × List Int) (fun z=>[(1,.va (.c1 (.pt 4 0))),(2,.va (.c1 (.pt 5 0))),(3,.va (.c1 (.pt 2 0))),(4,.va (.c1 (.pt 6 0))),(8,iS .i64 z.2.1),(23,.va (.c1 (.fz (t.fs.map bU)))),(24,iS .i64 t.fs.length),(25,iS .i64 z.1)])
     (fun z=>EX ks vs ks' vs' z.2.2.1 z.2.2.2 ++ [.cells (aV t) 56])
     (fun z=>z.1<=t.fs.length/\0<=z.2.1/\(t.fs.drop z.1).foldl (gF D) z.2.1=j9 D t.fs/\qU D z.2.2.1 z.2.2.2) (fun z=>t.fs.length - z.1) (0,0,ms,ds) 7 ⟨Nat.zero_le _,Int.le_refl _,rfl,hk⟩ ?_ ?_ ?_
    · simp -dsimp only [go_sem]<;>simp
    · simp -dsimp only [go_sem,aV]<;>simp
    clear hk hm
    rintro ⟨i,m,ms,ds⟩ ⟨hi,hm0,ho,hk⟩
    simp only at hi hm0 ho hk ⊢
    have hmb:m<=1000000000000:=by have:=yX D (t.fs.drop i) m; rw [ho] at this; omega
    rcases cM i t.fs.length with hlt | hge
    · have hg:decide ((i:Int) < (t.fs.length:Int))=true:=by simp; omega
      obtain ⟨f,hx⟩:∃ nm,t.fs[i]? = some nm:=⟨_,a8 hlt⟩
      have q1:=bH (row:=bU) hx
      have hf:f.ok:=hfs f (b6 hx)
      rw [NZ hx] at ho
      have hfb:eT D f.ty<=1000000000000:=by have:=yX D (t.fs.drop (i + 1)) (max m (eT D f.ty)); rw [ho] at this; omega
      simp (maxSteps:=9^6) -dsimp only [go_sem,hg,↓q1,bU,mM]
      have hlo:=h2.ls t.nm t ht f (b6 hx)
      refine ⟨by omega,⟨vY _,cU _⟩,by rw [cU]; exact Nat.le_refl _,?_⟩
      refine a7 (α:=Nat × Ty) (fun z=>[(1,.va (.c1 (.pt 4 0))),(2,.va (.c1 (.pt 5 0))),(3,.va (.c1 (.pt 2 0))),(4,.va (.c1 (.pt 6 0))),(8,iS .i64 m),(11,iS .i64 z.1),(12,.va (.c1 (.pt 8 0))),(23,.va (.c1 (.fz (t.fs.map bU)))),(24,iS .i64 t.fs.length),(25,iS .i64 i)])
       (fun z=>EX ks vs ks' vs' ms ds ++ [.cells (aV t) 56,.cells (bU f) 64,.cells (aP z.2) 37])
       (fun z=>LOk z.2/\z.1 + (bL z.2).1=(bL f.ty).1/\(bL z.2).2=(bL f.ty).2) (fun z=>z.2.h) (0,f.ty) 9 ⟨hlo,by simp,rfl⟩ ?_ ?_ ?_
      · simp -dsimp only [go_sem]<;>simp
      · simp -dsimp only [go_sem,aV,bU,cU]<;>simp
      rintro ⟨n,u⟩ ⟨hu1,hu2,hu3⟩
      simp only at hu1 hu2 hu3 ⊢
      have hlv:((bL f.ty).1:Int)<=1000000000000:=by
       have hd0:=h2.lo (bL f.ty).2.n
       unfold eT at hfb
       cases hq:(bL f.ty).2.k == 6<;>rw [hq] at hfb<;>simp only [aO,aH] at hfb<;>omega
      cases hu1 with
      | list hv=>
       rename_i s' n' v r'
       have hl5:bL (.mk 5 s' n' (v :: r'))=((bL v).1 + 1,(bL v).2):=by simp [bL,D5]
       rw [hl5] at hu2 hu3
       simp (maxSteps:=9^6) -dsimp only [go_sem,aP,bQ]
       refine ⟨by omega,⟨by omega,fun r hr=>by subst hr; exact cU v⟩,fun r hr=>?_⟩
       subst hr
       simp -dsimp only [go_sem,cU]
       refine ⟨vY v,aD (n + 1,v) 9 ⟨hv,by simp only at hu2 ⊢; omega,hu3⟩ (by simp only [Ty.h,Ty.hs]; omega) ?_ ?_⟩
       · simp -dsimp only [go_sem]<;>simp
       · simp -dsimp only [go_sem,aV,bU]<;>simp
      | stop hk5=>
       rename_i k' s' n' e'
       have hl0:bL (.mk k' s' n' e')=(0,.mk k' s' n' e'):=by rw [bL,hk5]; rfl
       rw [hl0] at hu2 hu3
       simp only [Nat.add_zero] at hu2
       have hfd:eT D f.ty=(n:Int) + bif k' == 6 then D n' else 0:=by unfold eT; rw [<-hu2,<-hu3]; rfl
       cases k6:k' == 6 with
       | false=>
        rw [k6,aH,Int.add_zero] at hfd
        rw [hfd] at ho
        simp (maxSteps:=9^6) -dsimp only [go_sem,aP,bQ,hk5,k6]
        refine ⟨by omega,aD (i + 1,max m (n:Int),ms,ds) 7 ⟨by simp only; omega,by simp only; omega,ho,hk⟩ (by simp only; omega) ?_ ?_⟩
        · simp -dsimp only [go_sem]<;>simp
        · simp -dsimp only [go_sem,aV]<;>simp
       | true=>
        rw [k6,aO] at hfd
        rw [hfd] at ho
        obtain ⟨w,hw,hrw⟩:=h2.rf t.nm t ht f (b6 hx) (by rw [<-hu3]; exact k6)
        rw [<-hu3] at hw hrw
        have hx1:=h1 n'
        rw [show fS ss n'=some w from hw] at hx1
        simp only [Option.map_some] at hx1
        simp (maxSteps:=9^6) -dsimp only [go_sem,aP,bQ,hk5,k6,hx1,aV]
        have hwn:w.nm=n':=by have:=List.find?_some hw; simp only [decide_eq_true_eq] at this; exact this
        refine ⟨ss,D,r,w,ks,vs,ks',vs',ms,ds,rfl,rfl,h1,h2,by rw [hwn]; exact hw,by rw [hwn]; exact Nat.lt_of_lt_of_le hrw (Nat.le_of_lt_succ hr),hk,fun ms' ds' hk'=>?_⟩
        rw [hwn]
        have hd0:=h2.lo n'
        have hd1:=h2.hi n'
        simp (maxSteps:=9^6) -dsimp only [go_sem]
        refine ⟨by omega,by omega,aD (i + 1,max m ((n:Int) + D n'),ms',ds') 7 ⟨by simp only; omega,by simp only; omega,ho,hk'⟩ (by simp only; omega) ?_ ?_⟩
        · simp -dsimp only [go_sem]<;>simp
        · simp -dsimp only [go_sem,aV]<;>simp
    · have hg:decide ((i:Int) < (t.fs.length:Int))=false:=by simp; omega
      obtain rfl:i=t.fs.length:=by omega
      rw [List.drop_length] at ho
      simp only [List.foldl_nil] at ho
      obtain ⟨ms',ds',p1,p2,p3⟩:=HO hk t.nm
      have e1:m + 1=D t.nm:=by omega
      simp (maxSteps:=9^6) -dsimp only [go_sem,hg,aV,e1,p1,p2]
      refine ⟨by have:=h2.lo t.nm; omega,by have:=h2.lo t.nm; omega,.sel [0,1,2,3,4,5] (by simp) (by simp) rfl (.done (by simp -dsimp only [go_sem]; simpa [go_sem] using hK ms' ds' p3))⟩
  · simp (maxSteps:=9^6) -dsimp only [go_sem,aV,F2,FQ,hm]
    exact .sel [0,1,2,3,4,5] (by simp) (by simp) rfl (.done (by simp -dsimp only [go_sem]; simpa [go_sem] using hK ms ds hk))
def UX:W.Spec:=fun av H K=>∃ (ss:List St) (D:ByteArray->Int) (r:ByteArray->Nat) (t:St) (ks:List Value) (vs:List St) (ks':List Value) (vs':List En),av=[kE,.va (.gs (aV t))]/\H=eQ ks vs ks' vs'/\
 i6 ks vs ss/\Dp ss D r/\fS ss t.nm=some t/\K (iS .i64 (D t.nm)) (eQ ks vs ks' vs')
theorem QK {ss:List St} {D:ByteArray->Int} {r:ByteArray->Nat} {t:St} {ks:List Value} {vs:List St} {ks':List Value} {vs':List En} {K:S->Hp->Prop} (h1:i6 ks vs ss) (h2:Dp ss D r) (h3:fS ss t.nm=some t) (hK:K (iS .i64 (D t.nm)) (eQ ks vs ks' vs')) :
 UX [kE,.va (.gs (aV t))] (eQ ks vs ks' vs') K:=⟨ss,D,r,t,ks,vs,ks',vs',rfl,rfl,h1,h2,h3,hK⟩
theorem UW:Meets Tryz.prog 114 UX:=by
 refine j0 0 (t:=fun N=>fun av H K=>∃ (ss:List St) (D:ByteArray->Int) (r:ByteArray->Nat) (t:St) (ks:List Value) (vs:List St) (ks':List Value) (vs':List En),av=[kE,.va (.gs (aV t))]/\H=eQ ks vs ks' vs'/\
  i6 ks vs ss/\Dp ss D r/\fS ss t.nm=some t/\r t.nm < N/\K (iS .i64 (D t.nm)) (eQ ks vs ks' vs')) (fun N=>?_) fun av H K ⟨ss,D,r,t,ks,vs,ks',vs',e1,e2,h1,h2,h3,hK⟩=>⟨r t.nm + 1,ss,D,r,t,ks,vs,ks',vs',e1,e2,h1,h2,h3,Nat.lt_succ_self _,hK⟩
 refine aF Tryz.func114 XH 2 (by rw [Tryz.ntmps114]; decide) (aA (UL N) (aB _)) (fun av H K h=>by obtain ⟨_,_,_,_,_,_,_,_,rfl,_⟩:=h; rfl) ?_
 rintro av H K ⟨ss,D,r,t,ks,vs,ks',vs',rfl,rfl,h1,h2,ht,hr,hK⟩
 simp -dsimp only [go_sem,aV,LO,L1]
 refine ⟨ss,D,r,t,ks,vs,ks',vs',[],[],rfl,rfl,h1,h2,ht,hr,⟨rfl,fun n v h=>by cases h⟩,fun ms ds _=>?_⟩
 simp -dsimp only [go_sem]
 exact .sel [0,1] (by simp) (by simp) rfl (.done (by simp -dsimp only [go_sem]; exact hK))
end Go.Proofs.YtgogpogophflhaaGreatDoor
