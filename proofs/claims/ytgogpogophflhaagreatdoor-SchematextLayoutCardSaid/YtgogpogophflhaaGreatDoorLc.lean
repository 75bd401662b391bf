/- Lemmas and walks for the proof. -/
import Derived.Test.YtgogpogophflhaaGreatDoorLb
import Derived.Test.YtgogpogophflhaaGreatDoorProg
import Derived.Shelf.Strings.Search1
import Derived.Shelf.Small.Strs
import Derived.Shelf.Sort.Plain
import Derived.Shelf.Slices.In.SortNone
set_option maxRecDepth 100000
set_option maxHeartbeats 8000000
namespace Go.W
abbrev J.a (d:Nat) (i:I):J:=⟨some d,none,i⟩
abbrev J.q (d:Nat) (i:QI):J:=⟨some d,none,.q i⟩
abbrev J.v (d i:Nat):J:=⟨some d,none,.q (.mv (.t i))⟩
abbrev J.l (d:Nat) (i:LI):J:=⟨some d,none,.l i⟩
abbrev J.e (d:Nat) (i:EI):J:=⟨some d,none,.e i⟩
abbrev J.s (i:EI):J:=⟨none,none,.e i⟩
abbrev O.i (n:Int):O:=.k (.int .i64 n)
abbrev bY (p:PC):Prop:=∀(Γ:cF) (k0:Nat) (fr:Fr) (H:Hp) (K:Ex->Fr->Hp->Prop),vc Γ k0 p fr H K=XG Γ k0 p fr H K ⟨⟩
abbrev zv5:Array Value:=#[(.int .i64 0), (.int .i64 0), (.string (mk [])), (.slice none 0 0), (.slice none 0 0)]
theorem Fin.z {K:S->Hp->Prop} {r:S} {H:Hp} (h:K (r.ren (loc [])) ((nZ H []).map (B.ren (loc [])))):Fin 0 K r H:=.sel [] (by simp) (by simp) rfl (.done h)
theorem bZ (p:PC):bY p:=fun _ _ _ _ _=>rfl
end Go.W
namespace Go.Proofs.YtgogpogophflhaaGreatDoor
open Go.W
def TI:PC:=.seq (.reg [.q 2 (.mv (.k (.slice none 0 0))),.q 3 (.mv (.i 0)),.q 4 (.mv (.i 0))]) (.seq (.seq (.reg [.v 8 0,.q 9 (.lnS (.t 8)),.q 10 (.bin .gtr true (.t 9) (.i 4000))]) (.cond (.t 10) (.seq (.reg [.q 2 (.mv (.k (.slice none 0 0))),.q 3 (.mv (.i 3)),.q 4 (.mv (.i 0))]) .ret) .skip)) (.seq (.reg [.v 11 0,.q 12 (.bd [(.string (mk [])),(.int .i64 0),(.int .i64 0),(.int .i64 0)] [(0,1,(.t 11))]),.e 13 (.bx 92 (.t 12)),.v 5 13]) (.seq (.reg [.q 6 (.mv (.k (.slice none 0 0)))]) (.block 0 (.loop (.block 1 (.seq (.reg [.v 14 5,.a 15 (.cl 58 [(.t 14)] [0]),.e 7 (.al (.agg #[(.int .i64 0),(.string (mk [])),(.int .i64 0),(.int .i64 0)]) 74),.s (.st 4 (.t 7) (.t 15))]) (.seq (.seq (.reg [.v 16 5,.q 17 (.nc (.t 16)),.q 18 (.fa 2 (.t 17)),.l 19 (.ld1 (.t 18)),.q 20 (.bin .neq true (.t 19) (.i 0))]) (.cond (.t 20) (.seq (.reg [.v 21 5,.q 22 (.nc (.t 21)),.q 23 (.fa 2 (.t 22)),.l 24 (.ld1 (.t 23)),.v 25 5,.q 26 (.nc (.t 25)),.q 27 (.fa 3 (.t 26)),.l 28 (.ld1 (.t 27)),.q 2 (.mv (.k (.slice none 0 0))),.v 3 24,.v 4 28]) .ret) .skip)) (.seq (.reg [.v 29 6,.l 30 (.ldn 4 (.t 7)),.e 31 (.bsl 74 4 [(.t 30)]),.e 32 (.ap 74 4 40 (.t 29) (.t 31)),.v 6 32]) (.seq (.reg [.q 33 (.fa 0 (.t 7)),.l 34 (.ld1 (.t 33)),.q 35 (.bin .eql true (.t 34) (.i 0))]) (.cond (.t 35) (.seq (.reg [.v 36 6,.v 2 36,.q 3 (.mv (.i 0)),.q 4 (.mv (.i 0))]) .ret) .skip)))))))))))
def RN:List RV:=[.mv (.t 2),.mv (.t 3),.mv (.t 4)]
theorem X7:aV Tryz.prog true ⟨fun r k=>if r=5/\k=1 then .own [0] else .own [],fun _=>false⟩ Tryz.f22=some (TI,RN):=by kernel_rfl
def pc24:PC:=.seq (.reg [.q 2 (.mv (.k (.string (mk []))))]) (.seq (.reg [.e 3 (.al (.agg #[(.pointer none),(.slice none 0 0)]) 95)]) (.seq (.seq (.reg [.v 8 0,.q 9 (.lnL (.t 8)),.q 10 (.mv (.i 0))]) (.block 0 (.loop (.seq (.reg [.q 11 (.bin .lss true (.t 10) (.t 9))]) (.seq (.cond (.t 11) .skip (.exit 0)) (.seq (.block 1 (.seq (.reg [.l 12 (.ia 4 (.t 8) (.t 10)),.l 13 (.ldn 4 (.t 12)),.e 5 (.al (.agg #[(.int .i64 0),(.string (mk [])),(.int .i64 0),(.int .i64 0)]) 74),.s (.st 4 (.t 5) (.t 13))]) (.seq (.reg [.l 15 (.ldn 4 (.t 5)),.a 16 (.cl 59 [(.t 15)] []),.v 14 16,.q 17 (.ex (.t 14) 0),.q 18 (.ex (.t 14) 1),.v 6 17,.v 7 18]) (.seq (.seq (.reg [.v 19 7,.q 20 (.not (.t 19))]) (.cond (.t 20) (.exit 1) .skip)) (.seq (.seq (.reg [.a 21 (.cl 60 [(.t 3)] [0,1]),.q 22 (.bin .gtr true (.t 21) (.i 0))]) (.cond (.t 22) (.reg [.a 23 (.cl 61 [(.t 3),(.k (.int .u8 32))] [0,1])]) .skip)) (.reg [.v 24 6,.a 25 (.cl 62 [(.t 3),(.t 24)] [0,1])])))))) (.reg [.q 26 (.bin .add true (.t 10) (.i 1)),.v 10 26]))))))) (.seq (.reg [.a 27 (.cl 63 [(.t 3)] [0,1]),.v 2 27]) .ret)))
def rs24:List RV:=[.mv (.t 2)]
theorem ok24:aV Tryz.prog true ⟨fun r k=>if r=7/\k=0 then .own [0,1] else if r=8/\k=0 then .own [0,1] else if r=9/\k=1 then .own [0,1] else if r=11/\k=0 then .own [0,1] else .own [],fun _=>false⟩ Tryz.f24=some (pc24,rs24):=by kernel_rfl
def PV:PC:=.seq (.reg [.q 2 (.mv (.k (.pointer none))),.q 3 (.mv (.i 0)),.q 4 (.mv (.i 0))]) (.seq (.reg [.v 9 0,.a 10 (.cl 22 [(.t 9)] []),.v 8 10,.q 11 (.ex (.t 8) 0),.q 12 (.ex (.t 8) 1),.q 13 (.ex (.t 8) 2),.v 5 11,.v 6 12,.v 7 13]) (.seq (.seq (.reg [.v 14 6,.q 15 (.bin .neq true (.t 14) (.i 0))]) (.cond (.t 15) (.seq (.reg [.v 16 6,.v 17 7,.q 2 (.mv (.k (.pointer none))),.v 3 16,.v 4 17]) .ret) .skip)) (.seq (.reg [.v 18 5,.q 19 (.bd [(.slice none 0 0),(.int .i64 0)] [(0,1,(.t 18))]),.e 20 (.bx 123 (.t 19)),.v 2 20,.q 3 (.mv (.i 0)),.q 4 (.mv (.i 0))]) .ret)))
def QZ:List RV:=[.mv (.t 2),.mv (.t 3),.mv (.t 4)]
theorem aAN:aV Tryz.prog true ⟨fun _ _=>.own [],fun _=>false⟩ Tryz.f33=some (PV,QZ):=by kernel_rfl
def QL:PC:=.seq (.reg [.e 2 (.al (.agg #[(.int .i64 0),(.string (mk [])),(.int .i64 0),(.int .i64 0)]) 74)]) (.seq (.seq (.reg [.v 3 0,.q 4 (.eqP false (.t 3) (.k (.pointer none))),.v 5 4,⟨some 6,(some (5,false)),.q (.mv (.t 0))⟩,⟨some 7,(some (5,false)),.q (.nc (.t 6))⟩,⟨some 8,(some (5,false)),.q (.fa 0 (.t 7))⟩,⟨some 9,(some (5,false)),.l (.ld1 (.t 8))⟩,⟨some 10,(some (5,false)),.q (.lnL (.t 9))⟩,⟨some 11,(some (5,false)),.q (.bin .eql true (.t 10) (.i 0))⟩,.a 12 (.pick (.t 5) (.k (.bool true)) (.t 11))]) (.cond (.t 12) (.seq (.reg [.q 13 (.bd [(.int .i64 0),(.string (mk [])),(.int .i64 0),(.int .i64 0)] []),.s (.st 4 (.t 2) (.t 13))]) .ret) .skip)) (.seq (.reg [.v 14 0,.q 15 (.nc (.t 14)),.q 16 (.fa 0 (.t 15)),.l 17 (.ld1 (.t 16)),.v 18 0,.q 19 (.nc (.t 18)),.q 20 (.fa 1 (.t 19)),.l 21 (.ld1 (.t 20)),.l 22 (.ia 4 (.t 17) (.t 21)),.l 23 (.ldn 4 (.t 22)),.s (.st 4 (.t 2) (.t 23))]) .ret))
def QC:List RV:=[.ld (.ldn 4 (.t 2))]
theorem YT:aV Tryz.prog true ⟨fun _ _=>.own [],fun _=>false⟩ Tryz.f38=some (QL,QC):=by kernel_rfl
def RT:PC:=.seq (.reg [.e 2 (.al (.agg #[(.int .i64 0),(.string (mk [])),(.int .i64 0),(.int .i64 0)]) 74)]) (.seq (.reg [.v 3 0,.a 4 (.cl 100 [(.t 3)] [0])]) (.seq (.seq (.reg [.v 5 0,.a 6 (.cl 101 [(.t 5)] [0])]) (.block 0 (.seq (.reg [.q 8 (.bin .eql true (.t 6) (.i (-1))),.v 7 8]) (.cond (.t 7) (.seq (.reg [.v 9 0,.q 10 (.nc (.t 9)),.q 11 (.fa 1 (.t 10)),.l 12 (.ld1 (.t 11)),.q 13 (.bd [(.int .i64 0),(.string (mk [])),(.int .i64 0),(.int .i64 0)] [(3,1,(.t 12))]),.s (.st 4 (.t 2) (.t 13))]) .ret) (.seq (.reg [.q 15 (.bin .eql true (.t 6) (.i 3)),.v 14 15]) (.cond (.t 14) (.seq (.reg [.v 16 0,.a 17 (.cl 102 [(.t 16)] [0]),.s (.st 4 (.t 2) (.t 17))]) .ret) (.seq (.seq (.reg [.q 19 (.bin .eql true (.t 6) (.i 4)),.v 18 19]) (.cond (.t 18) .skip (.reg [.q 20 (.bin .eql true (.t 6) (.i 5)),.v 18 20]))) (.cond (.t 18) (.seq (.reg [.v 21 0,.a 22 (.cl 103 [(.t 21)] [0]),.s (.st 4 (.t 2) (.t 22))]) .ret) (.seq (.reg [.q 24 (.bin .eql true (.t 6) (.i 7)),.v 23 24]) (.cond (.t 23) (.seq (.reg [.v 25 0,.a 26 (.cl 104 [(.t 25)] [0]),.s (.st 4 (.t 2) (.t 26))]) .ret) (.seq (.reg [.q 28 (.bin .eql true (.t 6) (.i 8)),.v 27 28]) (.cond (.t 27) (.seq (.reg [.v 29 0,.q 30 (.nc (.t 29)),.q 31 (.fa 1 (.t 30)),.l 32 (.ld1 (.t 31)),.q 33 (.bin .add true (.t 32) (.i 1)),.q 34 (.nc (.t 29)),.q 35 (.fa 1 (.t 34)),.s (.st 1 (.t 35) (.t 33))]) (.seq (.reg [.v 36 0,.q 37 (.nc (.t 36)),.q 38 (.fa 0 (.t 37)),.l 39 (.ld1 (.t 38)),.v 40 0,.q 41 (.nc (.t 40)),.q 42 (.fa 1 (.t 41)),.l 43 (.ld1 (.t 42)),.q 44 (.bin .sub true (.t 43) (.i 1)),.v 45 0,.q 46 (.nc (.t 45)),.q 47 (.fa 1 (.t 46)),.l 48 (.ld1 (.t 47)),.q 49 (.ss (.t 39) (some (.t 44)) (some (.t 48))),.v 50 0,.q 51 (.nc (.t 50)),.q 52 (.fa 1 (.t 51)),.l 53 (.ld1 (.t 52)),.q 54 (.bin .sub true (.t 53) (.i 1)),.q 55 (.bd [(.int .i64 0),(.string (mk [])),(.int .i64 0),(.int .i64 0)] [(0,1,(.i 4)),(1,1,(.t 49)),(3,1,(.t 54))]),.s (.st 4 (.t 2) (.t 55))]) .ret)) .skip)))))))))))) (.seq (.reg [.v 56 0,.v 57 0,.q 58 (.nc (.t 57)),.q 59 (.fa 1 (.t 58)),.l 60 (.ld1 (.t 59)),.a 61 (.cl 105 [(.t 56),(.i 2),(.t 60)] [0])]) (.seq (.reg [.q 62 (.bd [(.int .i64 0),(.string (mk [])),(.int .i64 0),(.int .i64 0)] []),.s (.st 4 (.t 2) (.t 62))]) .ret))))
def RE:List RV:=[.ld (.ldn 4 (.t 2))]
theorem aAJ:aV Tryz.prog true ⟨fun r k=>if r=1/\k=1 then .own [0] else if r=2/\k=1 then .own [0] else if r=6/\k=1 then .own [0] else if r=9/\k=1 then .own [0] else if r=11/\k=1 then .own [0] else if r=15/\k=5 then .own [0] else .own [],fun _=>false⟩ Tryz.f58=some (RT,RE):=by kernel_rfl
def Q0:PC:=.seq (.reg [.e 1 (.bx 74 (.t 0)),.q 2 (.mv (.k (.string (mk [])))),.q 3 (.mv (.k (.bool false)))]) (.seq (.seq (.reg [.q 6 (.fa 0 (.t 1)),.l 7 (.ld1 (.t 6))]) (.block 0 (.seq (.reg [.q 9 (.bin .eql true (.t 7) (.i 1)),.v 8 9]) (.cond (.t 8) (.seq (.reg [.q 10 (.fa 1 (.t 1)),.l 11 (.ld1 (.t 10)),.q 12 (.fa 2 (.t 1)),.l 13 (.ld1 (.t 12)),.q 14 (.bin .eql true (.t 13) (.i 0)),.v 15 14,⟨some 16,(some (15,true)),.q (.fa 1 (.t 1))⟩,⟨some 17,(some (15,true)),.l (.ld1 (.t 16))⟩,⟨some 18,(some (15,true)),.cq 95 [(.t 17)]⟩,.a 19 (.pick (.t 15) (.t 18) (.k (.bool false))),.v 2 11,.v 3 19]) .ret) (.seq (.reg [.q 21 (.bin .eql true (.t 7) (.i 2)),.v 20 21]) (.cond (.t 20) (.seq (.reg [.q 22 (.fa 2 (.t 1)),.l 23 (.ld1 (.t 22)),.a 24 (.cq 106 [(.t 23)]),.q 25 (.fa 1 (.t 1)),.l 26 (.ld1 (.t 25)),.q 27 (.bin .eql true (.t 26) (.k (.string (mk [])))),.v 2 24,.v 3 27]) .ret) (.seq (.reg [.q 29 (.bin .eql true (.t 7) (.i 3)),.v 28 29]) (.cond (.t 28) (.seq (.reg [.q 30 (.fa 2 (.t 1)),.l 31 (.ld1 (.t 30)),.q 32 (.bin .eql true (.t 31) (.i 0)),.v 33 32,⟨some 34,(some (33,true)),.q (.fa 1 (.t 1))⟩,⟨some 35,(some (33,true)),.l (.ld1 (.t 34))⟩,⟨some 36,(some (33,true)),.q (.lnS (.t 35))⟩,⟨some 37,(some (33,true)),.q (.bin .leq true (.t 36) (.i 200))⟩,.a 38 (.pick (.t 33) (.t 37) (.k (.bool false))),.v 4 38]) (.seq (.seq (.reg [.q 39 (.fa 1 (.t 1)),.l 40 (.ld1 (.t 39)),.q 41 (.lnS (.t 40)),.q 42 (.mv (.i 0))]) (.block 1 (.loop (.seq (.reg [.q 43 (.bin .lss true (.t 42) (.t 41))]) (.seq (.cond (.t 43) .skip (.exit 1)) (.seq (.block 2 (.seq (.reg [.v 44 42,.v 5 44]) (.reg [.v 45 4,.v 46 45,⟨some 47,(some (46,true)),.q (.fa 1 (.t 1))⟩,⟨some 48,(some (46,true)),.l (.ld1 (.t 47))⟩,⟨some 49,(some (46,true)),.q (.mv (.t 5))⟩,⟨some 50,(some (46,true)),.ix (.t 48) (.t 49)⟩,⟨some 51,(some (46,true)),.q (.bin .geq true (.t 50) (.k (.int .u8 32)))⟩,.a 52 (.pick (.t 46) (.t 51) (.k (.bool false))),.v 53 52,⟨some 54,(some (53,true)),.q (.fa 1 (.t 1))⟩,⟨some 55,(some (53,true)),.l (.ld1 (.t 54))⟩,⟨some 56,(some (53,true)),.q (.mv (.t 5))⟩,⟨some 57,(some (53,true)),.ix (.t 55) (.t 56)⟩,⟨some 58,(some (53,true)),.q (.bin .leq true (.t 57) (.k (.int .u8 126)))⟩,.a 59 (.pick (.t 53) (.t 58) (.k (.bool false))),.v 4 59]))) (.reg [.q 60 (.bin .add true (.t 42) (.i 1)),.v 42 60]))))))) (.seq (.reg [.q 61 (.fa 1 (.t 1)),.l 62 (.ld1 (.t 61)),.a 63 (.cq 107 [(.t 62)]),.v 64 4,.v 2 63,.v 3 64]) .ret))) (.seq (.reg [.q 66 (.bin .eql true (.t 7) (.i 4)),.v 65 66]) (.cond (.t 65) (.seq (.reg [.q 67 (.fa 1 (.t 1)),.l 68 (.ld1 (.t 67)),.q 69 (.fa 2 (.t 1)),.l 70 (.ld1 (.t 69)),.q 71 (.bin .eql true (.t 70) (.i 0)),.v 72 71,⟨some 73,(some (72,true)),.q (.fa 1 (.t 1))⟩,⟨some 74,(some (72,true)),.l (.ld1 (.t 73))⟩,⟨some 75,(some (72,true)),.q (.lnS (.t 74))⟩,⟨some 76,(some (72,true)),.q (.bin .eql true (.t 75) (.i 1))⟩,.a 77 (.pick (.t 72) (.t 76) (.k (.bool false))),.v 78 77,⟨some 79,(some (78,true)),.q (.fa 1 (.t 1))⟩,⟨some 80,(some (78,true)),.l (.ld1 (.t 79))⟩,⟨some 81,(some (78,true)),.ix (.t 80) (.i 0)⟩,⟨some 82,(some (78,true)),.cq 108 [(.t 81)]⟩,⟨some 83,(some (78,true)),.q (.bin .eql true (.t 82) (.i 8))⟩,.a 84 (.pick (.t 78) (.t 83) (.k (.bool false))),.v 2 68,.v 3 84]) .ret) .skip)))))))))) (.seq (.reg [.q 2 (.mv (.k (.string (mk [])))),.q 3 (.mv (.k (.bool false)))]) .ret))
def QT:List RV:=[.mv (.t 2),.mv (.t 3)]
theorem Z4:aV Tryz.prog true ⟨fun r k=>if r=3/\k=8 then .q else if r=5/\k=2 then .q else if r=13/\k=2 then .q else if r=15/\k=15 then .q else .own [],fun _=>false⟩ Tryz.f59=some (Q0,QT):=by kernel_rfl
def SQ:PC:=.seq (.reg [.q 2 (.mv (.i 0))]) (.seq (.reg [.v 3 0,.q 4 (.nc (.t 3)),.q 5 (.fa 1 (.t 4)),.l 6 (.ld1 (.t 5)),.q 7 (.lnL (.t 6)),.v 2 7]) .ret)
def SK:List RV:=[.mv (.t 2)]
theorem Y3:aV Tryz.prog true ⟨fun _ _=>.own [],fun _=>false⟩ Tryz.f60=some (SQ,SK):=by kernel_rfl
def TL:PC:=.seq (.reg [.q 4 (.mv (.k .nilIface))]) (.seq (.reg [.v 5 0,.a 6 (.cl 109 [(.t 5)] [0,1])]) (.seq (.reg [.v 7 0,.v 8 0,.q 9 (.nc (.t 8)),.q 10 (.fa 1 (.t 9)),.l 11 (.ld1 (.t 10)),.v 12 1,.e 13 (.bsl 5 1 [(.t 12)]),.e 14 (.ap 5 1 1 (.t 11) (.t 13)),.q 15 (.nc (.t 7)),.q 16 (.fa 1 (.t 15)),.s (.st 1 (.t 16) (.t 14))]) (.seq (.reg [.q 4 (.mv (.k .nilIface))]) .ret)))
def PU:List RV:=[.mv (.t 4)]
theorem Z5:aV Tryz.prog true ⟨fun r k=>if r=1/\k=1 then .own [0,1] else .own [],fun _=>false⟩ Tryz.f61=some (TL,PU):=by kernel_rfl
def pc62:PC:=.seq (.reg [.q 4 (.mv (.i 0)),.q 5 (.mv (.k .nilIface))]) (.seq (.reg [.v 6 0,.a 7 (.cl 109 [(.t 6)] [0,1])]) (.seq (.reg [.v 8 0,.v 9 0,.q 10 (.nc (.t 9)),.q 11 (.fa 1 (.t 10)),.l 12 (.ld1 (.t 11)),.v 13 1,.e 14 (.aps 5 (.t 12) (.t 13)),.q 15 (.nc (.t 8)),.q 16 (.fa 1 (.t 15)),.s (.st 1 (.t 16) (.t 14))]) (.seq (.reg [.v 17 1,.q 18 (.lnS (.t 17)),.v 4 18,.q 5 (.mv (.k .nilIface))]) .ret)))
def rs62:List RV:=[.mv (.t 4),.mv (.t 5)]
theorem ok62:aV Tryz.prog true ⟨fun r k=>if r=1/\k=1 then .own [0,1] else .own [],fun _=>false⟩ Tryz.f62=some (pc62,rs62):=by kernel_rfl
def R9:PC:=.seq (.reg [.q 2 (.mv (.k (.string (mk []))))]) (.seq (.reg [.v 3 0,.q 4 (.nc (.t 3)),.q 5 (.fa 1 (.t 4)),.l 6 (.ld1 (.t 5)),.q 7 (.usd (.t 6)),.v 8 0,.q 9 (.nc (.t 8)),.q 10 (.fa 1 (.t 9)),.l 11 (.ld1 (.t 10)),.q 12 (.lnL (.t 11)),.e 13 (.us 5 (.t 7) (.t 12)),.v 2 13]) .ret)
def SY:List RV:=[.mv (.t 2)]
theorem ZP:aV Tryz.prog true ⟨fun _ _=>.own [],fun _=>false⟩ Tryz.f63=some (R9,SY):=by kernel_rfl
def SE:PC:=.seq (.reg [.q 4 (.mv (.k (.bool false)))]) (.seq (.reg [.v 5 0,.v 6 1,.a 7 (.cl 116 [(.t 5),(.i 1),(.t 6)] [0]),.v 4 7]) .ret)
def RR:List RV:=[.mv (.t 4)]
theorem Y4:aV Tryz.prog true ⟨fun r k=>if r=1/\k=2 then .own [0] else .own [],fun _=>false⟩ Tryz.f80=some (SE,RR):=by kernel_rfl
def TN:PC:=.seq (.reg [.e 2 (.al (.agg #[(.int .i64 0),(.string (mk [])),(.int .i64 0),(.int .i64 0)]) 74)]) (.seq (.reg [.v 4 0,.a 5 (.cl 38 [(.t 4)] [0]),.e 3 (.al (.agg #[(.int .i64 0),(.string (mk [])),(.int .i64 0),(.int .i64 0)]) 74),.s (.st 4 (.t 3) (.t 5))]) (.seq (.seq (.reg [.v 6 0,.q 7 (.eqP true (.t 6) (.k (.pointer none))),.v 8 7,⟨some 9,(some (8,true)),.q (.mv (.t 0))⟩,⟨some 10,(some (8,true)),.q (.nc (.t 9))⟩,⟨some 11,(some (8,true)),.q (.fa 1 (.t 10))⟩,⟨some 12,(some (8,true)),.l (.ld1 (.t 11))⟩,⟨some 13,(some (8,true)),.q (.mv (.t 0))⟩,⟨some 14,(some (8,true)),.q (.nc (.t 13))⟩,⟨some 15,(some (8,true)),.q (.fa 0 (.t 14))⟩,⟨some 16,(some (8,true)),.l (.ld1 (.t 15))⟩,⟨some 17,(some (8,true)),.q (.lnL (.t 16))⟩,⟨some 18,(some (8,true)),.q (.bin .sub true (.t 17) (.i 1))⟩,⟨some 19,(some (8,true)),.q (.bin .lss true (.t 12) (.t 18))⟩,.a 20 (.pick (.t 8) (.t 19) (.k (.bool false)))]) (.cond (.t 20) (.reg [.v 21 0,.q 22 (.nc (.t 21)),.q 23 (.fa 1 (.t 22)),.l 24 (.ld1 (.t 23)),.q 25 (.bin .add true (.t 24) (.i 1)),.q 26 (.nc (.t 21)),.q 27 (.fa 1 (.t 26)),.s (.st 1 (.t 27) (.t 25))]) .skip)) (.seq (.reg [.l 28 (.ldn 4 (.t 3)),.s (.st 4 (.t 2) (.t 28))]) .ret)))
def S5:List RV:=[.ld (.ldn 4 (.t 2))]
theorem YS:aV Tryz.prog true ⟨fun r k=>if r=1/\k=1 then .own [0] else .own [],fun _=>false⟩ Tryz.f81=some (TN,S5):=by kernel_rfl
def UL:PC:=.seq (.reg [.q 4 (.mv (.k (.bool false)))]) (.seq (.reg [.v 5 0,.v 6 1,.a 7 (.cl 116 [(.t 5),(.i 4),(.t 6)] [0]),.v 4 7]) .ret)
def SA:List RV:=[.mv (.t 4)]
theorem X3:aV Tryz.prog true ⟨fun r k=>if r=1/\k=2 then .own [0] else .own [],fun _=>false⟩ Tryz.f82=some (UL,SA):=by kernel_rfl
def P0:PC:=.seq (.reg [.q 2 (.mv (.k (.bool false)))]) (.seq (.seq (.reg [.v 5 0,.q 6 (.bin .eql true (.t 5) (.k (.string (mk [])))),.v 7 6,⟨some 8,(some (7,false)),.q (.mv (.t 0))⟩,⟨some 9,(some (7,false)),.q (.lnS (.t 8))⟩,⟨some 10,(some (7,false)),.q (.bin .gtr true (.t 9) (.i 16))⟩,.a 11 (.pick (.t 7) (.k (.bool true)) (.t 10)),.v 12 11,⟨some 13,(some (12,false)),.q (.mv (.t 0))⟩,⟨some 14,(some (12,false)),.ix (.t 13) (.i 0)⟩,⟨some 15,(some (12,false)),.cq 108 [(.t 14)]⟩,⟨some 16,(some (12,false)),.q (.bin .neq true (.t 15) (.i 3))⟩,.a 17 (.pick (.t 12) (.k (.bool true)) (.t 16))]) (.cond (.t 17) (.seq (.reg [.q 2 (.mv (.k (.bool false)))]) .ret) .skip)) (.seq (.seq (.reg [.v 18 0,.q 19 (.lnS (.t 18)),.q 20 (.mv (.i 0))]) (.block 0 (.loop (.seq (.reg [.q 21 (.bin .lss true (.t 20) (.t 19))]) (.seq (.cond (.t 21) .skip (.exit 0)) (.seq (.block 1 (.seq (.reg [.v 22 20,.v 3 22]) (.seq (.reg [.v 23 0,.v 24 3,.a 25 (.ix (.t 23) (.t 24)),.a 26 (.cq 108 [(.t 25)]),.v 4 26]) (.seq (.reg [.v 27 4,.q 28 (.bin .neq true (.t 27) (.i 3)),.v 29 28,⟨some 30,(some (29,true)),.q (.mv (.t 4))⟩,⟨some 31,(some (29,true)),.q (.bin .neq true (.t 30) (.i 4))⟩,.a 32 (.pick (.t 29) (.t 31) (.k (.bool false))),.v 33 32,⟨some 34,(some (33,true)),.q (.mv (.t 4))⟩,⟨some 35,(some (33,true)),.q (.bin .neq true (.t 34) (.i 6))⟩,.a 36 (.pick (.t 33) (.t 35) (.k (.bool false)))]) (.cond (.t 36) (.seq (.reg [.q 2 (.mv (.k (.bool false)))]) .ret) .skip))))) (.reg [.q 37 (.bin .add true (.t 20) (.i 1)),.v 20 37]))))))) (.seq (.reg [.q 2 (.mv (.k (.bool true)))]) .ret)))
def S6:List RV:=[.mv (.t 2)]
theorem YH:aV Tryz.prog true ⟨fun r k=>if r=1/\k=10 then .q else if r=6/\k=3 then .q else .own [],fun _=>false⟩ Tryz.f95=some (P0,S6):=by kernel_rfl
def NN:PC:=.block 0 (.loop (.seq (.seq (.reg [.v 3 0,.q 4 (.nc (.t 3)),.q 5 (.fa 1 (.t 4)),.l 6 (.ld1 (.t 5)),.v 7 0,.q 8 (.nc (.t 7)),.q 9 (.fa 0 (.t 8)),.l 10 (.ld1 (.t 9)),.q 11 (.lnS (.t 10)),.q 12 (.bin .lss true (.t 6) (.t 11))]) (.cond (.t 12) .skip (.exit 0))) (.block 1 (.seq (.reg [.v 13 0,.a 14 (.cl 101 [(.t 13)] [0])]) (.block 2 (.seq (.reg [.q 16 (.bin .eql true (.t 14) (.i 1)),.v 15 16]) (.cond (.t 15) (.reg [.v 17 0,.q 18 (.nc (.t 17)),.q 19 (.fa 1 (.t 18)),.l 20 (.ld1 (.t 19)),.q 21 (.bin .add true (.t 20) (.i 1)),.q 22 (.nc (.t 17)),.q 23 (.fa 1 (.t 22)),.s (.st 1 (.t 23) (.t 21))]) (.seq (.reg [.q 25 (.bin .eql true (.t 14) (.i 2)),.v 24 25]) (.cond (.t 24) (.seq (.reg [.v 26 0,.q 27 (.nc (.t 26)),.q 28 (.fa 0 (.t 27)),.l 29 (.ld1 (.t 28)),.v 30 0,.q 31 (.nc (.t 30)),.q 32 (.fa 1 (.t 31)),.l 33 (.ld1 (.t 32)),.q 34 (.ss (.t 29) (some (.t 33)) none),.a 35 (.cq 119 [(.t 34),(.k (.int .u8 10))]),.v 2 35]) (.seq (.reg [.v 36 2,.q 37 (.bin .geq true (.t 36) (.i 0))]) (.cond (.t 37) (.reg [.v 38 0,.q 39 (.nc (.t 38)),.q 40 (.fa 1 (.t 39)),.l 41 (.ld1 (.t 40)),.v 42 2,.q 43 (.bin .add true (.t 41) (.t 42)),.q 44 (.nc (.t 38)),.q 45 (.fa 1 (.t 44)),.s (.st 1 (.t 45) (.t 43))]) (.reg [.v 46 0,.v 47 0,.q 48 (.nc (.t 47)),.q 49 (.fa 0 (.t 48)),.l 50 (.ld1 (.t 49)),.q 51 (.lnS (.t 50)),.q 52 (.nc (.t 46)),.q 53 (.fa 1 (.t 52)),.s (.st 1 (.t 53) (.t 51))])))) .ret)))))))))
def LY:List RV:=[]
theorem U8:aV Tryz.prog true ⟨fun r k=>if r=1/\k=1 then .own [0] else if r=5/\k=9 then .q else .own [],fun _=>false⟩ Tryz.f100=some (NN,LY):=by kernel_rfl
def MD:PC:=.seq (.reg [.q 2 (.mv (.i 0))]) (.seq (.seq (.reg [.v 3 0,.q 4 (.nc (.t 3)),.q 5 (.fa 1 (.t 4)),.l 6 (.ld1 (.t 5)),.v 7 0,.q 8 (.nc (.t 7)),.q 9 (.fa 0 (.t 8)),.l 10 (.ld1 (.t 9)),.q 11 (.lnS (.t 10)),.q 12 (.bin .geq true (.t 6) (.t 11))]) (.cond (.t 12) (.seq (.reg [.q 2 (.mv (.i (-1)))]) .ret) .skip)) (.seq (.reg [.v 13 0,.q 14 (.nc (.t 13)),.q 15 (.fa 0 (.t 14)),.l 16 (.ld1 (.t 15)),.v 17 0,.q 18 (.nc (.t 17)),.q 19 (.fa 1 (.t 18)),.l 20 (.ld1 (.t 19)),.a 21 (.ix (.t 16) (.t 20)),.a 22 (.cq 108 [(.t 21)]),.v 2 22]) .ret))
def LJ:List RV:=[.mv (.t 2)]
theorem U5:aV Tryz.prog true ⟨fun r k=>if r=3/\k=9 then .q else .own [],fun _=>false⟩ Tryz.f101=some (MD,LJ):=by kernel_rfl
def L4:PC:=.seq (.reg [.e 2 (.al (.agg #[(.int .i64 0),(.string (mk [])),(.int .i64 0),(.int .i64 0)]) 74)]) (.seq (.reg [.v 5 0,.q 6 (.nc (.t 5)),.q 7 (.fa 1 (.t 6)),.l 8 (.ld1 (.t 7)),.v 3 8]) (.seq (.seq (.reg [.v 9 0,.a 10 (.cl 101 [(.t 9)] [0]),.v 4 10]) (.block 0 (.loop (.seq (.seq (.reg [.v 11 4,.q 12 (.bin .eql true (.t 11) (.i 3)),.v 13 12,⟨some 14,(some (13,false)),.q (.mv (.t 4))⟩,⟨some 15,(some (13,false)),.q (.bin .eql true (.t 14) (.i 4))⟩,.a 16 (.pick (.t 13) (.k (.bool true)) (.t 15)),.v 17 16,⟨some 18,(some (17,false)),.q (.mv (.t 4))⟩,⟨some 19,(some (17,false)),.q (.bin .eql true (.t 18) (.i 6))⟩,.a 20 (.pick (.t 17) (.k (.bool true)) (.t 19))]) (.cond (.t 20) .skip (.exit 0))) (.seq (.block 1 (.reg [.v 23 0,.q 24 (.nc (.t 23)),.q 25 (.fa 1 (.t 24)),.l 26 (.ld1 (.t 25)),.q 27 (.bin .add true (.t 26) (.i 1)),.q 28 (.nc (.t 23)),.q 29 (.fa 1 (.t 28)),.s (.st 1 (.t 29) (.t 27))])) (.reg [.v 21 0,.a 22 (.cl 101 [(.t 21)] [0]),.v 4 22])))))) (.seq (.seq (.reg [.v 30 0,.q 31 (.nc (.t 30)),.q 32 (.fa 1 (.t 31)),.l 33 (.ld1 (.t 32)),.v 34 3,.q 35 (.bin .sub true (.t 33) (.t 34)),.q 36 (.bin .gtr true (.t 35) (.i 16))]) (.cond (.t 36) (.reg [.v 37 0,.v 38 3,.a 39 (.cl 105 [(.t 37),(.i 3),(.t 38)] [0])]) .skip)) (.seq (.seq (.reg [.v 40 0,.a 41 (.cl 101 [(.t 40)] [0]),.q 42 (.bin .eql true (.t 41) (.i 5))]) (.cond (.t 42) (.reg [.v 43 0,.v 44 0,.q 45 (.nc (.t 44)),.q 46 (.fa 1 (.t 45)),.l 47 (.ld1 (.t 46)),.a 48 (.cl 105 [(.t 43),(.i 2),(.t 47)] [0])]) .skip)) (.seq (.reg [.v 49 0,.q 50 (.nc (.t 49)),.q 51 (.fa 0 (.t 50)),.l 52 (.ld1 (.t 51)),.v 53 3,.v 54 0,.q 55 (.nc (.t 54)),.q 56 (.fa 1 (.t 55)),.l 57 (.ld1 (.t 56)),.q 58 (.ss (.t 52) (some (.t 53)) (some (.t 57))),.v 59 3,.q 60 (.bd [(.int .i64 0),(.string (mk [])),(.int .i64 0),(.int .i64 0)] [(0,1,(.i 1)),(1,1,(.t 58)),(3,1,(.t 59))]),.s (.st 4 (.t 2) (.t 60))]) .ret)))))
def MV:List RV:=[.ld (.ldn 4 (.t 2))]
theorem WE:aV Tryz.prog true ⟨fun r k=>if r=2/\k=1 then .own [0] else if r=4/\k=1 then .own [0] else if r=7/\k=2 then .own [0] else if r=8/\k=1 then .own [0] else if r=9/\k=5 then .own [0] else .own [],fun _=>false⟩ Tryz.f102=some (L4,MV):=by kernel_rfl
def pc103_15:PC:=.seq (.seq (.gh (.reg [.v 79 0,.a 80 (.cl 101 [(.t 79)] [0]),.v 9 80])) (.seq (.reg [.v 81 9,.q 82 (.bin .eql true (.t 81) (.i 3)),.v 83 82,⟨some 84,(some (83,false)),.q (.mv (.t 9))⟩,⟨some 85,(some (83,false)),.q (.bin .eql true (.t 84) (.i 6))⟩,.a 86 (.pick (.t 83) (.k (.bool true)) (.t 85)),.v 87 86,⟨some 88,(some (87,false)),.q (.mv (.t 9))⟩,⟨some 89,(some (87,false)),.q (.bin .eql true (.t 88) (.i 5))⟩,.a 90 (.pick (.t 87) (.k (.bool true)) (.t 89))]) (.cond (.t 90) (.reg [.v 91 0,.v 92 0,.q 93 (.nc (.t 92)),.q 94 (.fa 1 (.t 93)),.l 95 (.ld1 (.t 94)),.a 96 (.cl 105 [(.t 91),(.i 2),(.t 95)] [0])]) .skip))) (.seq (.reg [.v 97 7,.v 98 3,.q 99 (.bd [(.int .i64 0),(.string (mk [])),(.int .i64 0),(.int .i64 0)] [(0,1,(.i 2)),(2,1,(.t 97)),(3,1,(.t 98))]),.s (.st 4 (.t 2) (.t 99))]) .ret)
@[go_sem ↓] theorem VQ:bY pc103_15:=bZ _
def pc103_5:PC:=.seq (.gh (.reg [.v 25 0,.q 26 (.nc (.t 25)),.q 27 (.fa 1 (.t 26)),.l 28 (.ld1 (.t 27)),.v 5 28])) (.seq (.block 0 (.loop (.seq (.seq (.reg [.v 29 0,.a 30 (.cl 101 [(.t 29)] [0]),.q 31 (.bin .eql true (.t 30) (.i 4))]) (.cond (.t 31) .skip (.exit 0))) (.block 1 (.reg [.v 32 0,.q 33 (.nc (.t 32)),.q 34 (.fa 1 (.t 33)),.l 35 (.ld1 (.t 34)),.q 36 (.bin .add true (.t 35) (.i 1)),.q 37 (.nc (.t 32)),.q 38 (.fa 1 (.t 37)),.s (.st 1 (.t 38) (.t 36))]))))) (.seq (.reg [.v 39 0,.q 40 (.nc (.t 39)),.q 41 (.fa 0 (.t 40)),.l 42 (.ld1 (.t 41)),.v 43 5,.v 44 0,.q 45 (.nc (.t 44)),.q 46 (.fa 1 (.t 45)),.l 47 (.ld1 (.t 46)),.q 48 (.ss (.t 42) (some (.t 43)) (some (.t 47))),.v 6 48]) (.seq (.seq (.reg [.v 49 6,.q 50 (.bin .eql true (.t 49) (.k (.string (mk [])))),.v 51 50,⟨some 52,(some (51,false)),.q (.mv (.t 6))⟩,⟨some 53,(some (51,false)),.ix (.t 52) (.i 0)⟩,⟨some 54,(some (51,false)),.q (.bin .eql true (.t 53) (.k (.int .u8 48)))⟩,⟨some 55,(some (51,false)),.q (.mv (.t 54))⟩,⟨some 56,(some (55,true)),.q (.mv (.t 6))⟩,⟨some 57,(some (55,true)),.q (.lnS (.t 56))⟩,⟨some 58,(some (55,true)),.q (.bin .gtr true (.t 57) (.i 1))⟩,⟨some 59,(some (55,true)),.q (.mv (.t 58))⟩,⟨some 60,(some (59,false)),.q (.mv (.t 4))⟩,⟨some 61,(some (55,true)),.pick (.t 59) (.k (.bool true)) (.t 60)⟩,⟨some 62,(some (51,false)),.pick (.t 55) (.t 61) (.k (.bool false))⟩,.a 63 (.pick (.t 51) (.k (.bool true)) (.t 62))]) (.cond (.t 63) (.seq (.reg [.v 64 0,.v 65 3,.a 66 (.cl 105 [(.t 64),(.i 2),(.t 65)] [0])]) (.seq (.reg [.q 67 (.bd [(.int .i64 0),(.string (mk [])),(.int .i64 0),(.int .i64 0)] []),.s (.st 4 (.t 2) (.t 67))]) .ret)) .skip)) (.seq (.reg [.v 69 4,.v 70 6,.a 71 (.cl 120 [(.t 69),(.t 70)] []),.v 68 71,.q 72 (.ex (.t 68) 0),.q 73 (.ex (.t 68) 1),.v 7 72,.v 8 73]) (.seq (.seq (.reg [.v 74 8,.q 75 (.not (.t 74))]) (.cond (.t 75) (.reg [.v 76 0,.v 77 3,.a 78 (.cl 105 [(.t 76),(.i 4),(.t 77)] [0])]) .skip)) (pc103_15))))))
@[go_sem ↓] theorem XJ:bY pc103_5:=bZ _
def MP:PC:=.seq (.reg [.e 2 (.al (.agg #[(.int .i64 0),(.string (mk [])),(.int .i64 0),(.int .i64 0)]) 74)]) (.seq (.reg [.v 10 0,.q 11 (.nc (.t 10)),.q 12 (.fa 1 (.t 11)),.l 13 (.ld1 (.t 12)),.v 3 13]) (.seq (.reg [.v 14 0,.a 15 (.cl 101 [(.t 14)] [0]),.q 16 (.bin .eql true (.t 15) (.i 5)),.v 4 16]) (.seq (.seq (.reg [.v 17 4]) (.cond (.t 17) (.reg [.v 18 0,.q 19 (.nc (.t 18)),.q 20 (.fa 1 (.t 19)),.l 21 (.ld1 (.t 20)),.q 22 (.bin .add true (.t 21) (.i 1)),.q 23 (.nc (.t 18)),.q 24 (.fa 1 (.t 23)),.s (.st 1 (.t 24) (.t 22))]) .skip)) (pc103_5))))
def qT:List RV:=[.ld (.ldn 4 (.t 2))]
theorem UV:aV Tryz.prog true ⟨fun r k=>if r=2/\k=1 then .own [0] else if r=6/\k=1 then .own [0] else if r=10/\k=2 then .own [0] else if r=14/\k=2 then .own [0] else if r=15/\k=1 then .own [0] else if r=17/\k=5 then .own [0] else .own [],fun r=>[5,15].contains r⟩ Tryz.f103=some (MP,qT):=by kernel_rfl
def MY:PC:=.seq (.reg [.e 2 (.al (.agg #[(.int .i64 0),(.string (mk [])),(.int .i64 0),(.int .i64 0)]) 74)]) (.seq (.reg [.v 6 0,.q 7 (.nc (.t 6)),.q 8 (.fa 1 (.t 7)),.l 9 (.ld1 (.t 8)),.v 3 9]) (.seq (.reg [.e 4 (.al (.agg #[(.pointer none),(.slice none 0 0)]) 95)]) (.seq (.seq (.reg [.v 10 0,.q 11 (.nc (.t 10)),.q 12 (.fa 1 (.t 11)),.l 13 (.ld1 (.t 12)),.q 14 (.bin .add true (.t 13) (.i 1)),.q 15 (.nc (.t 10)),.q 16 (.fa 1 (.t 15)),.s (.st 1 (.t 16) (.t 14))]) (.block 0 (.loop (.seq (.block 1 (.seq (.seq (.reg [.v 24 0,.q 25 (.nc (.t 24)),.q 26 (.fa 1 (.t 25)),.l 27 (.ld1 (.t 26)),.v 28 0,.q 29 (.nc (.t 28)),.q 30 (.fa 0 (.t 29)),.l 31 (.ld1 (.t 30)),.q 32 (.lnS (.t 31)),.q 33 (.bin .geq true (.t 27) (.t 32)),.v 34 33,⟨some 35,(some (34,false)),.q (.mv (.t 0))⟩,⟨some 36,(some (34,false)),.q (.nc (.t 35))⟩,⟨some 37,(some (34,false)),.q (.fa 0 (.t 36))⟩,⟨some 38,(some (34,false)),.l (.ld1 (.t 37))⟩,⟨some 39,(some (34,false)),.q (.mv (.t 0))⟩,⟨some 40,(some (34,false)),.q (.nc (.t 39))⟩,⟨some 41,(some (34,false)),.q (.fa 1 (.t 40))⟩,⟨some 42,(some (34,false)),.l (.ld1 (.t 41))⟩,⟨some 43,(some (34,false)),.ix (.t 38) (.t 42)⟩,⟨some 44,(some (34,false)),.q (.bin .lss true (.t 43) (.k (.int .u8 32)))⟩,.a 45 (.pick (.t 34) (.k (.bool true)) (.t 44)),.v 46 45,⟨some 47,(some (46,false)),.q (.mv (.t 0))⟩,⟨some 48,(some (46,false)),.q (.nc (.t 47))⟩,⟨some 49,(some (46,false)),.q (.fa 0 (.t 48))⟩,⟨some 50,(some (46,false)),.l (.ld1 (.t 49))⟩,⟨some 51,(some (46,false)),.q (.mv (.t 0))⟩,⟨some 52,(some (46,false)),.q (.nc (.t 51))⟩,⟨some 53,(some (46,false)),.q (.fa 1 (.t 52))⟩,⟨some 54,(some (46,false)),.l (.ld1 (.t 53))⟩,⟨some 55,(some (46,false)),.ix (.t 50) (.t 54)⟩,⟨some 56,(some (46,false)),.q (.bin .gtr true (.t 55) (.k (.int .u8 126)))⟩,.a 57 (.pick (.t 46) (.k (.bool true)) (.t 56))]) (.cond (.t 57) (.seq (.reg [.v 58 0,.v 59 0,.q 60 (.nc (.t 59)),.q 61 (.fa 1 (.t 60)),.l 62 (.ld1 (.t 61)),.a 63 (.cl 105 [(.t 58),(.i 2),(.t 62)] [0])]) (.seq (.reg [.q 64 (.bd [(.int .i64 0),(.string (mk [])),(.int .i64 0),(.int .i64 0)] []),.s (.st 4 (.t 2) (.t 64))]) .ret)) .skip)) (.seq (.reg [.v 65 0,.q 66 (.nc (.t 65)),.q 67 (.fa 0 (.t 66)),.l 68 (.ld1 (.t 67)),.v 69 0,.q 70 (.nc (.t 69)),.q 71 (.fa 1 (.t 70)),.l 72 (.ld1 (.t 71)),.a 73 (.ix (.t 68) (.t 72)),.v 5 73]) (.seq (.seq (.reg [.v 74 5,.q 75 (.bin .eql true (.t 74) (.k (.int .u8 34)))]) (.cond (.t 75) (.seq (.reg [.v 76 0,.q 77 (.nc (.t 76)),.q 78 (.fa 1 (.t 77)),.l 79 (.ld1 (.t 78)),.q 80 (.bin .add true (.t 79) (.i 1)),.q 81 (.nc (.t 76)),.q 82 (.fa 1 (.t 81)),.s (.st 1 (.t 82) (.t 80))]) (.exit 0)) .skip)) (.seq (.seq (.reg [.v 83 5,.q 84 (.bin .eql true (.t 83) (.k (.int .u8 92)))]) (.cond (.t 84) (.seq (.seq (.reg [.v 85 0,.q 86 (.nc (.t 85)),.q 87 (.fa 1 (.t 86)),.l 88 (.ld1 (.t 87)),.q 89 (.bin .add true (.t 88) (.i 1)),.v 90 0,.q 91 (.nc (.t 90)),.q 92 (.fa 0 (.t 91)),.l 93 (.ld1 (.t 92)),.q 94 (.lnS (.t 93)),.q 95 (.bin .geq true (.t 89) (.t 94)),.v 96 95,⟨some 97,(some (96,false)),.q (.mv (.t 0))⟩,⟨some 98,(some (96,false)),.q (.nc (.t 97))⟩,⟨some 99,(some (96,false)),.q (.fa 0 (.t 98))⟩,⟨some 100,(some (96,false)),.l (.ld1 (.t 99))⟩,⟨some 101,(some (96,false)),.q (.mv (.t 0))⟩,⟨some 102,(some (96,false)),.q (.nc (.t 101))⟩,⟨some 103,(some (96,false)),.q (.fa 1 (.t 102))⟩,⟨some 104,(some (96,false)),.l (.ld1 (.t 103))⟩,⟨some 105,(some (96,false)),.q (.bin .add true (.t 104) (.i 1))⟩,⟨some 106,(some (96,false)),.ix (.t 100) (.t 105)⟩,⟨some 107,(some (96,false)),.q (.bin .neq true (.t 106) (.k (.int .u8 34)))⟩,⟨some 108,(some (96,false)),.q (.mv (.t 107))⟩,⟨some 109,(some (108,true)),.q (.mv (.t 0))⟩,⟨some 110,(some (108,true)),.q (.nc (.t 109))⟩,⟨some 111,(some (108,true)),.q (.fa 0 (.t 110))⟩,⟨some 112,(some (108,true)),.l (.ld1 (.t 111))⟩,⟨some 113,(some (108,true)),.q (.mv (.t 0))⟩,⟨some 114,(some (108,true)),.q (.nc (.t 113))⟩,⟨some 115,(some (108,true)),.q (.fa 1 (.t 114))⟩,⟨some 116,(some (108,true)),.l (.ld1 (.t 115))⟩,⟨some 117,(some (108,true)),.q (.bin .add true (.t 116) (.i 1))⟩,⟨some 118,(some (108,true)),.ix (.t 112) (.t 117)⟩,⟨some 119,(some (108,true)),.q (.bin .neq true (.t 118) (.k (.int .u8 92)))⟩,⟨some 120,(some (96,false)),.pick (.t 108) (.t 119) (.k (.bool false))⟩,.a 121 (.pick (.t 96) (.k (.bool true)) (.t 120))]) (.cond (.t 121) (.seq (.reg [.v 122 0,.v 123 0,.q 124 (.nc (.t 123)),.q 125 (.fa 1 (.t 124)),.l 126 (.ld1 (.t 125)),.a 127 (.cl 105 [(.t 122),(.i 2),(.t 126)] [0])]) (.seq (.reg [.q 128 (.bd [(.int .i64 0),(.string (mk [])),(.int .i64 0),(.int .i64 0)] []),.s (.st 4 (.t 2) (.t 128))]) .ret)) .skip)) (.seq (.reg [.v 129 0,.q 130 (.nc (.t 129)),.q 131 (.fa 1 (.t 130)),.l 132 (.ld1 (.t 131)),.q 133 (.bin .add true (.t 132) (.i 1)),.q 134 (.nc (.t 129)),.q 135 (.fa 1 (.t 134)),.s (.st 1 (.t 135) (.t 133))]) (.reg [.v 136 0,.q 137 (.nc (.t 136)),.q 138 (.fa 0 (.t 137)),.l 139 (.ld1 (.t 138)),.v 140 0,.q 141 (.nc (.t 140)),.q 142 (.fa 1 (.t 141)),.l 143 (.ld1 (.t 142)),.a 144 (.ix (.t 139) (.t 143)),.v 5 144]))) .skip)) (.reg [.v 145 5,.a 146 (.cl 61 [(.t 4),(.t 145)] [2,3])])))))) (.reg [.v 17 0,.q 18 (.nc (.t 17)),.q 19 (.fa 1 (.t 18)),.l 20 (.ld1 (.t 19)),.q 21 (.bin .add true (.t 20) (.i 1)),.q 22 (.nc (.t 17)),.q 23 (.fa 1 (.t 22)),.s (.st 1 (.t 23) (.t 21))]))))) (.seq (.seq (.reg [.a 147 (.cl 60 [(.t 4)] [2,3]),.q 148 (.bin .gtr true (.t 147) (.i 200))]) (.cond (.t 148) (.reg [.v 149 0,.v 150 3,.a 151 (.cl 105 [(.t 149),(.i 3),(.t 150)] [0])]) .skip)) (.seq (.reg [.a 152 (.cl 63 [(.t 4)] [2,3]),.v 153 3,.q 154 (.bd [(.int .i64 0),(.string (mk [])),(.int .i64 0),(.int .i64 0)] [(0,1,(.i 3)),(1,1,(.t 152)),(3,1,(.t 153))]),.s (.st 4 (.t 2) (.t 154))]) .ret)))))
def MB:List RV:=[.ld (.ldn 4 (.t 2))]
theorem VD:aV Tryz.prog true ⟨fun r k=>if r=6/\k=5 then .own [0] else if r=13/\k=5 then .own [0] else if r=17/\k=1 then .own [2,3] else if r=18/\k=0 then .own [2,3] else if r=19/\k=2 then .own [0] else if r=20/\k=0 then .own [2,3] else .own [],fun _=>false⟩ Tryz.f104=some (MY,MB):=by kernel_rfl
def M9:PC:=.seq (.reg [.v 6 0,.q 7 (.nc (.t 6)),.q 8 (.fa 2 (.t 7)),.l 9 (.ld1 (.t 8)),.q 10 (.bin .eql true (.t 9) (.i 0))]) (.cond (.t 10) (.reg [.v 11 0,.v 12 0,.v 13 1,.v 14 2,.q 15 (.nc (.t 11)),.q 16 (.fa 2 (.t 15)),.s (.st 1 (.t 16) (.t 13)),.q 17 (.nc (.t 12)),.q 18 (.fa 3 (.t 17)),.s (.st 1 (.t 18) (.t 14))]) .skip)
def LF:List RV:=[]
theorem VX:aV Tryz.prog true ⟨fun _ _=>.own [],fun _=>false⟩ Tryz.f105=some (M9,LF):=by kernel_rfl
def pc106_4:PC:=.seq (.gh (.reg [.q 4 (.mv (.k (.string (mk []))))])) (.seq (.seq (.reg [.q 5 (.mv (.k (.bool true)))]) (.block 0 (.loop (.seq (.seq (.reg [.v 12 5,.v 13 12,⟨some 14,(some (13,false)),.q (.mv (.t 3))⟩,⟨some 15,(some (13,false)),.q (.bin .gtr true (.t 14) (.k (.int .u64 0)))⟩,.a 16 (.pick (.t 13) (.k (.bool true)) (.t 15))]) (.cond (.t 16) .skip (.exit 0))) (.seq (.block 1 (.seq (.reg [.v 17 3,.q 18 (.bin .rem true (.t 17) (.k (.int .u64 10))),.q 19 (.bin .add true (.k (.int .u64 48)) (.t 18)),.q 20 (.cvt .u8 (.t 19)),.e 21 (.bsl 5 1 [(.t 20)]),.q 22 (.b2s (.t 21)),.v 23 4,.q 24 (.bin .add true (.t 22) (.t 23)),.v 4 24]) (.reg [.v 25 3,.q 26 (.bin .quo true (.t 25) (.k (.int .u64 10))),.v 3 26]))) (.reg [.q 5 (.mv (.k (.bool false)))])))))) (.seq (.seq (.reg [.v 27 0,.q 28 (.bin .lss true (.t 27) (.i 0))]) (.cond (.t 28) (.seq (.reg [.v 29 4,.q 30 (.bin .add true (.k (.string (mk [45]))) (.t 29)),.v 2 30]) .ret) .skip)) (.seq (.reg [.v 31 4,.v 2 31]) .ret)))
@[go_sem ↓] theorem HT:bY pc106_4:=bZ _
def pc106:PC:=.seq (.reg [.q 2 (.mv (.k (.string (mk []))))]) (.seq (.reg [.v 6 0,.q 7 (.cvt .u64 (.t 6)),.v 3 7]) (.seq (.seq (.reg [.v 8 0,.q 9 (.bin .lss true (.t 8) (.i 0))]) (.cond (.t 9) (.reg [.v 10 3,.q 11 (.neg false (.t 10)),.v 3 11]) .skip)) (pc106_4)))
def rs106:List RV:=[.mv (.t 2)]
theorem ok106:aV Tryz.prog true ⟨fun _ _=>.own [],fun r=>[4].contains r⟩ Tryz.f106=some (pc106,rs106):=by kernel_rfl
def NA:PC:=.seq (.reg [.q 2 (.mv (.k (.string (mk []))))]) (.seq (.reg [.e 5 (.bsl 5 1 [(.k (.int .u8 34))]),.v 3 5]) (.seq (.seq (.reg [.v 6 0,.q 7 (.lnS (.t 6)),.q 8 (.mv (.i 0))]) (.block 0 (.loop (.seq (.reg [.q 9 (.bin .lss true (.t 8) (.t 7))]) (.seq (.cond (.t 9) .skip (.exit 0)) (.seq (.block 1 (.seq (.reg [.v 10 8,.v 4 10]) (.seq (.seq (.reg [.v 11 0,.v 12 4,.a 13 (.ix (.t 11) (.t 12)),.q 14 (.bin .eql true (.t 13) (.k (.int .u8 34))),.v 15 14,⟨some 16,(some (15,false)),.q (.mv (.t 0))⟩,⟨some 17,(some (15,false)),.q (.mv (.t 4))⟩,⟨some 18,(some (15,false)),.ix (.t 16) (.t 17)⟩,⟨some 19,(some (15,false)),.q (.bin .eql true (.t 18) (.k (.int .u8 92)))⟩,.a 20 (.pick (.t 15) (.k (.bool true)) (.t 19))]) (.cond (.t 20) (.reg [.v 21 3,.e 22 (.bsl 5 1 [(.k (.int .u8 92))]),.e 23 (.ap 5 1 1 (.t 21) (.t 22)),.v 3 23]) .skip)) (.reg [.v 24 3,.v 25 0,.v 26 4,.a 27 (.ix (.t 25) (.t 26)),.e 28 (.bsl 5 1 [(.t 27)]),.e 29 (.ap 5 1 1 (.t 24) (.t 28)),.v 3 29])))) (.reg [.q 30 (.bin .add true (.t 8) (.i 1)),.v 8 30]))))))) (.seq (.reg [.v 31 3,.e 32 (.bsl 5 1 [(.k (.int .u8 34))]),.e 33 (.ap 5 1 1 (.t 31) (.t 32)),.q 34 (.b2s (.t 33)),.v 2 34]) .ret)))
def MJ:List RV:=[.mv (.t 2)]
theorem UT:aV Tryz.prog true ⟨fun _ _=>.own [],fun _=>false⟩ Tryz.f107=some (NA,MJ):=by kernel_rfl
def L3:PC:=.seq (.reg [.q 2 (.mv (.i 0))]) (.seq (.seq (.reg [.v 4 0,.q 5 (.cvt .i32 (.t 4)),.v 3 5]) (.block 0 (.seq (.reg [.v 7 3,.q 8 (.bin .eql true (.t 7) (.k (.int .i32 32))),.v 9 8,⟨some 10,(some (9,false)),.q (.mv (.t 3))⟩,⟨some 11,(some (9,false)),.q (.bin .eql true (.t 10) (.k (.int .i32 9)))⟩,.a 12 (.pick (.t 9) (.k (.bool true)) (.t 11)),.v 13 12,⟨some 14,(some (13,false)),.q (.mv (.t 3))⟩,⟨some 15,(some (13,false)),.q (.bin .eql true (.t 14) (.k (.int .i32 10)))⟩,.a 16 (.pick (.t 13) (.k (.bool true)) (.t 15)),.v 6 16]) (.cond (.t 6) (.seq (.reg [.q 2 (.mv (.i 1))]) .ret) (.seq (.reg [.v 18 3,.q 19 (.bin .eql true (.t 18) (.k (.int .i32 35))),.v 17 19]) (.cond (.t 17) (.seq (.reg [.q 2 (.mv (.i 2))]) .ret) (.seq (.reg [.v 21 3,.q 22 (.bin .geq true (.t 21) (.k (.int .i32 97))),.v 23 22,⟨some 24,(some (23,true)),.q (.mv (.t 3))⟩,⟨some 25,(some (23,true)),.q (.bin .leq true (.t 24) (.k (.int .i32 122)))⟩,.a 26 (.pick (.t 23) (.t 25) (.k (.bool false))),.v 27 26,⟨some 28,(some (27,false)),.q (.mv (.t 3))⟩,⟨some 29,(some (27,false)),.q (.bin .geq true (.t 28) (.k (.int .i32 65)))⟩,⟨some 30,(some (27,false)),.q (.mv (.t 29))⟩,⟨some 31,(some (30,true)),.q (.mv (.t 3))⟩,⟨some 32,(some (30,true)),.q (.bin .leq true (.t 31) (.k (.int .i32 90)))⟩,⟨some 33,(some (27,false)),.pick (.t 30) (.t 32) (.k (.bool false))⟩,.a 34 (.pick (.t 27) (.k (.bool true)) (.t 33)),.v 20 34]) (.cond (.t 20) (.seq (.reg [.q 2 (.mv (.i 3))]) .ret) (.seq (.reg [.v 36 3,.q 37 (.bin .geq true (.t 36) (.k (.int .i32 48))),.v 38 37,⟨some 39,(some (38,true)),.q (.mv (.t 3))⟩,⟨some 40,(some (38,true)),.q (.bin .leq true (.t 39) (.k (.int .i32 57)))⟩,.a 41 (.pick (.t 38) (.t 40) (.k (.bool false))),.v 35 41]) (.cond (.t 35) (.seq (.reg [.q 2 (.mv (.i 4))]) .ret) (.seq (.reg [.v 43 3,.q 44 (.bin .eql true (.t 43) (.k (.int .i32 45))),.v 42 44]) (.cond (.t 42) (.seq (.reg [.q 2 (.mv (.i 5))]) .ret) (.seq (.reg [.v 46 3,.q 47 (.bin .eql true (.t 46) (.k (.int .i32 95))),.v 45 47]) (.cond (.t 45) (.seq (.reg [.q 2 (.mv (.i 6))]) .ret) (.seq (.reg [.v 49 3,.q 50 (.bin .eql true (.t 49) (.k (.int .i32 34))),.v 48 50]) (.cond (.t 48) (.seq (.reg [.q 2 (.mv (.i 7))]) .ret) (.seq (.reg [.v 52 0,.a 53 (.cq 119 [(.k (.string (mk [123,125,40,41,91,93,58,59,44,61,46,63,33,38,124,64]))),(.t 52)]),.q 54 (.bin .geq true (.t 53) (.i 0)),.v 51 54]) (.cond (.t 51) (.seq (.reg [.q 2 (.mv (.i 8))]) .ret) .skip)))))))))))))))))) (.seq (.reg [.q 2 (.mv (.i 0))]) .ret))
def L5:List RV:=[.mv (.t 2)]
theorem V0:aV Tryz.prog true ⟨fun r k=>if r=16/\k=1 then .q else .own [],fun _=>false⟩ Tryz.f108=some (L3,L5):=by kernel_rfl
def GF:PC:=.seq (.reg [.v 2 0,.q 3 (.nc (.t 2)),.q 4 (.fa 0 (.t 3)),.l 5 (.ld1 (.t 4)),.q 6 (.eqP false (.t 5) (.k (.pointer none)))]) (.cond (.t 6) (.reg [.v 7 0,.v 8 0,.q 9 (.cu (.t 8)),.v 10 9,.q 11 (.c4u 95 2 (.t 10)),.q 12 (.nc (.t 7)),.q 13 (.fa 0 (.t 12)),.s (.st 1 (.t 13) (.t 11))]) (.seq (.reg [.v 14 0,.q 15 (.nc (.t 14)),.q 16 (.fa 0 (.t 15)),.l 17 (.ld1 (.t 16)),.v 18 0,.q 19 (.eqP true (.t 17) (.t 18))]) (.cond (.t 19) (.no) .skip)))
def GP:List RV:=[]
theorem WC:aV Tryz.prog true ⟨fun _ _=>.own [],fun _=>false⟩ Tryz.f109=some (GF,GP):=by kernel_rfl
def L6:PC:=.seq (.reg [.q 6 (.mv (.k (.bool false)))]) (.seq (.seq (.reg [.v 8 0,.a 9 (.cl 38 [(.t 8)] [0]),.e 7 (.al (.agg #[(.int .i64 0),(.string (mk [])),(.int .i64 0),(.int .i64 0)]) 74),.s (.st 4 (.t 7) (.t 9))]) (.seq (.reg [.q 10 (.fa 0 (.t 7)),.l 11 (.ld1 (.t 10)),.v 12 1,.q 13 (.bin .neq true (.t 11) (.t 12)),.v 14 13,⟨some 15,(some (14,false)),.q (.fa 1 (.t 7))⟩,⟨some 16,(some (14,false)),.l (.ld1 (.t 15))⟩,⟨some 17,(some (14,false)),.q (.mv (.t 2))⟩,⟨some 18,(some (14,false)),.q (.bin .neq true (.t 16) (.t 17))⟩,.a 19 (.pick (.t 14) (.k (.bool true)) (.t 18))]) (.cond (.t 19) (.seq (.reg [.q 6 (.mv (.k (.bool false)))]) .ret) .skip))) (.seq (.reg [.v 20 0,.a 21 (.cl 81 [(.t 20)] [0])]) (.seq (.reg [.q 6 (.mv (.k (.bool true)))]) .ret)))
def ML:List RV:=[.mv (.t 6)]
theorem VE:aV Tryz.prog true ⟨fun r k=>if r=1/\k=1 then .own [0] else if r=4/\k=1 then .own [0] else .own [],fun _=>false⟩ Tryz.f116=some (L6,ML):=by kernel_rfl
def pc120_4:PC:=.seq (.gh (.reg [.q 7 (.mv (.k (.int .u64 0)))])) (.seq (.seq (.reg [.v 11 1,.q 12 (.lnS (.t 11)),.q 13 (.mv (.i 0))]) (.block 0 (.loop (.seq (.reg [.q 14 (.bin .lss true (.t 13) (.t 12))]) (.seq (.cond (.t 14) .skip (.exit 0)) (.seq (.block 1 (.seq (.reg [.v 15 13,.v 8 15]) (.seq (.reg [.v 16 1,.v 17 8,.a 18 (.ix (.t 16) (.t 17)),.q 19 (.bin .sub true (.t 18) (.k (.int .u8 48))),.q 20 (.cvt .u64 (.t 19)),.v 9 20]) (.seq (.seq (.reg [.v 21 7,.v 22 6,.v 23 9,.q 24 (.bin .sub true (.t 22) (.t 23)),.q 25 (.bin .quo true (.t 24) (.k (.int .u64 10))),.q 26 (.bin .gtr true (.t 21) (.t 25))]) (.cond (.t 26) (.seq (.reg [.q 4 (.mv (.i 0)),.q 5 (.mv (.k (.bool false)))]) .ret) .skip)) (.reg [.v 27 7,.q 28 (.bin .mul true (.k (.int .u64 10)) (.t 27)),.v 29 9,.q 30 (.bin .add true (.t 28) (.t 29)),.v 7 30]))))) (.reg [.q 31 (.bin .add true (.t 13) (.i 1)),.v 13 31]))))))) (.seq (.seq (.reg [.v 32 0]) (.cond (.t 32) (.seq (.reg [.v 33 7,.q 34 (.neg false (.t 33)),.q 35 (.cvt .i64 (.t 34)),.v 4 35,.q 5 (.mv (.k (.bool true)))]) .ret) .skip)) (.seq (.reg [.v 36 7,.q 37 (.cvt .i64 (.t 36)),.v 4 37,.q 5 (.mv (.k (.bool true)))]) .ret)))
@[go_sem ↓] theorem XT:bY pc120_4:=bZ _
def NL:PC:=.seq (.reg [.q 4 (.mv (.i 0)),.q 5 (.mv (.k (.bool false)))]) (.seq (.reg [.q 6 (.mv (.k (.int .u64 9223372036854775807)))]) (.seq (.seq (.reg [.v 10 0]) (.cond (.t 10) (.reg [.q 6 (.mv (.k (.int .u64 9223372036854775808)))]) .skip)) (pc120_4)))
def zK:List RV:=[.mv (.t 4),.mv (.t 5)]
theorem WT:aV Tryz.prog true ⟨fun _ _=>.own [],fun r=>[4].contains r⟩ Tryz.f120=some (NL,zK):=by kernel_rfl
def MA:PC:=.seq (.reg [.q 4 (.mv (.k (.bool false)))]) (.seq (.reg [.v 5 0,.v 6 1,.a 7 (.cq 122 [(.t 5),(.t 6)]),.q 8 (.bin .geq true (.t 7) (.i 0)),.v 4 8]) .ret)
def LM:List RV:=[.mv (.t 4)]
theorem WZ:aV Tryz.prog true ⟨fun r k=>if r=1/\k=2 then .q else .own [],fun _=>false⟩ Tryz.f111=some (MA,LM):=by kernel_rfl
def MC:PC:=.seq (.reg [.q 4 (.mv (.i 0))]) (.seq (.seq (.reg [.v 6 0,.q 7 (.lnL (.t 6)),.q 8 (.mv (.i 0))]) (.block 0 (.loop (.seq (.reg [.q 9 (.bin .lss true (.t 8) (.t 7))]) (.seq (.cond (.t 9) .skip (.exit 0)) (.seq (.block 1 (.seq (.reg [.v 10 8,.v 5 10]) (.seq (.reg [.v 11 1,.v 12 0,.v 13 5,.l 14 (.ia 1 (.t 12) (.t 13)),.l 15 (.ld1 (.t 14)),.q 16 (.bin .eql true (.t 11) (.t 15))]) (.cond (.t 16) (.seq (.reg [.v 17 5,.v 4 17]) .ret) .skip)))) (.reg [.q 18 (.bin .add true (.t 8) (.i 1)),.v 8 18]))))))) (.seq (.reg [.q 4 (.mv (.i (-1)))]) .ret))
def LD:List RV:=[.mv (.t 4)]
theorem W2:aV Tryz.prog true ⟨fun _ _=>.own [],fun _=>false⟩ Tryz.f122=some (MC,LD):=by kernel_rfl
def QH:PC:=.seq (.reg [.e 1 (.bx 25 (.t 0)),.q 2 (.mv (.i 0))]) (.seq (.seq (.reg [.q 13 (.fa 0 (.t 1)),.l 14 (.ld1 (.t 13)),.q 15 (.bin .lss true (.t 14) (.i 1)),.v 16 15,⟨some 17,(some (16,false)),.q (.fa 0 (.t 1))⟩,⟨some 18,(some (16,false)),.l (.ld1 (.t 17))⟩,⟨some 19,(some (16,false)),.q (.bin .gtr true (.t 18) (.i 999))⟩,.a 20 (.pick (.t 16) (.k (.bool true)) (.t 19))]) (.cond (.t 20) (.seq (.reg [.q 2 (.mv (.i 4))]) .ret) .skip)) (.seq (.seq (.reg [.l 21 (.ldn 3 (.t 1)),.a 22 (.cq 72 [(.t 21)])]) (.cond (.t 22) (.seq (.reg [.q 2 (.mv (.i 3))]) .ret) .skip)) (.seq (.seq (.reg [.q 23 (.fa 1 (.t 1)),.l 24 (.ld1 (.t 23)),.q 25 (.lnL (.t 24)),.q 26 (.mv (.i 0))]) (.block 0 (.loop (.seq (.reg [.q 27 (.bin .lss true (.t 26) (.t 25))]) (.seq (.cond (.t 27) .skip (.exit 0)) (.seq (.block 1 (.seq (.reg [.v 28 26,.l 29 (.ia 3 (.t 24) (.t 26)),.l 30 (.ldn 3 (.t 29)),.e 4 (.al (.agg #[(.string (mk [])),(.slice none 0 0),(.slice none 0 0)]) 62),.v 3 28,.s (.st 3 (.t 4) (.t 30))]) (.seq (.seq (.reg [.q 31 (.fa 0 (.t 4)),.l 32 (.ld1 (.t 31)),.a 33 (.cq 73 [(.t 32)]),.q 34 (.not (.t 33))]) (.cond (.t 34) (.seq (.reg [.q 2 (.mv (.i 5))]) .ret) .skip)) (.seq (.seq (.reg [.q 35 (.fa 1 (.t 1)),.l 36 (.ld1 (.t 35)),.v 37 3,.q 38 (.sf 3 (.t 36) none (some (.t 37))),.q 39 (.lnL (.t 38)),.q 40 (.mv (.i 0))]) (.block 2 (.loop (.seq (.reg [.q 41 (.bin .lss true (.t 40) (.t 39))]) (.seq (.cond (.t 41) .skip (.exit 2)) (.seq (.block 3 (.seq (.reg [.l 42 (.ia 3 (.t 38) (.t 40)),.l 43 (.ldn 3 (.t 42)),.e 6 (.al (.agg #[(.string (mk [])),(.slice none 0 0),(.slice none 0 0)]) 62),.s (.st 3 (.t 6) (.t 43))]) (.seq (.reg [.q 44 (.fa 0 (.t 6)),.l 45 (.ld1 (.t 44)),.q 46 (.fa 0 (.t 4)),.l 47 (.ld1 (.t 46)),.q 48 (.bin .eql true (.t 45) (.t 47))]) (.cond (.t 48) (.seq (.reg [.q 2 (.mv (.i 7))]) .ret) .skip)))) (.reg [.q 49 (.bin .add true (.t 40) (.i 1)),.v 40 49]))))))) (.seq (.reg [.l 50 (.ldn 3 (.t 4)),.a 51 (.cq 74 [(.t 50)]),.v 7 51]) (.seq (.reg [.v 52 7,.q 53 (.bin .neq true (.t 52) (.i 0))]) (.cond (.t 53) (.seq (.reg [.v 54 7,.v 2 54]) .ret) .skip))))))) (.reg [.q 55 (.bin .add true (.t 26) (.i 1)),.v 26 55]))))))) (.seq (.reg [.l 56 (.ldn 3 (.t 1)),.a 57 (.cl 75 [(.t 56)] []),.e 8 (.al (.agg #[(.map none),(.map none)]) 117),.s (.st 2 (.t 8) (.t 57))]) (.seq (.seq (.reg [.q 58 (.fa 2 (.t 1)),.l 59 (.ld1 (.t 58)),.q 60 (.lnL (.t 59)),.q 61 (.mv (.i 0))]) (.block 4 (.loop (.seq (.reg [.q 62 (.bin .lss true (.t 61) (.t 60))]) (.seq (.cond (.t 62) .skip (.exit 4)) (.seq (.block 5 (.seq (.reg [.v 63 61,.l 64 (.ia 2 (.t 59) (.t 61)),.l 65 (.ldn 2 (.t 64)),.e 10 (.al (.agg #[(.string (mk [])),(.slice none 0 0)]) 56),.v 9 63,.s (.st 2 (.t 10) (.t 65))]) (.seq (.seq (.reg [.l 66 (.ldn 3 (.t 1)),.v 67 9,.q 68 (.fa 0 (.t 10)),.l 69 (.ld1 (.t 68)),.a 70 (.cq 76 [(.t 66),(.t 67),(.t 69)]),.v 11 70]) (.seq (.reg [.v 71 11,.q 72 (.bin .neq true (.t 71) (.i 0))]) (.cond (.t 72) (.seq (.reg [.v 73 11,.v 2 73]) .ret) .skip))) (.seq (.reg [.l 74 (.ldn 2 (.t 8)),.l 75 (.ldn 2 (.t 10)),.a 76 (.cl 77 [(.t 74),(.t 75)] [1,2]),.v 12 76]) (.seq (.reg [.v 77 12,.q 78 (.bin .neq true (.t 77) (.i 0))]) (.cond (.t 78) (.seq (.reg [.v 79 12,.v 2 79]) .ret) .skip)))))) (.reg [.q 80 (.bin .add true (.t 61) (.i 1)),.v 61 80]))))))) (.seq (.reg [.l 81 (.ldn 3 (.t 1)),.l 82 (.ldn 2 (.t 8)),.a 83 (.cl 78 [(.t 81),(.t 82)] [1,2]),.v 2 83]) .ret))))))
def RA:List RV:=[.mv (.t 2)]
theorem YA:aV Tryz.prog true ⟨fun r k=>if r=3/\k=1 then .q else if r=8/\k=2 then .q else if r=16/\k=1 then .q else if r=24/\k=4 then .q else if r=27/\k=2 then .own [1,2] else if r=31/\k=2 then .own [1,2] else .own [],fun _=>false⟩ Tryz.f31=some (QH,RA):=by kernel_rfl
def PX:PC:=.seq (.reg [.e 1 (.bx 25 (.t 0)),.q 2 (.mv (.k (.bool false)))]) (.seq (.seq (.reg [.q 7 (.fa 1 (.t 1)),.l 8 (.ld1 (.t 7)),.q 9 (.lnL (.t 8)),.q 10 (.bin .gtr true (.t 9) (.i 16)),.v 11 10,⟨some 12,(some (11,false)),.q (.fa 2 (.t 1))⟩,⟨some 13,(some (11,false)),.l (.ld1 (.t 12))⟩,⟨some 14,(some (11,false)),.q (.lnL (.t 13))⟩,⟨some 15,(some (11,false)),.q (.fa 1 (.t 1))⟩,⟨some 16,(some (11,false)),.l (.ld1 (.t 15))⟩,⟨some 17,(some (11,false)),.q (.lnL (.t 16))⟩,⟨some 18,(some (11,false)),.q (.bin .sub true (.i 16) (.t 17))⟩,⟨some 19,(some (11,false)),.q (.bin .gtr true (.t 14) (.t 18))⟩,.a 20 (.pick (.t 11) (.k (.bool true)) (.t 19))]) (.cond (.t 20) (.seq (.reg [.q 2 (.mv (.k (.bool true)))]) .ret) .skip)) (.seq (.seq (.reg [.q 21 (.fa 1 (.t 1)),.l 22 (.ld1 (.t 21)),.q 23 (.lnL (.t 22)),.q 24 (.mv (.i 0))]) (.block 0 (.loop (.seq (.reg [.q 25 (.bin .lss true (.t 24) (.t 23))]) (.seq (.cond (.t 25) .skip (.exit 0)) (.seq (.block 1 (.seq (.reg [.l 26 (.ia 3 (.t 22) (.t 24)),.l 27 (.ldn 3 (.t 26)),.e 4 (.al (.agg #[(.string (mk [])),(.slice none 0 0),(.slice none 0 0)]) 62),.s (.st 3 (.t 4) (.t 27))]) (.seq (.reg [.q 28 (.fa 1 (.t 4)),.l 29 (.ld1 (.t 28)),.q 30 (.lnL (.t 29)),.q 31 (.bin .gtr true (.t 30) (.i 16))]) (.cond (.t 31) (.seq (.reg [.q 2 (.mv (.k (.bool true)))]) .ret) .skip)))) (.reg [.q 32 (.bin .add true (.t 24) (.i 1)),.v 24 32]))))))) (.seq (.seq (.reg [.q 33 (.fa 2 (.t 1)),.l 34 (.ld1 (.t 33)),.q 35 (.lnL (.t 34)),.q 36 (.mv (.i 0))]) (.block 2 (.loop (.seq (.reg [.q 37 (.bin .lss true (.t 36) (.t 35))]) (.seq (.cond (.t 37) .skip (.exit 2)) (.seq (.block 3 (.seq (.reg [.l 38 (.ia 2 (.t 34) (.t 36)),.l 39 (.ldn 2 (.t 38)),.e 6 (.al (.agg #[(.string (mk [])),(.slice none 0 0)]) 56),.s (.st 2 (.t 6) (.t 39))]) (.seq (.reg [.q 40 (.fa 1 (.t 6)),.l 41 (.ld1 (.t 40)),.q 42 (.lnL (.t 41)),.q 43 (.bin .gtr true (.t 42) (.i 16))]) (.cond (.t 43) (.seq (.reg [.q 2 (.mv (.k (.bool true)))]) .ret) .skip)))) (.reg [.q 44 (.bin .add true (.t 36) (.i 1)),.v 36 44]))))))) (.seq (.reg [.q 2 (.mv (.k (.bool false)))]) .ret))))
def TT:List RV:=[.mv (.t 2)]
theorem aAD:aV Tryz.prog true ⟨fun _ _=>.own [],fun _=>false⟩ Tryz.f72=some (PX,TT):=by kernel_rfl
def J7:PC:=.seq (.reg [.q 2 (.mv (.k (.bool false)))]) (.seq (.reg [.v 3 0,.a 4 (.cq 95 [(.t 3)]),.v 5 4,⟨some 6,(some (5,true)),.q (.mv (.t 0))⟩,⟨some 7,(some (5,true)),.ix (.t 6) (.i 0)⟩,⟨some 8,(some (5,true)),.q (.bin .geq true (.t 7) (.k (.int .u8 65)))⟩,.a 9 (.pick (.t 5) (.t 8) (.k (.bool false))),.v 10 9,⟨some 11,(some (10,true)),.q (.mv (.t 0))⟩,⟨some 12,(some (10,true)),.ix (.t 11) (.i 0)⟩,⟨some 13,(some (10,true)),.q (.bin .leq true (.t 12) (.k (.int .u8 90)))⟩,.a 14 (.pick (.t 10) (.t 13) (.k (.bool false))),.v 2 14]) .ret)
def LC:List RV:=[.mv (.t 2)]
theorem ZA:aV Tryz.prog true ⟨fun r k=>if r=1/\k=1 then .q else .own [],fun _=>false⟩ Tryz.f73=some (J7,LC):=by kernel_rfl
def P8:PC:=.seq (.reg [.e 1 (.bx 62 (.t 0)),.q 2 (.mv (.i 0))]) (.seq (.seq (.reg [.q 6 (.fa 1 (.t 1)),.l 7 (.ld1 (.t 6)),.q 8 (.lnL (.t 7)),.q 9 (.bin .eql true (.t 8) (.i 0)),.v 10 9,⟨some 11,(some (10,false)),.q (.fa 1 (.t 1))⟩,⟨some 12,(some (10,false)),.l (.ld1 (.t 11))⟩,⟨some 13,(some (10,false)),.q (.lnL (.t 12))⟩,⟨some 14,(some (10,false)),.q (.fa 2 (.t 1))⟩,⟨some 15,(some (10,false)),.l (.ld1 (.t 14))⟩,⟨some 16,(some (10,false)),.q (.lnL (.t 15))⟩,⟨some 17,(some (10,false)),.q (.bin .neq true (.t 13) (.t 16))⟩,.a 18 (.pick (.t 10) (.k (.bool true)) (.t 17))]) (.cond (.t 18) (.seq (.reg [.q 2 (.mv (.i 2))]) .ret) .skip)) (.seq (.seq (.reg [.q 19 (.fa 1 (.t 1)),.l 20 (.ld1 (.t 19)),.q 21 (.lnL (.t 20)),.q 22 (.mv (.i 0))]) (.block 0 (.loop (.seq (.reg [.q 23 (.bin .lss true (.t 22) (.t 21))]) (.seq (.cond (.t 23) .skip (.exit 0)) (.seq (.block 1 (.seq (.reg [.v 24 22,.l 25 (.ia 1 (.t 20) (.t 22)),.l 26 (.ld1 (.t 25)),.v 3 24,.v 4 26]) (.seq (.reg [.q 27 (.fa 2 (.t 1)),.l 28 (.ld1 (.t 27)),.v 29 3,.l 30 (.ia 1 (.t 28) (.t 29)),.l 31 (.ld1 (.t 30)),.v 5 31]) (.block 2 (.seq (.reg [.v 33 4,.a 34 (.cq 95 [(.t 33)]),.q 35 (.not (.t 34)),.v 32 35]) (.cond (.t 32) (.seq (.reg [.q 2 (.mv (.i 5))]) .ret) (.seq (.reg [.q 37 (.fa 1 (.t 1)),.l 38 (.ld1 (.t 37)),.v 39 3,.q 40 (.sf 1 (.t 38) none (some (.t 39))),.v 41 4,.a 42 (.cq 111 [(.t 40),(.t 41)]),.v 36 42]) (.cond (.t 36) (.seq (.reg [.q 2 (.mv (.i 7))]) .ret) (.seq (.reg [.v 44 5,.q 45 (.bin .lss true (.t 44) (.i 0)),.v 46 45,⟨some 47,(some (46,false)),.q (.mv (.t 5))⟩,⟨some 48,(some (46,false)),.q (.bin .gtr true (.t 47) (.i 127))⟩,.a 49 (.pick (.t 46) (.k (.bool true)) (.t 48)),.v 43 49]) (.cond (.t 43) (.seq (.reg [.q 2 (.mv (.i 4))]) .ret) (.seq (.reg [.v 51 3,.q 52 (.bin .eql true (.t 51) (.i 0)),.v 53 52,⟨some 54,(some (53,true)),.q (.mv (.t 5))⟩,⟨some 55,(some (53,true)),.q (.bin .neq true (.t 54) (.i 0))⟩,.a 56 (.pick (.t 53) (.t 55) (.k (.bool false))),.v 57 56,⟨some 58,(some (57,false)),.q (.mv (.t 3))⟩,⟨some 59,(some (57,false)),.q (.bin .gtr true (.t 58) (.i 0))⟩,⟨some 60,(some (57,false)),.q (.mv (.t 59))⟩,⟨some 61,(some (60,true)),.q (.mv (.t 5))⟩,⟨some 62,(some (60,true)),.q (.fa 2 (.t 1))⟩,⟨some 63,(some (60,true)),.l (.ld1 (.t 62))⟩,⟨some 64,(some (60,true)),.q (.mv (.t 3))⟩,⟨some 65,(some (60,true)),.q (.bin .sub true (.t 64) (.i 1))⟩,⟨some 66,(some (60,true)),.l (.ia 1 (.t 63) (.t 65))⟩,⟨some 67,(some (60,true)),.l (.ld1 (.t 66))⟩,⟨some 68,(some (60,true)),.q (.bin .leq true (.t 61) (.t 67))⟩,⟨some 69,(some (57,false)),.pick (.t 60) (.t 68) (.k (.bool false))⟩,.a 70 (.pick (.t 57) (.k (.bool true)) (.t 69)),.v 50 70]) (.cond (.t 50) (.seq (.reg [.q 2 (.mv (.i 2))]) .ret) .skip)))))))))))) (.reg [.q 71 (.bin .add true (.t 22) (.i 1)),.v 22 71]))))))) (.seq (.reg [.q 2 (.mv (.i 0))]) .ret)))
def UN:List RV:=[.mv (.t 2)]
theorem Y1:aV Tryz.prog true ⟨fun r k=>if r=7/\k=1 then .q else if r=9/\k=5 then .q else .own [],fun _=>false⟩ Tryz.f74=some (P8,UN):=by kernel_rfl
def SG:PC:=.seq (.reg [.e 1 (.bx 25 (.t 0)),.e 2 (.al (.agg #[(.map none),(.map none)]) 117)]) (.seq (.reg [.e 6 (.mm .string),.e 7 (.mm .string),.q 8 (.bd [(.map none),(.map none)] [(0,1,(.t 6)),(1,1,(.t 7))]),.e 3 (.al (.agg #[(.map none),(.map none)]) 117),.s (.st 2 (.t 3) (.t 8))]) (.seq (.seq (.reg [.q 9 (.fa 2 (.t 1)),.l 10 (.ld1 (.t 9)),.q 11 (.lnL (.t 10)),.q 12 (.bin .sub true (.t 11) (.i 1)),.v 4 12]) (.block 0 (.loop (.seq (.seq (.reg [.v 13 4,.q 14 (.bin .geq true (.t 13) (.i 0))]) (.cond (.t 14) .skip (.exit 0))) (.seq (.block 1 (.reg [.q 17 (.fa 0 (.t 3)),.l 18 (.ld1 (.t 17)),.q 19 (.fa 2 (.t 1)),.l 20 (.ld1 (.t 19)),.v 21 4,.l 22 (.ia 2 (.t 20) (.t 21)),.q 23 (.fa 0 (.t 22)),.l 24 (.ld1 (.t 23)),.q 25 (.fa 2 (.t 1)),.l 26 (.ld1 (.t 25)),.v 27 4,.l 28 (.ia 2 (.t 26) (.t 27)),.l 29 (.ldn 2 (.t 28)),.s (.mu .string (.t 18) (.t 24) (.t 29))])) (.reg [.v 15 4,.q 16 (.bin .sub true (.t 15) (.i 1)),.v 4 16])))))) (.seq (.seq (.reg [.q 30 (.fa 1 (.t 1)),.l 31 (.ld1 (.t 30)),.q 32 (.lnL (.t 31)),.q 33 (.bin .sub true (.t 32) (.i 1)),.v 5 33]) (.block 2 (.loop (.seq (.seq (.reg [.v 34 5,.q 35 (.bin .geq true (.t 34) (.i 0))]) (.cond (.t 35) .skip (.exit 2))) (.seq (.block 3 (.reg [.q 38 (.fa 1 (.t 3)),.l 39 (.ld1 (.t 38)),.q 40 (.fa 1 (.t 1)),.l 41 (.ld1 (.t 40)),.v 42 5,.l 43 (.ia 3 (.t 41) (.t 42)),.q 44 (.fa 0 (.t 43)),.l 45 (.ld1 (.t 44)),.q 46 (.fa 1 (.t 1)),.l 47 (.ld1 (.t 46)),.v 48 5,.l 49 (.ia 3 (.t 47) (.t 48)),.l 50 (.ldn 3 (.t 49)),.s (.mu .string (.t 39) (.t 45) (.t 50))])) (.reg [.v 36 5,.q 37 (.bin .sub true (.t 36) (.i 1)),.v 5 37])))))) (.seq (.reg [.l 51 (.ldn 2 (.t 3)),.s (.st 2 (.t 2) (.t 51))]) .ret))))
def R7:List RV:=[.ld (.ldn 2 (.t 2))]
theorem ZS:aV Tryz.prog true ⟨fun _ _=>.own [],fun _=>false⟩ Tryz.f75=some (SG,R7):=by kernel_rfl
def SX:PC:=.seq (.reg [.e 3 (.bx 25 (.t 0)),.q 6 (.mv (.i 0))]) (.seq (.seq (.reg [.v 11 2,.a 12 (.cq 73 [(.t 11)]),.q 13 (.not (.t 12))]) (.cond (.t 13) (.seq (.reg [.q 6 (.mv (.i 5))]) .ret) .skip)) (.seq (.seq (.reg [.q 14 (.fa 1 (.t 3)),.l 15 (.ld1 (.t 14)),.q 16 (.lnL (.t 15)),.q 17 (.mv (.i 0))]) (.block 0 (.loop (.seq (.reg [.q 18 (.bin .lss true (.t 17) (.t 16))]) (.seq (.cond (.t 18) .skip (.exit 0)) (.seq (.block 1 (.seq (.reg [.l 19 (.ia 3 (.t 15) (.t 17)),.l 20 (.ldn 3 (.t 19)),.e 8 (.al (.agg #[(.string (mk [])),(.slice none 0 0),(.slice none 0 0)]) 62),.s (.st 3 (.t 8) (.t 20))]) (.seq (.reg [.q 21 (.fa 0 (.t 8)),.l 22 (.ld1 (.t 21)),.v 23 2,.q 24 (.bin .eql true (.t 22) (.t 23))]) (.cond (.t 24) (.seq (.reg [.q 6 (.mv (.i 7))]) .ret) .skip)))) (.reg [.q 25 (.bin .add true (.t 17) (.i 1)),.v 17 25]))))))) (.seq (.seq (.reg [.q 26 (.fa 2 (.t 3)),.l 27 (.ld1 (.t 26)),.v 28 1,.q 29 (.sf 2 (.t 27) none (some (.t 28))),.q 30 (.lnL (.t 29)),.q 31 (.mv (.i 0))]) (.block 2 (.loop (.seq (.reg [.q 32 (.bin .lss true (.t 31) (.t 30))]) (.seq (.cond (.t 32) .skip (.exit 2)) (.seq (.block 3 (.seq (.reg [.l 33 (.ia 2 (.t 29) (.t 31)),.l 34 (.ldn 2 (.t 33)),.e 10 (.al (.agg #[(.string (mk [])),(.slice none 0 0)]) 56),.s (.st 2 (.t 10) (.t 34))]) (.seq (.reg [.q 35 (.fa 0 (.t 10)),.l 36 (.ld1 (.t 35)),.v 37 2,.q 38 (.bin .eql true (.t 36) (.t 37))]) (.cond (.t 38) (.seq (.reg [.q 6 (.mv (.i 7))]) .ret) .skip)))) (.reg [.q 39 (.bin .add true (.t 31) (.i 1)),.v 31 39]))))))) (.seq (.reg [.q 6 (.mv (.i 0))]) .ret))))
def SW:List RV:=[.mv (.t 6)]
theorem ZN:aV Tryz.prog true ⟨fun r k=>if r=1/\k=1 then .q else .own [],fun _=>false⟩ Tryz.f76=some (SX,SW):=by kernel_rfl
def R5:PC:=.seq (.reg [.e 2 (.bx 117 (.t 0)),.e 3 (.bx 56 (.t 1)),.q 4 (.mv (.i 0))]) (.seq (.seq (.reg [.q 9 (.fa 1 (.t 3)),.l 10 (.ld1 (.t 9)),.q 11 (.lnL (.t 10)),.q 12 (.mv (.i 0))]) (.block 0 (.loop (.seq (.reg [.q 13 (.bin .lss true (.t 12) (.t 11))]) (.seq (.cond (.t 13) .skip (.exit 0)) (.seq (.block 1 (.seq (.reg [.v 14 12,.l 15 (.ia 7 (.t 10) (.t 12)),.l 16 (.ldn 7 (.t 15)),.e 6 (.al (.agg #[(.int .i64 0),(.string (mk [])),(.int .i64 0),(.int .i64 0),(.string (mk [])),(.slice none 0 0),(.bool false)]) 64),.v 5 14,.s (.st 7 (.t 6) (.t 16))]) (.seq (.block 2 (.seq (.reg [.q 18 (.fa 0 (.t 6)),.l 19 (.ld1 (.t 18)),.q 20 (.bin .lss true (.t 19) (.i 1)),.v 21 20,⟨some 22,(some (21,false)),.q (.fa 0 (.t 6))⟩,⟨some 23,(some (21,false)),.l (.ld1 (.t 22))⟩,⟨some 24,(some (21,false)),.q (.bin .gtr true (.t 23) (.i 127))⟩,.a 25 (.pick (.t 21) (.k (.bool true)) (.t 24)),.v 17 25]) (.cond (.t 17) (.seq (.reg [.q 4 (.mv (.i 4))]) .ret) (.seq (.reg [.v 27 5,.q 28 (.bin .gtr true (.t 27) (.i 0)),.v 29 28,⟨some 30,(some (29,true)),.q (.fa 0 (.t 6))⟩,⟨some 31,(some (29,true)),.l (.ld1 (.t 30))⟩,⟨some 32,(some (29,true)),.q (.fa 1 (.t 3))⟩,⟨some 33,(some (29,true)),.l (.ld1 (.t 32))⟩,⟨some 34,(some (29,true)),.q (.mv (.t 5))⟩,⟨some 35,(some (29,true)),.q (.bin .sub true (.t 34) (.i 1))⟩,⟨some 36,(some (29,true)),.l (.ia 7 (.t 33) (.t 35))⟩,⟨some 37,(some (29,true)),.q (.fa 0 (.t 36))⟩,⟨some 38,(some (29,true)),.l (.ld1 (.t 37))⟩,⟨some 39,(some (29,true)),.q (.bin .leq true (.t 31) (.t 38))⟩,.a 40 (.pick (.t 29) (.t 39) (.k (.bool false))),.v 26 40]) (.cond (.t 26) (.seq (.reg [.q 4 (.mv (.i 2))]) .ret) (.seq (.reg [.q 42 (.fa 1 (.t 6)),.l 43 (.ld1 (.t 42)),.a 44 (.cq 95 [(.t 43)]),.q 45 (.not (.t 44)),.v 41 45]) (.cond (.t 41) (.seq (.reg [.q 4 (.mv (.i 5))]) .ret) .skip))))))) (.seq (.seq (.reg [.q 46 (.fa 1 (.t 3)),.l 47 (.ld1 (.t 46)),.v 48 5,.q 49 (.sf 7 (.t 47) none (some (.t 48))),.q 50 (.lnL (.t 49)),.q 51 (.mv (.i 0))]) (.block 3 (.loop (.seq (.reg [.q 52 (.bin .lss true (.t 51) (.t 50))]) (.seq (.cond (.t 52) .skip (.exit 3)) (.seq (.block 4 (.seq (.reg [.l 53 (.ia 7 (.t 49) (.t 51)),.l 54 (.ldn 7 (.t 53)),.e 8 (.al (.agg #[(.int .i64 0),(.string (mk [])),(.int .i64 0),(.int .i64 0),(.string (mk [])),(.slice none 0 0),(.bool false)]) 64),.s (.st 7 (.t 8) (.t 54))]) (.seq (.reg [.q 55 (.fa 1 (.t 8)),.l 56 (.ld1 (.t 55)),.q 57 (.fa 1 (.t 6)),.l 58 (.ld1 (.t 57)),.q 59 (.bin .eql true (.t 56) (.t 58))]) (.cond (.t 59) (.seq (.reg [.q 4 (.mv (.i 7))]) .ret) .skip)))) (.reg [.q 60 (.bin .add true (.t 51) (.i 1)),.v 51 60]))))))) (.seq (.reg [.l 61 (.ldn 2 (.t 2)),.q 62 (.fa 2 (.t 6)),.l 63 (.ldn 4 (.t 62)),.a 64 (.cl 112 [(.t 61),(.t 63)] [0,1]),.q 65 (.not (.t 64))]) (.cond (.t 65) (.seq (.reg [.q 4 (.mv (.i 13))]) .ret) .skip)))))) (.reg [.q 66 (.bin .add true (.t 12) (.i 1)),.v 12 66]))))))) (.seq (.reg [.q 4 (.mv (.i 0))]) .ret))
def RK:List RV:=[.mv (.t 4)]
theorem YE:aV Tryz.prog true ⟨fun r k=>if r=8/\k=2 then .q else if r=16/\k=3 then .own [0,1] else .own [],fun _=>false⟩ Tryz.f77=some (R5,RK):=by kernel_rfl
def T5:PC:=.seq (.reg [.e 2 (.bx 25 (.t 0)),.e 3 (.bx 117 (.t 1)),.q 4 (.mv (.i 0))]) (.seq (.seq (.reg [.q 9 (.fa 2 (.t 2)),.l 10 (.ld1 (.t 9)),.q 11 (.lnL (.t 10)),.q 12 (.mv (.i 0))]) (.block 0 (.loop (.seq (.reg [.q 13 (.bin .lss true (.t 12) (.t 11))]) (.seq (.cond (.t 13) .skip (.exit 0)) (.seq (.block 1 (.seq (.reg [.l 14 (.ia 2 (.t 10) (.t 12)),.l 15 (.ldn 2 (.t 14)),.e 6 (.al (.agg #[(.string (mk [])),(.slice none 0 0)]) 56),.s (.st 2 (.t 6) (.t 15))]) (.seq (.ord  [.q (.l 16 (.ldn 2 (.t 3))),.q (.q 17 (.fa 0 (.t 6))),.q (.l 18 (.ld1 (.t 17))),.q (.q 20 (.fa 0 (.t 6))),.q (.l 21 (.ld1 (.t 20))),.m (.a 19 (.cl 113 [(.t 16),(.t 18)] [0,1])),.rc (.q 20 (.fa 0 (.t 6))),.rc (.l 21 (.ld1 (.t 20))),.m (.a 22 (.cq 111 [(.t 19),(.t 21)]))]) (.cond (.t 22) (.seq (.reg [.q 4 (.mv (.i 19))]) .ret) .skip)))) (.reg [.q 23 (.bin .add true (.t 12) (.i 1)),.v 12 23]))))))) (.seq (.seq (.reg [.q 24 (.fa 2 (.t 2)),.l 25 (.ld1 (.t 24)),.q 26 (.lnL (.t 25)),.q 27 (.mv (.i 0))]) (.block 2 (.loop (.seq (.reg [.q 28 (.bin .lss true (.t 27) (.t 26))]) (.seq (.cond (.t 28) .skip (.exit 2)) (.seq (.block 3 (.seq (.reg [.l 29 (.ia 2 (.t 25) (.t 27)),.l 30 (.ldn 2 (.t 29)),.e 8 (.al (.agg #[(.string (mk [])),(.slice none 0 0)]) 56),.s (.st 2 (.t 8) (.t 30))]) (.seq (.reg [.l 31 (.ldn 2 (.t 3)),.l 32 (.ldn 2 (.t 8)),.a 33 (.cl 114 [(.t 31),(.t 32)] [0,1]),.q 34 (.bin .gtr true (.t 33) (.i 6))]) (.cond (.t 34) (.seq (.reg [.q 4 (.mv (.i 9))]) .ret) .skip)))) (.reg [.q 35 (.bin .add true (.t 27) (.i 1)),.v 27 35]))))))) (.seq (.reg [.q 4 (.mv (.i 0))]) .ret)))
def QG:List RV:=[.mv (.t 4)]
theorem YV:aV Tryz.prog true ⟨fun r k=>if r=4/\k=3 then .own [0,1] else if r=4/\k=6 then .q else if r=10/\k=2 then .own [0,1] else .own [],fun _=>false⟩ Tryz.f78=some (T5,QG):=by kernel_rfl
def gX:PC:=.seq (.reg [.e 2 (.bx 117 (.t 0)),.e 3 (.bx 37 (.t 1)),.q 4 (.mv (.k (.bool false)))]) (.seq (.seq (.reg [.q 10 (.fa 0 (.t 3)),.l 11 (.ld1 (.t 10))]) (.block 0 (.seq (.reg [.q 13 (.bin .eql true (.t 11) (.i 1)),.v 12 13]) (.cond (.t 12) (.seq (.reg [.q 14 (.fa 1 (.t 3)),.l 15 (.ld1 (.t 14)),.q 16 (.bin .eql true (.t 15) (.i 0)),.v 17 16,⟨some 18,(some (17,true)),.q (.fa 2 (.t 3))⟩,⟨some 19,(some (17,true)),.l (.ld1 (.t 18))⟩,⟨some 20,(some (17,true)),.q (.bin .eql true (.t 19) (.k (.string (mk []))))⟩,.a 21 (.pick (.t 17) (.t 20) (.k (.bool false))),.v 22 21,⟨some 23,(some (22,true)),.q (.fa 3 (.t 3))⟩,⟨some 24,(some (22,true)),.l (.ld1 (.t 23))⟩,⟨some 25,(some (22,true)),.q (.lnL (.t 24))⟩,⟨some 26,(some (22,true)),.q (.bin .eql true (.t 25) (.i 0))⟩,.a 27 (.pick (.t 22) (.t 26) (.k (.bool false))),.v 4 27]) .ret) (.seq (.seq (.reg [.q 29 (.bin .eql true (.t 11) (.i 2)),.v 28 29]) (.cond (.t 28) .skip (.reg [.q 30 (.bin .eql true (.t 11) (.i 3)),.v 28 30]))) (.cond (.t 28) (.seq (.reg [.q 31 (.fa 1 (.t 3)),.l 32 (.ld1 (.t 31)),.q 33 (.bin .eql true (.t 32) (.i 64)),.v 34 33,⟨some 35,(some (34,true)),.q (.fa 0 (.t 3))⟩,⟨some 36,(some (34,true)),.l (.ld1 (.t 35))⟩,⟨some 37,(some (34,true)),.q (.bin .eql true (.t 36) (.i 2))⟩,.a 38 (.pick (.t 34) (.t 37) (.k (.bool false))),.v 5 38]) (.seq (.reg [.q 39 (.fa 1 (.t 3)),.l 40 (.ld1 (.t 39)),.q 41 (.bin .eql true (.t 40) (.i 8)),.v 42 41,⟨some 43,(some (42,false)),.q (.fa 1 (.t 3))⟩,⟨some 44,(some (42,false)),.l (.ld1 (.t 43))⟩,⟨some 45,(some (42,false)),.q (.bin .eql true (.t 44) (.i 16))⟩,.a 46 (.pick (.t 42) (.k (.bool true)) (.t 45)),.v 47 46,⟨some 48,(some (47,false)),.q (.fa 1 (.t 3))⟩,⟨some 49,(some (47,false)),.l (.ld1 (.t 48))⟩,⟨some 50,(some (47,false)),.q (.bin .eql true (.t 49) (.i 32))⟩,.a 51 (.pick (.t 47) (.k (.bool true)) (.t 50)),.v 52 51,⟨some 53,(some (52,false)),.q (.mv (.t 5))⟩,.a 54 (.pick (.t 52) (.k (.bool true)) (.t 53)),.v 55 54,⟨some 56,(some (55,true)),.q (.fa 2 (.t 3))⟩,⟨some 57,(some (55,true)),.l (.ld1 (.t 56))⟩,⟨some 58,(some (55,true)),.q (.bin .eql true (.t 57) (.k (.string (mk []))))⟩,.a 59 (.pick (.t 55) (.t 58) (.k (.bool false))),.v 60 59,⟨some 61,(some (60,true)),.q (.fa 3 (.t 3))⟩,⟨some 62,(some (60,true)),.l (.ld1 (.t 61))⟩,⟨some 63,(some (60,true)),.q (.lnL (.t 62))⟩,⟨some 64,(some (60,true)),.q (.bin .eql true (.t 63) (.i 0))⟩,.a 65 (.pick (.t 60) (.t 64) (.k (.bool false))),.v 4 65]) .ret)) (.seq (.reg [.q 67 (.bin .eql true (.t 11) (.i 4)),.v 66 67]) (.cond (.t 66) (.seq (.reg [.q 68 (.fa 1 (.t 3)),.l 69 (.ld1 (.t 68)),.q 70 (.bin .geq true (.t 69) (.i 1)),.v 71 70,⟨some 72,(some (71,true)),.q (.fa 1 (.t 3))⟩,⟨some 73,(some (71,true)),.l (.ld1 (.t 72))⟩,⟨some 74,(some (71,true)),.q (.bin .leq true (.t 73) (.i 2000))⟩,.a 75 (.pick (.t 71) (.t 74) (.k (.bool false))),.v 76 75,⟨some 77,(some (76,true)),.q (.fa 2 (.t 3))⟩,⟨some 78,(some (76,true)),.l (.ld1 (.t 77))⟩,⟨some 79,(some (76,true)),.q (.bin .eql true (.t 78) (.k (.string (mk []))))⟩,.a 80 (.pick (.t 76) (.t 79) (.k (.bool false))),.v 81 80,⟨some 82,(some (81,true)),.q (.fa 3 (.t 3))⟩,⟨some 83,(some (81,true)),.l (.ld1 (.t 82))⟩,⟨some 84,(some (81,true)),.q (.lnL (.t 83))⟩,⟨some 85,(some (81,true)),.q (.bin .eql true (.t 84) (.i 0))⟩,.a 86 (.pick (.t 81) (.t 85) (.k (.bool false))),.v 4 86]) .ret) (.seq (.reg [.q 88 (.bin .eql true (.t 11) (.i 5)),.v 87 88]) (.cond (.t 87) (.seq (.reg [.q 89 (.fa 1 (.t 3)),.l 90 (.ld1 (.t 89)),.q 91 (.bin .geq true (.t 90) (.i 1)),.v 92 91,⟨some 93,(some (92,true)),.q (.fa 1 (.t 3))⟩,⟨some 94,(some (92,true)),.l (.ld1 (.t 93))⟩,⟨some 95,(some (92,true)),.q (.bin .leq true (.t 94) (.i 32))⟩,.a 96 (.pick (.t 92) (.t 95) (.k (.bool false))),.v 97 96,⟨some 98,(some (97,true)),.q (.fa 2 (.t 3))⟩,⟨some 99,(some (97,true)),.l (.ld1 (.t 98))⟩,⟨some 100,(some (97,true)),.q (.bin .eql true (.t 99) (.k (.string (mk []))))⟩,.a 101 (.pick (.t 97) (.t 100) (.k (.bool false))),.v 102 101,⟨some 103,(some (102,true)),.q (.fa 3 (.t 3))⟩,⟨some 104,(some (102,true)),.l (.ld1 (.t 103))⟩,⟨some 105,(some (102,true)),.q (.lnL (.t 104))⟩,⟨some 106,(some (102,true)),.q (.bin .eql true (.t 105) (.i 1))⟩,.a 107 (.pick (.t 102) (.t 106) (.k (.bool false))),.v 108 107,⟨some 109,(some (108,true)),.l (.ldn 2 (.t 2))⟩,⟨some 110,(some (108,true)),.q (.fa 3 (.t 3))⟩,⟨some 111,(some (108,true)),.l (.ld1 (.t 110))⟩,⟨some 112,(some (108,true)),.l (.ia 4 (.t 111) (.i 0))⟩,⟨some 113,(some (108,true)),.l (.ldn 4 (.t 112))⟩,⟨some 114,(some (108,true)),.cl 112 [(.t 109),(.t 113)] [0,1]⟩,.a 115 (.pick (.t 108) (.t 114) (.k (.bool false))),.v 4 115]) .ret) (.seq (.reg [.q 117 (.bin .eql true (.t 11) (.i 6)),.v 116 117]) (.cond (.t 116) (.seq (.reg [.q 119 (.fa 0 (.t 2)),.l 120 (.ld1 (.t 119)),.q 121 (.fa 2 (.t 3)),.l 122 (.ld1 (.t 121)),.l 123 (.lk .string (.agg #[(.string (mk [])),(.slice none 0 0)]) true (.t 120) (.t 122)),.v 118 123,.q 124 (.ex (.t 118) 0),.q 125 (.ex (.t 118) 1),.e 6 (.al (.agg #[(.string (mk [])),(.slice none 0 0)]) 56),.s (.st 2 (.t 6) (.t 124)),.v 7 125]) (.seq (.reg [.v 126 7,.v 127 126,⟨some 128,(some (127,true)),.q (.fa 1 (.t 3))⟩,⟨some 129,(some (127,true)),.l (.ld1 (.t 128))⟩,⟨some 130,(some (127,true)),.q (.bin .eql true (.t 129) (.i 0))⟩,.a 131 (.pick (.t 127) (.t 130) (.k (.bool false))),.v 132 131,⟨some 133,(some (132,true)),.q (.fa 3 (.t 3))⟩,⟨some 134,(some (132,true)),.l (.ld1 (.t 133))⟩,⟨some 135,(some (132,true)),.q (.lnL (.t 134))⟩,⟨some 136,(some (132,true)),.q (.bin .eql true (.t 135) (.i 0))⟩,.a 137 (.pick (.t 132) (.t 136) (.k (.bool false))),.v 4 137]) .ret)) (.seq (.reg [.q 139 (.bin .eql true (.t 11) (.i 7)),.v 138 139]) (.cond (.t 138) (.seq (.reg [.q 141 (.fa 1 (.t 2)),.l 142 (.ld1 (.t 141)),.q 143 (.fa 2 (.t 3)),.l 144 (.ld1 (.t 143)),.l 145 (.lk .string (.agg #[(.string (mk [])),(.slice none 0 0),(.slice none 0 0)]) true (.t 142) (.t 144)),.v 140 145,.q 146 (.ex (.t 140) 0),.q 147 (.ex (.t 140) 1),.e 8 (.al (.agg #[(.string (mk [])),(.slice none 0 0),(.slice none 0 0)]) 62),.s (.st 3 (.t 8) (.t 146)),.v 9 147]) (.seq (.reg [.v 148 9,.v 149 148,⟨some 150,(some (149,true)),.q (.fa 1 (.t 3))⟩,⟨some 151,(some (149,true)),.l (.ld1 (.t 150))⟩,⟨some 152,(some (149,true)),.q (.bin .eql true (.t 151) (.i 0))⟩,.a 153 (.pick (.t 149) (.t 152) (.k (.bool false))),.v 154 153,⟨some 155,(some (154,true)),.q (.fa 3 (.t 3))⟩,⟨some 156,(some (154,true)),.l (.ld1 (.t 155))⟩,⟨some 157,(some (154,true)),.q (.lnL (.t 156))⟩,⟨some 158,(some (154,true)),.q (.bin .eql true (.t 157) (.i 0))⟩,.a 159 (.pick (.t 154) (.t 158) (.k (.bool false))),.v 4 159]) .ret)) .skip)))))))))))))) (.seq (.reg [.q 4 (.mv (.k (.bool false)))]) .ret))
def g9:List RV:=[.mv (.t 4)]
theorem V6:aV Tryz.prog true ⟨fun r k=>if r=11/\k=25 then .own [0,1] else .own [],fun _=>false⟩ Tryz.f112=some (gX,g9):=by kernel_rfl
def M0:PC:=.seq (.reg [.e 2 (.bx 117 (.t 0)),.q 4 (.mv (.k (.slice none 0 0)))]) (.seq (.reg [.e 8 (.mm .string),.e 5 (.al (.map none) 154),.s (.st 1 (.t 5) (.t 8))]) (.seq (.reg [.e 6 (.al (.slice none 0 0) 52)]) (.seq (.reg [.e 7 (.al .nilFunc 155)]) (.seq (.reg [.q 9 (.mf 123 [(.t 5),(.t 6),(.t 2),(.t 7)]),.s (.st 1 (.t 7) (.t 9))]) (.seq (.gh (.reg [.l 10 (.ld1 (.t 7)),.q 11 (.fa 0 (.t 2)),.l 12 (.ld1 (.t 11)),.v 13 1,.l 14 (.lk .string (.agg #[(.string (mk [])),(.slice none 0 0)]) false (.t 12) (.t 13)),.a 15 (.ca (.t 10) [(.t 14)] [0,1,2,3,4,5,6,7])])) (.seq (.reg [.l 16 (.ld1 (.t 6)),.a 17 (.cl 125 [(.t 16)] [7])]) (.seq (.reg [.l 18 (.ld1 (.t 6)),.v 4 18]) .ret)))))))
def MZ:List RV:=[.mv (.t 4)]
theorem VJ:aV Tryz.prog true ⟨fun r k=>if r=5/\k=5 then .own [0,1,2,3,4,5,6,7] else if r=6/\k=1 then .own [7] else .own [],fun r=>[5].contains r⟩ Tryz.f113=some (M0,MZ):=by kernel_rfl
def LW:PC:=.seq (.reg [.e 2 (.bx 117 (.t 0)),.e 3 (.bx 56 (.t 1)),.q 4 (.mv (.i 0))]) (.seq (.reg [.e 7 (.mm .string),.e 5 (.al (.map none) 158),.s (.st 1 (.t 5) (.t 7))]) (.seq (.reg [.e 6 (.al .nilFunc 159)]) (.seq (.reg [.q 8 (.mf 126 [(.t 5),(.t 6),(.t 2)]),.s (.st 1 (.t 6) (.t 8))]) (.seq (.reg [.l 9 (.ld1 (.t 6)),.l 10 (.ldn 2 (.t 3)),.a 11 (.ca (.t 9) [(.t 10)] [0,1,2,4,5,6]),.v 4 11]) .ret))))
def L8:List RV:=[.mv (.t 4)]
theorem WQ:aV Tryz.prog true ⟨fun r k=>if r=4/\k=2 then .own [0,1,2,4,5,6] else .own [],fun _=>false⟩ Tryz.f114=some (LW,L8):=by kernel_rfl
def M8:PC:=.seq (.reg [.e 5 (.bx 56 (.t 0))]) (.seq (.reg [.q 12 (.fa 1 (.t 5)),.l 13 (.ld1 (.t 12)),.q 14 (.lnL (.t 13)),.q 15 (.mv (.i 0))]) (.block 0 (.loop (.seq (.reg [.q 16 (.bin .lss true (.t 15) (.t 14))]) (.seq (.cond (.t 16) .skip (.exit 0)) (.seq (.block 1 (.seq (.reg [.l 17 (.ia 7 (.t 13) (.t 15)),.l 18 (.ldn 7 (.t 17)),.e 7 (.al (.agg #[(.int .i64 0),(.string (mk [])),(.int .i64 0),(.int .i64 0),(.string (mk [])),(.slice none 0 0),(.bool false)]) 64),.s (.st 7 (.t 7) (.t 18))]) (.seq (.reg [.q 20 (.fa 2 (.t 7)),.l 21 (.ldn 4 (.t 20)),.a 22 (.cl 124 [(.t 21)] []),.v 19 22,.q 23 (.ex (.t 19) 0),.q 24 (.ex (.t 19) 1),.v 8 23,.v 9 24]) (.seq (.seq (.reg [.v 25 9,.q 26 (.not (.t 25)),.v 27 26,⟨some 28,(some (27,false)),.l (.ld1 (.t 1))⟩,⟨some 29,(some (27,false)),.q (.mv (.t 8))⟩,⟨some 30,(some (27,false)),.l (.lk .string (.bool false) false (.t 28) (.t 29))⟩,.a 31 (.pick (.t 27) (.k (.bool true)) (.t 30))]) (.cond (.t 31) (.exit 1) .skip)) (.seq (.reg [.l 32 (.ld1 (.t 1)),.v 33 8,.s (.mu .string (.t 32) (.t 33) (.k (.bool true)))]) (.seq (.reg [.l 34 (.ld1 (.t 2)),.v 35 8,.e 36 (.bsl 9 1 [(.t 35)]),.e 37 (.ap 9 1 16 (.t 34) (.t 36)),.s (.st 1 (.t 2) (.t 37))]) (.seq (.reg [.q 39 (.fa 0 (.t 3)),.l 40 (.ld1 (.t 39)),.v 41 8,.l 42 (.lk .string (.agg #[(.string (mk [])),(.slice none 0 0)]) true (.t 40) (.t 41)),.v 38 42,.q 43 (.ex (.t 38) 0),.q 44 (.ex (.t 38) 1),.e 10 (.al (.agg #[(.string (mk [])),(.slice none 0 0)]) 56),.s (.st 2 (.t 10) (.t 43)),.v 11 44]) (.seq (.reg [.v 45 11]) (.cond (.t 45) (.reg [.l 46 (.ld1 (.t 4)),.l 47 (.ldn 2 (.t 10)),.a 48 (.ca (.t 46) [(.t 47)] [0,1,2,3,4,5,6,7])]) .skip))))))))) (.reg [.q 49 (.bin .add true (.t 15) (.i 1)),.v 15 49])))))))
def NF:List RV:=[]
theorem VB:aV Tryz.prog true ⟨fun r k=>if r=10/\k=2 then .own [0,1,2,3,4,5,6,7] else .own [],fun _=>false⟩ Tryz.f123=some (M8,NF):=by kernel_rfl
def L9:PC:=.seq (.reg [.e 1 (.bx 37 (.t 0)),.q 2 (.mv (.k (.string (mk [])))),.q 3 (.mv (.k (.bool false)))]) (.seq (.block 0 (.loop (.seq (.seq (.reg [.q 4 (.fa 0 (.t 1)),.l 5 (.ld1 (.t 4)),.q 6 (.bin .eql true (.t 5) (.i 5)),.v 7 6,⟨some 8,(some (7,true)),.q (.fa 3 (.t 1))⟩,⟨some 9,(some (7,true)),.l (.ld1 (.t 8))⟩,⟨some 10,(some (7,true)),.q (.lnL (.t 9))⟩,⟨some 11,(some (7,true)),.q (.bin .eql true (.t 10) (.i 1))⟩,.a 12 (.pick (.t 7) (.t 11) (.k (.bool false)))]) (.cond (.t 12) .skip (.exit 0))) (.block 1 (.reg [.q 13 (.fa 3 (.t 1)),.l 14 (.ld1 (.t 13)),.l 15 (.ia 4 (.t 14) (.i 0)),.l 16 (.ldn 4 (.t 15)),.s (.st 4 (.t 1) (.t 16))]))))) (.seq (.reg [.q 17 (.fa 2 (.t 1)),.l 18 (.ld1 (.t 17)),.q 19 (.fa 0 (.t 1)),.l 20 (.ld1 (.t 19)),.q 21 (.bin .eql true (.t 20) (.i 6)),.v 22 21,⟨some 23,(some (22,false)),.q (.fa 0 (.t 1))⟩,⟨some 24,(some (22,false)),.l (.ld1 (.t 23))⟩,⟨some 25,(some (22,false)),.q (.bin .eql true (.t 24) (.i 7))⟩,.a 26 (.pick (.t 22) (.k (.bool true)) (.t 25)),.v 2 18,.v 3 26]) .ret))
def MW:List RV:=[.mv (.t 2),.mv (.t 3)]
theorem VL:aV Tryz.prog true ⟨fun _ _=>.own [],fun _=>false⟩ Tryz.f124=some (L9,MW):=by kernel_rfl
def F9:PC:=.seq (.reg [.e 4 (.bx 56 (.t 0)),.q 5 (.mv (.i 0))]) (.seq (.seq (.reg [.l 14 (.ld1 (.t 1)),.q 15 (.fa 0 (.t 4)),.l 16 (.ld1 (.t 15)),.l 17 (.lk .string (.int .i64 0) true (.t 14) (.t 16)),.v 13 17,.q 18 (.ex (.t 13) 0),.q 19 (.ex (.t 13) 1),.v 6 18,.v 7 19]) (.seq (.reg [.v 20 7]) (.cond (.t 20) (.seq (.reg [.v 21 6,.v 5 21]) .ret) .skip))) (.seq (.reg [.q 8 (.mv (.i 0))]) (.seq (.seq (.reg [.q 22 (.fa 1 (.t 4)),.l 23 (.ld1 (.t 22)),.q 24 (.lnL (.t 23)),.q 25 (.mv (.i 0))]) (.block 0 (.loop (.seq (.reg [.q 26 (.bin .lss true (.t 25) (.t 24))]) (.seq (.cond (.t 26) .skip (.exit 0)) (.seq (.block 1 (.seq (.reg [.l 27 (.ia 7 (.t 23) (.t 25)),.l 28 (.ldn 7 (.t 27)),.e 10 (.al (.agg #[(.int .i64 0),(.string (mk [])),(.int .i64 0),(.int .i64 0),(.string (mk [])),(.slice none 0 0),(.bool false)]) 64),.s (.st 7 (.t 10) (.t 28))]) (.seq (.ord  [.q (.q 29 (.fa 2 (.t 10))),.q (.l 30 (.ldn 4 (.t 29))),.m (.e 12 (.al (.agg #[(.int .i64 0),(.int .i64 0),(.string (mk [])),(.slice none 0 0)]) 37)),.rc (.q 29 (.fa 2 (.t 10))),.rc (.l 30 (.ldn 4 (.t 29))),.m (.q 11 (.mv (.i 0))),.rc (.q 29 (.fa 2 (.t 10))),.rc (.l 30 (.ldn 4 (.t 29))),.m (.s (.st 4 (.t 12) (.t 30)))]) (.seq (.block 2 (.loop (.seq (.seq (.reg [.q 31 (.fa 0 (.t 12)),.l 32 (.ld1 (.t 31)),.q 33 (.bin .eql true (.t 32) (.i 5))]) (.cond (.t 33) .skip (.exit 2))) (.block 3 (.seq (.reg [.v 34 11,.q 35 (.bin .add true (.t 34) (.i 1)),.v 11 35]) (.reg [.q 36 (.fa 3 (.t 12)),.l 37 (.ld1 (.t 36)),.l 38 (.ia 4 (.t 37) (.i 0)),.l 39 (.ldn 4 (.t 38)),.s (.st 4 (.t 12) (.t 39))])))))) (.seq (.seq (.reg [.q 40 (.fa 0 (.t 12)),.l 41 (.ld1 (.t 40)),.q 42 (.bin .eql true (.t 41) (.i 6))]) (.cond (.t 42) (.reg [.v 43 11,.l 44 (.ld1 (.t 2)),.q 45 (.fa 0 (.t 3)),.l 46 (.ld1 (.t 45)),.q 47 (.fa 2 (.t 12)),.l 48 (.ld1 (.t 47)),.l 49 (.lk .string (.agg #[(.string (mk [])),(.slice none 0 0)]) false (.t 46) (.t 48)),.a 50 (.ca (.t 44) [(.t 49)] [0,1,2,3,4,5]),.q 51 (.bin .add true (.t 43) (.t 50)),.v 11 51]) .skip)) (.reg [.v 52 8,.v 53 11,.q 54 (.mx true (.t 52) (.t 53)),.v 8 54])))))) (.reg [.q 55 (.bin .add true (.t 25) (.i 1)),.v 25 55]))))))) (.seq (.reg [.l 56 (.ld1 (.t 1)),.q 57 (.fa 0 (.t 4)),.l 58 (.ld1 (.t 57)),.v 59 8,.q 60 (.bin .add true (.t 59) (.i 1)),.s (.mu .string (.t 56) (.t 58) (.t 60))]) (.seq (.reg [.v 61 8,.q 62 (.bin .add true (.t 61) (.i 1)),.v 5 62]) .ret)))))
def F1:List RV:=[.mv (.t 5)]
theorem WI:aV Tryz.prog true ⟨fun r k=>if r=13/\k=7 then .own [0,1,2,3,4,5] else .own [],fun _=>false⟩ Tryz.f126=some (F9,F1):=by kernel_rfl
def cO (c:Int):Bool:=(decide (97<=c) && decide (c<=122)) || (decide (65<=c) && decide (c<=90))
def vY (c:Int):Bool:=decide (48<=c) && decide (c<=57)
def G9 (c:Int):Bool:=cO c || vY c || c == 95
def TR:List UInt8:=[123,125,40,41,91,93,58,59,44,61,46,63,33,38,124,64]
def d7 (c:Int):Bool:=decide (c.toNat.toUInt8 ∈ TR)
def cM (c:Int):Int:=
 bif c == 32 || c == 9 || c == 10 then 1 else bif c == 35 then 2 else bif cO c then 3 else bif vY c then 4
 else bif c == 45 then 5 else bif c == 95 then 6 else bif c == 34 then 7 else bif d7 c then 8 else 0
theorem y9 (l:List UInt8) (c:UInt8):decide (0<=Lib.indexByte l c)=decide (c ∈ l):=by
 rw [decide_eq_decide]
 induction l with
 | nil=>simp [Lib.indexByte]
 | cons b l ih=>
  have hge:=Lib.indexByte_ge l c
  rw [Lib.indexByte]
  by_cases hb:b=c
  · simp [hb]
  · have hb2:(b == c)=false:=by simpa using hb
    have hb3:¬ c=b:=fun e=>hb e.symm
    simp only [hb2,Bool.false_eq_true,if_false,List.mem_cons,hb3,false_or,<-ih]
    by_cases h:Lib.indexByte l c=-1
    · simp [h]
    · have h2:(Lib.indexByte l c == -1)=false:=by simpa using h
      simp only [h2,Bool.false_eq_true,if_false]; omega
def cD (l:List UInt8) (at':Nat):Int:=match l[at']? with | some c=>cM c.toNat | none=>-1
def dI:Bool->List UInt8->Nat
 | _,[]=>0
 | r,c :: l=>
  let r':=bif c == 35 then true else bif c == 10 then false else r
  bif !r' && !(c == 32 || c == 9 || c == 10) then 0 else dI r' l + 1
def bL (l:List UInt8) (a:Nat):Nat:=a + dI false (l.drop a)
theorem tD:∀ r l,dI r l<=l.length
 | _,[]=>Nat.le_refl 0
 | r,c :: l=>by
  simp only [dI,List.length_cons]
  cases hh:(!(bif c == 35 then true else bif c == 10 then false else r) && !(c == 32 || c == 9 || c == 10))
  · have:=tD (bif c == 35 then true else bif c == 10 then false else r) l; simp only [aH]; omega
  · simp
theorem n8 {l:List UInt8} {a:Nat} (h:a<=l.length):bL l a<=l.length:=by
 have:=tD false (l.drop a); simp at this; unfold bL; omega
theorem QQ (c:UInt8):(cM c.toNat == 1)=(c == 32 || c == 9 || c == 10):=by
 have:=b5 (p:=fun c=>(cM c.toNat == 1) == (c == 32 || c == 9 || c == 10)) (by decide +kernel) c
 simpa using this
theorem LA (c:UInt8):(cM c.toNat == 2)=(c == 35):=by
 have:=b5 (p:=fun c=>(cM c.toNat == 2) == (c == 35)) (by decide +kernel) c
 simpa using this
theorem yE (l:List UInt8):dI true l=bif decide (0<=Lib.indexByte l 10) then (Lib.indexByte l 10).toNat + dI false (l.drop (Lib.indexByte l 10).toNat) else l.length:=by
 induction l with
 | nil=>rfl
 | cons c l ih=>
  have hge:=Lib.indexByte_ge l 10
  by_cases hc:c=10
  · subst hc; simp [dI,Lib.indexByte]
  · have hc2:(c == 10)=false:=by simpa using hc
    have e:dI true (c :: l)=dI true l + 1:=by simp [dI,hc2]
    rw [e,ih,Lib.indexByte]
    simp only [hc2,Bool.false_eq_true,if_false]
    by_cases h:Lib.indexByte l 10=-1
    · simp [h]
    · have h2:(Lib.indexByte l 10 == -1)=false:=by simpa using h
      have h3:0<=Lib.indexByte l 10:=by omega
      have h4:0<=Lib.indexByte l 10 + 1:=by omega
      have h5:(Lib.indexByte l 10 + 1).toNat=(Lib.indexByte l 10).toNat + 1:=by omega
      simp only [h2,Bool.false_eq_true,if_false,h3,h4,decide_true,aN,h5,List.drop_succ_cons]
      omega
theorem d8 {l:List UInt8} {i:Nat} {c:UInt8} (h:l[i]? = some c):l.drop i=c :: l.drop (i + 1):=by
 obtain ⟨hi,rfl⟩:=aY.1 h
 exact List.drop_eq_getElem_cons hi
theorem GL {l:List UInt8} {i:Nat} {c:UInt8} (h:l[i]? = some c) (hc:(c == 32 || c == 9 || c == 10)=true):bL l (i + 1)=bL l i:=by
 have h35:(c == 35)=false:=by
  have:=b5 (p:=fun c=>!(c == 32 || c == 9 || c == 10) || !(c == 35)) (by decide +kernel) c
  simp only [hc,Bool.not_true,Bool.false_or] at this; simpa using this
 simp only [bL,d8 h,dI,h35,hc,aH,Bool.not_true,Bool.and_false,Bool.cond_self]
 omega
theorem v6 {l:List UInt8} {i:Nat} {c:UInt8} (h:l[i]? = some c) (hc:(c == 32 || c == 9 || c == 10)=false) (h35:(c == 35)=false):bL l i=i:=by
 simp only [bL,d8 h,dI,h35,hc,aH,Bool.not_false,Bool.and_true,Bool.cond_self]
 simp
theorem BZ {l:List UInt8} {i:Nat} (h:l.length<=i):bL l i=i:=by
 simp [bL,List.drop_eq_nil_iff.2 h,dI]
theorem xS {l:List UInt8} {i:Nat} (h:l[i]? = some 35):bL l i=i + dI true (l.drop i):=by
 simp [bL,d8 h,dI]
theorem GK {l:List UInt8} {i:Nat} (h:l[i]? = some 35) (h0:0<=Lib.indexByte (l.drop i) 10) :
 ∃ n:Nat,Lib.indexByte (l.drop i) 10=n/\0 < n/\i + n<=l.length/\bL l (i + n)=bL l i:=by
 obtain ⟨n,hn⟩:∃ n:Nat,Lib.indexByte (l.drop i) 10=n:=⟨_,(Int.toNat_of_nonneg h0).symm⟩
 have h1:dI true (l.drop i)=n + dI false ((l.drop i).drop n):=by rw [yE,hn]; simp
 have hp:0 < n:=by
  rcases Nat.eq_zero_or_pos n with h2 | h2
  · subst h2; rw [d8 h,Lib.indexByte] at hn
    exfalso
    have hge:=Lib.indexByte_ge (l.drop (i + 1)) 10
    simp at hn
    split at hn<;>omega
  · exact h2
 have hle:=tD true (l.drop i)
 simp only [List.length_drop] at hle
 have hi:i < l.length:=(aY.1 h).1
 refine ⟨n,hn,hp,by omega,?_⟩
 rw [xS h,h1,bL,List.drop_drop]
 omega
theorem FS {l:List UInt8} {i:Nat} (h:l[i]? = some 35) (h0:¬ 0<=Lib.indexByte (l.drop i) 10):bL l l.length=bL l i:=by
 have hi:i < l.length:=(aY.1 h).1
 rw [xS h,yE,BZ (Nat.le_refl _)]
 simp [h0]; omega
inductive R where
 | ok (k:Int) (t:List UInt8) (n:Int) (z:Nat)
 | bad (e t:Int)
def bG (c:UInt8):Bool:=G9 c.toNat
def bP (p:UInt8->Bool) (l:List UInt8) (a:Nat):Nat:=a + ((l.drop a).takeWhile p).length
theorem j0 {p:UInt8->Bool} {l:List UInt8} {a:Nat} {c:UInt8} (h:l[a]? = some c) (hp:p c=true):bP p l (a + 1)=bP p l a:=by
 simp only [bP,d8 h,List.takeWhile_cons,hp,if_true,List.length_cons]; omega
theorem x3 {p:UInt8->Bool} {l:List UInt8} {a:Nat} (h:∀ c,l[a]? = some c->p c=false):bP p l a=a:=by
 rcases bQ a l.length with h1 | h1
 · have h2:=getD_some (l:=l) 0 h1
   simp only [bP,d8 h2,List.takeWhile_cons,h _ h2,Bool.false_eq_true,if_false,List.length_nil,Nat.add_zero]
 · simp [bP,List.drop_eq_nil_iff.2 h1]
theorem rG {p:UInt8->Bool} {l:List UInt8} {a:Nat} (h:a<=l.length):bP p l a<=l.length:=by
 have:=(List.takeWhile_sublist (l:=l.drop a) p).length_le
 simp at this; unfold bP; omega
theorem xI {p:UInt8->Bool} {l:List UInt8} {a:Nat}:a<=bP p l a:=by unfold bP; omega
theorem BL (c:UInt8):(cM c.toNat == 3 || cM c.toNat == 4 || cM c.toNat == 6)=bG c:=by
 have:=b5 (p:=fun c=>(cM c.toNat == 3 || cM c.toNat == 4 || cM c.toNat == 6) == bG c) (by decide +kernel) c
 simpa using this
theorem SH (c:UInt8):(cM c.toNat == 5)=(c == 45):=by
 have:=b5 (p:=fun c=>(cM c.toNat == 5) == (c == 45)) (by decide +kernel) c
 simpa using this
def gY (l:List UInt8) (a:Nat):R:=
 let z:=bP bG l a
 bif decide (16 < z - a) then .bad 3 a else bif l[z]? == some 45 then .bad 2 z else .ok 1 ((l.take z).drop a) 0 z
theorem sY {p:UInt8->Bool} {l:List UInt8} {a:Nat}:∀ c ∈ (l.take (bP p l a)).drop a,p c=true:=by
 intro c hc
 have e:(l.take (bP p l a)).drop a=(l.drop a).takeWhile p:=by
  rw [List.drop_take,bP,Nat.add_sub_cancel_left]
  exact (List.prefix_iff_eq_take.1 (List.takeWhile_prefix p)).symm
 rw [e] at hc
 have:∀ (q:List UInt8),∀ c ∈ q.takeWhile p,p c=true:=by
  intro q
  induction q with
  | nil=>intro c h; simp at h
  | cons x q ih=>
   intro c h
   rw [List.takeWhile_cons] at h
   split at h
   · rcases List.mem_cons.1 h with rfl | h
     · assumption
     · exact ih c h
   · simp at h
 exact this _ c hc
def bC (c:UInt8):Bool:=vY c.toNat
theorem YQ (c:UInt8):(cM c.toNat == 4)=bC c:=by
 have:=b5 (p:=fun c=>(cM c.toNat == 4) == bC c) (by decide +kernel) c
 simpa using this
theorem SU (c:UInt8):(cM c.toNat == 3 || cM c.toNat == 6 || cM c.toNat == 5)=((bG c && !bC c) || c == 45):=by
 have:=b5 (p:=fun c=>(cM c.toNat == 3 || cM c.toNat == 6 || cM c.toNat == 5) == ((bG c && !bC c) || c == 45)) (by decide +kernel) c
 simpa using this
theorem jN {c:UInt8}:bC c=true ↔ 48<=c.toNat/\c.toNat<=57:=by
 simp [bC,vY]; omega
def valL (lim:Nat):Nat->List UInt8->Option Nat
 | n,[]=>some n
 | n,c :: l=>if (lim - (c.toNat - 48)) / 10 < n then none else valL lim (10 * n + (c.toNat - 48)) l
def cX (neg:Bool):Nat:=bif neg then 9223372036854775808 else 9223372036854775807
theorem ER {lim:Nat} (h:9<=lim):∀ {l:List UInt8} {n m:Nat},n<=lim->(∀ c ∈ l,bC c=true)->valL lim n l=some m->m<=lim
 | [],n,m,hn,_,hv=>by simp [valL] at hv; omega
 | c :: l,n,m,hn,hd,hv=>by
  simp only [valL] at hv
  split at hv
  · cases hv
  · rename_i hc
    have:=jN.1 (hd c (by simp))
    exact ER h (by omega) (fun x hx=>hd x (by simp [hx])) hv
def signed (neg:Bool) (n:Nat):Int:=bif neg then -n else n
def nM (l:List UInt8) (i:Nat):Bool:=match l[i]? with | some c=>bG c && !bC c || c == 45 | none=>false
def iU (l:List UInt8) (a:Nat):R:=
 let neg:=l[a]? == some 45
 let f:=bif neg then a + 1 else a
 let z:=bP bC l f
 let s:=(l.take z).drop f
 bif s == [] || (s[0]? == some 48 && (decide (1 < s.length) || neg)) then .bad 2 a
 else match valL (cX neg) 0 s with
  | none=>.bad 4 a
  | some n=>bif nM l z then .bad 2 z else .ok 2 [] (signed neg n) z
end Go.Proofs.YtgogpogophflhaaGreatDoor
namespace Go.Proofs
open Go.Shelf
def Tryz.lays137_ren:Go.Shelf.Ren:=⟨fun | 137=>119 | 217=>131 | 266=>139 | n=>n,fun | 9=>9 | 5=>5 | 3=>3 | n=>n,fun | n=>n⟩
theorem Tryz.lays137:Go.Proofs.Lays.n137 Tryz.prog Tryz.lays137_ren:={
 mixed:=by kernel_rfl
 f137:=Tryz.func119.trans (congrArg some (by kernel_rfl))
 f217:=Tryz.func131.trans (congrArg some (by kernel_rfl))
 f266:=Tryz.func139.trans (congrArg some (by kernel_rfl))
 t3:=Tryz.underlying3
 a3:=Tryz.isAgg3
 z3:=Tryz.sizeOf3
 v3:=Tryz.zeroValue3
 t5:=Tryz.underlying5
 a5:=Tryz.isAgg5
 z5:=Tryz.sizeOf5
 v5:=Tryz.zeroValue5
 t9:=Tryz.underlying9
 a9:=Tryz.isAgg9
 z9:=Tryz.sizeOf9
 v9:=Tryz.zeroValue9 }
open Go.RowKit in
theorem Tryz.strings_IndexByte (s:ByteArray) (c:Int) (w:World) :
 Calls Tryz.prog 119 #[.string s,.int .u8 c] w fun e w'=>e=.returned (.int .i64 (Lib.indexByte s.data.toList c.toNat.toUInt8))/\w'=w:=Any.strings_IndexByte Tryz.lays137 s c w
end Go.Proofs
namespace Go.Proofs.YtgogpogophflhaaGreatDoor
open Go.W
abbrev iA (k:IntKind) (n:Int):A:=.c1 (.vl (.int k n))
abbrev bA (b:Bool):A:=.c1 (.vl (.bool b))
abbrev tA (b:ByteArray):A:=.c1 (.vl (.string b))
def qN:List S->Prop:=fun xs=>match xs with
 | [.va (.c1 (.vl (.int .u8 c)))]=>0<=c/\c<=255
 | _=>False
theorem lT {xs:List S} (h:qN xs):∃ c:Int,xs=[iS .u8 c]/\0<=c/\c<=255:=by
 unfold qN at h
 split at h
 · exact ⟨_,rfl,h⟩
 · exact h.elim
def DH (f:Int->Value):List S->A:=fun xs=>match xs with
 | [.va (.c1 (.vl (.int .u8 c)))]=>.c1 (.vl (f c))
 | _=>.gs []
def CL (f:Int->Value):Fun:=⟨qN,DH f,fun xs h=>by obtain ⟨c,rfl,_⟩:=lT h; trivial⟩
theorem GH {f:Int->Value}:∀ xs H K,(CL f).sp xs H K->xs.length=1:=fun xs H K h=>by obtain ⟨c,rfl,_⟩:=lT h.1.1; rfl
attribute [go_sem] CL qN DH
def zF:List S->Prop:=fun xs=>match xs with | [.va (.c1 (.vl (.string _))),.va (.c1 (.vl (.int .u8 _)))]=>True | _=>False
def MN:List S->A:=fun xs=>match xs with | [.va (.c1 (.vl (.string s))),.va (.c1 (.vl (.int .u8 c)))]=>iA .i64 (Lib.indexByte (bl s) c.toNat.toUInt8) | _=>.gs []
theorem v8 {xs:List S} (h:zF xs):∃ s c,xs=[tS s,iS .u8 c]:=by
 unfold zF at h
 split at h
 · exact ⟨_,_,rfl⟩
 · exact h.elim
def fnIb:Fun:=⟨zF,MN,fun xs h=>by obtain ⟨s,c,rfl⟩:=v8 h; trivial⟩
attribute [go_sem] fnIb zF MN
theorem XH:Meets Tryz.prog 119 fnIb.sp:=by
 refine ⟨by kernel_rfl,?_⟩
 rintro xs vs E ro w K hl hrel hr ⟨⟨h,hE⟩,hK⟩ _
 obtain ⟨s,c,rfl⟩:=v8 h
 obtain ⟨v0,v1,rfl⟩:∃ v0 v1,vs=[v0,v1]:=by
  match vs,hl with
  | [v0,v1],_=>exact ⟨v0,v1,rfl⟩
 have h0:v0=.string s:=hrel 0 _ _ rfl rfl
 have h1:v1=.int .u8 c:=hrel 1 _ _ rfl rfl
 subst h0 h1
 refine (Tryz.strings_IndexByte s c w).mono ?_
 rintro e w' ⟨rfl,rfl⟩
 exact ⟨iS .i64 _,_,E,ro,rfl,rfl,by rw [hE]; exact hK,hr⟩
theorem CJ:Meets Tryz.prog 108 (CL fun c=>.int .i64 (cM c)).sp:=by
 refine aG Tryz.func108 V0 1 (by rw [Tryz.ntmps108]; decide) (aK XH (aB _)) GH ?_
 rintro xs H K ⟨⟨h,rfl⟩,hK⟩
 obtain ⟨c,rfl,hc⟩:=lT h
 simp -dsimp (maxSteps:=9^6) only [go_sem,L3,L5] at hK ⊢
 have hw:IntKind.i32.wrap c=c:=nR (by simp [inr,IntKind.min,IntKind.max,IntKind.signed,IntKind.bits]; omega)
 rw [hw]
 have hm:decide (0<=Lib.indexByte [123,125,40,41,91,93,58,59,44,61,46,63,33,38,124,64] c.toNat.toUInt8)=d7 c:=y9 _ _
 rw [hm]
 clear hm hw
 refine ⟨fun h1=>dT hK ?_,fun h1=>⟨fun h2=>dT hK ?_,fun h2=>⟨by simp; omega,fun h3=>dT hK ?_,fun h3=>⟨fun h4=>dT hK ?_,fun h4=>⟨fun h5=>dT hK ?_,fun h5=>⟨fun h6=>dT hK ?_,fun h6=>⟨fun h7=>dT hK ?_,fun h7=>⟨fun h8=>dT hK ?_,fun h8=>dT hK ?_⟩⟩⟩⟩⟩⟩⟩⟩
 all_goals simp only [cM,cO,vY, *,aN,aH]
abbrev iJ (s:ByteArray) (a e t:Int):B:=.cells [.vl (.string s),.vl (.int .i64 a),.vl (.int .i64 e),.vl (.int .i64 t)] 92
def pZ (pre:List UInt8->Int->Int->Int->Prop) (post:ByteArray->Int->Int->Int->(S->Hp->Prop)->Prop):W.Spec:=fun xs H K=>
 match xs,H with
 | [.va (.c1 (.pt 0 0))],[.cells [.vl (.string s),.vl (.int .i64 a),.vl (.int .i64 e),.vl (.int .i64 t)] 92]=>
  (0<=a/\a<=(bl s).length/\(bl s).length<=4000/\pre (bl s) a e t)/\post s a e t K
 | _,_=>False
theorem j6 {pre:List UInt8->Int->Int->Int->Prop} {post:ByteArray->Int->Int->Int->(S->Hp->Prop)->Prop} {xs:List S} {H:Hp} {K:S->Hp->Prop} (h:pZ pre post xs H K) :
 ∃ s a e t,xs=[.va (.c1 (.pt 0 0))]/\H=[iJ s a e t]/\0<=a/\a<=(bl s).length/\(bl s).length<=4000/\pre (bl s) a e t/\post s a e t K:=by
 unfold pZ at h
 split at h
 · obtain ⟨⟨h1,h2,h3,h4⟩,h5⟩:=h
   exact ⟨_,_,_,_,rfl,rfl,h1,h2,h3,h4,h5⟩
 · exact h.elim
theorem tF {pre:List UInt8->Int->Int->Int->Prop} {post:ByteArray->Int->Int->Int->(S->Hp->Prop)->Prop}:∀ xs H K,pZ pre post xs H K->xs.length=1:=fun xs H K h=>by
 obtain ⟨s,a,e,t,rfl,_⟩:=j6 h; rfl
attribute [go_sem ↓] pZ
def vS:W.Spec:=pZ (fun _ _ _ _=>True) fun s a e t K=>K (iS .i64 (cD (bl s) a.toNat)) [iJ s a e t]
attribute [go_sem ↓] vS iJ
theorem zH:Meets Tryz.prog 101 vS:=by
 refine aG Tryz.func101 U5 1 (by rw [Tryz.ntmps101]; decide) (aK CJ (aB _)) tF ?_
 intro xs H K h
 obtain ⟨s,a,e,t,rfl,rfl,h0,h1,h2,-,hK⟩:=j6 h
 simp -dsimp only [go_sem,MD,LJ] at hK ⊢
 refine ⟨fun h3=>dT hK ?_,fun h3=>⟨by simp at h3; omega,fun c hc=>⟨⟨by omega,by have:=c.toNat_lt; omega⟩,dT hK ?_⟩⟩⟩
 · simp at h3; rw [cD,List.getElem?_eq_none (by omega)]
 · rw [cD,hc]
def mX:W.Spec:=fun xs H K=>
 match xs,H with
 | [.va (.c1 (.pt 0 0)),.va (.c1 (.vl (.int .i64 x))),.va (.c1 (.vl (.int .i64 y)))],[.cells [.vl (.string s),.vl (.int .i64 a),.vl (.int .i64 e),.vl (.int .i64 t)] 92]=>
  K (.tu []) [iJ s a (bif e == 0 then x else e) (bif e == 0 then y else t)]
 | _,_=>False
attribute [go_sem ↓] mX
theorem rY {xs:List S} {H:Hp} {K:S->Hp->Prop} (h:mX xs H K) :
 ∃ x y s a e t,xs=[.va (.c1 (.pt 0 0)),iS .i64 x,iS .i64 y]/\H=[iJ s a e t]/\K (.tu []) [iJ s a (bif e == 0 then x else e) (bif e == 0 then y else t)]:=by
 unfold mX at h
 split at h
 · exact ⟨_,_,_,_,_,_,rfl,rfl,h⟩
 · exact h.elim
theorem zU:Meets Tryz.prog 105 mX:=by
 refine aG Tryz.func105 VX 3 (by rw [Tryz.ntmps105]; decide) (aB _) (fun xs H K h=>by obtain ⟨x,y,s,a,e,t,rfl,_⟩:=rY h; rfl) ?_
 intro xs H K h
 obtain ⟨x,y,s,a,e,t,rfl,rfl,hK⟩:=rY h
 simp -dsimp only [go_sem,M9,LF] at hK ⊢
 refine ⟨fun h1=>?_,fun h1=>?_⟩
 · simp only [h1,aN] at hK; exact .done hK
 · simp only [h1,aH] at hK; exact .done hK
def IG:W.Spec:=pZ (fun _ _ _ _=>True) fun s a e t K=>K (.tu []) [iJ s (bL (bl s) a.toNat) e t]
attribute [go_sem ↓] IG
theorem WU:Meets Tryz.prog 100 IG:=by
 refine aG Tryz.func100 U8 1 (by rw [Tryz.ntmps100]; decide) (aA zH (aK XH (aB _))) tF ?_
 intro xs H K h
 obtain ⟨s,a,e,t,rfl,rfl,h0,h1,h2,-,hK⟩:=j6 h
 simp -dsimp only [go_sem,NN,LY] at hK ⊢
 refine a6 (α:=Nat) (fun i=>[(0,.va (.c1 (.pt 0 0)))]) (fun i=>[iJ s i e t]) (fun i=>i<=(bl s).length/\bL (bl s) i=bL (bl s) a.toNat) (fun i=>(bl s).length - i) a.toNat 1 ⟨by omega,rfl⟩ ?_ ?_ ?_
 · simp [go_sem]
 · simp [go_sem]; omega
 rintro i ⟨hi,hj⟩
 simp -dsimp only [go_sem]
 have hget:i < (bl s).length->(bl s)[i]? = some ((bl s).getD i 0):=getD_some 0
 refine ⟨fun h3=>⟨⟨by omega,by omega,h2⟩,fun h4=>⟨by omega,aD (i + 1) 1 ?_ ?_ ?_ ?_⟩,fun h4=>⟨fun h5=>⟨by omega,fun h6=>?_,fun h6=>?_⟩,fun h5=>?_⟩⟩,fun h3=>?_⟩
 · simp at h3
   have h7:=hget h3
   rw [cD,h7] at h4
   simp only [QQ] at h4
   exact ⟨h3,by rw [GL h7 h4,hj]⟩
 · simp at h3; omega
 · simp [go_sem]
 · simp [go_sem]
 · simp at h3
   have h7:=hget h3
   rw [cD,h7] at h5
   simp only [LA,beq_iff_eq] at h5
   rw [h5] at h7
   have h8:Nat.toUInt8 10=(10:UInt8):=rfl
   rw [h8] at h6 ⊢
   obtain ⟨n,hn,hp,hl,hs⟩:=GK h7 (by simpa using h6)
   rw [hn]
   refine ⟨by omega,aD (i + n) 1 ⟨hl,by rw [hs,hj]⟩ (by omega) (by simp [go_sem]) (by simp [go_sem])⟩
 · simp at h3
   have h7:=hget h3
   rw [cD,h7] at h5
   simp only [LA,beq_iff_eq] at h5
   rw [h5] at h7
   have h8:Nat.toUInt8 10=(10:UInt8):=rfl
   rw [h8] at h6
   exact aD (bl s).length 1 ⟨Nat.le_refl _,by rw [FS h7 (by simpa using h6),hj]⟩ (by omega) (by simp [go_sem]) (by simp [go_sem])
 · simp at h3
   have h7:=hget h3
   rw [cD,h7] at h5 h4
   simp only [LA,QQ] at h5 h4
   rw [<-hj,v6 h7 h4 h5] at hK
   exact .done hK
 · simp at h3
   rw [<-hj,BZ h3] at hK
   exact .done hK
abbrev lQ (k:Int) (x:ByteArray) (n a:Int):List C:=[.vl (.int .i64 k),.vl (.string x),.vl (.int .i64 n),.vl (.int .i64 a)]
def iP (s:ByteArray) (a:Int) (K:S->Hp->Prop):R->Prop
 | .ok k x n z=>K (.va (.gs (lQ k (mk x) n a))) [iJ s z 0 0]
 | .bad e' t'=>∀ k x n y (z:Nat),K (.va (.gs (lQ k x n y))) [iJ s z e' t']
def W6:R->Int->Int->ByteArray->Int->Int->Int->Int->Int->Prop
 | .ok k x n z,a,k',x',n',a',z',e',t'=>k'=k/\x'=mk x/\n'=n/\a'=a/\z'=z/\e'=0/\t'=0
 | .bad e t,_,_,_,_,_,z',e',t'=>e'=e/\t'=t/\∃ z:Nat,z'=z
def FF (s:ByteArray) (a:Int) (K:S->Hp->Prop) (r:R):Prop:=∀ k x n y z e t,W6 r a k x n y z e t->K (.va (.gs (lQ k x n y))) [iJ s z e t]
theorem PW {s:ByteArray} {a:Int} {K:S->Hp->Prop} {r:R} (h:FF s a K r):iP s a K r:=by
 cases r with
 | ok k x n z=>exact h _ _ _ _ _ _ _ ⟨rfl,rfl,rfl,rfl,rfl,rfl,rfl⟩
 | bad e t=>exact fun k x n y z=>h k x n y z e t ⟨rfl,rfl,z,rfl⟩
def rE (pre:List UInt8->Nat->Prop) (f:List UInt8->Nat->R):W.Spec:=pZ (fun l a e t=>e=0/\t=0/\pre l a.toNat) fun s a _ _ K=>FF s a K (f (bl s) a.toNat)
theorem kQ {pre:List UInt8->Nat->Prop} {f:List UInt8->Nat->R} {xs:List S} {H:Hp} {K:S->Hp->Prop} (h:rE pre f xs H K) :
 ∃ s a,xs=[.va (.c1 (.pt 0 0))]/\H=[iJ s a 0 0]/\0<=a/\a<=(bl s).length/\(bl s).length<=4000/\pre (bl s) a.toNat/\iP s a K (f (bl s) a.toNat):=by
 obtain ⟨s,a,e,t,rfl,rfl,h0,h1,h2,⟨rfl,rfl,h3⟩,h4⟩:=j6 h
 exact ⟨_,_,rfl,rfl,h0,h1,h2,h3,PW h4⟩
theorem qI {pre:List UInt8->Nat->Prop} {f:List UInt8->Nat->R}:∀ xs H K,rE pre f xs H K->xs.length=1:=fun xs H K h=>by
 obtain ⟨s,a,rfl,_⟩:=kQ h; rfl
attribute [go_sem ↓] rE lQ FF
def I8:W.Spec:=rE (fun _ _=>True) gY
attribute [go_sem ↓] I8
theorem WA:Meets Tryz.prog 102 I8:=by
 refine aG Tryz.func102 WE 1 (by rw [Tryz.ntmps102]; decide) (aA zH (aA zU (aB _))) qI ?_
 intro xs H K h
 obtain ⟨s,a,rfl,rfl,h0,h1,h2,-,hK⟩:=kQ h
 simp -dsimp only [go_sem,L4,MV] at hK ⊢
 refine ⟨⟨h0,h1,h2⟩,a6 (α:=Nat) (fun i=>[(0,.va (.c1 (.pt 0 0))),(2,.va (.c1 (.pt 1 0))),(3,iS .i64 a),(4,iS .i64 (cD (bl s) i))]) (fun i=>[iJ s i 0 0,.cells (lQ 0 (mk []) 0 0) 74]) (fun i=>a.toNat<=i/\i<=(bl s).length/\bP bG (bl s) i=bP bG (bl s) a.toNat) (fun i=>(bl s).length - i) a.toNat 2 ⟨Nat.le_refl _,by omega,rfl⟩ ?_ ?_ ?_⟩
 · simp -dsimp only [go_sem]
 · simp [go_sem]; omega
 rintro i ⟨hai,hi,hj⟩
 simp -dsimp only [go_sem]
 have hget:i < (bl s).length->(bl s)[i]? = some ((bl s).getD i 0):=getD_some 0
 have hz:(cD (bl s) i == 3 || cD (bl s) i == 4 || cD (bl s) i == 6)=false->bP bG (bl s) a.toNat=i:=fun h=>by
  rw [<-hj]; exact x3 fun c hc=>by rw [cD,hc] at h; simp only [BL] at h; exact h
 have hm:(cD (bl s) i == 5)=((bl s)[i]? == some 45):=by
  unfold cD
  cases hc:(bl s)[i]? with
  | none=>rfl
  | some c=>simp only [SH]; rfl
 refine ⟨fun h3=>?_,fun h3=>?_⟩
 · have hlt:i < (bl s).length:=by
    rcases bQ i (bl s).length with h4 | h4
    · exact h4
    · rw [cD,List.getElem?_eq_none h4] at h3; simp at h3
   have h7:=hget hlt
   refine ⟨by omega,⟨by omega,by omega,h2⟩,aD (i + 1) 2 ⟨by omega,hlt,?_⟩ (by omega) ?_ ?_⟩
   · rw [cD,h7] at h3; simp only [BL] at h3
     rw [j0 h7 h3,hj]
   · simp -dsimp only [go_sem]; simp [go_sem]
   · simp [go_sem]
 · have hz:=hz h3
   simp only [gY,hz,hm.symm] at hK
   refine ⟨by omega,fun h4=>⟨⟨by omega,by omega,h2⟩,fun h5=>⟨by omega,?_⟩,fun h5=>⟨by omega,?_⟩⟩,fun h4=>⟨⟨by omega,by omega,h2⟩,fun h5=>⟨by omega,?_⟩,fun h5=>⟨by omega,?_⟩⟩⟩
   all_goals refine .sel [0] (by simp) (by simp) rfl (.done ?_)
   all_goals simp only [decide_eq_true_eq,decide_eq_false_iff_not] at h4
   · have h6:decide (16 < i - a.toNat)=true:=by simp; omega
     simp only [h6,aN,iP] at hK
     have:=hK 1 (mk (List.drop a.toNat (List.take i (bl s)))) 0 a i
     rw [Int.toNat_of_nonneg h0] at this
     exact this
   · have h6:decide (16 < i - a.toNat)=true:=by simp; omega
     simp only [h6,aN,iP] at hK
     have:=hK 1 (mk (List.drop a.toNat (List.take i (bl s)))) 0 a i
     rw [Int.toNat_of_nonneg h0] at this
     exact this
   · have h6:decide (16 < i - a.toNat)=false:=by simp; omega
     simp only [h6,h5,aN,aH,iP] at hK
     exact hK 1 (mk (List.drop a.toNat (List.take i (bl s)))) 0 a i
   · have h6:decide (16 < i - a.toNat)=false:=by simp; omega
     simp only [h6,h5,aH,iP] at hK
     exact hK
def pF (neg:Bool) (l:List UInt8):Int:=match valL (cX neg) 0 l with | some n=>signed neg n | none=>0
def mO (neg:Bool) (l:List UInt8):Bool:=(valL (cX neg) 0 l).isSome
def nJ:W.Spec:=fun xs H K=>
 match xs,H with
 | [.va (.c1 (.vl (.bool neg))),.va (.c1 (.vl (.string s)))],[]=>((bl s).length<=4000/\∀ c ∈ bl s,bC c=true)/\
  K (.tu [iA .i64 (pF neg (bl s)),bA (mO neg (bl s))]) []
 | _,_=>False
attribute [go_sem ↓] nJ
theorem rN {xs:List S} {H:Hp} {K:S->Hp->Prop} (h:nJ xs H K):∃ neg s,xs=[bS neg,tS s]/\H=[]/\(bl s).length<=4000/\(∀ c ∈ bl s,bC c=true)/\
 K (.tu [iA .i64 (pF neg (bl s)),bA (mO neg (bl s))]) []:=by
 unfold nJ at h
 split at h
 · exact ⟨_,_,rfl,rfl,h.1.1,h.1.2,h.2⟩
 · exact h.elim
theorem QW:Meets Tryz.prog 120 nJ:=by
 refine aG Tryz.func120 WT 2 (by rw [Tryz.ntmps120]; decide) (aB _) (fun xs H K h=>by obtain ⟨neg,s,rfl,_⟩:=rN h; rfl) ?_
 intro xs H K h
 obtain ⟨neg,s,rfl,rfl,hl,hd,hK⟩:=rN h
 have rest:vc [] 0 pc120_4.ungh (cZ [(0,bS neg),(1,tS s),(6,iS .u64 (cX neg))]) [] (eV 0 zK K):=by
  simp -dsimp only [go_sem,pc120_4,zK]
  refine a6 (α:=Nat × Nat) (fun z=>[(0,bS neg),(1,tS s),(6,iS .u64 (cX neg)),(7,iS .u64 z.2),(12,iS .i64 (bl s).length),(13,iS .i64 z.1)]) (fun _=>[]) (fun z=>z.1<=(bl s).length/\z.2<=cX neg/\valL (cX neg) z.2 ((bl s).drop z.1)=valL (cX neg) 0 (bl s)) (fun z=>(bl s).length - z.1) (0,0) 0 ⟨by omega,by omega,rfl⟩ ?_ rfl ?_
  · simp [go_sem]
  rintro ⟨i,n⟩ ⟨hi,hn,hv⟩
  simp only at hi hn hv
  have hL:cX neg<=9223372036854775808/\9<=cX neg:=by cases neg<;>simp [cX]
  simp -dsimp only [go_sem]
  refine ⟨fun h1=>⟨by simp at h1; omega,fun c hc=>?_⟩,fun h1=>?_⟩
  · simp at h1
    have hdc:=jN.1 (hd c (bH hc))
    have w1:IntKind.u64.wrap ((c.toNat:Int) - 48)=(c.toNat:Int) - 48:=nR (by simp [inr,IntKind.min,IntKind.max,IntKind.signed,IntKind.bits]; omega)
    have hq:((cX neg:Int) - ((c.toNat:Int) - 48)).tdiv 10=((cX neg - (c.toNat - 48)) / 10:Nat):=by
     rw [Int.tdiv_eq_ediv_of_nonneg (by omega)]; omega
    rw [d8 hc] at hv
    rw [w1,hq]
    refine ⟨by omega,by omega,⟨by decide,by omega⟩,fun h2=>?_,fun h2=>?_⟩
    · simp only [decide_eq_true_eq,Int.ofNat_lt] at h2
      simp only [valL,h2,if_true] at hv
      simp only [pF,mO,<-hv] at hK
      exact .done hK
    · simp only [decide_eq_false_iff_not,Int.ofNat_lt] at h2
      simp only [valL,h2,if_false] at hv
      refine ⟨by omega,by omega,by omega,aD (i + 1,10 * n + (c.toNat - 48)) 0 ⟨h1,by omega,hv⟩ (by simp only; omega) ?_ rfl⟩
      simp [go_sem]
      omega
  · simp at h1
    have hi2:i=(bl s).length:=by omega
    subst hi2
    simp only [List.drop_length,valL] at hv
    simp only [pF,mO,<-hv] at hK
    refine ⟨fun h2=>dT hK ?_,fun h2=>dT hK ?_⟩
    · subst h2
      simp [signed,iA,bA,IntKind.wrap,IntKind.signed,IntKind.bits]
      omega
    · subst h2
      simp [signed,iA,bA,IntKind.wrap,IntKind.signed,IntKind.bits,cX] at hn ⊢
      omega
 simp -dsimp only [go_sem,NL,zK]
 refine ⟨fun h=>cJ 0 rest ?_ rfl,fun h=>cJ 0 rest ?_ rfl⟩
 all_goals simp [go_sem,cX,h]
def MI:W.Spec:=rE (fun l a=>∃ c,l[a]? = some c/\(bC c=true\/c=45)) iU
attribute [go_sem ↓] MI
theorem C2 {l:List UInt8} {i:Nat}:(cD l i == 4)=(match l[i]? with | some c=>bC c | none=>false):=by
 unfold cD
 cases l[i]? with
 | none=>rfl
 | some c=>exact YQ c
theorem F3 {l:List UInt8} {i:Nat}:(cD l i == 5)=(l[i]? == some 45):=by
 unfold cD
 cases hc:l[i]? with
 | none=>rfl
 | some c=>simp only [SH]; rfl
theorem NY {l:List UInt8} {i:Nat}:(cD l i == 3 || cD l i == 6 || cD l i == 5)=nM l i:=by
 unfold cD nM
 cases hc:l[i]? with
 | none=>rfl
 | some c=>simp only [SU]
theorem PO:Meets Tryz.prog 103 MI:=by
 refine aG Tryz.func103 UV 1 (by rw [Tryz.ntmps103]; decide) (aA zH (aA zU (aA QW (aB _)))) qI ?_
 intro xs H K h
 obtain ⟨s,a,rfl,rfl,h0,h1,h2,⟨c0,hc0,hc1⟩,hK⟩:=kQ h
 have hlt:a.toNat < (bl s).length:=(aY.1 hc0).1
 generalize hneg:((bl s)[a.toNat]? == some 45)=neg at hK
 generalize hfe:(bif neg then a.toNat + 1 else a.toNat)=f
 have hf1:a.toNat<=f/\f<=(bl s).length:=by subst hfe; cases neg<;>simp<;>omega
 have rest:vc [(101,.s vS),(105,.s mX),(120,.s nJ)] 1 pc103_5.ungh (cZ [(0,.va (.c1 (.pt 0 0))),(2,.va (.c1 (.pt 1 0))),(3,iS .i64 a),(4,bS neg)]) [iJ s f 0 0,.cells (lQ 0 (mk []) 0 0) 74] (eV 1 qT K):=by
  simp -dsimp only [go_sem,pc103_5,qT]
  refine a6 (α:=Nat) (fun i=>[(0,.va (.c1 (.pt 0 0))),(2,.va (.c1 (.pt 1 0))),(3,iS .i64 a),(4,bS neg),(5,iS .i64 f)]) (fun i=>[iJ s i 0 0,.cells (lQ 0 (mk []) 0 0) 74]) (fun i=>f<=i/\i<=(bl s).length/\bP bC (bl s) i=bP bC (bl s) f) (fun i=>(bl s).length - i) f 2 ⟨Nat.le_refl _,hf1.2,rfl⟩ ?_ ?_ ?_
  · simp -dsimp only [go_sem]
  · simp -dsimp only [go_sem]
  rintro i ⟨hai,hi,hj⟩
  simp -dsimp only [go_sem]
  refine ⟨by omega,fun h3=>?_,fun h3=>?_⟩
  · rw [C2] at h3
    split at h3
    · rename_i c hc
      have hlt':=(aY.1 hc).1
      refine ⟨by omega,aD (i + 1) 2 ⟨by omega,hlt',by rw [j0 hc h3,hj]⟩ (by omega) ?_ ?_⟩
      · simp -dsimp only [go_sem]
      · simp -dsimp only [go_sem]; simp
    · cases h3
  · have hz:bP bC (bl s) f=i:=by
     rw [<-hj]
     refine x3 fun c hc=>?_
     rw [C2,hc] at h3
     exact h3
    have hcond:∀ c:UInt8,((List.drop f (List.take i (bl s)) == [])=false->(List.drop f (List.take i (bl s)))[0]? = some c)->
     (List.drop f (List.take i (bl s)) == [] || (c.toNat:Int) == 48 && (decide (1 < ((List.drop f (List.take i (bl s))).length:Int)) || neg)) =
     (List.drop f (List.take i (bl s)) == [] || ((List.drop f (List.take i (bl s)))[0]? == some 48 && (decide (1 < (List.drop f (List.take i (bl s))).length) || neg))):=by
     intro c hc
     cases hd:(List.drop f (List.take i (bl s))) with
     | nil=>rfl
     | cons x l=>
      rw [hd] at hc
      have:=hc rfl
      simp only [List.getElem?_cons_zero,aC] at this
      subst this
      rw [p6 48]
      have h9:decide (1 < (((x :: l).length:Nat):Int))=decide (1 < (x :: l).length):=by rw [decide_eq_decide]; omega
      rw [h9]
      simp only [List.getElem?_cons_zero]
      rfl
    simp only [iU,hneg,hfe,hz] at hK
    refine ⟨by omega,fun h4=>⟨by omega,by cases hd:(List.drop f (List.take i (bl s)))<;>simp_all⟩,fun c hc=>⟨fun h5 h6=>by rw [h5]; simpa using h6,fun h5 h6=>by simp_all,fun h5=>?_,fun h5=>?_⟩⟩
    · rw [hcond c hc] at h5
      simp only [h5,aN,iP] at hK
      refine .sel [0] (by simp) (by simp) rfl (.done ?_)
      have:=hK 0 (mk []) 0 0 i
      rw [Int.toNat_of_nonneg h0] at this
      exact this
    · rw [hcond c hc] at h5
      simp only [h5,aH] at hK
      have hdig:∀ c ∈ List.drop f (List.take i (bl s)),bC c=true:=by
       intro c hc
       rw [<-hz] at hc
       exact sY c hc
      refine ⟨⟨by simp; omega,hdig⟩,?_⟩
      have rest2:∀ e t:Int,(e=0/\t=0/\mO neg ((List.take i (bl s)).drop f)=true\/e=4/\t=a/\mO neg ((List.take i (bl s)).drop f)=false)->vc [(101,.s vS),(105,.s mX),(120,.s nJ)] 1 pc103_15.ungh (cZ [(0,.va (.c1 (.pt 0 0))),(2,.va (.c1 (.pt 1 0))),(3,iS .i64 a),(7,iS .i64 (pF neg ((List.take i (bl s)).drop f)))]) [iJ s i e t,.cells (lQ 0 (mk []) 0 0) 74] (eV 1 qT K):=by
       intro e t het
       simp -dsimp only [go_sem,pc103_15,qT]
       rw [NY]
       refine ⟨by omega,fun h7=>.sel [0] (by simp) (by simp) rfl (.done ?_),fun h7=>.sel [0] (by simp) (by simp) rfl (.done ?_)⟩
       · rcases het with ⟨rfl,rfl,hb⟩ | ⟨rfl,rfl,hb⟩
         · cases hv:valL (cX neg) 0 (List.drop f (List.take i (bl s))) with
           | none=>simp [mO,hv] at hb
           | some n=>
            simp only [hv,h7,aN,iP] at hK
            exact hK _ _ _ _ i
         · cases hv:valL (cX neg) 0 (List.drop f (List.take i (bl s))) with
           | some n=>simp [mO,hv] at hb
           | none=>
            simp only [hv,iP] at hK
            have:=hK 2 (mk []) (pF neg (List.drop f (List.take i (bl s)))) t i
            rw [Int.toNat_of_nonneg h0] at this
            exact this
       · rcases het with ⟨rfl,rfl,hb⟩ | ⟨rfl,rfl,hb⟩
         · cases hv:valL (cX neg) 0 (List.drop f (List.take i (bl s))) with
           | none=>simp [mO,hv] at hb
           | some n=>
            simp only [hv,h7,aH,iP] at hK
            simp only [pF,hv]
            exact hK
         · cases hv:valL (cX neg) 0 (List.drop f (List.take i (bl s))) with
           | some n=>simp [mO,hv] at hb
           | none=>
            simp only [hv,iP] at hK
            have:=hK 2 (mk []) (pF neg (List.drop f (List.take i (bl s)))) t i
            rw [Int.toNat_of_nonneg h0] at this
            exact this
      refine ⟨fun h6=>cJ 2 (rest2 4 a (.inr ⟨rfl,rfl,by simpa using h6⟩)) ?_ ?_,fun h6=>cJ 2 (rest2 0 0 (.inl ⟨rfl,rfl,by simpa using h6⟩)) ?_ ?_⟩
      all_goals simp -dsimp only [go_sem]
 simp -dsimp only [go_sem,MP,qT]
 rw [F3,hneg]
 refine ⟨by omega,fun h3=>⟨by omega,cJ 2 rest ?_ ?_⟩,fun h3=>cJ 2 rest ?_ ?_⟩
 all_goals simp -dsimp only [go_sem]
 all_goals (subst h3; simp at hfe; subst hfe; simp; try omega)
abbrev eE (c:UInt8):List C:=[.vl (.int .u8 c.toNat)]
def gW (p:C) (n:Nat) (xs:List (List C)):Prop:=(p=.vl (.pointer none)\/p=.pt 0 0)/\n=xs.length/\(∀ r ∈ xs,∃ c:UInt8,r=eE c)/\xs.length<=1000000000
def FM:W.Spec:=fun av H K=>
 match av,H with
 | [.va (.c1 (.pt 0 0))],[.cells [p,.sl 1 n] 95,.row xs 5 1]=>gW p n xs/\K (.tu []) [.cells [.pt 0 0,.sl 1 n] 95,.row xs 5 1]
 | _,_=>False
theorem yY {av:List S} {H:Hp} {K:S->Hp->Prop} (h:FM av H K):∃ p n xs,av=[.va (.c1 (.pt 0 0))]/\H=[.cells [p,.sl 1 n] 95,.row xs 5 1]/\gW p n xs/\
 K (.tu []) [.cells [.pt 0 0,.sl 1 n] 95,.row xs 5 1]:=by
 unfold FM at h
 split at h
 · exact ⟨_,_,_,rfl,rfl,h⟩
 · exact h.elim
attribute [go_sem ↓] FM
theorem tR:Meets Tryz.prog 109 FM:=by
 refine aG Tryz.func109 WC 1 (by rw [Tryz.ntmps109]; decide) (aB _) (fun av H K h=>by obtain ⟨_,_,_,rfl,_⟩:=yY h; rfl) ?_
 intro av H K h
 obtain ⟨p,n,xs,rfl,rfl,hp,hK⟩:=yY h
 rcases hp.1 with rfl | rfl
 · simp -dsimp only [go_sem,GF,GP] at hK ⊢
   simp only [Option.isNone,Bool.true_eq_false,false_implies,and_true,true_implies]
   exact .done hK
 · simp -dsimp only [go_sem,GF,GP] at hK ⊢
   exact .done hK
def F5:W.Spec:=fun av H K=>
 match av,H with
 | [.va (.c1 (.pt 0 0)),.va (.c1 (.vl (.int .u8 c)))],[.cells [p,.sl 1 n] 95,.row xs 5 1]=>(gW p n xs/\0<=c/\c<=255)/\
  K (.va (.c1 (.vl .nilIface))) [.cells [.pt 0 0,.sl 1 (n + 1)] 95,.row (xs ++ [[.vl (.int .u8 c)]]) 5 1]
 | _,_=>False
theorem xW {av:List S} {H:Hp} {K:S->Hp->Prop} (h:F5 av H K):∃ p n xs c,av=[.va (.c1 (.pt 0 0)),iS .u8 c]/\H=[.cells [p,.sl 1 n] 95,.row xs 5 1]/\gW p n xs/\(0<=c/\c<=255)/\
 K (.va (.c1 (.vl .nilIface))) [.cells [.pt 0 0,.sl 1 (n + 1)] 95,.row (xs ++ [[.vl (.int .u8 c)]]) 5 1]:=by
 unfold F5 at h
 split at h
 · exact ⟨_,_,_,_,rfl,rfl,h.1.1,h.1.2,h.2⟩
 · exact h.elim
attribute [go_sem ↓] F5
theorem tN:Meets Tryz.prog 61 F5:=by
 refine aG Tryz.func61 Z5 2 (by rw [Tryz.ntmps61]; decide) (aA tR (aB _)) (fun av H K h=>by obtain ⟨_,_,_,_,rfl,_⟩:=xW h; rfl) ?_
 intro av H K h
 obtain ⟨p,n,xs,c,rfl,rfl,hp,hc,hK⟩:=xW h
 obtain ⟨hp1,rfl,hp2,hp3⟩:=hp
 rcases hp1 with rfl | rfl
 all_goals
  simp -dsimp only [go_sem,TL,PU] at hK ⊢
  refine ⟨⟨by simp,rfl,hp2,hp3⟩,by omega,.sel [0,1] (by simp) (by simp) rfl (.done ?_)⟩
  simpa [go_sem] using hK
def zB:W.Spec:=fun av H K=>
 match av,H with
 | [.va (.c1 (.pt 0 0))],[.cells [p,.sl 1 n] 95,.row xs 5 1]=>gW p n xs/\K (iS .i64 n) [.cells [p,.sl 1 n] 95,.row xs 5 1]
 | _,_=>False
theorem uJ {av:List S} {H:Hp} {K:S->Hp->Prop} (h:zB av H K):∃ p n xs,av=[.va (.c1 (.pt 0 0))]/\H=[.cells [p,.sl 1 n] 95,.row xs 5 1]/\gW p n xs/\
 K (iS .i64 n) [.cells [p,.sl 1 n] 95,.row xs 5 1]:=by
 unfold zB at h
 split at h
 · exact ⟨_,_,_,rfl,rfl,h⟩
 · exact h.elim
attribute [go_sem ↓] zB
theorem P2:Meets Tryz.prog 60 zB:=by
 refine aG Tryz.func60 Y3 1 (by rw [Tryz.ntmps60]; decide) (aB _) (fun av H K h=>by obtain ⟨_,_,_,rfl,_⟩:=uJ h; rfl) ?_
 intro av H K h
 obtain ⟨p,n,xs,rfl,rfl,⟨hp1,rfl,hp2,hp3⟩,hK⟩:=uJ h
 simp -dsimp only [go_sem,SQ,SK] at hK ⊢
 exact .done hK
def zX:W.Spec:=fun av H K=>
 match av,H with
 | [.va (.c1 (.pt 0 0))],[.cells [p,.sl 1 n] 95,.row xs 5 1]=>gW p n xs/\K (tS (mk (iO xs))) [.cells [p,.sl 1 n] 95,.dead]
 | _,_=>False
theorem uH {av:List S} {H:Hp} {K:S->Hp->Prop} (h:zX av H K):∃ p n xs,av=[.va (.c1 (.pt 0 0))]/\H=[.cells [p,.sl 1 n] 95,.row xs 5 1]/\gW p n xs/\
 K (tS (mk (iO xs))) [.cells [p,.sl 1 n] 95,.dead]:=by
 unfold zX at h
 split at h
 · exact ⟨_,_,_,rfl,rfl,h⟩
 · exact h.elim
attribute [go_sem ↓] zX
theorem EB:Meets Tryz.prog 63 zX:=by
 refine aG Tryz.func63 ZP 1 (by rw [Tryz.ntmps63]; decide) (aB _) (fun av H K h=>by obtain ⟨_,_,_,rfl,_⟩:=uH h; rfl) ?_
 intro av H K h
 obtain ⟨p,n,xs,rfl,rfl,⟨hp1,rfl,hp2,hp3⟩,hK⟩:=uH h
 simp -dsimp only [go_sem,R9,SY] at hK ⊢
 exact ⟨⟨hp2,by omega⟩,.done hK⟩
def quoL:Nat->List UInt8->List UInt8->Nat × Option (List UInt8)
 | i,[],_=>(i,none)
 | i,c :: r,out=>
  bif decide (c < 32) || decide (126 < c) then (i,none)
  else bif c == 34 then (i + 1,some out)
  else bif c == 92 then match r with
   | d :: r'=>bif d == 34 || d == 92 then quoL (i + 2) r' (out ++ [d]) else (i,none)
   | []=>(i,none)
  else quoL (i + 1) r (out ++ [c])
theorem n7 (i:Nat) (out:List UInt8):quoL i [] out=(i,none):=by rw [quoL.eq_def]
theorem fC (i:Nat) (c:UInt8) (r out:List UInt8):quoL i (c :: r) out=bif decide (c < 32) || decide (126 < c) then (i,none)
 else bif c == 34 then (i + 1,some out)
 else bif c == 92 then match r with
  | d :: r'=>bif d == 34 || d == 92 then quoL (i + 2) r' (out ++ [d]) else (i,none)
  | []=>(i,none)
 else quoL (i + 1) r (out ++ [c]):=by rw [quoL.eq_def]
def gJ (l:List UInt8) (a:Nat):R:=match quoL (a + 1) (l.drop (a + 1)) [] with
 | (i,none)=>.bad 2 i
 | (z,some out)=>bif decide (200 < out.length) then .bad 3 a else .ok 3 out 0 z
def IF:W.Spec:=rE (fun l a=>l[a]? = some 34) gJ
attribute [go_sem ↓] IF
theorem WV:Meets Tryz.prog 104 IF:=by
 refine aG Tryz.func104 VD 1 (by rw [Tryz.ntmps104]; decide) (aA zU (aA tN (aA P2 (aA EB (aB _))))) qI ?_
 intro xs H K h
 obtain ⟨s,a,rfl,rfl,h0,h1,h2,hc0,hK⟩:=kQ h
 have hlt:a.toNat < (bl s).length:=(aY.1 hc0).1
 simp -dsimp only [go_sem,MY,MB] at hK ⊢
 refine ⟨by omega,cI (α:=C × Nat × List UInt8) (fun z=>[(0,.va (.c1 (.pt 0 0))),(2,.va (.c1 (.pt 1 0))),(3,iS .i64 a),(4,.va (.c1 (.pt 2 0)))])
  (fun z=>[iJ s z.2.1 0 0,.cells (lQ 0 (mk []) 0 0) 74,.cells [z.1,.sl 3 z.2.2.length] 95,.row (z.2.2.map eE) 5 1])
  (fun z=>(z.1=.vl (.pointer none)\/z.1=.pt 2 0)/\z.2.1<=(bl s).length/\z.2.2.length<=z.2.1/\quoL z.2.1 ((bl s).drop z.2.1) z.2.2=quoL (a.toNat + 1) ((bl s).drop (a.toNat + 1)) []) (fun z=>(bl s).length - z.2.1)
  (.nilc 2 1 5 1 _ _ rfl rfl (gZ (.vl (.pointer none),a.toNat + 1,[]) 4 ⟨.inl rfl,by simp only; omega,by simp,rfl⟩ ?_ ?_)) ?_⟩
 · simp -dsimp only [go_sem]
 · simp -dsimp only [go_sem]; simp; omega
 rintro ⟨p,i,out⟩ ⟨hp,hi,ho,hq⟩
 simp only at hp hi ho hq
 have hby:∀ r ∈ out.map eE,∃ c:UInt8,r=eE c:=fun r hr=>by obtain ⟨c,_,rfl⟩:=List.mem_map.1 hr; exact ⟨c,rfl⟩
 have hbl:(out.map eE).length<=1000000000:=by simp; omega
 have hrb:iO (out.map eE)=out:=by
  simp only [iO,List.map_map]
  conv=>rhs; rw [<-List.map_id out]
  apply List.map_congr_left
  intro c _
  simp [C.gi,eE]
 have hn:(bl s).length<=i->quoL i ((bl s).drop i) out=(i,none):=fun h=>by rw [List.drop_eq_nil_iff.2 h,n7]
 have hcs:∀ c:UInt8,(bl s)[i]? = some c->(bl s).drop i=c :: (bl s).drop (i + 1):=fun c hc=>d8 hc
 have lt32:∀ c:UInt8,decide ((c.toNat:Int) < 32)=decide (c < 32):=fun c=>by rw [decide_eq_decide,UInt8.lt_iff_toNat_lt]; show (c.toNat:Int) < 32 ↔ c.toNat < 32; omega
 have gt126:∀ c:UInt8,decide (126 < (c.toNat:Int))=decide (126 < c):=fun c=>by rw [decide_eq_decide,UInt8.lt_iff_toNat_lt]; show 126 < (c.toNat:Int) ↔ 126 < c.toNat; omega
 have e34:∀ c:UInt8,((c.toNat:Int) == 34)=(c == 34):=fun c=>p6 34
 have e92:∀ c:UInt8,((c.toNat:Int) == 92)=(c == 92):=fun c=>p6 92
 have n34:∀ c:UInt8,((c.toNat:Int) != 34)=!(c == 34):=fun c=>by rw [bne,e34]
 have n92:∀ c:UInt8,((c.toNat:Int) != 92)=!(c == 92):=fun c=>by rw [bne,e92]
 have bad:quoL (a.toNat + 1) ((bl s).drop (a.toNat + 1)) []=(i,none)->∀ k x n y,K (.va (.gs (lQ k x n y))) [iJ s i 2 i]:=fun h=>by
  simp only [gJ,h,iP] at hK
  exact fun k x n y=>hK k x n y i
 rcases hp with rfl | rfl
 all_goals
  simp -dsimp only [go_sem,lt32,gt126,e34,e92,n34,n92,hrb]
  refine ⟨fun h3=>by simp at h3; omega,fun c hc=>⟨fun h3=>by simp at h3; omega,fun c1 hc1=>⟨fun h3=>?_,fun h3=>?_⟩⟩⟩
  · refine .sel [0] (by simp) (by simp) rfl (.done (bad ?_ _ _ _ _))
    rw [<-hq]
    by_cases h4:(bl s).length<=i
    · exact hn h4
    · have h5:decide (((bl s).length:Int)<=i)=false:=by simp; omega
      have h6:=hc h5
      rw [hcs c h6,fC]
      by_cases h7:c < 32
      · simp [h7]
      · have h8:=hc1 (by rw [h5]; simp [h7])
        rw [h6] at h8
        simp only [aC] at h8
        subst h8
        simp only [h5,h7,decide_false,Bool.false_or] at h3
        simp [h3]
  · simp only [Bool.or_eq_false_iff] at h3
    obtain ⟨⟨h4,h5⟩,h6⟩:=h3
    have hc':=hc h4
    have hc1':=hc1 (by rw [h4,h5]; rfl)
    rw [hc'] at hc1'
    simp only [aC] at hc1'
    subst hc1'
    simp at h4
    refine ⟨by omega,fun c2 hc2=>?_⟩
    rw [hc'] at hc2
    simp only [aC] at hc2
    subst hc2
    rw [hcs c hc',fC] at hq
    simp only [h5,h6,Bool.false_or,aH] at hq
    refine ⟨fun h7=>?_,fun h7=>?_⟩
    · simp only [h7,aN] at hq
      simp only [gJ,<-hq] at hK
      refine ⟨by omega,⟨by simp,by simp,hby,hbl⟩,fun h8=>⟨⟨by simp,by simp,hby,hbl⟩,.sel [0] (by simp) (by simp) rfl (.done ?_)⟩,fun h8=>⟨⟨by simp,by simp,hby,hbl⟩,.sel [0] (by simp) (by simp) rfl (.done ?_)⟩⟩
      · have h9:decide (200 < out.length)=true:=by simp at h8 ⊢; omega
        simp only [h9,aN,iP] at hK
        have:=hK 3 (mk out) 0 a (i + 1)
        rw [Int.toNat_of_nonneg h0] at this
        exact this
      · have h9:decide (200 < out.length)=false:=by simp at h8 ⊢; omega
        simp only [h9,aH,iP] at hK
        exact hK
    · simp only [h7,aH] at hq
      have hi1:((i:Int) + 1).toNat=i + 1:=by omega
      rw [hi1]
      refine ⟨fun h8=>⟨by omega,fun _=>by omega,fun h9=>by simp at h9; omega,fun c1 hc1'=>⟨fun _=>by omega,fun h9=>by simp at h9; omega,fun c2 hc2=>⟨fun h9 h10=>by rw [h9,h10]; rfl,fun h9=>?_,fun h9=>?_⟩⟩⟩,fun h8=>?_⟩
      · refine .sel [0] (by simp) (by simp) rfl (.done (bad ?_ _ _ _ _))
        simp only [h8,aN] at hq
        rw [<-hq]
        by_cases h10:(bl s).length<=i + 1
        · rw [List.drop_eq_nil_iff.2 h10]
        · have h11:decide (((bl s).length:Int)<=i + 1)=false:=by simp; omega
          have h12:=hc1' h11
          rw [d8 h12]
          simp only [h11,Bool.false_or,Bool.and_eq_true,Bool.not_eq_true'] at h9
          have h13:=hc2 (by rw [h11,h9.1]; rfl)
          rw [h12] at h13
          simp only [aC] at h13
          subst h13
          simp only [h9.1,h9.2,Bool.or_self,aH]
      · simp only [Bool.or_eq_false_iff] at h9
        have h12:=hc1' h9.1
        have hlt1:=(aY.1 h12).1
        refine ⟨by omega,by omega,fun c3 hc3=>?_⟩
        rw [h12] at hc3
        simp only [aC] at hc3
        subst hc3
        have h14:(c1 == 34 || c1 == 92)=true:=by
         cases h15:(c1 == 34) with
         | true=>rfl
         | false=>
          have h13:=hc2 (by rw [h9.1,h15]; rfl)
          rw [h12] at h13
          simp only [aC] at h13
          subst h13
          rw [h15] at h9
          simpa using h9.2
        simp only [h8,aN,d8 h12,h14] at hq
        refine ⟨⟨⟨by simp,by simp,hby,hbl⟩,by omega,by have:=c1.toNat_lt; omega⟩,by omega,aD (.pt 2 0,i + 2,out ++ [c1]) 4 ⟨.inr rfl,by simp only; omega,by simp; omega,hq⟩ (by simp only; omega) ?_ ?_⟩
        · simp -dsimp only [go_sem]
        · simp -dsimp only [go_sem]; simp; omega
      · simp only [h8,aH] at hq
        refine ⟨⟨⟨by simp,by simp,hby,hbl⟩,by omega,by have:=c.toNat_lt; omega⟩,by omega,aD (.pt 2 0,i + 1,out ++ [c]) 4 ⟨.inr rfl,by simp only; omega,by simp; omega,hq⟩ (by simp only; omega) ?_ ?_⟩
        · simp -dsimp only [go_sem]
        · simp -dsimp only [go_sem]; simp
def dM (l:List UInt8) (p:Nat):R:=match l[p]? with
 | none=>.ok 0 [] 0 p
 | some c=>bif cO c.toNat then gY l p else bif bC c || c == 45 then iU l p else bif c == 34 then gJ l p
  else bif d7 c.toNat then .ok 4 [c] 0 (p + 1) else .bad 2 p
theorem T7 (c:UInt8):(cM c.toNat == 3)=cO c.toNat:=by
 have:=b5 (p:=fun c=>(cM c.toNat == 3) == cO c.toNat) (by decide +kernel) c
 simpa using this
theorem LX (c:UInt8):(cM c.toNat == 4 || cM c.toNat == 5)=(bC c || c == 45):=by
 have:=b5 (p:=fun c=>(cM c.toNat == 4 || cM c.toNat == 5) == (bC c || c == 45)) (by decide +kernel) c
 simpa using this
theorem SC (c:UInt8):(cM c.toNat == 7)=(c == 34):=by
 have:=b5 (p:=fun c=>(cM c.toNat == 7) == (c == 34)) (by decide +kernel) c
 simpa using this
theorem Q9 (c:UInt8):(cM c.toNat == 8)=d7 c.toNat:=by
 have:=b5 (p:=fun c=>(cM c.toNat == 8) == d7 c.toNat) (by decide +kernel) c
 simpa using this
theorem WK (c:UInt8):(cM c.toNat == -1)=false:=by
 have:=b5 (p:=fun c=>(cM c.toNat == -1) == false) (by decide +kernel) c
 simpa using this
def IC:W.Spec:=pZ (fun _ _ e t=>e=0/\t=0) fun s a _ _ K=>FF s (bL (bl s) a.toNat) K (dM (bl s) (bL (bl s) a.toNat))
attribute [go_sem ↓] IC
theorem V3:Meets Tryz.prog 58 IC:=by
 refine aG Tryz.func58 aAJ 1 (by rw [Tryz.ntmps58]; decide)
  (aA WU (aA zH (aA WA (aA PO (aA WV (aA zU (aB _))))))) tF ?_
 intro xs H K h
 obtain ⟨s,a,e,t,rfl,rfl,h0,h1,h2,⟨rfl,rfl⟩,hK⟩:=j6 h
 generalize hp:bL (bl s) a.toNat=p at hK
 have hpl:p<=(bl s).length:=by rw [<-hp]; exact n8 (by omega)
 have hfin:∀ {k x n y z e t} {B2:B},W6 (dM (bl s) p) p k x n y z e t->W.Fin 1 K (.va (.gs (lQ k x n y))) [iJ s z e t,B2]:=fun h=>.sel [0] (by simp) (by simp) rfl (.done (hK _ _ _ _ _ _ _ h))
 have ht:dM (bl s) p=match (bl s)[p]? with
  | none=>.ok 0 [] 0 p
  | some c=>bif cM c.toNat == 3 then gY (bl s) p else bif cM c.toNat == 4 || cM c.toNat == 5 then iU (bl s) p else bif cM c.toNat == 7 then gJ (bl s) p
   else bif cM c.toNat == 8 then .ok 4 [c] 0 (p + 1) else .bad 2 p:=by
  unfold dM
  cases (bl s)[p]? with
  | none=>rfl
  | some c=>simp only [T7,LX,SC,Q9]
 rw [ht] at hfin
 simp -dsimp only [go_sem,RT,RE,hp] at ⊢
 cases hc:(bl s)[p]? with
 | none=>
  rw [hc] at hfin
  have hk:cD (bl s) p=-1:=by rw [cD,hc]
  simp only [hk]
  refine ⟨⟨h0,h1,h2⟩,⟨by omega,by omega,h2⟩,fun _=>hfin ⟨rfl,rfl,rfl,rfl,rfl,rfl,rfl⟩,fun h=>by simp at h⟩
 | some c=>
  rw [hc] at hfin
  have hplt:p < (bl s).length:=(aY.1 hc).1
  have hk:cD (bl s) p=cM c.toNat:=by rw [cD,hc]
  have hd:(List.take (p + 1) (bl s)).drop p=[c]:=by
   rw [List.drop_take,d8 hc]; simp
  simp only [hk,WK]
  have q45:=LX c
  have q7:=SC c
  have hi1:((p:Int) + 1 - 1)=p:=by omega
  have hi2:((p:Int) + 1).toNat=p + 1:=by omega
  rw [hi1,hi2]
  refine ⟨⟨h0,h1,h2⟩,⟨by omega,by omega,h2⟩,fun h=>by simp at h,fun _=>?_⟩
  simp only [Int.toNat_natCast,hd]
  repeat' (first | apply And.intro | intro)
  all_goals first
   | omega
   | (refine hfin ?_; simp_all; done)
   | (exact ⟨c,rfl,by simp_all⟩)
   | (simp_all; done)
   | skip
  · rename_i g3 g4 g5 g7 g8
    refine hfin ?_
    simp only [g3,g4,g5,g7,g8,aN,aH,Bool.or_self]
    exact ⟨rfl,rfl,rfl,rfl,by simp,rfl,rfl⟩
  · rename_i g3 g4 g5 g7 g8
    refine hfin ?_
    simp only [g3,g4,g5,g7,g8,aH,Bool.or_self]
    exact ⟨rfl,rfl,p,rfl⟩
structure Tk where
 k:Int
 x:List UInt8
 n:Int
 a:Nat
abbrev gV (t:Tk):List C:=lQ t.k (mk t.x) t.n t.a
inductive SR where
 | ok (l:List Tk)
 | bad (e t:Int)
def SR.cons (t:Tk):SR->SR
 | .ok l=>.ok (t :: l)
 | .bad e t=>.bad e t
def SR.app (acc:List Tk):SR->SR
 | .ok l=>.ok (acc ++ l)
 | .bad e t=>.bad e t
theorem SR.app_cons (acc:List Tk) (t:Tk) (r:SR):SR.app acc (SR.cons t r)=SR.app (acc ++ [t]) r:=by cases r<;>simp [SR.app,SR.cons]
def dZ:Nat->List UInt8->Nat->SR
 | 0,_,_=>.ok []
 | f + 1,l,a=>match dM l (bL l a) with
  | .bad e t=>.bad e t
  | .ok k x n z=>bif k == 0 then .ok [⟨k,x,n,bL l a⟩] else SR.cons ⟨k,x,n,bL l a⟩ (dZ f l z)
def aL (l:List UInt8):SR:=bif decide (4000 < l.length) then .bad 3 0 else dZ (l.length + 1) l 0
def SR.toks:SR->List Tk
 | .ok l=>l
 | .bad _ _=>[]
def SR.err:SR->Int
 | .ok _=>0
 | .bad e _=>e
def SR.off:SR->Int
 | .ok _=>0
 | .bad _ t=>t
theorem F2 {l:List UInt8} {a:Nat} {c:UInt8} (hc:l[a]? = some c) (hd:bC c=true\/c=45):(∀ {e t},iU l a=.bad e t->e ≠ 0)/\∀ {k x n z},iU l a=.ok k x n z->k ≠ 0/\a < z/\z<=l.length:=by
 have hlt:a < l.length:=(aY.1 hc).1
 have hne:(l[a]? == some 45)=(c == 45):=by rw [hc]; rfl
 have hge:(bif c == 45 then a + 1 else a)<=l.length:=by cases (c == 45)<;>simp<;>omega
 have hz2:=rG (p:=bC) hge
 have hz:∀ {p:UInt8->Bool} {f:Nat},f<=bP p l f:=fun {p f}=>xI
 have hz1:a < bP bC l (bif c == 45 then a + 1 else a):=by
  rcases hd with hd | hd
  · have h45:(c == 45)=false:=by
     have:=b5 (p:=fun c=>!(bC c) || !(c == 45)) (by decide +kernel) c
     simpa [hd] using this
    simp only [h45,aH]
    rw [<-j0 hc hd]
    exact Nat.lt_of_lt_of_le (Nat.lt_succ_self a) hz
  · subst hd
    simp only [beq_self_eq_true,aN]
    exact Nat.lt_of_lt_of_le (Nat.lt_succ_self a) hz
 constructor
 · intro e t h
   unfold iU at h
   simp only at h
   revert h
   cases (List.drop (bif l[a]? == some 45 then a + 1 else a) (List.take (bP bC l (bif l[a]? == some 45 then a + 1 else a)) l) == [] || ((List.drop (bif l[a]? == some 45 then a + 1 else a) (List.take (bP bC l (bif l[a]? == some 45 then a + 1 else a)) l))[0]? == some 48 && (decide (1 < (List.drop (bif l[a]? == some 45 then a + 1 else a) (List.take (bP bC l (bif l[a]? == some 45 then a + 1 else a)) l)).length) || l[a]? == some 45))) with
   | true=>intro h; simp only [aN,R.bad.injEq] at h; omega
   | false=>
    simp only [aH]
    split
    · intro h; simp only [R.bad.injEq] at h; omega
    · cases nM l (bP bC l (bif l[a]? == some 45 then a + 1 else a))<;>simp only [aN,aH,R.bad.injEq,reduceCtorEq,false_implies]; intro h; omega
 · intro k x n z h
   unfold iU at h
   simp only at h
   rw [hne] at h
   revert h
   generalize (List.drop (bif c == 45 then a + 1 else a) (List.take (bP bC l (bif c == 45 then a + 1 else a)) l))=q
   cases (q == [] || (q[0]? == some 48 && (decide (1 < q.length) || c == 45))) with
   | true=>intro h; simp only [aN,reduceCtorEq] at h
   | false=>
    simp only [aH]
    split
    · intro h; cases h
    · cases nM l (bP bC l (bif c == 45 then a + 1 else a))<;>simp only [aN,aH,R.ok.injEq,reduceCtorEq,false_implies]
      rintro ⟨rfl,rfl,rfl,rfl⟩
      exact ⟨by decide,hz1,hz2⟩
theorem C6 {l:List UInt8} {a:Nat} {c:UInt8} (hc:l[a]? = some c) (hd:cO c.toNat=true):(∀ {e t},gY l a=.bad e t->e ≠ 0)/\∀ {k x n z},gY l a=.ok k x n z->k ≠ 0/\a < z/\z<=l.length:=by
 have hlt:a < l.length:=(aY.1 hc).1
 have hz2:=rG (p:=bG) (Nat.le_of_lt hlt)
 have hw:bG c=true:=by simp [bG,G9,hd]
 have hz1:a < bP bG l a:=by
  rw [<-j0 hc hw]
  exact Nat.lt_of_lt_of_le (Nat.lt_succ_self a) xI
 unfold gY
 simp only
 cases decide (16 < bP bG l a - a)<;>cases (l[bP bG l a]? == some 45)<;>simp only [aN,aH]
 all_goals refine ⟨fun {e t} h=>?_,fun {k x n z} h=>?_⟩
 all_goals simp only [R.bad.injEq,R.ok.injEq,reduceCtorEq] at h
 all_goals first | omega | (obtain ⟨rfl,rfl,rfl,rfl⟩:=h; exact ⟨by decide,hz1,hz2⟩)
theorem DA {l:List UInt8} {a:Nat} (hc:l[a]? = some 34):(∀ {e t},gJ l a=.bad e t->e ≠ 0)/\∀ {k x n z},gJ l a=.ok k x n z->k ≠ 0/\a < z/\z<=l.length:=by
 have hlt:a < l.length:=(aY.1 hc).1
 have key:∀ (m:Nat) (r:List UInt8) (i:Nat) (out:List UInt8) (z:Nat) (o:List UInt8),r.length=m->quoL i r out=(z,some o)->i < z/\z<=i + r.length:=by
  intro m
  induction m using Nat.strongRecOn with
  | ind m ih=>
   intro r i out z o hm h
   cases r with
   | nil=>rw [n7] at h; cases h
   | cons c r=>
    rw [fC] at h
    simp only [List.length_cons] at hm
    revert h
    cases (decide (c < 32) || decide (126 < c)) with
    | true=>intro h; cases h
    | false=>
     cases (c == 34) with
     | true=>intro h; simp only [aH,aN,Prod.mk.injEq] at h; simp; omega
     | false=>
      cases (c == 92) with
      | true=>
       simp only [aH,aN]
       cases r with
       | nil=>intro h; cases h
       | cons d r'=>
        simp only
        cases (d == 34 || d == 92) with
        | true=>intro h; have:=ih r'.length (by simp at hm; omega) r' _ _ _ _ rfl h; simp; omega
        | false=>intro h; cases h
      | false=>
       simp only [aH]
       intro h; have:=ih r.length (by omega) r _ _ _ _ rfl h; simp; omega
 unfold gJ
 split
 · constructor
   · intro e t h; simp only [R.bad.injEq] at h; omega
   · intro k x n z h; cases h
 · rename_i z o hq
   have:=key _ _ _ _ _ _ rfl hq
   simp only [List.length_drop] at this
   cases decide (200 < o.length)<;>simp [R.bad.injEq,R.ok.injEq]
   all_goals (intros; omega)
theorem tU {l:List UInt8} {p:Nat} (hp:p<=l.length):(∀ {e t},dM l p=.bad e t->e ≠ 0)/\∀ {k x n z},dM l p=.ok k x n z->(k=0->p=l.length)/\(k ≠ 0->p < z/\z<=l.length):=by
 unfold dM
 cases hc:l[p]? with
 | none=>
  have:l.length<=p:=List.getElem?_eq_none_iff.1 hc
  simp only [R.ok.injEq,reduceCtorEq,false_implies,implies_true,true_and]
  rintro k x n z ⟨rfl,rfl,rfl,rfl⟩
  exact ⟨fun _=>by omega,fun h=>absurd rfl h⟩
 | some c=>
  have hlt:p < l.length:=(aY.1 hc).1
  simp only
  cases h1:cO c.toNat with
  | true=>
   simp only [aN]
   obtain ⟨q1,q2⟩:=C6 hc h1
   exact ⟨q1,fun h=>⟨fun e=>absurd e (q2 h).1,fun _=>(q2 h).2⟩⟩
  | false=>
   simp only [aH]
   cases h2:(bC c || c == 45) with
   | true=>
    simp only [aN]
    obtain ⟨q1,q2⟩:=F2 hc (by simpa using h2)
    exact ⟨q1,fun h=>⟨fun e=>absurd e (q2 h).1,fun _=>(q2 h).2⟩⟩
   | false=>
    simp only [aH]
    cases h3:(c == 34) with
    | true=>
     simp only [aN]
     have:c=34:=by simpa using h3
     subst this
     obtain ⟨q1,q2⟩:=DA hc
     exact ⟨q1,fun h=>⟨fun e=>absurd e (q2 h).1,fun _=>(q2 h).2⟩⟩
    | false=>
     simp only [aH]
     cases d7 c.toNat with
     | true=>
      simp only [aN,R.ok.injEq,reduceCtorEq,false_implies,implies_true,true_and]
      rintro k x n z ⟨rfl,rfl,rfl,rfl⟩
      exact ⟨fun e=>by omega,fun _=>by omega⟩
     | false=>
      simp only [aH,R.bad.injEq,reduceCtorEq,false_implies,implies_true,and_true]
      rintro e t ⟨rfl,rfl⟩
      decide
theorem AY {l:List UInt8} {a:Nat}:a<=bL l a:=by unfold bL; omega
def lO:W.Spec:=fun xs H K=>
 match xs,H with
 | [.va (.c1 (.vl (.string s)))],[]=>K (.tu [.c1 (.fz ((aL (bl s)).toks.map gV)),iA .i64 (aL (bl s)).err,iA .i64 (aL (bl s)).off]) []
 | _,_=>False
theorem sA {xs:List S} {H:Hp} {K:S->Hp->Prop} (h:lO xs H K):∃ s,xs=[tS s]/\H=[]/\K (.tu [.c1 (.fz ((aL (bl s)).toks.map gV)),iA .i64 (aL (bl s)).err,iA .i64 (aL (bl s)).off]) []:=by
 unfold lO at h
 split at h
 · exact ⟨_,rfl,rfl,h⟩
 · exact h.elim
attribute [go_sem ↓] lO
theorem M7:Meets Tryz.prog 22 lO:=by
 refine aG Tryz.func22 X7 1 (by rw [Tryz.ntmps22]; decide) (aA V3 (aB _)) (fun xs H K h=>by obtain ⟨s,rfl,_⟩:=sA h; rfl) ?_
 intro xs H K h
 obtain ⟨s,rfl,rfl,hK⟩:=sA h
 simp -dsimp only [go_sem,TI,RN] at hK ⊢
 refine ⟨fun h1=>?_,fun h1=>?_⟩
 · have h2:decide (4000 < (bl s).length)=true:=by simp at h1 ⊢; omega
   simp only [aL,h2,aN,SR.toks,SR.err,SR.off] at hK
   exact .done hK
 have h2:decide (4000 < (bl s).length)=false:=by simp at h1 ⊢; omega
 have hlen:(bl s).length<=4000:=by simpa using h2
 refine cI (α:=Nat × Nat × List Tk) (fun z=>[(5,.va (.c1 (.pt 0 0))),(6,.va (.c1 (.sl 1 z.2.2.length)))]) (fun z=>[iJ s z.2.1 0 0,.row (z.2.2.map gV) 74 4])
  (fun z=>(bl s).length < z.1 + z.2.1/\z.2.1<=(bl s).length/\z.2.2.length<=z.2.1/\SR.app z.2.2 (dZ z.1 (bl s) z.2.1)=aL (bl s)) (fun z=>z.1)
  (.nil 6 74 4 ?_ (gZ ((bl s).length + 1,0,[]) 2 ⟨by simp only; omega,by simp,by simp,?_⟩ ?_ ?_)) ?_
 · simp -dsimp only [go_sem]; rfl
 · simp only [aL,h2,aH]
   cases dZ ((bl s).length + 1) (bl s) 0<;>rfl
 · simp -dsimp only [go_sem]
 · simp -dsimp only [go_sem]; rfl
 rintro ⟨f,a,acc⟩ ⟨hf,ha,hac,hr⟩
 simp only at hf ha hac hr
 simp -dsimp only [go_sem]
 have hpl:bL (bl s) a<=(bl s).length:=n8 ha
 have hpa:a<=bL (bl s) a:=AY
 obtain ⟨hb,ho⟩:=tU hpl
 obtain ⟨f,rfl⟩:∃ g,f=g + 1:=⟨f - 1,by omega⟩
 rw [dZ] at hr
 refine ⟨⟨by omega,by omega,hlen⟩,fun k x n y z e t ht=>?_⟩
 cases hR:dM (bl s) (bL (bl s) a) with
 | bad e' t'=>
  rw [hR] at ht hr
  obtain ⟨rfl,rfl,z,rfl⟩:=ht
  have he:=hb hR
  simp only [SR.app] at hr
  rw [<-hr] at hK
  simp only [SR.toks,SR.err,SR.off] at hK
  refine ⟨fun h3=>.z (?_),fun h3=>absurd h3 (by simpa using he)⟩
  simpa [go_sem] using hK
 | ok k' x' n' z'=>
  rw [hR] at ht hr
  obtain ⟨rfl,rfl,rfl,rfl,rfl,rfl,rfl⟩:=ht
  obtain ⟨o1,o2⟩:=ho hR
  refine ⟨fun h3=>absurd h3 (by simp),fun _=>⟨by omega,fun h3=>?_,fun h3=>?_⟩⟩
  · simp only [h3,aN,SR.app] at hr
    rw [<-hr] at hK
    simp only [SR.toks,SR.err,SR.off,List.map_append,List.map_cons,List.map_nil] at hK
    refine .pub 1 _ _ _ rfl (.sel [] (by simp) (by simp [dO]) rfl (.done ?_))
    simpa [go_sem] using hK
  · simp only [h3,aH,SR.app_cons] at hr
    obtain ⟨o3,o4⟩:=o2 (by simpa using h3)
    refine aD (f,z',acc ++ [⟨k,x',n,bL (bl s) a⟩]) 2 ⟨by simp only; omega,o4,by simp; omega,hr⟩ (by simp only; omega) ?_ ?_
    · simp -dsimp only [go_sem]
    · simp -dsimp only [go_sem]
def bU (l:List UInt8):Bool:=match l with
 | []=>false
 | c :: _=>decide (l.length<=16) && cO c.toNat && l.all bG
def vU:List S->Prop:=fun xs=>match xs with
 | [.va (.c1 (.vl (.string _)))]=>True
 | _=>False
theorem jQ {xs:List S} (h:vU xs):∃ s,xs=[tS s]:=by
 unfold vU at h
 split at h
 · exact ⟨_,rfl⟩
 · exact h.elim
def HJ (f:List UInt8->Value):List S->A:=fun xs=>match xs with
 | [.va (.c1 (.vl (.string s)))]=>.c1 (.vl (f (bl s)))
 | _=>.gs []
def zC (f:List UInt8->Value):Fun:=⟨vU,HJ f,fun xs h=>by obtain ⟨s,rfl⟩:=jQ h; trivial⟩
theorem yT {f:List UInt8->Value}:∀ xs H K,(zC f).sp xs H K->xs.length=1:=fun xs H K h=>by obtain ⟨s,rfl⟩:=jQ h.1.1; rfl
attribute [go_sem] zC vU HJ
theorem yI {l:List UInt8} (h:16 < l.length):bU l=false:=by
 cases l with
 | nil=>rfl
 | cons c l=>
  simp only [bU]
  have:decide ((c :: l).length<=16)=false:=by simp at h ⊢; omega
  rw [this]; rfl
theorem FQ {l:List UInt8} {c:UInt8} (h:l[0]? = some c) (hc:cO c.toNat=false):bU l=false:=by
 cases l with
 | nil=>rfl
 | cons d l=>simp at h; subst h; simp [bU,hc]
theorem O8 {l:List UInt8} {i:Nat} {c:UInt8} (h:l[i]? = some c) (hc:bG c=false):bU l=false:=by
 cases l with
 | nil=>rfl
 | cons d l=>
  have:(d :: l).all bG=false:=by rw [List.all_eq_false]; exact ⟨c,bH h,by simp [hc]⟩
  simp only [bU,this,Bool.and_false]
theorem JA {l:List UInt8} {c:UInt8} (h:l[0]? = some c) (hl:l.length<=16) (hc:cO c.toNat=true) (ha:∀ (j:Nat) (x:UInt8),l[j]? = some x->bG x=true):bU l=true:=by
 cases l with
 | nil=>simp at h
 | cons d l=>
  simp at h; subst h
  have h1:(d :: l).all bG=true:=by
   rw [List.all_eq_true]; intro x hx
   obtain ⟨j,hj⟩:=List.mem_iff_getElem?.1 hx
   exact ha j x hj
  simp only [bU,h1,hc,Bool.and_true,decide_eq_true_eq]; exact hl
theorem OE (c:UInt8):((cM c.toNat != 3) && (cM c.toNat != 4) && (cM c.toNat != 6))=!(bG c):=by
 rw [<-BL]; simp [bne,Bool.not_or]
theorem m4:Meets Tryz.prog 95 (zC fun l=>.bool (bU l)).sp:=by
 refine aG Tryz.func95 YH 1 (by rw [Tryz.ntmps95]; decide) (aK CJ (aB _)) yT ?_
 rintro xs H K ⟨⟨h,rfl⟩,hK⟩
 obtain ⟨s,rfl⟩:=jQ h
 have hn:∀ c:UInt8,(cM c.toNat != 3)=!(cO c.toNat):=fun c=>by rw [bne,T7]
 simp -dsimp only [go_sem,P0,S6,hn] at hK ⊢
 generalize hg:(bl s == [] || decide (16 < ((bl s).length:Int)))=g
 have hg1:g=false->0 < (bl s).length/\(bl s).length<=16:=fun h=>by
  subst hg; simp at h
  exact ⟨List.length_pos_iff.2 h.1,by omega⟩
 have hg2:g=true->bU (bl s)=false:=fun h=>by
  subst hg; simp at h
  rcases h with h | h
  · rw [h]; rfl
  · exact yI (by omega)
 refine ⟨fun h=>⟨by omega,by have:=hg1 h; omega⟩,fun c hc=>⟨fun h=>?_,fun h=>?_,fun h=>?_⟩⟩
 · have:=c.toNat_lt; omega
 · refine dT hK ?_
   cases g with
   | true=>rw [hg2 rfl]
   | false=>simp at h; rw [FQ (hc rfl) h]
 simp at h
 obtain ⟨rfl,h3⟩:=h
 have hc:=hc rfl
 obtain ⟨hl0,hl⟩:=hg1 rfl
 refine a6 (α:=Nat) (fun i=>[(0,tS s),(19,iS .i64 (bl s).length),(20,iS .i64 i)]) (fun i=>[]) (fun i=>i<=(bl s).length/\∀ (j:Nat) (x:UInt8),j < i->(bl s)[j]? = some x->bG x=true) (fun i=>(bl s).length - i) 0 0 ⟨by omega,by omega⟩ ?_ ?_ ?_
 · simp -dsimp only [go_sem]; simp
 · simp [go_sem]
 rintro i ⟨hi,ha⟩
 simp -dsimp only [go_sem,OE]
 have hlt:(bl s).length < 2^64:=by omega
 refine ⟨fun h1=>⟨⟨by omega,by simpa using h1⟩,fun d hd=>⟨by have:=d.toNat_lt; omega,fun h2=>?_,fun h2=>⟨by omega,?_⟩⟩⟩,fun h1=>?_⟩
 · refine dT hK ?_
   rw [O8 hd h2]
 · refine aD (i + 1) 0 ⟨by have:=(aY.1 hd).1; omega,fun j x hj hx=>?_⟩ (by have:=(aY.1 hd).1; omega) ?_ ?_
   · rcases bQ j i with h4 | h4
     · exact ha j x h4 hx
     · obtain rfl:j=i:=by omega
       rw [hd] at hx; obtain rfl:=aZ hx
       simpa [bG] using h2
   · simp -dsimp only [go_sem]; simp
   · simp [go_sem]
 · refine dT hK ?_
   have:i=(bl s).length:=by simp at h1; omega
   subst this
   rw [JA hc hl h3 fun j x hx=>ha j x (aY.1 hx).1 hx]
def qTrue:Fun:=⟨fun xs=>xs=[],fun _=>bA true,fun xs h=>trivial⟩
theorem H0:∀ xs H K,qTrue.sp xs H K->xs.length=0:=fun xs H K h=>by rw [show xs=[] from h.1.1]; rfl
attribute [go_sem] qTrue
theorem NK (l:List UInt8):bl (mk l)=l:=by simp [bl,mk]
end Go.Proofs.YtgogpogophflhaaGreatDoor
namespace Go.W
section
variable {P:Program} {f:FuncId} {s:Spec}
def pubB (n:Nat) (s:Spec):Spec:=fun ar H K=>match H[n]? with
 | some (.row xs _ _)=>s (ar.map (S.pub n xs)) (dO n xs H) K
 | _=>False
def dropB (s:Spec):Spec:=fun ar H K=>s (ar.map fun a=>a.nf.ren (loc [])) [] fun r H'=>K (r.ren (back [] H.length)) (lX [] H (H'.map (B.ren (back [] H.length))))
theorem Rel.rebase {X:Ctx} {E:Es} {ro:RO} {w:World} (h:Rel X E ro w):Rel ⟨w,cQ E,ro,gm E⟩ E ro w:=
 ⟨h.own,h.inj,h.apart,h.rd,Ext.refl _,fun _ _ _ h=>.inl h,fun n b g blk hn en hl=>.inr (dS.2 ⟨n,g,blk,hn,en,hl⟩),.refl _,Nat.le_refl _,fun _ _ _=>rfl,rfl,rfl,rfl⟩
theorem Rel.over {X:Ctx} {E E':Es} {ro ro':RO} {w w':World} (h:Rel X E ro w) (k:Rel ⟨w,cQ E,ro,gm E⟩ E' ro' w'):Rel X E' ro' w' where
 own:=k.own
 inj:=k.inj
 apart:=k.apart
 rd:=k.rd
 ro0:=h.ro0.trans k.ro0
 rob:=fun b off v hc=>by
  rcases k.rob b off v hc with q | ⟨q | q,q'⟩
  · rcases h.rob b off v q with r | ⟨r,r'⟩
    · exact .inl r
    · exact .inr ⟨r,by rw [(k.ro0 b off v q).2]; exact r'⟩
  · simp only at q; have:=h.sz; exact .inr ⟨.inl (by omega),q'⟩
  · obtain ⟨n,g,blk,hE,hgb,hl⟩:=dS.1 q
    exact .inr ⟨h.par n b g blk hE hgb hl,q'⟩
 par:=fun n b g blk hn en hl=>by
  rcases k.par n b g blk hn en hl with q | q
  · simp only at q; have:=h.sz; exact .inl (by omega)
  · obtain ⟨n',g',blk',hE,hgb,hl'⟩:=dS.1 q
    exact h.par n' b g' blk' hE hgb hl'
 gx:=h.gx.trans k.gx
 sz:=Nat.le_trans h.sz k.sz
 keep:=fun b hb hp=>by
  rw [k.keep b (by have:=h.sz; simp only; omega) (fun hb'=>?_)]
  · exact h.keep b hb hp
  · obtain ⟨n,g,blk,hE,hgb,hl⟩:=dS.1 hb'
    rcases h.par n b g blk hE hgb hl with q | q
    · omega
    · exact hp q
 os:=k.os.trans h.os
 tape:=k.tape.trans h.tape
 output:=k.output.trans h.output
theorem Meets.pubB (h:Meets P f s) (n:Nat):Meets P f (pubB n s):=by
 refine ⟨h.1,fun ar vs E ro w K hl hrel hr hs hG=>?_⟩
 unfold W.pubB at hs
 split at hs
 · rename_i xs T sz hn
   obtain ⟨g,hE⟩:∃ g,E[n]? = some (g,.row xs T sz):=by
    simp only [hp,List.getElem?_map] at hn
    cases hE:E[n]? with
    | none=>rw [hE] at hn; cases hn
    | some y=>rw [hE] at hn; simp at hn; exact ⟨y.1,by rw [<-hn]⟩
   obtain ⟨ro',hext,hfz,hglen,hr'⟩:=hr.pubR hE
   have hcall:=h.2 (ar.map (S.pub n xs)) vs (bJ (B.pub n xs) (E.set n (g,.dead))) ro' w K (by simpa using hl) (fun i x v hx hv=>by
    rw [List.getElem?_map] at hx
    cases hi:ar[i]? with
    | none=>rw [hi] at hx; cases hx
    | some y=>
     rw [hi] at hx
     simp only [Option.map_some,aC] at hx
     subst hx
     rw [d6,dC hE]
     exact S.rel_pub hext (bV hE) hglen hfz (hrel i y v hi hv)) hr'.rebase (by rw [eW,hp_kill]; exact hs) (hG.mono hext)
   refine hcall.mono ?_
   rintro e w' ⟨r,v,E',ro2,rfl,hrv,hR,hrel'⟩
   exact ⟨r,v,E',ro2,rfl,hrv,hR,hr'.over hrel'⟩
 · exact hs.elim
theorem Meets.dropB (h:Meets P f s):Meets P f (dropB s):=by
 refine ⟨h.1,fun ar vs E ro w K hl hrel hr hs hG=>?_⟩
 unfold W.dropB at hs
 have hnd:([]:List Nat).Nodup:=.nil
 have hlt:∀ n ∈ ([]:List Nat),n < E.length:=fun n hn=>by cases hn
 have gxl:∀ (n m:Nat) (g:Gb),loc [] n=some m->(gm E)[n]? = some g->(gm (bJ (B.ren (loc [])) (cR E [])))[m]? = some g:=fun n m g h1 h2=>by rw [d6]; exact qH n m g h1 h2
 have hloc:Rel ⟨w,cQ (bJ (B.ren (loc [])) (cR E [])),ro,gm (bJ (B.ren (loc [])) (cR E []))⟩ (bJ (B.ren (loc [])) (cR E [])) ro w:=by
  have h0:Rel ⟨w,cQ E,ro,[]⟩ E ro w:=⟨hr.own,hr.inj,hr.apart,hr.rd,Ext.refl _,fun _ _ _ h=>.inl h,fun n b g blk hn en hl=>.inr (dS.2 ⟨n,g,blk,hn,en,hl⟩),fun n g hn=>by simp at hn,Nat.le_refl _,fun _ _ _=>rfl,rfl,rfl,rfl⟩
  exact (h0.sel hnd hlt (fun n g hn=>by simp at hn)).here
 have hcall:=h.2 (ar.map fun s=>s.nf.ren (loc [])) vs (bJ (B.ren (loc [])) (cR E [])) ro w _ (by simpa using hl) (fun i x v hx hv=>by
  rw [List.getElem?_map] at hx
  cases hi:ar[i]? with
  | none=>rw [hi] at hx; cases hx
  | some y=>
   rw [hi] at hx
   simp only [Option.map_some,aC] at hx
   subst hx
   exact S.rel_ren gxl (S.rel_nf (hrel i y v hi hv))) hloc (by rw [eW,rI]; exact hs) hG
 refine hcall.mono ?_
 rintro e w' ⟨r,v,E',ro',rfl,hrv,hR,hrel'⟩
 obtain ⟨q1,q2,q3⟩:=hr.back hnd hlt rfl hrel'
 refine ⟨_,v,_,ro',rfl,S.rel_ren q3 hrv,?_,q1⟩
 rw [tB,eW]
 rw [c8] at hR
 exact hR
def lend1 (s:Spec):Spec:=pubB 0 (dropB s)
theorem Meets.lend1 (h:Meets P f s):Meets P f (lend1 s):=h.dropB.pubB 0
def lend2 (s:Spec):Spec:=pubB 0 (pubB 1 (dropB s))
theorem Meets.lend2 (h:Meets P f s):Meets P f (lend2 s):=(h.dropB.pubB 1).pubB 0
attribute [go_sem ↓] pubB dropB lend1 lend2
end
end Go.W
namespace Go.Proofs.YtgogpogophflhaaGreatDoor
open Go.W
theorem QV {α:Type} {row:α->List C} {l:List α} {n:Nat} {c:α} (h:l[n]? = some c) (p:List C->Prop):(∀ r,(l.map row)[n]? = some r->p r)=p (row c):=by
 rw [List.getElem?_map,h]; simp
theorem a7 {α:Type} {row:α->List C} {l:List α} {n:Nat} {c:α} (h:l[n]? = some c) (p:List C->Prop):(∀ r,(l.map row)[((n:Nat):Int).toNat]? = some r->p r)=p (row c):=by
 rw [Int.toNat_natCast,List.getElem?_map,h]; simp
theorem fJ {α:Type} {row:α->List C} {n:Nat} (h:∀ a,(row a).length=n) (l:List α):(∀ r:List C,r ∈ l.map row->r.length=n)=True:=eq_true fun r hr=>by obtain ⟨x,_,rfl⟩:=List.mem_map.1 hr; exact h x
inductive Ty where
 | mk (k s:Int) (n:ByteArray) (e:List Ty)
instance:Inhabited Ty:=⟨.mk 0 0 ByteArray.empty []⟩
def Ty.k:Ty->Int | .mk k _ _ _=>k
def Ty.s:Ty->Int | .mk _ s _ _=>s
def Ty.n:Ty->ByteArray | .mk _ _ n _=>n
def Ty.e:Ty->List Ty | .mk _ _ _ e=>e
mutual
def aX:Ty->List C
 | .mk k s n e=>[.vl (.int .i64 k),.vl (.int .i64 s),.vl (.string n),.fz (kB e)]
def kB:List Ty->List (List C)
 | []=>[]
 | t :: r=>aX t :: kB r
end
theorem bN:∀ l:List Ty,kB l=l.map aX
 | []=>rfl
 | t :: r=>by rw [kB,bN r]; rfl
theorem bO (t:Ty):aX t=[.vl (.int .i64 t.k),.vl (.int .i64 t.s),.vl (.string t.n),.fz (t.e.map aX)]:=by
 cases t with
 | mk k s n e=>rw [aX,bN]; rfl
mutual
theorem qY:∀ {a b:Ty},aX a=aX b->a=b
 | .mk k s n e,.mk k' s' n' e',h=>by
  rw [aX,aX] at h
  simp only [List.cons.injEq,C.vl.injEq,Value.int.injEq,Value.string.injEq,C.fz.injEq,true_and,and_true] at h
  obtain ⟨rfl,rfl,rfl,h4⟩:=h
  rw [CU h4]
theorem CU:∀ {a b:List Ty},kB a=kB b->a=b
 | [],[],_=>rfl
 | [],_ :: _,h=>by rw [kB,kB] at h; cases h
 | _ :: _,[],h=>by rw [kB,kB] at h; cases h
 | x :: a,y :: b,h=>by
  rw [kB,kB] at h
  obtain ⟨h1,h2⟩:=List.cons.inj h
  rw [qY h1,CU h2]
end
mutual
def Ty.h:Ty->Nat
 | .mk _ _ _ e=>Ty.hs e + 1
def Ty.hs:List Ty->Nat
 | []=>0
 | t :: r=>max t.h (Ty.hs r)
end
theorem Ty.hs_mem:∀ {l:List Ty} {t:Ty},t ∈ l->t.h<=Ty.hs l
 | x :: l,t,h=>by
  rw [Ty.hs]
  rcases List.mem_cons.1 h with rfl | h
  · omega
  · have:=Ty.hs_mem h; omega
structure Fl where
 num:Int
 nm:ByteArray
 ty:Ty
 opt:Bool
instance:Inhabited Fl:=⟨⟨0,ByteArray.empty,default,false⟩⟩
def bI (f:Fl):List C:=[.vl (.int .i64 f.num),.vl (.string f.nm),.vl (.int .i64 f.ty.k),.vl (.int .i64 f.ty.s),.vl (.string f.ty.n),.fz (f.ty.e.map aX),.vl (.bool f.opt)]
structure St where
 nm:ByteArray
 fs:List Fl
instance:Inhabited St:=⟨⟨ByteArray.empty,[]⟩⟩
def aO (s:St):List C:=[.vl (.string s.nm),.fz (s.fs.map bI)]
abbrev gM (n:Int):List C:=[.vl (.int .i64 n)]
abbrev cC (b:ByteArray):List C:=[.vl (.string b)]
structure En where
 nm:ByteArray
 ns:List ByteArray
 vs:List Int
instance:Inhabited En:=⟨⟨ByteArray.empty,[],[]⟩⟩
def aQ (e:En):List C:=[.vl (.string e.nm),.fz (e.ns.map cC),.fz (e.vs.map gM)]
structure Sc where
 ver:Int
 es:List En
 ss:List St
instance:Inhabited Sc:=⟨⟨0,[],[]⟩⟩
def aM (s:Sc):List C:=[.vl (.int .i64 s.ver),.fz (s.es.map aQ),.fz (s.ss.map aO)]
theorem kW {α β:Type} {f:α->β} (hf:∀ {a b},f a=f b->a=b):∀ {l m:List α},l.map f=m.map f->l=m
 | [],[],_=>rfl
 | [],_ :: _,h=>by cases h
 | _ :: _,[],h=>by cases h
 | x :: l,y :: m,h=>by
  simp only [List.map_cons,List.cons.injEq] at h
  rw [hf h.1,kW hf h.2]
theorem wX {a b:Int} (h:gM a=gM b):a=b:=by simpa using h
theorem wW {a b:ByteArray} (h:cC a=cC b):a=b:=by simpa using h
theorem w9 {a b:Fl} (h:bI a=bI b):a=b:=by
 obtain ⟨a1,a2,a3,a4⟩:=a
 obtain ⟨b1,b2,b3,b4⟩:=b
 simp only [bI,List.cons.injEq,C.vl.injEq,Value.int.injEq,Value.string.injEq,Value.bool.injEq,C.fz.injEq,true_and,and_true] at h
 obtain ⟨rfl,rfl,h3,h4,h5,h6,rfl⟩:=h
 have:a3=b3:=qY (by rw [bO,bO,h3,h4,h5,h6])
 rw [this]
theorem w7 {a b:St} (h:aO a=aO b):a=b:=by
 obtain ⟨a1,a2⟩:=a
 obtain ⟨b1,b2⟩:=b
 simp only [aO,List.cons.injEq,C.vl.injEq,Value.string.injEq,C.fz.injEq,and_true] at h
 obtain ⟨rfl,h2⟩:=h
 rw [kW w9 h2]
theorem w8 {a b:En} (h:aQ a=aQ b):a=b:=by
 obtain ⟨a1,a2,a3⟩:=a
 obtain ⟨b1,b2,b3⟩:=b
 simp only [aQ,List.cons.injEq,C.vl.injEq,Value.string.injEq,C.fz.injEq,and_true] at h
 obtain ⟨rfl,h2,h3⟩:=h
 rw [kW wW h2,kW wX h3]
theorem OL {a b:Sc} (h:aM a=aM b):a=b:=by
 obtain ⟨a1,a2,a3⟩:=a
 obtain ⟨b1,b2,b3⟩:=b
 simp only [aM,List.cons.injEq,C.vl.injEq,Value.int.injEq,C.fz.injEq,true_and,and_true] at h
 obtain ⟨rfl,h2,h3⟩:=h
 rw [kW w8 h2,kW w7 h3]
noncomputable def rL {α β:Type} [Inhabited α] (f:α->β) (b:β):α:=Classical.epsilon fun a=>f a=b
theorem j8 {α β:Type} [Inhabited α] {f:α->β} (hf:∀ {a b},f a=f b->a=b) (a:α):rL f (f a)=a:=hf (Classical.epsilon_spec (p:=fun x=>f x=f a) ⟨a,rfl⟩)
theorem kV {α β:Type} [Inhabited α] {f:α->β} (hf:∀ {a b},f a=f b->a=b) (l:List α):(l.map f).map (rL f)=l:=by
 rw [List.map_map,show (rL f ∘ f)=id from funext fun a=>j8 hf a,List.map_id]
noncomputable def C.ty:=rL aX
noncomputable def C.fl:=rL bI
noncomputable def C.st:=rL aO
noncomputable def C.en:=rL aQ
noncomputable def C.sc:=rL aM
noncomputable def C.bs:=rL cC
noncomputable def C.it:=rL gM
@[go_sem] theorem pC (t:Ty):C.ty (aX t)=t:=j8 qY t
@[go_sem] theorem aCQ (t:Fl):C.fl (bI t)=t:=j8 w9 t
@[go_sem] theorem HI (t:St):C.st (aO t)=t:=j8 w7 t
@[go_sem] theorem BE (t:En):C.en (aQ t)=t:=j8 w8 t
@[go_sem] theorem m9 (t:Sc):C.sc (aM t)=t:=j8 OL t
@[go_sem] theorem aC0 (t:ByteArray):C.bs (cC t)=t:=j8 wW t
@[go_sem] theorem aEM (t:Int):C.it (gM t)=t:=j8 wX t
@[go_sem] theorem aDC (l:List Ty):(l.map aX).map C.ty=l:=kV qY l
@[go_sem] theorem aC5 (l:List Fl):(l.map bI).map C.fl=l:=kV w9 l
@[go_sem] theorem aDM (l:List St):(l.map aO).map C.st=l:=kV w7 l
@[go_sem] theorem aDJ (l:List En):(l.map aQ).map C.en=l:=kV w8 l
@[go_sem] theorem aEZ (l:List ByteArray):(l.map cC).map C.bs=l:=kV wW l
@[go_sem] theorem aDE (l:List Int):(l.map gM).map C.it=l:=kV wX l
theorem dP (t:Ty):(aX t).length=4:=by rw [bO]; rfl
theorem E6 (t:Fl):(bI t).length=7:=rfl
theorem OB (t:St):(aO t).length=2:=rfl
theorem PB (t:En):(aQ t).length=3:=rfl
theorem TV {a b:ByteArray} (h:bl a=bl b):a=b:=by rw [<-jT a,<-jT b,h]
theorem eX (a b:ByteArray):(bl a == bl b)=decide (a=b):=by
 rw [Bool.eq_iff_iff,beq_iff_eq,decide_eq_true_eq]
 exact ⟨TV,fun h=>by rw [h]⟩
def cH (n:Int):Prop:=-9223372036854775808<=n/\n<=9223372036854775807
inductive TyOk:Ty->Prop
 | mk {k s:Int} {n:ByteArray} {e:List Ty}:cH k->cH s->n.size<=9223372036854775807->e.length<=9223372036854775807->(∀ t ∈ e,TyOk t)->TyOk (.mk k s n e)
theorem TyOk.len {t:Ty} (h:TyOk t):t.e.length<=9223372036854775807:=by cases h; assumption
theorem TyOk.k {t:Ty} (h:TyOk t):cH t.k:=by cases h; assumption
theorem TyOk.s {t:Ty} (h:TyOk t):cH t.s:=by cases h; assumption
theorem TyOk.n {t:Ty} (h:TyOk t):t.n.size<=9223372036854775807:=by cases h; assumption
theorem TyOk.e {t:Ty} (h:TyOk t):∀ u ∈ t.e,TyOk u:=by cases h; assumption
structure Fl.ok (f:Fl):Prop where
 num:cH f.num
 nm:f.nm.size<=9223372036854775807
 ty:TyOk f.ty
structure St.ok (s:St):Prop where
 nm:s.nm.size<=9223372036854775807
 len:s.fs.length<=9223372036854775807
 fs:∀ f ∈ s.fs,f.ok
structure En.ok (e:En):Prop where
 nm:e.nm.size<=9223372036854775807
 ln:e.ns.length<=9223372036854775807
 lv:e.vs.length<=9223372036854775807
 ns:∀ n ∈ e.ns,n.size<=9223372036854775807
 vs:∀ n ∈ e.vs,cH n
structure Sc.ok (s:Sc):Prop where
 ver:cH s.ver
 le:s.es.length<=9223372036854775807
 ls:s.ss.length<=9223372036854775807
 es:∀ e ∈ s.es,e.ok
 ss:∀ t ∈ s.ss,t.ok
def iQ (r:List C):Prop:=∃ t,r=aX t/\TyOk t
def GT (r:List C):Prop:=∃ s:St,r=aO s/\s.ok
def tC (r:List C):Prop:=∃ e:En,r=aQ e/\e.ok
def sO (r:List C):Prop:=∃ s:Sc,r=aM s/\s.ok
theorem iG {t:Ty} (h:TyOk t):iQ (aX t):=⟨t,rfl,h⟩
theorem DL {t:St} (h:t.ok):GT (aO t):=⟨t,rfl,h⟩
theorem w4 {t:En} (h:t.ok):tC (aQ t):=⟨t,rfl,h⟩
theorem D3 {t:Sc} (h:t.ok):sO (aM t):=⟨t,rfl,h⟩
def FJ (p:List C->Prop):List S->Prop:=fun av=>match av with
 | [.va (.gs r)]=>p r
 | _=>False
theorem fG {p:List C->Prop} {av:List S} (h:FJ p av):∃ r,av=[.va (.gs r)]/\p r:=by
 unfold FJ at h
 split at h
 · exact ⟨_,rfl,h⟩
 · exact h.elim
def UE {α:Type} (d:List C->α) (f:α->A):List S->A:=fun av=>match av with
 | [.va (.gs r)]=>f (d r)
 | _=>.gs []
attribute [go_sem] FJ UE
def mC (l:List UInt8):Bool:=bU l && match l with | c :: _=>decide (65<=(c.toNat:Int)) && decide ((c.toNat:Int)<=90) | []=>false
theorem yF:Meets Tryz.prog 73 (zC fun l=>.bool (mC l)).sp:=by
 refine aG Tryz.func73 ZA 1 (by rw [Tryz.ntmps73]; decide) (aK m4 (aB _)) yT ?_
 rintro xs H K ⟨⟨h,rfl⟩,hK⟩
 obtain ⟨s,rfl⟩:=jQ h
 have hK':K (.va (.c1 (.vl (.bool (mC (bl s)))))) []:=hK
 clear hK h
 unfold mC at hK'
 cases hn:bU (bl s) with
 | false=>
  rw [hn] at hK'
  simp -dsimp only [go_sem,J7,LC,hn]
  exact .done hK'
 | true=>
  cases hl:bl s with
  | nil=>rw [hl] at hn; cases hn
  | cons c r=>
   rw [hl] at hn hK'
   rw [hn] at hK'
   simp -dsimp only [go_sem,J7,LC,hl,hn]
   refine ⟨by omega,fun d hd=>⟨fun _=>by omega,fun e he=>?_⟩⟩
   subst hd
   cases hc:decide (65<=(c.toNat:Int)) with
   | false=>simp only [hc,Bool.true_and,Bool.false_and] at hK'; exact .done hK'
   | true=>
    obtain rfl:=he hc
    simp only [hc,Bool.true_and] at hK'; exact .done hK'
def CK (rs:List (List C)):Prop:=∃ l:List ByteArray,rs=l.map cC/\l.length<=9223372036854775807
theorem wZ {l:List ByteArray} (h:l.length<=9223372036854775807):CK (l.map cC):=⟨l,rfl,h⟩
def zQ:List S->Prop:=fun av=>match av with
 | [.va (.c1 (.fz rs)),.va (.c1 (.vl (.string _)))]=>CK rs
 | _=>False
theorem kM {av:List S} (h:zQ av):∃ (l:List ByteArray) (x:ByteArray),av=[.va (.c1 (.fz (l.map cC))),tS x]/\l.length<=9223372036854775807:=by
 unfold zQ at h
 split at h
 · obtain ⟨l,rfl,h⟩:=h; exact ⟨l,_,rfl,h⟩
 · exact h.elim
noncomputable def NO (f:List ByteArray->ByteArray->Value):List S->A:=fun av=>match av with
 | [.va (.c1 (.fz rs)),.va (.c1 (.vl (.string x)))]=>.c1 (.vl (f (rs.map C.bs) x))
 | _=>.gs []
noncomputable def wR (f:List ByteArray->ByteArray->Value):Fun:=⟨zQ,NO f,fun av h=>by obtain ⟨l,x,rfl,_⟩:=kM h; trivial⟩
theorem CV {f}:∀ av H K,(wR f).sp av H K->av.length=2:=fun av H K h=>by obtain ⟨l,x,rfl,_⟩:=kM h.1.1; rfl
attribute [go_sem] wR zQ NO
def oT:List ByteArray->ByteArray->Nat->Int
 | [],_,_=>-1
 | y :: l,x,i=>bif decide (x=y) then (i:Int) else oT l x (i + 1)
def b6 (l:List ByteArray) (x:ByteArray):Bool:=l.any fun y=>decide (x=y)
theorem qP (l:List ByteArray) (x:ByteArray):b6 l x=true ↔ x ∈ l:=by
 unfold b6; rw [List.any_eq_true]
 exact ⟨fun ⟨y,hy,h⟩=>by rw [of_decide_eq_true h]; exact hy,fun h=>⟨x,h,by simp⟩⟩
theorem EK:∀ (l:List ByteArray) (x:ByteArray) (i:Nat),decide (0<=oT l x i)=b6 l x
 | [],_,_=>by simp [oT,b6]
 | y :: l,x,i=>by
  simp only [oT]
  by_cases h:x=y
  · simp [h,b6]
  · have:=EK l x (i + 1)
    simp [h,b6] at this ⊢; exact this
theorem PP:Meets Tryz.prog 122 (wR fun l x=>.int .i64 (oT l x 0)).sp:=by
 refine aG Tryz.func122 W2 2 (by rw [Tryz.ntmps122]; decide) (aB _) CV ?_
 rintro av H K ⟨⟨h,rfl⟩,hK⟩
 obtain ⟨l,x,rfl,hl⟩:=kM h
 have hK:K (iS .i64 (oT l x 0)) []:=by
  have:(wR fun l x=>.int .i64 (oT l x 0)).val [.va (.c1 (.fz (l.map cC))),tS x]=iA .i64 (oT l x 0):=by simp -dsimp only [go_sem]
  rw [this] at hK; exact hK
 simp -dsimp only [go_sem,MC,LD]
 refine a6 (α:=Nat) (fun i=>[(0,.va (.c1 (.fz (l.map cC)))),(1,tS x),(7,iS .i64 l.length),(8,iS .i64 i)]) (fun _=>[])
  (fun i=>i<=l.length/\oT (l.drop i) x i=oT l x 0) (fun i=>l.length - i) 0 0 ⟨Nat.zero_le _,rfl⟩ ?_ ?_ ?_
 · simp [go_sem]
 · simp [go_sem]
 rintro i ⟨hi,ho⟩
 rcases bQ i l.length with hlt | hge
 · have hg:decide ((i:Int) < (l.length:Int))=true:=by simp; omega
   have hx:l[i]? = some l[i]:=aT hlt
   have q1:=QV (row:=cC) hx
   have q2:=a7 (row:=cC) hx
   rw [List.drop_eq_getElem_cons hlt] at ho
   simp only [oT] at ho
   generalize l[i]=y at *
   cases hc:decide (x=y) with
   | true=>
    rw [hc,aN] at ho
    simp -dsimp only [go_sem,hg,↓q2,hc,eX]
    and_intros
    all_goals first
     | omega
     | exact .done (by rw [ho]; exact hK)
   | false=>
    rw [hc,aH] at ho
    simp -dsimp only [go_sem,hg,↓q2,hc,eX]
    and_intros
    all_goals first
     | omega
     | skip
    refine aD (i + 1) 0 ⟨by omega,ho⟩ (by omega) ?_ ?_
    · simp [go_sem]
    · simp [go_sem]
 · have hg:decide ((i:Int) < (l.length:Int))=false:=by simp; omega
   have:l.drop i=[]:=List.drop_eq_nil_iff.2 (by omega)
   rw [this] at ho
   simp -dsimp only [go_sem,hg]
   exact .done (by rw [show (-1:Int)=oT l x 0 from ho]; exact hK)
theorem vN:Meets Tryz.prog 111 (wR fun l x=>.bool (b6 l x)).sp:=by
 refine aG Tryz.func111 WZ 2 (by rw [Tryz.ntmps111]; decide) (aK PP (aB _)) CV ?_
 rintro av H K ⟨⟨h,rfl⟩,hK⟩
 obtain ⟨l,x,rfl,hl⟩:=kM h
 have hK:K (bS (b6 l x)) []:=by
  have:(wR fun l x=>.bool (b6 l x)).val [.va (.c1 (.fz (l.map cC))),tS x]=bA (b6 l x):=by simp -dsimp only [go_sem]
  rw [this] at hK; exact hK
 simp -dsimp only [go_sem,MA,LM,wZ hl,EK]
 exact .done hK
theorem eM {α:Type} (row:α->List C) (l:List α) (n:Nat):(l.map row).take n=(l.take n).map row:=List.map_take.symm
theorem lP {α:Type} (l:List α) (n:Nat):(l.take n).length<=l.length:=by rw [List.length_take]; omega
theorem kU (b:ByteArray):(cC b).length=1:=rfl
noncomputable def rP {α:Type} (p:List C->Prop) (d:List C->α) (f:α->Value):Fun:=⟨FJ p,UE d fun a=>.c1 (.vl (f a)),fun av h=>by obtain ⟨r,rfl,_⟩:=fG h; trivial⟩
theorem kS {α:Type} {p:List C->Prop} {d:List C->α} {f:α->Value}:∀ av H K,(rP p d f).sp av H K->av.length=1:=fun av H K h=>by obtain ⟨r,rfl,_⟩:=fG h.1.1; rfl
attribute [go_sem] rP
theorem fL {α:Type} {l:List α} {i:Nat} {x:α} (hx:l[i]? = some x) (p:α->Bool):(l.drop i).any p=(p x || (l.drop (i + 1)).any p):=by
 obtain ⟨h,rfl⟩:=aY.1 hx
 rw [List.drop_eq_getElem_cons h,List.any_cons]
theorem gH {α:Type} {l:List α} (p:α->Bool):(l.drop l.length).any p=false:=by rw [List.drop_length]; rfl
def dW (s:Sc):Bool:=decide (16 < s.es.length) || decide (16 < s.es.length + s.ss.length) || s.es.any (fun e=>decide (16 < e.ns.length)) || s.ss.any (fun t=>decide (16 < t.fs.length))
theorem RC:Meets Tryz.prog 72 (rP sO C.sc fun s=>.bool (dW s)).sp:=by
 refine aG Tryz.func72 aAD 1 (by rw [Tryz.ntmps72]; decide) (aB _) kS ?_
 rintro av H K ⟨⟨h,rfl⟩,hK⟩
 obtain ⟨_,rfl,s,rfl,hs⟩:=fG h
 have hK:K (bS (dW s)) []:=by
  have:(rP sO C.sc fun s=>.bool (dW s)).val [.va (.gs (aM s))]=bA (dW s):=by simp -dsimp only [go_sem]
  rw [this] at hK; exact hK
 obtain ⟨hv,hle,hls,hes,hss⟩:=hs
 simp -dsimp only [go_sem,aM,PX,TT]
 refine ⟨fun _=>by omega,fun h1=>?_,fun h1=>?_⟩
 · have:dW s=true:=by
    simp only [Bool.or_eq_true,decide_eq_true_eq] at h1
    unfold dW
    rcases h1 with h1 | h1
    · simp [show 16 < s.es.length by omega]
    · simp [show 16 < s.es.length + s.ss.length by omega]
   rw [this] at hK
   exact .z ((by simpa [go_sem] using hK))
 simp only [Bool.or_eq_false_iff,decide_eq_false_iff_not] at h1
 have hL:dW s=(s.es.any (fun e=>decide (16 < e.ns.length)) || s.ss.any (fun t=>decide (16 < t.fs.length))):=by
  unfold dW; rw [decide_eq_false (by omega),decide_eq_false (by omega)]; rfl
 refine a6 (α:=Nat) (fun i=>[(1,.va (.c1 (.pt 0 0))),(22,.va (.c1 (.fz (s.es.map aQ)))),(23,iS .i64 s.es.length),(24,iS .i64 i)]) (fun _=>[.cells (aM s) 25])
  (fun i=>i<=s.es.length/\(s.es.drop i).any (fun e=>decide (16 < e.ns.length))=s.es.any (fun e=>decide (16 < e.ns.length))) (fun i=>s.es.length - i) 0 1 ⟨Nat.zero_le _,rfl⟩ ?_ ?_ ?_
 · simp [go_sem]
 · simp [go_sem,aM]
 rintro i ⟨hi,ho⟩
 rcases bQ i s.es.length with hlt | hge
 · have hg:decide ((i:Int) < (s.es.length:Int))=true:=by simp; omega
   obtain ⟨e,hx⟩:∃ e,s.es[i]? = some e:=⟨_,aT hlt⟩
   have q2:=a7 (row:=aQ) hx
   rw [fL hx] at ho
   simp -dsimp only [go_sem,hg,↓q2,aQ,aM]
   and_intros
   all_goals first
    | omega
    | skip
   · intro hc
     have hc':decide (16 < e.ns.length)=true:=by simp at hc; simp; omega
     have:dW s=true:=by simp only [hL,<-ho,hc',Bool.true_or]
     rw [this] at hK
     exact .z ((by simpa [go_sem] using hK))
   · intro hc
     refine ⟨by omega,aD (i + 1) 1 ⟨by omega,?_⟩ (by omega) ?_ ?_⟩
     · have hc':decide (16 < e.ns.length)=false:=by simp at hc; simp; omega
       rw [<-ho,hc',Bool.false_or]
     · simp [go_sem]
     · simp [go_sem,aM]
 · have hg:decide ((i:Int) < (s.es.length:Int))=false:=by simp; omega
   obtain rfl:i=s.es.length:=by omega
   rw [gH] at ho
   rw [<-ho,Bool.false_or] at hL
   simp -dsimp only [go_sem,hg,aM]
   refine a6 (α:=Nat) (fun i=>[(1,.va (.c1 (.pt 0 0))),(34,.va (.c1 (.fz (s.ss.map aO)))),(35,iS .i64 s.ss.length),(36,iS .i64 i)]) (fun _=>[.cells (aM s) 25])
    (fun i=>i<=s.ss.length/\(s.ss.drop i).any (fun e=>decide (16 < e.fs.length))=s.ss.any (fun e=>decide (16 < e.fs.length))) (fun i=>s.ss.length - i) 0 1 ⟨Nat.zero_le _,rfl⟩ ?_ ?_ ?_
   · simp [go_sem]
   · simp [go_sem,aM]
   clear hi ho hge hg
   rintro i ⟨hi,ho⟩
   rcases bQ i s.ss.length with hlt | hge
   · have hg:decide ((i:Int) < (s.ss.length:Int))=true:=by simp; omega
     obtain ⟨e,hx⟩:∃ e,s.ss[i]? = some e:=⟨_,aT hlt⟩
     have q2:=a7 (row:=aO) hx
     rw [fL hx] at ho
     simp -dsimp only [go_sem,hg,↓q2,aO,aM]
     and_intros
     all_goals first
      | omega
      | skip
     · intro hc
       have hc':decide (16 < e.fs.length)=true:=by simp at hc; simp; omega
       have:dW s=true:=by simp only [hL,<-ho,hc',Bool.true_or]
       rw [this] at hK
       exact .z ((by simpa [go_sem] using hK))
     · intro hc
       refine ⟨by omega,aD (i + 1) 1 ⟨by omega,?_⟩ (by omega) ?_ ?_⟩
       · have hc':decide (16 < e.fs.length)=false:=by simp at hc; simp; omega
         rw [<-ho,hc',Bool.false_or]
       · simp [go_sem]
       · simp [go_sem,aM]
   · have hg:decide ((i:Int) < (s.ss.length:Int))=false:=by simp; omega
     obtain rfl:i=s.ss.length:=by omega
     rw [gH] at ho
     simp -dsimp only [go_sem,hg,aM]
     rw [hL,<-ho] at hK
     exact .z ((by simpa [go_sem] using hK))
def fE (f:Nat->Int):Nat->Nat->Int
 | 0,_=>0
 | n + 1,i=>bif f i == 0 then fE f n (i + 1) else f i
theorem EA {f:Nat->Int} {m i:Nat} (h:i < m):fE f (m - i) i=bif f i == 0 then fE f (m - (i + 1)) (i + 1) else f i:=by
 obtain ⟨k,rfl⟩:∃ k,m=i + k + 1:=⟨m - i - 1,by omega⟩
 rw [show i + k + 1 - i=k + 1 by omega,show i + k + 1 - (i + 1)=k by omega]; rfl
theorem tK {f:Nat->Int} {m i:Nat} (h:i < m) (h0:f i=0):fE f (m - i) i=fE f (m - (i + 1)) (i + 1):=by rw [EA h,h0]; rfl
theorem pW {f:Nat->Int} {m i:Nat} (h:i < m) (h0:f i ≠ 0):fE f (m - i) i=f i:=by
 rw [EA h,beq_eq_false_iff_ne.2 h0]; rfl
theorem uP (f:Nat->Int) (m:Nat):fE f (m - m) m=0:=by rw [Nat.sub_self]; rfl
def jK (e:En) (k:Nat):Int:=match e.ns[k]?,e.vs[k]? with
 | some nm,some n=>bif !(bU (bl nm)) then 5 else bif b6 (e.ns.take k) nm then 7 else bif decide (n < 0) || decide (127 < n) then 4 else
  bif (decide ((k:Int)=0) && decide (n ≠ 0)) || (decide (0 < (k:Int)) && match e.vs[k - 1]? with | some m=>decide (n<=m) | none=>false) then 2 else 0
 | _,_=>0
def mZ (e:En):Int:=bif decide (e.ns.length=0) || decide (e.ns.length ≠ e.vs.length) then 2 else fE (jK e) e.ns.length 0
theorem FV:Meets Tryz.prog 74 (rP tC C.en fun e=>.int .i64 (mZ e)).sp:=by
 refine aG Tryz.func74 Y1 1 (by rw [Tryz.ntmps74]; decide) (aK m4 (aK vN (aB _))) kS ?_
 rintro av H K ⟨⟨h,rfl⟩,hK⟩
 obtain ⟨_,rfl,e,rfl,he⟩:=fG h
 have hK:K (iS .i64 (mZ e)) []:=by
  have:(rP tC C.en fun e=>.int .i64 (mZ e)).val [.va (.gs (aQ e))]=iA .i64 (mZ e):=by simp -dsimp only [go_sem]
  rw [this] at hK; exact hK
 clear h
 obtain ⟨_,hln,hlv,_,_⟩:=he
 simp -dsimp only [go_sem,aQ,P8,UN]
 refine ⟨fun h1=>?_,fun h1=>?_⟩
 · have:mZ e=2:=by
    unfold mZ
    have:(decide (e.ns.length=0) || decide (e.ns.length ≠ e.vs.length))=true:=by
     simp only [Bool.or_eq_true,beq_iff_eq,bne_iff_ne,decide_eq_true_eq] at h1 ⊢; omega
    rw [this]; rfl
   rw [this] at hK
   exact .z ((by simpa [go_sem] using hK))
 simp only [Bool.or_eq_false_iff,beq_eq_false_iff_ne,bne_eq_false_iff_eq,ne_eq] at h1
 have hl:e.ns.length=e.vs.length:=by omega
 have hF:mZ e=fE (jK e) (e.ns.length - 0) 0:=by
  unfold mZ; rw [decide_eq_false (by omega),decide_eq_false (by omega)]; rfl
 refine a6 (α:=Nat) (fun i=>[(1,.va (.c1 (.pt 0 0))),(20,.va (.c1 (.fz (e.ns.map cC)))),(21,iS .i64 e.ns.length),(22,iS .i64 i)]) (fun _=>[.cells (aQ e) 62])
  (fun i=>i<=e.ns.length/\fE (jK e) (e.ns.length - i) i=fE (jK e) (e.ns.length - 0) 0) (fun i=>e.ns.length - i) 0 1 ⟨Nat.zero_le _,rfl⟩ ?_ ?_ ?_
 · simp [go_sem]
 · simp [go_sem,aQ]
 rintro i ⟨hi,ho⟩
 rcases bQ i e.ns.length with hlt | hge
 · have hg:decide ((i:Int) < (e.ns.length:Int))=true:=by simp; omega
   obtain ⟨nm,hx⟩:∃ nm,e.ns[i]? = some nm:=⟨_,aT hlt⟩
   obtain ⟨n,hy⟩:∃ nm,e.vs[i]? = some nm:=⟨_,aT (by omega)⟩
   have q1:=a7 (row:=cC) hx
   have q2:=a7 (row:=gM) hy
   have ht:CK ((e.ns.take i).map cC):=wZ (Nat.le_trans (lP _ _) hln)
   have hA:jK e i=bif !(bU (bl nm)) then (5:Int) else bif b6 (e.ns.take i) nm then 7 else bif decide (n < 0) || decide (127 < n) then 4 else
    bif (decide ((i:Int)=0) && decide (n ≠ 0)) || (decide (0 < (i:Int)) && match e.vs[i - 1]? with | some m=>decide (n<=m) | none=>false) then 2 else 0:=by
    unfold jK; rw [hx,hy]
   have fin:∀ x:Int,jK e i=x->x ≠ 0->W.Fin 0 K (iS .i64 x) [.cells (aQ e) 62]:=fun x h1 h2=>by
    rw [hF,<-ho,pW hlt (by rw [h1]; exact h2),h1] at hK
    exact .z ((by simpa [go_sem] using hK))
   have dE:jK e i=0->fE (jK e) (e.ns.length - (i + 1)) (i + 1)=fE (jK e) (e.ns.length - 0) 0:=fun h1=>by rw [<-ho,tK hlt h1]
   rcases Nat.eq_zero_or_pos i with h0 | h0
   · subst h0
     have g1:decide ((0:Int) < 0)=false:=rfl
     have g2:((0:Int) == 0)=true:=rfl
     have hb0:b6 [] nm=false:=rfl
     have ht0:CK []:=⟨[],rfl,Nat.zero_le _⟩
     rw [Int.natCast_zero] at *
     cases hc1:bU (bl nm) with
     | false=>
      simp -dsimp only [go_sem,hg,↓q1,↓q2,aQ,hc1]
      exact ⟨by omega,by omega,fin 5 (by rw [hA,hc1]; rfl) (by decide)⟩
     | true=>
      cases hc3:(decide (n < 0) || decide (127 < n)) with
      | true=>
       simp -dsimp only [go_sem,hg,↓q1,↓q2,aQ,ht0,hb0,eM,fJ kU,hc1,hc3]
       exact ⟨by omega,by omega,by omega,fin 4 (by rw [hA,hc1,hc3]; rfl) (by decide)⟩
      | false=>
       cases hn:(n != 0) with
       | true=>
        simp -dsimp only [go_sem,hg,↓q1,↓q2,aQ,ht0,hb0,eM,fJ kU,Bool.false_and,g1,g2,hc1,hc3,hn]
        exact ⟨by omega,by omega,by omega,fin 2 (by rw [hA,hc1,hc3]; simp at hn; simp [hn,b6]) (by decide)⟩
       | false=>
        simp -dsimp only [go_sem,hg,↓q1,↓q2,aQ,ht0,hb0,eM,fJ kU,Bool.true_and,g1,g2,hc1,hc3,hn]
        refine ⟨by omega,by omega,by omega,by omega,aD 1 1 ⟨by omega,dE ?_⟩ (by omega) ?_ ?_⟩
        · rw [hA,hc1,hc3]; simp at hn; simp [hn,b6]
        · simp [go_sem]
        · simp [go_sem,aQ]
   · have g1:decide (0 < (i:Int))=true:=by simp; omega
     have g2:((i:Int) == 0)=false:=by simp; omega
     obtain ⟨m,hm⟩:∃ m,e.vs[i - 1]? = some m:=⟨_,aT (by omega)⟩
     have q4:((i:Int) - 1).toNat=i - 1:=by omega
     cases hc1:bU (bl nm) with
     | false=>
      simp -dsimp only [go_sem,hg,↓q1,↓q2,aQ,hc1]
      exact ⟨by omega,by omega,fin 5 (by rw [hA,hc1]; rfl) (by decide)⟩
     | true=>
      cases hc2:b6 (e.ns.take i) nm with
      | true=>
       simp -dsimp only [go_sem,hg,↓q1,↓q2,aQ,ht,eM,fJ kU,hc1,hc2]
       exact ⟨by omega,by omega,by omega,fin 7 (by rw [hA,hc1,hc2]; rfl) (by decide)⟩
      | false=>
       cases hc3:(decide (n < 0) || decide (127 < n)) with
       | true=>
        simp -dsimp only [go_sem,hg,↓q1,↓q2,aQ,ht,eM,fJ kU,hc1,hc2,hc3]
        exact ⟨by omega,by omega,by omega,fin 4 (by rw [hA,hc1,hc2,hc3]; rfl) (by decide)⟩
       | false=>
        simp -dsimp only [go_sem,hg,↓q1,↓q2,aQ,ht,eM,fJ kU,Bool.true_and,g1,g2,hc1,hc2,hc3,q4]
        refine ⟨by omega,by omega,by omega,by omega,by omega,fun x hx'=>?_⟩
        rw [hm] at hx'
        obtain rfl:=aZ hx'
        refine ⟨fun hn=>fin 2 (by rw [hA,hc1,hc2,hc3,hm,g1]; simp at hn; simp [hn]) (by decide),fun hn=>⟨by omega,aD (i + 1) 1 ⟨by omega,dE ?_⟩ (by omega) ?_ ?_⟩⟩
        · have hi0:i ≠ 0:=by omega
          rw [hA,hc1,hc2,hc3,hm,g1]; simp at hn; simp [hi0,show ¬ n<=m by omega]
        · simp [go_sem]
        · simp [go_sem,aQ]
 · have hg:decide ((i:Int) < (e.ns.length:Int))=false:=by simp; omega
   obtain rfl:i=e.ns.length:=by omega
   rw [uP] at ho
   simp -dsimp only [go_sem,hg,aQ]
   rw [hF,<-ho] at hK
   exact .z ((by simpa [go_sem] using hK))
def gP (ss:List St) (n:ByteArray):Bool:=ss.any fun s=>decide (s.nm=n)
def eS (es:List En) (n:ByteArray):Bool:=es.any fun s=>decide (s.nm=n)
def iI (s:Sc) (i:Nat) (n:ByteArray):Int:=bif !(mC (bl n)) then 5 else bif eS s.es n then 7 else bif gP (s.ss.take i) n then 7 else 0
def zI:List S->Prop:=fun av=>match av with
 | [.va (.gs r),.va (.c1 (.vl (.int .i64 i))),.va (.c1 (.vl (.string _)))]=>sO r/\0<=i/\i<=((C.sc r).ss.length:Int)
 | _=>False
theorem nY {av:List S} (h:zI av):∃ (s:Sc) (i:Nat) (n:ByteArray),av=[.va (.gs (aM s)),iS .i64 i,tS n]/\s.ok/\i<=s.ss.length:=by
 unfold zI at h
 split at h
 · obtain ⟨⟨s,rfl,hs⟩,h1,h2⟩:=h
   rename_i i n
   rw [m9] at h2
   exact ⟨s,i.toNat,n,by rw [Int.toNat_of_nonneg h1],hs,by omega⟩
 · exact h.elim
noncomputable def LR:List S->A:=fun av=>match av with
 | [.va (.gs r),.va (.c1 (.vl (.int .i64 i))),.va (.c1 (.vl (.string n)))]=>iA .i64 (iI (C.sc r) i.toNat n)
 | _=>.gs []
noncomputable def cnFn:Fun:=⟨zI,LR,fun av h=>by obtain ⟨s,i,n,rfl,_⟩:=nY h; trivial⟩
theorem KW:∀ av H K,cnFn.sp av H K->av.length=3:=fun av H K h=>by obtain ⟨s,i,n,rfl,_⟩:=nY h.1.1; rfl
attribute [go_sem] cnFn zI LR
theorem FL:Meets Tryz.prog 76 cnFn.sp:=by
 refine aG Tryz.func76 ZN 3 (by rw [Tryz.ntmps76]; decide) (aK yF (aB _)) KW ?_
 rintro av H K ⟨⟨h,rfl⟩,hK⟩
 obtain ⟨s,j,n,rfl,hs,hj⟩:=nY h
 have hK:K (iS .i64 (iI s j n)) []:=by
  have:cnFn.val [.va (.gs (aM s)),iS .i64 j,tS n]=iA .i64 (iI s j n):=by simp -dsimp only [go_sem,Int.toNat_natCast]
  rw [this] at hK; exact hK
 clear h
 obtain ⟨hv,hle,hls,hes,hss⟩:=hs
 have fin:∀ x:Int,iI s j n=x->W.Fin 0 K (iS .i64 x) [.cells (aM s) 25]:=fun x h1=>by
  rw [h1] at hK
  exact .z ((by simpa [go_sem] using hK))
 have fin2:∀ (x:Int) (b:B),iI s j n=x->W.Fin 0 K (iS .i64 x) [.cells (aM s) 25,b]:=fun x b h1=>by
  rw [h1] at hK
  exact .z ((by simpa [go_sem] using hK))
 simp -dsimp only [go_sem,aM,SX,SW]
 refine ⟨fun h1=>fin 5 (by unfold iI; rw [h1]; rfl),fun h1=>?_⟩
 simp only [Bool.not_eq_false'] at h1
 refine a6 (α:=Nat) (fun i=>[(1,iS .i64 j),(2,tS n),(3,.va (.c1 (.pt 0 0))),(15,.va (.c1 (.fz (s.es.map aQ)))),(16,iS .i64 s.es.length),(17,iS .i64 i)]) (fun _=>[.cells (aM s) 25])
  (fun i=>i<=s.es.length/\eS (s.es.drop i) n=eS s.es n) (fun i=>s.es.length - i) 0 1 ⟨Nat.zero_le _,rfl⟩ ?_ ?_ ?_
 · simp [go_sem]
 · simp [go_sem,aM]
 rintro i ⟨hi,ho⟩
 rcases bQ i s.es.length with hlt | hge
 · have hg:decide ((i:Int) < (s.es.length:Int))=true:=by simp; omega
   obtain ⟨e,hx⟩:∃ e,s.es[i]? = some e:=⟨_,aT hlt⟩
   have q2:=a7 (row:=aQ) hx
   rw [eS,fL hx] at ho
   simp -dsimp only [go_sem,hg,↓q2,aQ,aM,eX]
   and_intros
   all_goals first
    | omega
    | skip
   · intro hc
     rw [hc,Bool.true_or] at ho
     exact fin2 7 _ (by unfold iI; rw [h1,<-ho]; rfl)
   · intro hc
     rw [hc,Bool.false_or] at ho
     refine ⟨by omega,aD (i + 1) 1 ⟨by omega,ho⟩ (by omega) ?_ ?_⟩
     · simp [go_sem]
     · simp [go_sem,aM]
 · have hg:decide ((i:Int) < (s.es.length:Int))=false:=by simp; omega
   obtain rfl:i=s.es.length:=by omega
   rw [eS,gH] at ho
   simp -dsimp only [go_sem,hg,aM,eM,Int.toNat_natCast]
   refine ⟨?_,?_⟩
   · exact ⟨by omega,fun r hr=>by obtain ⟨x,_,rfl⟩:=List.mem_map.1 hr; exact OB x⟩
   refine a6 (α:=Nat) (fun i=>[(2,tS n),(3,.va (.c1 (.pt 0 0))),(29,.va (.c1 (.fz ((s.ss.take j).map aO)))),(30,iS .i64 (s.ss.take j).length),(31,iS .i64 i)]) (fun _=>[.cells (aM s) 25])
    (fun i=>i<=(s.ss.take j).length/\gP ((s.ss.take j).drop i) n=gP (s.ss.take j) n) (fun i=>(s.ss.take j).length - i) 0 1 ⟨Nat.zero_le _,rfl⟩ ?_ ?_ ?_
   · simp [go_sem]
   · simp [go_sem,aM]
   have hlj:=lP s.ss j
   generalize hl:s.ss.take j=l at *
   clear hi hge hg
   rintro i ⟨hi,ho2⟩
   rcases bQ i l.length with hlt | hge
   · have hg:decide ((i:Int) < (l.length:Int))=true:=by simp; omega
     obtain ⟨e,hx⟩:∃ e,l[i]? = some e:=⟨_,aT hlt⟩
     have q2:=a7 (row:=aO) hx
     rw [gP,fL hx] at ho2
     simp -dsimp only [go_sem,hg,↓q2,aO,aM,eX]
     and_intros
     all_goals first
      | omega
      | skip
     · intro hc
       rw [hc,Bool.true_or] at ho2
       exact fin2 7 _ (by unfold iI; rw [h1,<-ho,hl,<-ho2]; rfl)
     · intro hc
       rw [hc,Bool.false_or] at ho2
       refine ⟨by omega,aD (i + 1) 1 ⟨by omega,ho2⟩ (by omega) ?_ ?_⟩
       · simp [go_sem]
       · simp [go_sem,aM]
   · have hg:decide ((i:Int) < (l.length:Int))=false:=by simp; omega
     obtain rfl:i=l.length:=by omega
     rw [gP,gH] at ho2
     simp -dsimp only [go_sem,hg,aM]
     exact fin 0 (by unfold iI; rw [h1,<-ho,hl,<-ho2]; rfl)
mutual
def valF (ss:List St) (es:List En):Ty->Bool
 | .mk k s n e=>bif k == 1 then s == 0 && bl n == [] && (e.length:Int) == 0
  else bif k == 2 then (s == 8 || s == 16 || s == 32 || s == 64) && bl n == [] && (e.length:Int) == 0
  else bif k == 3 then (s == 8 || s == 16 || s == 32 || (s == 64 && false)) && bl n == [] && (e.length:Int) == 0
  else bif k == 4 then decide (1<=s) && decide (s<=2000) && bl n == [] && (e.length:Int) == 0
  else bif k == 5 then decide (1<=s) && decide (s<=32) && bl n == [] && qQ ss es e
  else bif k == 6 then gP ss n && s == 0 && (e.length:Int) == 0
  else bif k == 7 then eS es n && s == 0 && (e.length:Int) == 0 else false
def qQ (ss:List St) (es:List En):List Ty->Bool
 | []=>false
 | u :: r=>valF ss es u && r.isEmpty
end
def fS (ss:List St) (n:ByteArray):Option St:=ss.find? fun s=>decide (s.nm=n)
def y7 (es:List En) (n:ByteArray):Option En:=es.find? fun s=>decide (s.nm=n)
theorem HP (ss:List St) (n:ByteArray):(fS ss n).isSome=gP ss n:=by unfold fS gP; rw [Bool.eq_iff_iff,List.find?_isSome,List.any_eq_true]
abbrev gA (s:St):A:=.gs (aO s)
abbrev gE (s:En):A:=.gs (aQ s)
def iX (ks:List Value) (vs:List St) (ss:List St):Prop:=∀ n,fY ks (vs.map gA) (.string n)=(fS ss n).map gA
def xJ (ks:List Value) (vs:List En) (es:List En):Prop:=∀ n,fY ks (vs.map gE) (.string n)=(y7 es n).map gE
@[go_sem] theorem O5 (f:Nat->Option Nat) (l:List St):(l.map gA).map (A.ren f)=l.map gA:=by rw [List.map_map]; rfl
@[go_sem] theorem PK (f:Nat->Option Nat) (l:List En):(l.map gE).map (A.ren f)=l.map gE:=by rw [List.map_map]; rfl
@[go_sem] theorem aCB (n:Nat) (xs:List (List C)) (l:List St):(l.map gA).map (A.pub n xs)=l.map gA:=by rw [List.map_map]; rfl
@[go_sem] theorem aCH (n:Nat) (xs:List (List C)) (l:List En):(l.map gE).map (A.pub n xs)=l.map gE:=by rw [List.map_map]; rfl
abbrev kF:S:=.va (.gs [.mp 0,.mp 1])
abbrev eF (ks:List Value) (vs:List St) (ks':List Value) (vs':List En):Hp:=[.map .string ks (vs.map gA),.map .string ks' (vs'.map gE)]
def M3 (N:Nat):W.Spec:=fun av H K=>∃ (ss:List St) (es:List En) (t:Ty) (ks:List Value) (vs:List St) (ks':List Value) (vs':List En),av=[kF,.va (.gs (aX t))]/\H=eF ks vs ks' vs'/\
 iX ks vs ss/\xJ ks' vs' es/\TyOk t/\t.h<=N/\K (bS (valF ss es t)) (eF ks vs ks' vs')
theorem PG (es:List En) (n:ByteArray):(y7 es n).isSome=eS es n:=by unfold y7 eS; rw [Bool.eq_iff_iff,List.find?_isSome,List.any_eq_true]
theorem N0 {N:Nat} {ss:List St} {es:List En} {t:Ty} {ks:List Value} {vs:List St} {ks':List Value} {vs':List En} {K:S->Hp->Prop} (h1:iX ks vs ss) (h2:xJ ks' vs' es) (h3:TyOk t) (h4:t.h<=N) (hK:K (bS (valF ss es t)) (eF ks vs ks' vs')) :
 M3 N [kF,.va (.gs (aX t))] (eF ks vs ks' vs') K:=⟨ss,es,t,ks,vs,ks',vs',rfl,rfl,h1,h2,h3,h4,hK⟩
@[go_sem] theorem ZE (t:Ty):(aX t).take 4=aX t:=by rw [bO]; rfl
@[go_sem] theorem aEP (t:Ty):(aX t).map C.nf=aX t:=by rw [bO]; rfl
@[go_sem] theorem aBP (t:Ty) (f:Nat->Option Nat):(aX t).map (C.ren f)=aX t:=by rw [bO]; rfl
theorem Ty.h_pos (t:Ty):0 < t.h:=by cases t; rw [Ty.h]; omega
theorem IH:∀ N,Meets Tryz.prog 112 (M3 N)
 | 0=>⟨by kernel_rfl,by rintro xs vs E ro w K _ _ _ ⟨_,_,t,_,_,_,_,_,_,_,_,_,h,_⟩; have:=t.h_pos; omega⟩
 | N + 1=>by
  refine aG Tryz.func112 V6 2 (by rw [Tryz.ntmps112]; decide) (aA (IH N) (aB _)) (fun av H K h=>by obtain ⟨_,_,_,_,_,_,_,rfl,_⟩:=h; rfl) ?_
  rintro av H K ⟨ss,es,t,ks,vs,ks',vs',rfl,rfl,h1,h2,h3,h4,hK⟩
  cases t with
  | mk k s n e=>
  have fin:∀ (b:Bool) (B1 B2:B),valF ss es (.mk k s n e)=b->W.Fin 2 K (bS b) [.map .string ks (vs.map gA),.map .string ks' (vs'.map gE),B1,B2]:=fun b B1 B2 h=>by
   rw [h] at hK
   exact .sel [0,1] (by simp) (by simp) rfl (.done (by simp -dsimp only [go_sem]; simpa using hK))
  by_cases k1:(k == 1)=true
  · have hF:=valF.eq_1 ss es k s n e
    rw [k1] at hF
    simp only [aN] at hF
    simp -dsimp only [go_sem,aX,bN,gX,g9,k1]
    exact fin _ _ _ hF
  rw [Bool.not_eq_true] at k1
  by_cases k2:(k == 2)=true
  · have hF:=valF.eq_1 ss es k s n e
    rw [k1,k2] at hF
    simp only [aN,aH] at hF
    simp -dsimp only [go_sem,aX,bN,gX,g9,k1,k2]
    exact fin _ _ _ hF
  rw [Bool.not_eq_true] at k2
  by_cases k3:(k == 3)=true
  · have hF:=valF.eq_1 ss es k s n e
    rw [k1,k2,k3] at hF
    simp only [aN,aH] at hF
    simp -dsimp only [go_sem,aX,bN,gX,g9,k1,k2,k3]
    exact fin _ _ _ hF
  rw [Bool.not_eq_true] at k3
  by_cases k4:(k == 4)=true
  · have hF:=valF.eq_1 ss es k s n e
    rw [k1,k2,k3,k4] at hF
    simp only [aN,aH] at hF
    simp -dsimp only [go_sem,aX,bN,gX,g9,k1,k2,k3,k4]
    exact fin _ _ _ hF
  rw [Bool.not_eq_true] at k4
  by_cases k5:(k == 5)=true
  · have hF:=valF.eq_1 ss es k s n e
    rw [k1,k2,k3,k4,k5] at hF
    simp only [aN,aH] at hF
    cases hc:(decide (1<=s) && decide (s<=32) && bl n == [] && (e.length:Int) == 1) with
    | false=>
     have hF':valF ss es (.mk k s n e)=false:=by
      rw [hF]
      cases h0:(decide (1<=s) && decide (s<=32) && bl n == []) with
      | false=>rfl
      | true=>
       rw [h0,Bool.true_and] at hc
       match e,hc with
       | [],_=>rfl
       | [u],hc=>simp at hc
       | u :: v :: r,_=>simp [qQ]
     simp (maxSteps:=9^6) -dsimp only [go_sem,aX,bN,gX,g9,k1,k2,k3,k4,k5,hc]
     exact fin _ _ _ hF'
    | true=>
     obtain ⟨u,rfl⟩:∃ u,e=[u]:=by
      simp only [Bool.and_eq_true,beq_iff_eq] at hc
      exact List.length_eq_one_iff.1 (by omega)
     have h0:(decide (1<=s) && decide (s<=32) && bl n == [])=true:=by
      simp only [Bool.and_eq_true] at hc ⊢; exact hc.1
     have hF':valF ss es (.mk k s n [u])=valF ss es u:=by rw [hF,h0]; simp [qQ]
     have hh:u.h<=N:=by rw [Ty.h,Ty.hs,Ty.hs] at h4; omega
     have hu:TyOk u:=h3.e u (by simp [Ty.e])
     have hc':(decide (1<=s) && decide (s<=32) && bl n == [] && ((1:Nat):Int) == 1)=true:=hc
     simp (maxSteps:=9^6) -dsimp only [go_sem,aX,bN,gX,g9,k1,k2,k3,k4,k5,hc']
     refine ⟨⟨by omega,fun r hr=>by subst hr; exact dP u⟩,fun r hr=>?_⟩
     subst hr
     refine ⟨by rw [dP]; exact Nat.le_refl _,?_⟩
     simp -dsimp only [go_sem]
     refine N0 h1 h2 hu hh ?_
     simp (maxSteps:=9^6) -dsimp only [go_sem]
     exact fin _ _ _ hF'
  rw [Bool.not_eq_true] at k5
  by_cases k6:(k == 6)=true
  · have hF:=valF.eq_1 ss es k s n e
    rw [k1,k2,k3,k4,k5,k6] at hF
    simp only [aN,aH] at hF
    have hm:=h1 n
    rw [<-HP] at hF
    cases hf:fS ss n with
    | none=>
     rw [hf] at hm hF
     simp only [Option.map_none] at hm
     simp (maxSteps:=9^6) -dsimp only [go_sem,aX,bN,gX,g9,k1,k2,k3,k4,k5,k6,hm]
     refine .sel [0,1] (by simp) (by simp) rfl (.done ?_)
     rw [hF] at hK
     simp -dsimp only [go_sem]; simpa using hK
    | some d=>
     rw [hf] at hm hF
     simp only [Option.map_some] at hm
     simp (maxSteps:=9^6) -dsimp only [go_sem,aX,bN,gX,g9,k1,k2,k3,k4,k5,k6,hm]
     refine ⟨by simp [aO,go_sem],by simp [aO],.sel [0,1] (by simp) (by simp) rfl (.done ?_)⟩
     rw [hF] at hK
     simp -dsimp only [go_sem]; simpa using hK
  rw [Bool.not_eq_true] at k6
  by_cases k7:(k == 7)=true
  · have hF:=valF.eq_1 ss es k s n e
    rw [k1,k2,k3,k4,k5,k6,k7] at hF
    simp only [aN,aH] at hF
    have hm:=h2 n
    rw [<-PG] at hF
    cases hf:y7 es n with
    | none=>
     rw [hf] at hm hF
     simp only [Option.map_none] at hm
     simp (maxSteps:=9^6) -dsimp only [go_sem,aX,bN,gX,g9,k1,k2,k3,k4,k5,k6,k7,hm]
     refine .sel [0,1] (by simp) (by simp) rfl (.done ?_)
     rw [hF] at hK
     simp -dsimp only [go_sem]; simpa using hK
    | some d=>
     rw [hf] at hm hF
     simp only [Option.map_some] at hm
     simp (maxSteps:=9^6) -dsimp only [go_sem,aX,bN,gX,g9,k1,k2,k3,k4,k5,k6,k7,hm]
     refine ⟨by simp [aQ,go_sem],by simp [aQ],.sel [0,1] (by simp) (by simp) rfl (.done ?_)⟩
     rw [hF] at hK
     simp -dsimp only [go_sem]; simpa using hK
  rw [Bool.not_eq_true] at k7
  have hF:=valF.eq_1 ss es k s n e
  rw [k1,k2,k3,k4,k5,k6,k7] at hF
  simp only [aH] at hF
  simp -dsimp only [go_sem,aX,bN,gX,g9,k1,k2,k3,k4,k5,k6,k7]
  exact fin _ _ _ hF
theorem mA {P:Program} {f:FuncId} {s:W.Spec} {ι:Type} {t:ι->W.Spec} (i0:ι) (m:∀ i,Meets P f (t i)) (h:∀ av H K,s av H K->∃ i,t i av H K):Meets P f s:=⟨(m i0).1,by
 intro xs vl E ro w K h1 h2 h3 h4
 obtain ⟨i,hi⟩:=h _ _ _ h4
 exact (m i).2 xs vl E ro w K h1 h2 h3 hi⟩
def H6:W.Spec:=fun av H K=>∃ (ss:List St) (es:List En) (t:Ty) (ks:List Value) (vs:List St) (ks':List Value) (vs':List En),av=[kF,.va (.gs (aX t))]/\H=eF ks vs ks' vs'/\
 iX ks vs ss/\xJ ks' vs' es/\TyOk t/\K (bS (valF ss es t)) (eF ks vs ks' vs')
theorem ON:Meets Tryz.prog 112 H6:=mA 0 IH fun _av _H _K ⟨ss,es,t,ks,vs,ks',vs',e1,e2,h4,h5,h6,hK⟩=>⟨t.h,ss,es,t,ks,vs,ks',vs',e1,e2,h4,h5,h6,Nat.le_refl _,hK⟩
theorem B8 {ss:List St} {es:List En} {t:Ty} {ks:List Value} {vs:List St} {ks':List Value} {vs':List En} {K:S->Hp->Prop} (h1:iX ks vs ss) (h2:xJ ks' vs' es) (h3:TyOk t) (hK:K (bS (valF ss es t)) (eF ks vs ks' vs')) :
 H6 [kF,.va (.gs (aX t))] (eF ks vs ks' vs') K:=⟨ss,es,t,ks,vs,ks',vs',rfl,rfl,h1,h2,h3,hK⟩
def pO (ss:List St) (es:List En) (t:St) (k:Nat):Int:=match t.fs[k]? with
 | some f=>bif decide (f.num < 1) || decide (127 < f.num) then 4 else bif decide (0 < (k:Int)) && (match t.fs[k - 1]? with | some g=>decide (f.num<=g.num) | none=>false) then 2 else
  bif !(bU (bl f.nm)) then 5 else bif (t.fs.take k).any (fun g=>decide (g.nm=f.nm)) then 7 else bif !(valF ss es f.ty) then 13 else 0
 | none=>0
def rM (ss:List St) (es:List En) (t:St):Int:=fE (pO ss es t) (t.fs.length - 0) 0
def RI:W.Spec:=fun av H K=>∃ (ss:List St) (es:List En) (t:St) (ks:List Value) (vs:List St) (ks':List Value) (vs':List En),av=[kF,.va (.gs (aO t))]/\H=eF ks vs ks' vs'/\
 iX ks vs ss/\xJ ks' vs' es/\t.ok/\K (iS .i64 (rM ss es t)) (eF ks vs ks' vs')
theorem Q1 {ss:List St} {es:List En} {t:St} {ks:List Value} {vs:List St} {ks':List Value} {vs':List En} {K:S->Hp->Prop} (h1:iX ks vs ss) (h2:xJ ks' vs' es) (h3:t.ok) (hK:K (iS .i64 (rM ss es t)) (eF ks vs ks' vs')) :
 RI [kF,.va (.gs (aO t))] (eF ks vs ks' vs') K:=⟨ss,es,t,ks,vs,ks',vs',rfl,rfl,h1,h2,h3,hK⟩
theorem kR (f:Fl):[C.vl (.int .i64 f.ty.k),.vl (.int .i64 f.ty.s),.vl (.string f.ty.n),.fz (f.ty.e.map aX)]=aX f.ty:=(bO f.ty).symm
theorem AJ:Meets Tryz.prog 77 RI:=by
 refine aG Tryz.func77 YE 2 (by rw [Tryz.ntmps77]; decide) (aA ON (aK m4 (aB _))) (fun av H K h=>by obtain ⟨_,_,_,_,_,_,_,rfl,_⟩:=h; rfl) ?_
 rintro av H K ⟨ss,es,t,ks,vs,ks',vs',rfl,rfl,h1,h2,h3,hK⟩
 have fin:∀ (x:Int) (R:Hp),rM ss es t=x->W.Fin 2 K (iS .i64 x) (.map .string ks (vs.map gA) :: .map .string ks' (vs'.map gE) :: R):=fun x R h=>by
  rw [h] at hK
  exact .sel [0,1] (by simp) (by simp) rfl (.done (by simp -dsimp only [go_sem]; simpa using hK))
 obtain ⟨_,hl,hfs⟩:=h3
 simp -dsimp only [go_sem,aO,R5,RK]
 refine a6 (α:=Nat) (fun i=>[(2,.va (.c1 (.pt 2 0))),(3,.va (.c1 (.pt 3 0))),(10,.va (.c1 (.fz (t.fs.map bI)))),(11,iS .i64 t.fs.length),(12,iS .i64 i)]) (fun _=>[.map .string ks (vs.map gA),.map .string ks' (vs'.map gE),.cells [.mp 0,.mp 1] 117,.cells (aO t) 56])
  (fun i=>i<=t.fs.length/\fE (pO ss es t) (t.fs.length - i) i=rM ss es t) (fun i=>t.fs.length - i) 0 4 ⟨Nat.zero_le _,rfl⟩ ?_ ?_ ?_
 · simp -dsimp only [go_sem]<;>simp
 · simp -dsimp only [go_sem,aO]<;>simp
 rintro i ⟨hi,ho⟩
 rcases bQ i t.fs.length with hlt | hge
 · have hg:decide ((i:Int) < (t.fs.length:Int))=true:=by simp; omega
   obtain ⟨f,hx⟩:∃ nm,t.fs[i]? = some nm:=⟨_,aT hlt⟩
   have q1:=a7 (row:=bI) hx
   have hf:f.ok:=hfs f (bH hx)
   have hA:pO ss es t i=bif decide (f.num < 1) || decide (127 < f.num) then (4:Int) else bif decide (0 < (i:Int)) && (match t.fs[i - 1]? with | some g=>decide (f.num<=g.num) | none=>false) then 2 else
    bif !(bU (bl f.nm)) then 5 else bif (t.fs.take i).any (fun g=>decide (g.nm=f.nm)) then 7 else bif !(valF ss es f.ty) then 13 else 0:=by
    unfold pO; rw [hx]
   have fin':∀ (x:Int) (R:Hp),pO ss es t i=x->x ≠ 0->W.Fin 2 K (iS .i64 x) (.map .string ks (vs.map gA) :: .map .string ks' (vs'.map gE) :: R):=fun x R h1 h2=>fin x R (by
    rw [<-ho,pW hlt (by rw [h1]; exact h2),h1])
   have dE:pO ss es t i=0->fE (pO ss es t) (t.fs.length - (i + 1)) (i + 1)=rM ss es t:=fun h1=>by rw [<-ho,tK hlt h1]
   cases c1:(decide (f.num < 1) || decide (127 < f.num)) with
   | true=>
    rw [c1] at hA
    simp (maxSteps:=9^6) -dsimp only [go_sem,hg,↓q1,bI,aO,c1]
    and_intros
    all_goals first
     | omega
     | exact fin' 4 _ hA (by decide)
   | false=>
    rw [c1] at hA
    simp only [aH] at hA
    rcases Nat.eq_zero_or_pos i with h0 | h0
    · have g1:decide (0 < (i:Int))=false:=by simp; omega
      rw [g1] at hA
      simp only [Bool.false_and,aH] at hA
      cases c3:bU (bl f.nm) with
      | false=>
       rw [c3] at hA
       simp (maxSteps:=9^6) -dsimp only [go_sem,hg,↓q1,bI,aO,c1,c3,g1]
       and_intros
       all_goals first
        | omega
        | exact fin' 5 _ hA (by decide)
        | trace_state
      | true=>
       rw [c3] at hA
       simp only [Bool.not_true,aH] at hA
       simp (maxSteps:=9^6) -dsimp only [go_sem,hg,↓q1,bI,aO,c1,c3,g1,eM,fJ E6]
       and_intros
       all_goals first
        | omega
        | skip
       have hlj:=lP t.fs i
       generalize hm:t.fs.take i=m at *
       refine a6 (α:=Nat) (fun j=>[(2,.va (.c1 (.pt 2 0))),(3,.va (.c1 (.pt 3 0))),(6,.va (.c1 (.pt 4 0))),(10,.va (.c1 (.fz (t.fs.map bI)))),(11,iS .i64 t.fs.length),(12,iS .i64 i),(49,.va (.c1 (.fz (m.map bI)))),(50,iS .i64 m.length),(51,iS .i64 j)])
        (fun _=>[.map .string ks (vs.map gA),.map .string ks' (vs'.map gE),.cells [.mp 0,.mp 1] 117,.cells (aO t) 56,.cells (bI f) 64])
        (fun j=>j<=m.length/\(m.drop j).any (fun g=>decide (g.nm=f.nm))=m.any (fun g=>decide (g.nm=f.nm))) (fun j=>m.length - j) 0 5 ⟨Nat.zero_le _,rfl⟩ ?_ ?_ ?_
       · simp -dsimp only [go_sem]<;>simp
       · simp -dsimp only [go_sem,aO,bI]<;>simp
       rintro j ⟨hj,ho2⟩
       rcases bQ j m.length with hjt | hjg
       · have hgj:decide ((j:Int) < (m.length:Int))=true:=by simp; omega
         obtain ⟨d,hd⟩:∃ e,m[j]? = some e:=⟨_,aT hjt⟩
         have q5:=a7 (row:=bI) hd
         rw [fL hd] at ho2
         simp (maxSteps:=9^6) -dsimp only [go_sem,hgj,↓q5,bI,aO,eX]
         and_intros
         all_goals first
          | omega
          | skip
         · intro hc
           rw [hc,Bool.true_or] at ho2
           rw [<-ho2] at hA
           exact fin' 7 _ hA (by decide)
         · intro hc
           rw [hc,Bool.false_or] at ho2
           refine ⟨by omega,aD (j + 1) 5 ⟨by omega,ho2⟩ (by omega) ?_ ?_⟩
           · simp -dsimp only [go_sem]<;>simp
           · simp -dsimp only [go_sem,aO,bI]<;>simp
       · have hgj:decide ((j:Int) < (m.length:Int))=false:=by simp; omega
         obtain rfl:j=m.length:=by omega
         rw [gH] at ho2
         rw [<-ho2] at hA
         simp only [aH] at hA
         simp (maxSteps:=9^6) -dsimp only [go_sem,hgj,bI,aO,kR]
         refine B8 h1 h2 hf.ty ?_
         cases c5:valF ss es f.ty with
         | true=>
          rw [c5] at hA
          simp (maxSteps:=9^6) -dsimp only [go_sem]
          refine ⟨by omega,aD (i + 1) 4 ⟨by omega,dE hA⟩ (by omega) ?_ ?_⟩
          · simp -dsimp only [go_sem]<;>simp
          · simp -dsimp only [go_sem,aO]<;>simp
         | false=>
          rw [c5] at hA
          simp (maxSteps:=9^6) -dsimp only [go_sem]
          exact fin' 13 _ hA (by decide)
    · have g1:decide (0 < (i:Int))=true:=by simp; omega
      obtain ⟨g,hy⟩:∃ m,t.fs[i - 1]? = some m:=⟨_,aT (by omega)⟩
      have q4:((i:Int) - 1).toNat=i - 1:=by omega
      rw [g1,hy,Bool.true_and] at hA
      simp only at hA
      cases c2:decide (f.num<=g.num) with
      | true=>
       rw [c2] at hA
       simp (maxSteps:=9^6) -dsimp only [go_sem,hg,↓q1,bI,aO,c1,g1,q4,hy,aC,forall_eq',c2]
       and_intros
       all_goals first
        | omega
        | exact fin' 2 _ hA (by decide)
        | trace_state
      | false=>
       rw [c2] at hA
       simp only [aH] at hA
       cases c3:bU (bl f.nm) with
       | false=>
        rw [c3] at hA
        simp (maxSteps:=9^6) -dsimp only [go_sem,hg,↓q1,bI,aO,c1,c3,g1,q4,hy,aC,forall_eq',c2]
        and_intros
        all_goals first
         | omega
         | exact fin' 5 _ hA (by decide)
         | trace_state
       | true=>
        rw [c3] at hA
        simp only [Bool.not_true,aH] at hA
        simp (maxSteps:=9^6) -dsimp only [go_sem,hg,↓q1,bI,aO,c1,c3,g1,q4,hy,aC,forall_eq',c2,eM,fJ E6]
        and_intros
        all_goals first
         | omega
         | skip
        have hlj:=lP t.fs i
        generalize hm:t.fs.take i=m at *
        refine a6 (α:=Nat) (fun j=>[(2,.va (.c1 (.pt 2 0))),(3,.va (.c1 (.pt 3 0))),(6,.va (.c1 (.pt 4 0))),(10,.va (.c1 (.fz (t.fs.map bI)))),(11,iS .i64 t.fs.length),(12,iS .i64 i),(49,.va (.c1 (.fz (m.map bI)))),(50,iS .i64 m.length),(51,iS .i64 j)])
         (fun _=>[.map .string ks (vs.map gA),.map .string ks' (vs'.map gE),.cells [.mp 0,.mp 1] 117,.cells (aO t) 56,.cells (bI f) 64])
         (fun j=>j<=m.length/\(m.drop j).any (fun g=>decide (g.nm=f.nm))=m.any (fun g=>decide (g.nm=f.nm))) (fun j=>m.length - j) 0 5 ⟨Nat.zero_le _,rfl⟩ ?_ ?_ ?_
        · simp -dsimp only [go_sem]<;>simp
        · simp -dsimp only [go_sem,aO,bI]<;>simp
        rintro j ⟨hj,ho2⟩
        rcases bQ j m.length with hjt | hjg
        · have hgj:decide ((j:Int) < (m.length:Int))=true:=by simp; omega
          obtain ⟨d,hd⟩:∃ e,m[j]? = some e:=⟨_,aT hjt⟩
          have q5:=a7 (row:=bI) hd
          rw [fL hd] at ho2
          simp (maxSteps:=9^6) -dsimp only [go_sem,hgj,↓q5,bI,aO,eX]
          and_intros
          all_goals first
           | omega
           | skip
          · intro hc
            rw [hc,Bool.true_or] at ho2
            rw [<-ho2] at hA
            exact fin' 7 _ hA (by decide)
          · intro hc
            rw [hc,Bool.false_or] at ho2
            refine ⟨by omega,aD (j + 1) 5 ⟨by omega,ho2⟩ (by omega) ?_ ?_⟩
            · simp -dsimp only [go_sem]<;>simp
            · simp -dsimp only [go_sem,aO,bI]<;>simp
        · have hgj:decide ((j:Int) < (m.length:Int))=false:=by simp; omega
          obtain rfl:j=m.length:=by omega
          rw [gH] at ho2
          rw [<-ho2] at hA
          simp only [aH] at hA
          simp (maxSteps:=9^6) -dsimp only [go_sem,hgj,bI,aO,kR]
          refine B8 h1 h2 hf.ty ?_
          cases c5:valF ss es f.ty with
          | true=>
           rw [c5] at hA
           simp (maxSteps:=9^6) -dsimp only [go_sem]
           refine ⟨by omega,aD (i + 1) 4 ⟨by omega,dE hA⟩ (by omega) ?_ ?_⟩
           · simp -dsimp only [go_sem]<;>simp
           · simp -dsimp only [go_sem,aO]<;>simp
          | false=>
           rw [c5] at hA
           simp (maxSteps:=9^6) -dsimp only [go_sem]
           exact fin' 13 _ hA (by decide)
 · have hg:decide ((i:Int) < (t.fs.length:Int))=false:=by simp; omega
   obtain rfl:i=t.fs.length:=by omega
   rw [uP] at ho
   simp -dsimp only [go_sem,hg,aO]
   exact fin 0 _ ho.symm
abbrev eU (ns:List ByteArray):List Value:=ns.map Value.string
def fO:List ByteArray->ByteArray->Option Nat
 | [],_=>none
 | k :: ks,q=>bif decide (q=k) then some 0 else (fO ks q).map (· + 1)
theorem IZ (a b:ByteArray):uN (.string a) (.string b)=decide (a=b):=by
 rw [Bool.eq_iff_iff,xL (d:=.string) (by simp [MapKept.IsKey]) (by simp [MapKept.IsKey])]; simp
theorem iE (q:ByteArray):∀ ns:List ByteArray,mR (eU ns) (.string q)=fO ns q
 | []=>rfl
 | k :: ks=>by
  have:=iE q ks
  simp only [eU,List.map_cons,mR,fO,IZ] at this ⊢
  rw [this]
theorem jX {q:ByteArray}:∀ {ns:List ByteArray} {i:Nat},fO ns q=some i->ns[i]? = some q/\i < ns.length
 | [],_,h=>by cases h
 | k :: ks,i,h=>by
  simp only [fO] at h
  by_cases hk:q=k
  · simp [hk] at h; subst h; simp [hk]
  · simp [hk] at h
    obtain ⟨j,h1,rfl⟩:=h
    have:=jX h1
    simpa using this
theorem JG (ns:List ByteArray) (q n:ByteArray):fO (ns ++ [q]) n=match fO ns n with | some i=>some i | none=>bif decide (n=q) then some ns.length else none:=by
 induction ns with
 | nil=>simp only [List.nil_append,fO,List.length_nil,Option.map_none]
 | cons k ks ih=>
  simp only [List.cons_append,fO,ih]
  by_cases hk:n=k
  · simp [hk]
  · simp only [hk,decide_false,cond_false]
    cases fO ks n with
    | some i=>rfl
    | none=>by_cases hq:n=q<;>simp [hq]
theorem m6 {α:Type} (row:α->A) (ns:List ByteArray) (l:List α) (n:ByteArray):fY (eU ns) (l.map row) (.string n)=(fO ns n).bind fun i=>(l[i]?).map row:=by
 unfold fY; rw [iE]; simp only [List.getElem?_map]
theorem B7 {α:Type} (row:α->A) {ns:List ByteArray} {l:List α} (h:ns.length=l.length) (q:ByteArray) (x:α):∃ (ns':List ByteArray) (l':List α),g6 (eU ns) (.string q)=eU ns'/\iR (eU ns) (l.map row) (.string q) (row x)=l'.map row/\
 ns'.length=l'.length/\∀ n,fY (eU ns') (l'.map row) (.string n)=bif decide (n=q) then some (row x) else fY (eU ns) (l.map row) (.string n):=by
 cases hm:fO ns q with
 | none=>
  refine ⟨ns ++ [q],l ++ [x],?_,?_,by simp [h],fun n=>?_⟩
  · unfold g6; rw [iE,hm]; simp
  · unfold iR; rw [iE,hm]; simp
  · rw [m6,m6,JG]
    by_cases hn:n=q
    · subst hn; rw [hm]; simp [h]
    · simp only [hn,decide_false,cond_false]
      cases hs:fO ns n with
      | none=>rfl
      | some i=>have:=(jX hs).2; simp [List.getElem?_append_left (show i < l.length by omega)]
 | some i=>
  obtain ⟨h1,h2⟩:=jX hm
  refine ⟨ns,l.set i x,?_,?_,by simp [h],fun n=>?_⟩
  · unfold g6; rw [iE,hm]
  · unfold iR; rw [iE,hm]; simp only [List.map_set]
  · rw [m6,m6]
    by_cases hn:n=q
    · subst hn; rw [hm]; simp [show i < l.length by omega]
    · simp only [hn,decide_false,cond_false]
      cases hs:fO ns n with
      | none=>rfl
      | some j=>
       have hj:=jX hs
       have:i ≠ j:=fun e=>hn (by subst e; rw [h1] at hj; exact (aZ hj.1).symm)
       simp [List.getElem?_set,this]
theorem O7 {ss:List St} {k:Nat} {x:St} (hx:ss[k]? = some x) (n:ByteArray):fS (ss.drop k) n=bif decide (n=x.nm) then some x else fS (ss.drop (k + 1)) n:=by
 obtain ⟨h,rfl⟩:=aY.1 hx
 rw [List.drop_eq_getElem_cons h]
 unfold fS
 rw [List.find?_cons]
 by_cases hn:n=ss[k].nm
 · simp [hn]
 · simp [hn,show ¬ ss[k].nm=n from fun e=>hn e.symm]
theorem J1 {ss:List En} {k:Nat} {x:En} (hx:ss[k]? = some x) (n:ByteArray):y7 (ss.drop k) n=bif decide (n=x.nm) then some x else y7 (ss.drop (k + 1)) n:=by
 obtain ⟨h,rfl⟩:=aY.1 hx
 rw [List.drop_eq_getElem_cons h]
 unfold y7
 rw [List.find?_cons]
 by_cases hn:n=ss[k].nm
 · simp [hn]
 · simp [hn,show ¬ ss[k].nm=n from fun e=>hn e.symm]
def UD:W.Spec:=fun av H K=>∃ s:Sc,av=[.va (.gs (aM s))]/\H=[]/\s.ok/\∀ ks vs ks' vs',iX ks vs s.ss->xJ ks' vs' s.es->K kF (eF ks vs ks' vs')
theorem UC {s:Sc} {K:S->Hp->Prop} (h:s.ok) (hK:∀ ks vs ks' vs',iX ks vs s.ss->xJ ks' vs' s.es->K kF (eF ks vs ks' vs')):UD [.va (.gs (aM s))] [] K:=⟨s,rfl,rfl,h,hK⟩
abbrev XD:B:=.cells [.vl (.map none),.vl (.map none)] 117
theorem JO:Meets Tryz.prog 75 UD:=by
 refine aG Tryz.func75 ZS 1 (by rw [Tryz.ntmps75]; decide) (aB _) (fun av H K h=>by obtain ⟨_,rfl,_⟩:=h; rfl) ?_
 rintro av H K ⟨s,rfl,rfl,hs,hK⟩
 obtain ⟨_,hle,hls,_,_⟩:=hs
 simp -dsimp only [go_sem,aM,SG,R7]
 refine ⟨by omega,a6 (α:=Nat × List ByteArray × List St) (fun z=>[(1,.va (.c1 (.pt 0 0))),(2,.va (.c1 (.pt 1 0))),(3,.va (.c1 (.pt 4 0))),(4,iS .i64 ((z.1:Int) - 1))]) (fun z=>[.cells (aM s) 25,XD,.map .string (eU z.2.1) (z.2.2.map gA),.map .string [] [],.cells [.mp 2,.mp 3] 117])
  (fun z=>z.1<=s.ss.length/\z.2.1.length=z.2.2.length/\∀ n,fY (eU z.2.1) (z.2.2.map gA) (.string n)=(fS (s.ss.drop z.1) n).map gA) (fun z=>z.1) (s.ss.length,[],[]) 5 ⟨Nat.le_refl _,rfl,fun n=>by rw [List.drop_length]; rfl⟩ ?_ ?_ ?_⟩
 · simp -dsimp only [go_sem]<;>simp
 · simp -dsimp only [go_sem,aM]<;>simp
 rintro ⟨m,ns,l⟩ ⟨hm,hnl,hg⟩
 simp only at hm hnl hg ⊢
 cases m with
 | zero=>
  have e0:decide (0<=((0:Nat):Int) - 1)=false:=rfl
  rw [List.drop_zero] at hg
  simp -dsimp only [go_sem,aM,e0]
  refine ⟨by omega,a6 (α:=Nat × List ByteArray × List En) (fun z=>[(1,.va (.c1 (.pt 0 0))),(2,.va (.c1 (.pt 1 0))),(3,.va (.c1 (.pt 4 0))),(5,iS .i64 ((z.1:Int) - 1))]) (fun z=>[.cells (aM s) 25,XD,.map .string (eU ns) (l.map gA),.map .string (eU z.2.1) (z.2.2.map gE),.cells [.mp 2,.mp 3] 117])
   (fun z=>z.1<=s.es.length/\z.2.1.length=z.2.2.length/\∀ n,fY (eU z.2.1) (z.2.2.map gE) (.string n)=(y7 (s.es.drop z.1) n).map gE) (fun z=>z.1) (s.es.length,[],[]) 5 ⟨Nat.le_refl _,rfl,fun n=>by rw [List.drop_length]; rfl⟩ ?_ ?_ ?_⟩
  · simp -dsimp only [go_sem]<;>simp
  · simp -dsimp only [go_sem,aM]<;>simp
  clear hnl hm
  rintro ⟨m,ms,j⟩ ⟨hm,hnl,hge⟩
  simp only at hm hnl hge ⊢
  cases m with
  | zero=>
   rw [List.drop_zero] at hge
   simp -dsimp only [go_sem,aM,e0]
   exact .sel [2,3] (by simp) (by simp) rfl (.done (by simp -dsimp only [go_sem]; simpa [go_sem] using hK (eU ns) l (eU ms) j hg hge))
  | succ k=>
   obtain ⟨x,hx⟩:∃ x,s.es[k]? = some x:=⟨_,aT (by omega)⟩
   have q2:=a7 (row:=aQ) hx
   have e1:((k + 1:Nat):Int) - 1=(k:Int):=by omega
   have e2:decide (0<=(k:Int))=true:=by simp
   obtain ⟨ns',l',p1,p2,p3,p4⟩:=B7 gE hnl x.nm x
   simp -dsimp only [go_sem,aM,e1,e2,↓q2,aQ]
   refine ⟨by omega,by omega,by omega,aD (k,ns',l') 5 ⟨by simp only; omega,p3,fun n=>?_⟩ (Nat.lt_succ_self _) ?_ ?_⟩
   · simp only; rw [p4,J1 hx,hge]; cases decide (n=x.nm)<;>rfl
   · simp -dsimp only [go_sem]<;>simp
   · simp -dsimp only [go_sem,aM,p1]<;>simp
     exact (congrArg (List.map (A.ren (jA 5))) p2).trans (PK _ _)
 | succ k=>
  obtain ⟨x,hx⟩:∃ x,s.ss[k]? = some x:=⟨_,aT (by omega)⟩
  have q2:=a7 (row:=aO) hx
  have e1:((k + 1:Nat):Int) - 1=(k:Int):=by omega
  have e2:decide (0<=(k:Int))=true:=by simp
  obtain ⟨ns',l',p1,p2,p3,p4⟩:=B7 gA hnl x.nm x
  simp -dsimp only [go_sem,aM,e1,e2,↓q2,aO]
  refine ⟨by omega,by omega,by omega,aD (k,ns',l') 5 ⟨by simp only; omega,p3,fun n=>?_⟩ (Nat.lt_succ_self _) ?_ ?_⟩
  · simp only; rw [p4,O7 hx,hg]; cases decide (n=x.nm)<;>rfl
  · simp -dsimp only [go_sem]<;>simp
  · simp -dsimp only [go_sem,aM,p1]<;>simp
    exact (congrArg (List.map (A.ren (jA 5))) p2).trans (O5 _ _)
mutual
def dU:Ty->Ty
 | .mk k s n e=>bif k == 5 then A3 e (.mk k s n e) else .mk k s n e
def A3:List Ty->Ty->Ty
 | [],d=>d
 | u :: r,d=>bif r.isEmpty then dU u else d
end
def cG (t:Ty):Bool:=(dU t).k == 6 || (dU t).k == 7
def bD (t:Ty):ByteArray:=(dU t).n
theorem yH {s:Int} {n:ByteArray} {u:Ty}:dU (.mk 5 s n [u])=dU u:=by simp [dU,A3]
theorem tM {k s:Int} {n:ByteArray} {e:List Ty} (h:(k == 5 && (e.length:Int) == 1)=false):dU (.mk k s n e)=.mk k s n e:=by
 rw [dU]
 cases hk:k == 5 with
 | false=>rfl
 | true=>
  rw [hk,Bool.true_and] at h
  match e,h with
  | [],_=>rfl
  | [u],h=>simp at h
  | u :: v :: r,_=>simp [A3]
def F0:W.Spec:=fun av H K=>match av,H with
 | [.va (.gs r)],[]=>iQ r/\K (.tu [.c1 (.vl (.string (bD (C.ty r)))),bA (cG (C.ty r))]) []
 | _,_=>False
theorem x7 {av:List S} {H:Hp} {K:S->Hp->Prop} (h:F0 av H K):∃ t:Ty,av=[.va (.gs (aX t))]/\H=[]/\TyOk t/\K (.tu [.c1 (.vl (.string (bD t))),bA (cG t)]) []:=by
 unfold F0 at h
 split at h
 · obtain ⟨⟨t,rfl,ht⟩,hK⟩:=h
   rw [pC] at hK
   exact ⟨t,rfl,rfl,ht,hK⟩
 · exact h.elim
attribute [go_sem ↓] F0
theorem wF (t:Ty):∀ c ∈ aX t,c.one:=by rw [bO]; simp [go_sem]
theorem T8:Meets Tryz.prog 124 F0:=by
 refine aG Tryz.func124 VL 1 (by rw [Tryz.ntmps124]; decide) (aB _) (fun av H K h=>by obtain ⟨_,rfl,_⟩:=x7 h; rfl) ?_
 intro av H K h
 obtain ⟨t,rfl,rfl,ht,hK⟩:=x7 h
 simp -dsimp only [go_sem,L9,MW]
 refine a6 (α:=Ty) (fun z=>[(1,.va (.c1 (.pt 0 0)))]) (fun z=>[.cells (aX z) 37]) (fun z=>dU z=dU t) (fun z=>z.h) t 1 rfl ?_ ?_ ?_
 · simp -dsimp only [go_sem]<;>simp
 · simp -dsimp only [go_sem]<;>simp
 intro z hz
 cases z with
 | mk k s n e=>
 cases hc:(k == 5 && (e.length:Int) == 1) with
 | true=>
  simp only [Bool.and_eq_true,beq_iff_eq] at hc
  obtain ⟨rfl,hl⟩:=hc
  obtain ⟨u,rfl⟩:∃ u,e=[u]:=List.length_eq_one_iff.1 (by omega)
  rw [yH] at hz
  simp -dsimp only [go_sem,aX,bN]
  refine ⟨fun _=>⟨⟨by omega,fun r hr=>by subst hr; exact dP u⟩,fun r hr=>?_⟩,fun h=>by simp at h⟩
  subst hr
  simp -dsimp only [go_sem,dP]
  refine ⟨wF u,aD u 1 hz (by simp only [Ty.h,Ty.hs]; omega) ?_ ?_⟩
  · simp -dsimp only [go_sem]<;>simp
  · simp -dsimp only [go_sem]<;>simp
 | false=>
  rw [tM hc] at hz
  simp -dsimp only [go_sem,aX,bN,hc]
  rw [bD,cG,<-hz] at hK
  exact .z ((by simpa [go_sem,Ty.n,Ty.k] using hK))
abbrev x6:ByteArray->A:=fun _=>.c1 (.vl (.bool true))
@[go_sem] theorem aBS (f:Nat->Option Nat) (l:List ByteArray):(l.map x6).map (A.ren f)=l.map x6:=by rw [List.map_map]; rfl
@[go_sem] theorem aCG (n:Nat) (xs:List (List C)) (l:List ByteArray):(l.map x6).map (A.pub n xs)=l.map x6:=by rw [List.map_map]; rfl
def a8 (go:St->List ByteArray->List ByteArray) (ss:List St) (o:List ByteArray) (f:Fl):List ByteArray:=
 bif !(cG f.ty) || b6 o (bD f.ty) then o else match fS ss (bD f.ty) with
  | some t=>go t (o ++ [bD f.ty])
  | none=>o ++ [bD f.ty]
def bT (ss:List St):Nat->St->List ByteArray->List ByteArray
 | 0,_,o=>o
 | N + 1,t,o=>t.fs.foldl (a8 (bT ss N) ss) o
theorem n4 (n:ByteArray):∀ ns:List ByteArray,(fO ns n).isSome=b6 ns n
 | []=>rfl
 | k :: ks=>by
  have:=n4 n ks
  unfold b6 at this
  simp only [fO,b6,List.any_cons]
  by_cases h:n=k
  · simp [h]
  · simp [h,this]
theorem NS (o:List ByteArray) (n:ByteArray):fY (eU o) (o.map x6) (.string n)=bif b6 o n then some (.c1 (.vl (.bool true))) else none:=by
 rw [m6,<-n4]
 cases h:fO o n with
 | none=>rfl
 | some i=>simp [aT (jX h).2]
theorem KD {o:List ByteArray} {n:ByteArray} (h:b6 o n=false):g6 (eU o) (.string n)=eU (o ++ [n]):=by
 rw [<-n4] at h
 unfold g6; rw [iE]
 cases h2:fO o n with
 | none=>simp
 | some i=>rw [h2] at h; cases h
theorem JY {o:List ByteArray} {n:ByteArray} (h:b6 o n=false):iR (eU o) (o.map x6) (.string n) (.c1 (.vl (.bool true)))=(o ++ [n]).map x6:=by
 rw [<-n4] at h
 unfold iR; rw [iE]
 cases h2:fO o n with
 | none=>simp
 | some i=>rw [h2] at h; cases h
def fresh:List St->List ByteArray->Nat
 | [],_=>0
 | s :: ss,o=>(bif b6 o s.nm then 0 else 1) + fresh ss o
theorem EF (o p:List ByteArray) (n:ByteArray):b6 (o ++ p) n=(b6 o n || b6 p n):=by simp [b6]
theorem mD (o p:List ByteArray):∀ ss:List St,fresh ss (o ++ p)<=fresh ss o
 | []=>Nat.le_refl _
 | s :: ss=>by
  have:=mD o p ss
  simp only [fresh,EF]
  cases b6 o s.nm<;>cases b6 p s.nm<;>simp only [Bool.or_true,Bool.or_false,aN,aH]<;>omega
theorem tI {o:List ByteArray} {n:ByteArray} {t:St} (hn:b6 o n=false):∀ {ss:List St},fS ss n=some t->fresh ss (o ++ [n]) < fresh ss o
 | [],h=>by cases h
 | s :: ss,h=>by
  unfold fS at h
  rw [List.find?_cons] at h
  simp only [fresh,EF]
  by_cases hs:s.nm=n
  · have h1:=mD o [n] ss
    have h2:b6 [n] s.nm=true:=by simp [b6,hs]
    have h3:b6 o s.nm=false:=by rw [hs]; exact hn
    rw [h2,h3]; simp only [Bool.or_true,aN,aH]; omega
  · simp only [hs,decide_false] at h
    have:=tI hn h
    have h2:b6 [n] s.nm=false:=by simp [b6,hs]
    rw [h2,Bool.or_false]
    omega
def Pfx (o p:List ByteArray):Prop:=∃ q,p=o ++ q
theorem Pfx.refl (o:List ByteArray):Pfx o o:=⟨[],by simp⟩
theorem Pfx.trans {a b c:List ByteArray} (h:Pfx a b) (k:Pfx b c):Pfx a c:=by
 obtain ⟨p,rfl⟩:=h; obtain ⟨q,rfl⟩:=k; exact ⟨p ++ q,by simp⟩
theorem Pfx.len {a b:List ByteArray} (h:Pfx a b):a.length<=b.length:=by obtain ⟨p,rfl⟩:=h; simp
theorem Pfx.fresh {ss:List St} {a b:List ByteArray} (h:Pfx a b):fresh ss b<=fresh ss a:=by obtain ⟨p,rfl⟩:=h; exact mD _ _ _
theorem mE {go:St->List ByteArray->List ByteArray} (hg:∀ t o,Pfx o (go t o)) (ss:List St) (o:List ByteArray) (f:Fl):Pfx o (a8 go ss o f):=by
 unfold a8
 cases !(cG f.ty) || b6 o (bD f.ty) with
 | true=>exact .refl _
 | false=>
  cases fS ss (bD f.ty) with
  | none=>exact ⟨_,rfl⟩
  | some t=>exact Pfx.trans ⟨_,rfl⟩ (hg _ _)
theorem nT {g:List ByteArray->Fl->List ByteArray} (hg:∀ o f,Pfx o (g o f)):∀ (l:List Fl) (o:List ByteArray),Pfx o (l.foldl g o)
 | [],_o=>.refl _
 | f :: l,o=>(hg o f).trans (nT hg l _)
theorem jE (ss:List St):∀ (N:Nat) (t:St) (o:List ByteArray),Pfx o (bT ss N t o)
 | 0,_,_o=>.refl _
 | N + 1,t,o=>nT (fun o f=>mE (jE ss N) ss o f) t.fs o
abbrev B6 (ks:List Value) (vs:List St) (ks':List Value) (vs':List En) (o:List ByteArray):Hp:=
 [.map .string ks (vs.map gA),.map .string ks' (vs'.map gE),.cells [.mp 0,.mp 1] 117,.map .string (eU o) (o.map x6),.cells [.mp 3] 154,.cells [.sl 7 o.length] 52,.cells [.fn 123 [(false,[.pt 4 0]),(false,[.pt 5 0]),(false,[.pt 2 0]),(false,[.pt 6 0])]] 155,.row (o.map cC) 9 1]
def LP (N:Nat):W.Spec:=fun av H K=>∃ (ss:List St) (t:St) (ks:List Value) (vs:List St) (ks':List Value) (vs':List En) (o:List ByteArray),av=[.va (.gs (aO t)),.va (.c1 (.pt 4 0)),.va (.c1 (.pt 5 0)),.va (.c1 (.pt 2 0)),.va (.c1 (.pt 6 0))]/\H=B6 ks vs ks' vs' o/\
 iX ks vs ss/\(∀ s ∈ ss,s.ok)/\t.ok/\fresh ss o < N/\(bT ss N t o).length<=1000000000/\K (.tu []) (B6 ks vs ks' vs' (bT ss N t o))
theorem wY {N:Nat} {ss:List St} {t:St} {ks:List Value} {vs:List St} {ks':List Value} {vs':List En} {o:List ByteArray} {K:S->Hp->Prop} {H:Hp} (hH:H=B6 ks vs ks' vs' o) (h1:iX ks vs ss) (h2:∀ s ∈ ss,s.ok) (h3:t.ok) (h4:fresh ss o < N) (h5:(bT ss N t o).length<=1000000000) (hK:K (.tu []) (B6 ks vs ks' vs' (bT ss N t o))) :
 LP N [.va (.gs (aO t)),.va (.c1 (.pt 4 0)),.va (.c1 (.pt 5 0)),.va (.c1 (.pt 2 0)),.va (.c1 (.pt 6 0))] H K:=⟨ss,t,ks,vs,ks',vs',o,rfl,hH,h1,h2,h3,h4,h5,hK⟩
theorem GX {g:List ByteArray->Fl->List ByteArray} {l:List Fl} {i:Nat} {f:Fl} (hx:l[i]? = some f) (o:List ByteArray):(l.drop i).foldl g o=(l.drop (i + 1)).foldl g (g o f):=by
 obtain ⟨h,rfl⟩:=aY.1 hx
 rw [List.drop_eq_getElem_cons h]; rfl
theorem H7:∀ N,Meets Tryz.prog 123 (LP N)
 | 0=>⟨by kernel_rfl,by rintro xs vs E ro w K _ _ _ ⟨_,_,_,_,_,_,_,_,_,_,_,_,h,_⟩; exact absurd h (Nat.not_lt_zero _)⟩
 | N + 1=>by
  refine aG Tryz.func123 VB 5 (by rw [Tryz.ntmps123]; decide) (aA (H7 N) (aA T8 (aB _))) (fun av H K h=>by obtain ⟨_,_,_,_,_,_,_,rfl,_⟩:=h; rfl) ?_
  rintro av H K ⟨ss,t,ks,vs,ks',vs',o0,rfl,rfl,h1,h2,h3,h4,h5,hK⟩
  obtain ⟨_,hl,hfs⟩:=h3
  simp -dsimp only [go_sem,aO,M8,NF]
  refine a6 (α:=Nat × List ByteArray) (fun z=>[(1,.va (.c1 (.pt 4 0))),(2,.va (.c1 (.pt 5 0))),(3,.va (.c1 (.pt 2 0))),(4,.va (.c1 (.pt 6 0))),(13,.va (.c1 (.fz (t.fs.map bI)))),(14,iS .i64 t.fs.length),(15,iS .i64 z.1)]) (fun z=>B6 ks vs ks' vs' z.2)
   (fun z=>z.1<=t.fs.length/\(t.fs.drop z.1).foldl (a8 (bT ss N) ss) z.2=bT ss (N + 1) t o0/\fresh ss z.2 < N + 1) (fun z=>t.fs.length - z.1) (0,o0) 8 ⟨Nat.zero_le _,rfl,h4⟩ ?_ ?_ ?_
  · simp -dsimp only [go_sem]<;>simp
  · simp -dsimp only [go_sem]<;>simp
  rintro ⟨i,o⟩ ⟨hi,ho,hfr⟩
  simp only at hi ho hfr ⊢
  rcases bQ i t.fs.length with hlt | hge
  · have hg:decide ((i:Int) < (t.fs.length:Int))=true:=by simp; omega
    obtain ⟨f,hx⟩:∃ nm,t.fs[i]? = some nm:=⟨_,aT hlt⟩
    have q1:=a7 (row:=bI) hx
    have hf:f.ok:=hfs f (bH hx)
    rw [GX hx] at ho
    have ht:iQ (aX f.ty):=iG hf.ty
    cases c1:cG f.ty with
    | false=>
     simp (maxSteps:=9^6) -dsimp only [go_sem,hg,↓q1,bI,kR,ht,c1]
     have hv:a8 (bT ss N) ss o f=o:=by unfold a8; rw [c1]; rfl
     rw [hv] at ho
     refine ⟨by omega,by omega,aD (i + 1,o) 8 ⟨by simp only; omega,ho,hfr⟩ (by simp only; omega) ?_ ?_⟩
     · simp -dsimp only [go_sem]<;>simp
     · simp -dsimp only [go_sem]<;>simp
    | true=>
    have hm:=NS o (bD f.ty)
    cases c2:b6 o (bD f.ty) with
    | true=>
     have hv:a8 (bT ss N) ss o f=o:=by unfold a8; rw [c1,c2]; rfl
     rw [hv] at ho
     rw [c2] at hm
     simp only [aN] at hm
     simp (maxSteps:=9^6) -dsimp only [go_sem,hg,↓q1,bI,kR,ht,c1,hm]
     refine ⟨by omega,by omega,aD (i + 1,o) 8 ⟨by simp only; omega,ho,hfr⟩ (by simp only; omega) ?_ ?_⟩
     · simp -dsimp only [go_sem]<;>simp
     · simp -dsimp only [go_sem]<;>simp
    | false=>
     rw [c2] at hm
     simp only [aH] at hm
     have mk1:=KD c2
     have mv1:=JY c2
     have hx1:=h1 (bD f.ty)
     have hb1:(a8 (bT ss N) ss o f).length<=1000000000:=by
      have:=(nT (fun o f=>mE (jE ss N) ss o f) (t.fs.drop (i + 1)) (a8 (bT ss N) ss o f)).len
      rw [ho] at this; omega
     have hb:(o ++ [bD f.ty]).length<=1000000000:=by
      refine Nat.le_trans (Pfx.len ?_) hb1
      unfold a8; rw [c1,c2]
      cases fS ss (bD f.ty) with
      | none=>exact .refl _
      | some t=>exact jE _ _ _ _
     cases hs:fS ss (bD f.ty) with
     | none=>
      have hv:a8 (bT ss N) ss o f=o ++ [bD f.ty]:=by unfold a8; rw [c1,c2,hs]; rfl
      rw [hv] at ho
      rw [hs] at hx1
      simp only [Option.map_none] at hx1
      simp (maxSteps:=9^6) -dsimp only [go_sem,hg,↓q1,bI,kR,ht,c1,hm,mk1,mv1,hx1]
      refine ⟨by omega,by simp at hb; omega,by omega,aD (i + 1,o ++ [bD f.ty]) 8 ⟨by simp only; omega,ho,by have:=mD o [bD f.ty] ss; simp only; omega⟩ (by simp only; omega) ?_ ?_⟩
      · simp -dsimp only [go_sem]<;>simp
      · simp -dsimp only [go_sem]<;>simp
     | some d=>
      have hv:a8 (bT ss N) ss o f=bT ss N d (o ++ [bD f.ty]):=by unfold a8; rw [c1,c2,hs]; rfl
      rw [hv] at ho hb1
      rw [hs] at hx1
      simp only [Option.map_some] at hx1
      have hd:d.ok:=h2 d (List.mem_of_find?_eq_some hs)
      have hfl:=tI c2 hs
      simp (maxSteps:=9^6) -dsimp only [go_sem,hg,↓q1,bI,kR,ht,c1,hm,mk1,mv1,hx1,aO]
      refine ⟨by omega,by simp at hb; omega,wY (o:=o ++ [bD f.ty]) (ks':=ks') (vs':=vs') (by simp [go_sem]) h1 h2 hd (by omega) hb1 ?_⟩
      simp (maxSteps:=9^6) -dsimp only [go_sem]
      refine ⟨by omega,aD (i + 1,bT ss N d (o ++ [bD f.ty])) 8 ⟨by simp only; omega,ho,by have:=(jE ss N d (o ++ [bD f.ty])).fresh (ss:=ss); simp only; omega⟩ (by simp only; omega) ?_ ?_⟩
      · simp -dsimp only [go_sem]<;>simp
      · simp -dsimp only [go_sem]<;>simp
  · have hg:decide ((i:Int) < (t.fs.length:Int))=false:=by simp; omega
    obtain rfl:i=t.fs.length:=by omega
    rw [List.drop_length] at ho
    simp only [List.foldl_nil] at ho
    simp -dsimp only [go_sem,hg]
    rw [<-ho] at hK
    exact .sel [0,1,2,3,4,5,6,7] (by simp) (by simp) rfl (.done (by simp -dsimp only [go_sem]; simpa [go_sem] using hK))
end Go.Proofs.YtgogpogophflhaaGreatDoor
namespace Go.Proofs
open Go.Shelf
def Tryz.lays190_ren:Go.Shelf.Ren:=⟨fun | 190=>125 | 125=>133 | 258=>132 | 128=>149 | 129=>135 | 302=>140 | 303=>141 | 304=>142 | 305=>143 | 306=>144 | 307=>145 | 308=>146 | 309=>147 | 310=>148 | 333=>152 | 329=>153 | 330=>154 | 334=>155 | 335=>156 | 336=>157 | 344=>158 | n=>n,fun | 31=>52 | 9=>9 | 3=>3 | 46=>168 | 0=>0 | 51=>171 | 53=>127 | 4=>4 | 183=>176 | 182=>175 | 131=>160 | 5=>5 | 218=>183 | 222=>187 | 228=>191 | 229=>192 | n=>n,fun | n=>n⟩
theorem Tryz.lays190:Go.Proofs.Lays.n190 Tryz.prog Tryz.lays190_ren:={
 mixed:=by kernel_rfl
 f125:=Tryz.func133.trans (congrArg some (by kernel_rfl))
 f128:=Tryz.func149.trans (congrArg some (by kernel_rfl))
 f129:=Tryz.func135.trans (congrArg some (by kernel_rfl))
 f190:=Tryz.func125.trans (congrArg some (by kernel_rfl))
 f258:=Tryz.func132.trans (congrArg some (by kernel_rfl))
 f302:=Tryz.func140.trans (congrArg some (by kernel_rfl))
 f303:=Tryz.func141.trans (congrArg some (by kernel_rfl))
 f304:=Tryz.func142.trans (congrArg some (by kernel_rfl))
 f305:=Tryz.func143.trans (congrArg some (by kernel_rfl))
 f306:=Tryz.func144.trans (congrArg some (by kernel_rfl))
 f307:=Tryz.func145.trans (congrArg some (by kernel_rfl))
 f308:=Tryz.func146.trans (congrArg some (by kernel_rfl))
 f309:=Tryz.func147.trans (congrArg some (by kernel_rfl))
 f310:=Tryz.func148.trans (congrArg some (by kernel_rfl))
 f329:=Tryz.func153.trans (congrArg some (by kernel_rfl))
 f330:=Tryz.func154.trans (congrArg some (by kernel_rfl))
 f333:=Tryz.func152.trans (congrArg some (by kernel_rfl))
 f334:=Tryz.func155.trans (congrArg some (by kernel_rfl))
 f335:=Tryz.func156.trans (congrArg some (by kernel_rfl))
 f336:=Tryz.func157.trans (congrArg some (by kernel_rfl))
 f344:=Tryz.func158.trans (congrArg some (by kernel_rfl))
 t0:=Tryz.underlying0
 a0:=Tryz.isAgg0
 z0:=Tryz.sizeOf0
 v0:=Tryz.zeroValue0
 t3:=Tryz.underlying3
 a3:=Tryz.isAgg3
 z3:=Tryz.sizeOf3
 v3:=Tryz.zeroValue3
 t4:=Tryz.underlying4
 a4:=Tryz.isAgg4
 z4:=Tryz.sizeOf4
 v4:=Tryz.zeroValue4
 t5:=Tryz.underlying5
 a5:=Tryz.isAgg5
 z5:=Tryz.sizeOf5
 v5:=Tryz.zeroValue5
 t9:=Tryz.underlying9
 a9:=Tryz.isAgg9
 z9:=Tryz.sizeOf9
 v9:=Tryz.zeroValue9
 t31:=Tryz.underlying52
 a31:=Tryz.isAgg52
 z31:=Tryz.sizeOf52
 v31:=Tryz.zeroValue52
 t46:=Tryz.underlying168
 a46:=Tryz.isAgg168
 z46:=Tryz.sizeOf168
 v46:=Tryz.zeroValue168
 t51:=Tryz.underlying171
 a51:=Tryz.isAgg171
 z51:=Tryz.sizeOf171
 v51:=Tryz.zeroValue171
 t53:=Tryz.underlying127
 a53:=Tryz.isAgg127
 z53:=Tryz.sizeOf127
 v53:=Tryz.zeroValue127
 t131:=Tryz.underlying160
 a131:=Tryz.isAgg160
 z131:=Tryz.sizeOf160
 v131:=Tryz.zeroValue160
 t182:=Tryz.underlying175
 a182:=Tryz.isAgg175
 z182:=Tryz.sizeOf175
 v182:=Tryz.zeroValue175
 t183:=Tryz.underlying176
 a183:=Tryz.isAgg176
 z183:=Tryz.sizeOf176
 v183:=Tryz.zeroValue176
 t218:=Tryz.underlying183
 a218:=Tryz.isAgg183
 z218:=Tryz.sizeOf183
 v218:=Tryz.zeroValue183
 t222:=Tryz.underlying187
 a222:=Tryz.isAgg187
 z222:=Tryz.sizeOf187
 v222:=Tryz.zeroValue187
 t228:=Tryz.underlying191
 a228:=Tryz.isAgg191
 z228:=Tryz.sizeOf191
 v228:=Tryz.zeroValue191
 t229:=Tryz.underlying192
 a229:=Tryz.isAgg192
 z229:=Tryz.sizeOf192
 v229:=Tryz.zeroValue192 }
end Go.Proofs
namespace Go.Proofs.YtgogpogophflhaaGreatDoor
open Go.W Go.Sort
def eG (l:List ByteArray):List ByteArray:=((l.map bl).mergeSort fun x y=>decide (x<=y)).map mk
theorem lL (l:List ByteArray):(eG l).length=l.length:=by simp [eG]
theorem oU (w:World) (os:Array Obj) {k:Nat} (h:k < w.heap.size):(grow w os).heap[k]? = w.heap[k]?:=by
 simp [grow,Array.getElem?_append_left h]
theorem C9 (enc:List UInt8->Value) (w:World) (b:Nat) (d:Array (List UInt8)) {cur:Array Value} {T:TypeId} {p:Nat × Nat} (h:w.heap[b]? = some (.cells cur T p)):(putRow enc w b 0 d).heap[b]? = some (.cells (putCells enc 0 d cur) T p):=by
 unfold putRow mapBlock
 simp [Array.getElem?_modify,h,onCells]
theorem wQ (enc:List UInt8->Value) (w:World) {b k:Nat} (d:Array (List UInt8)) (h:k ≠ b):(putRow enc w b 0 d).heap[k]? = w.heap[k]?:=by
 unfold putRow mapBlock
 simp [Array.getElem?_modify,Ne.symm h]
def TK:W.Spec:=fun av H K=>∃ l:List ByteArray,av=[.va (.c1 (.sl 0 l.length))]/\H=[.row (l.map cC) 9 1]/\l.length<=1000000000/\K (.tu []) [.row ((eG l).map cC) 9 1]
theorem IL {l:List ByteArray} {K:S->Hp->Prop} (h:l.length<=1000000000) (hK:K (.tu []) [.row ((eG l).map cC) 9 1]):TK [.va (.c1 (.sl 0 l.length))] [.row (l.map cC) 9 1] K:=⟨l,rfl,rfl,h,hK⟩
theorem sF (l:List ByteArray):(l.map cC).flatten=l.map fun x=>C.vl (.string x):=by
 induction l with
 | nil=>rfl
 | cons x l ih=>rw [List.map_cons,List.flatten_cons,ih]; rfl
theorem QK {l:List ByteArray} {vs:List Value} {ro:RO} (h:All2 (C.fv ro) (l.map cC).flatten vs):vs=l.map Value.string:=by
 rw [sF] at h
 refine List.ext_getElem? fun i=>?_
 obtain ⟨h1,h2⟩:=h
 rw [List.length_map] at h1
 rw [List.getElem?_map]
 rcases bQ i l.length with hi | hi
 · obtain ⟨x,hx⟩:∃ x,l[i]? = some x:=⟨_,aT hi⟩
   obtain ⟨v,hv⟩:∃ v,vs[i]? = some v:=⟨_,aT (by omega)⟩
   have:=h2 i _ v (by rw [List.getElem?_map,hx]; rfl) hv
   rw [hv,hx]; exact congrArg some this
 · rw [List.getElem?_eq_none (by omega),List.getElem?_eq_none hi]; rfl
theorem VF:Meets Tryz.prog 125 TK:=by
 refine ⟨by kernel_rfl,fun av vs E ro w K hlen hrel hR hs _=>?_⟩
 obtain ⟨l,rfl,hH,hl,hK⟩:=hs
 match E,hH with
 | [(g,blk)],hH=>
  obtain rfl:blk=.row (l.map cC) 9 1:=by simpa [hp] using hH
  match vs,hlen with
  | [v0],_=>
   have r0:=hrel 0 _ _ rfl rfl
   have hon:=hR.own 0 g _ rfl
   obtain ⟨o1,o2,o3,o4,o5,o6,o7⟩:=hon
   rw [List.length_map] at o2 o5
   obtain ⟨g',hg',_,_,_,hv0⟩:=r0
   obtain rfl:g=g':=by simpa [gm] using hg'
   obtain rfl:=hv0 o2.symm
   have hvs:=QK o6
   obtain ⟨l1,l2⟩:=o5
   rcases Nat.eq_zero_or_pos l.length with h0 | h0
   · obtain rfl:=List.eq_nil_of_length_eq_zero h0
     refine (Any.slices_Sort_string_none Tryz.lays190 _ _ w).mono ?_
     rintro e w' ⟨rfl,rfl⟩
     rw [show eG []=[] by simp [eG]] at hK
     exact ⟨.tu [],_,[(g,.row ([].map cC) 9 1)],ro,rfl,⟨[],rfl,.nil⟩,hK,hR⟩
   rcases l2 with ⟨_,h1⟩ | ⟨b,cap,cur,hsl,_,hb,hcap,hmax,hcs,htk⟩
   · omega
   have hob:g.ob=some b:=by
    cases hgo:g.ob with
    | none=>rw [hgo] at hsl; simp [aR] at hsl
    | some b'=>rw [hgo] at hsl; simp [aR] at hsl; rw [hsl.1]
   have hgc:g.cap=cap:=by simp at hsl; exact hsl.2
   have hbs:b < w.heap.size:=by
    rcases bQ b w.heap.size with h' | h'
    · exact h'
    · rw [Array.getElem?_eq_none h'] at hb; cases hb
   have hcell:∀ k,k < l.length->w.cell? ⟨b,k,none⟩=(l.map Value.string)[k]?:=fun k hk=>by
    rw [<-hvs,<-htk,List.getElem?_take,if_pos (by omega)]
    simp [World.cell?,hb]
   rw [hob,hgc]
   have key:=Any.slices_Sort_string Tryz.lays190 b 0 cap (l.map bl) w (fun j hj=>by
    have hj':j < l.length:=by simpa using hj
    refine ⟨?_,by simp [World.frozen?,hb]⟩
    rw [Nat.zero_add,hcell j hj']
    simp [hj']
    exact (jT _).symm) hbs (by simp; omega)
   rw [List.length_map] at key
   refine key.mono ?_
   rintro e w' ⟨rfl,n,os,rfl⟩
   obtain ⟨D,hD⟩:∃ D,D=(l.map bl).mergeSort fun x y=>decide (x<=y):=⟨_,rfl⟩
   have hDl:D.length=l.length:=by rw [hD]; simp
   have hsD:eG l=D.map mk:=by rw [hD]; rfl
   rw [<-hD]
   obtain ⟨W',hW⟩:∃ W',W'=grow (putRow encStr (Sort.ahead w n) b 0 D.toArray) os:=⟨_,rfl⟩
   have hmod:(putRow encStr (Sort.ahead w n) b 0 D.toArray).heap.size=w.heap.size:=by simp [putRow,mapBlock,Sort.ahead]
   have hb':W'.heap[b]? = some (.cells (putCells encStr 0 D.toArray cur) 9 (0,0)):=by
    rw [hW,oU _ _ (by rw [hmod]; exact hbs)]
    exact C9 encStr _ b D.toArray hb
   have hne:∀ k,k ≠ b->k < w.heap.size->W'.heap[k]? = w.heap[k]?:=fun k h1 h2=>by
    rw [hW,oU _ _ (by rw [hmod]; exact h2),wQ encStr _ D.toArray h1]; rfl
   have hsz:w.heap.size<=W'.heap.size:=by rw [hW]; simp [hmod]
   have hrest:W'.os=w.os/\W'.tape=w.tape/\W'.output=w.output:=by rw [hW]; exact ⟨rfl,rfl,rfl⟩
   rw [<-hW]
   clear hW
   have htk':(putCells encStr 0 D.toArray cur).toList.take l.length=(eG l).map Value.string:=by
    have hsl':(eG l).length=l.length:=lL l
    refine List.ext_getElem? fun k=>?_
    rw [List.getElem?_take,List.getElem?_map]
    rcases bQ k l.length with hk | hk
    · rw [if_pos hk,hsD]
      have h1:k < cur.size:=by omega
      have h2:k < D.length:=by omega
      simp [putCells,h1,hDl]
      rw [if_pos hk,aT h2]; rfl
    · rw [if_neg (by omega),List.getElem?_eq_none (by omega)]; rfl
   have hown:B.On (gm [(⟨some b,true,l.length,cap,g.T,(eG l).map Value.string⟩,.row ((eG l).map cC) 9 1)]) ro W' ⟨some b,true,l.length,cap,g.T,(eG l).map Value.string⟩ (.row ((eG l).map cC) 9 1):=by
    have hsl':(eG l).length=l.length:=lL l
    refine ⟨rfl,by rw [List.length_map,hsl'],fun x hx=>?_,fun c hc=>?_,⟨?_,.inr ⟨b,cap,putCells encStr 0 D.toArray cur,?_,Nat.zero_le _,hb',?_,hmax,by simp [putCells]; omega,?_⟩⟩,?_,fun b' _=>(by show 0 < cap; omega)⟩
    · obtain ⟨y,_,rfl⟩:=List.mem_map.1 hx; rfl
    · rw [sF] at hc; obtain ⟨y,_,rfl⟩:=List.mem_map.1 hc; rfl
    · simp
    · simp [aR]
    · rw [List.length_map,hsl']; exact hcap
    · rw [List.length_map,hsl',Nat.mul_one]; exact htk'
    · rw [sF]
      refine ⟨by simp,fun i x y hx hy=>?_⟩
      rw [List.getElem?_map] at hx hy
      cases hi:(eG l)[i]? with
      | none=>rw [hi] at hx; cases hx
      | some z=>rw [hi] at hx hy; cases hx; cases hy; rfl
   have hpb:b ∈ cQ [(g,.row (l.map cC) 9 1)]:=by
    rcases hR.par 0 b g _ rfl hob rfl with h | h
    · exact absurd h (Nat.not_le.2 hbs)
    · exact h
   refine ⟨.tu [],_,[(⟨some b,true,l.length,cap,g.T,(eG l).map Value.string⟩,.row ((eG l).map cC) 9 1)],ro,rfl,⟨[],rfl,.nil⟩,hK,?_⟩
   refine ⟨fun n gn bn hn=>?_,fun n m gn gm' bn bm b' hn hm h1 h2 l1 l2=>?_,fun b' off v hv n gn bn hn hgb=>?_,fun b' off v hv=>?_,hR.ro0,hR.rob,fun n b' gn bn hn hgb hl=>?_,?_,hsz,fun k hk hkb=>hne k (fun e=>hkb (e ▸ hpb)) hk,hrest.1,hrest.2.1,hrest.2.2⟩
   · match n,hn with
     | 0,hn=>cases hn; exact hown
     | n + 1,hn=>cases hn
   · match n,m,hn,hm with
     | 0,0,_,_=>rfl
     | n + 1,_,hn,_=>cases hn
     | _,m + 1,_,hm=>cases hm
   · match n,hn with
     | 0,hn=>
      cases hn
      have hbb:b=b':=by simpa using hgb
      subst hbb
      exact absurd (hR.apart b off v hv 0 g _ rfl hob) (by simp [B.live])
     | n + 1,hn=>cases hn
   · have hne':b' ≠ b:=fun e=>by
      subst e
      exact absurd (hR.apart b' off v hv 0 g _ rfl hob) (by simp [B.live])
     have:=hR.rd b' off v hv
     rcases bQ b' w.heap.size with h' | h'
     · exact this.same (hne b' hne' h')
     · have:=this.1
       simp [World.cell?,Array.getElem?_eq_none h'] at this
   · match n,hn with
     | 0,hn=>
      cases hn
      have:b=b':=by simpa using hgb
      subst this; exact .inr hpb
     | n + 1,hn=>cases hn
   · intro n g2 h2
     match n,h2 with
     | 0,h2=>
      cases h2
      exact ⟨_,rfl,o1.symm,.inl ⟨hob.symm,o2.symm,hgc.symm⟩⟩
     | n + 1,h2=>cases h2
end Go.Proofs.YtgogpogophflhaaGreatDoor
namespace Go.Proofs.YtgogpogophflhaaGreatDoor
open Go.W
def eO (ss:List St) (n:ByteArray):List ByteArray:=bT ss (ss.length + 1) ((fS ss n).getD default) []
def eI (ss:List St) (n:ByteArray):List ByteArray:=eG (eO ss n)
theorem s0 (ss:List St) (o:List ByteArray):fresh ss o<=ss.length:=by
 induction ss with
 | nil=>exact Nat.le_refl _
 | cons s ss ih=>simp only [fresh,List.length_cons]; cases b6 o s.nm<;>simp only [aN,aH]<;>omega
theorem St.ok_default:(default:St).ok:=⟨by decide,by decide,fun f h=>by cases h⟩
def TS:W.Spec:=fun av H K=>∃ (ss:List St) (n:ByteArray) (ks:List Value) (vs:List St) (ks':List Value) (vs':List En),av=[kF,tS n]/\H=eF ks vs ks' vs'/\
 iX ks vs ss/\(∀ s ∈ ss,s.ok)/\(eO ss n).length<=1000000000/\K (.va (.c1 (.fz ((eI ss n).map cC)))) (eF ks vs ks' vs')
theorem Q7 {ss:List St} {n:ByteArray} {ks:List Value} {vs:List St} {ks':List Value} {vs':List En} {K:S->Hp->Prop} (h1:iX ks vs ss) (h2:∀ s ∈ ss,s.ok) (h3:(eO ss n).length<=1000000000) (hK:K (.va (.c1 (.fz ((eI ss n).map cC)))) (eF ks vs ks' vs')) :
 TS [kF,tS n] (eF ks vs ks' vs') K:=⟨ss,n,ks,vs,ks',vs',rfl,rfl,h1,h2,h3,hK⟩
theorem WR:Meets Tryz.prog 113 TS:=by
 refine mA 0 (t:=fun N=>fun av H K=>∃ (ss:List St) (n:ByteArray) (ks:List Value) (vs:List St) (ks':List Value) (vs':List En),av=[kF,tS n]/\H=eF ks vs ks' vs'/\
  iX ks vs ss/\(∀ s ∈ ss,s.ok)/\ss.length=N/\(eO ss n).length<=1000000000/\K (.va (.c1 (.fz ((eI ss n).map cC)))) (eF ks vs ks' vs')) (fun N=>?_) fun av H K ⟨ss,n,ks,vs,ks',vs',e1,e2,h1,h2,h3,hK⟩=>⟨ss.length,ss,n,ks,vs,ks',vs',e1,e2,h1,h2,rfl,h3,hK⟩
 refine aG Tryz.func113 VJ 2 (by rw [Tryz.ntmps113]; decide) (aA (H7 (N + 1)) (aA VF (aB _))) (fun av H K h=>by obtain ⟨_,_,_,_,_,_,rfl,_⟩:=h; rfl) ?_
 rintro av H K ⟨ss,n,ks,vs,ks',vs',rfl,rfl,h1,h2,rfl,h3,hK⟩
 have hx:=h1 n
 simp -dsimp only [go_sem,M0,MZ]
 refine .nilc 5 0 9 1 [.vl (.slice none 0 0)] 52 rfl rfl (.done ?_)
 cases hs:fS ss n with
 | none=>
  rw [hs] at hx
  simp only [Option.map_none] at hx
  simp -dsimp only [go_sem,hx]
  have hF:eO ss n=bT ss (ss.length + 1) default []:=by unfold eO; rw [hs]; rfl
  have hU:eI ss n=eG (bT ss (ss.length + 1) default []):=by unfold eI; rw [hF]
  rw [hF] at h3
  rw [hU] at hK
  have hfr:=s0 ss []
  refine wY (ss:=ss) (t:=default) (ks:=ks) (vs:=vs) (ks':=ks') (vs':=vs') (o:=[]) rfl h1 h2 St.ok_default (by omega) h3 ?_
  generalize bT ss (ss.length + 1) default []=o at h3 hK
  simp -dsimp only [go_sem]
  refine IL h3 ?_
  simp -dsimp only [go_sem]
  rw [<-lL o]
  refine .pub 7 _ _ _ rfl (.sel [0,1] (by simp) (by simp [dO]) rfl (.done ?_))
  simp -dsimp only [go_sem,dO]; exact hK
 | some d=>
  rw [hs] at hx
  simp only [Option.map_some] at hx
  simp -dsimp only [go_sem,hx,aO]
  have hF:eO ss n=bT ss (ss.length + 1) d []:=by unfold eO; rw [hs]; rfl
  have hU:eI ss n=eG (bT ss (ss.length + 1) d []):=by unfold eI; rw [hF]
  rw [hF] at h3
  rw [hU] at hK
  have hfr:=s0 ss []
  refine wY (ss:=ss) (t:=d) (ks:=ks) (vs:=vs) (ks':=ks') (vs':=vs') (o:=[]) rfl h1 h2 (h2 d (List.mem_of_find?_eq_some hs)) (by omega) h3 ?_
  generalize bT ss (ss.length + 1) d []=o at h3 hK
  simp -dsimp only [go_sem]
  refine IL h3 ?_
  simp -dsimp only [go_sem]
  rw [<-lL o]
  refine .pub 7 _ _ _ rfl (.sel [0,1] (by simp) (by simp [dO]) rfl (.done ?_))
  simp -dsimp only [go_sem,dO]; exact hK
mutual
def cL:Ty->Nat × Ty
 | .mk k s n e=>bif k == 5 then SV e (.mk k s n e) else (0,.mk k s n e)
def SV:List Ty->Ty->Nat × Ty
 | [],d=>(0,d)
 | u :: _,_=>((cL u).1 + 1,(cL u).2)
end
def eH (dp:ByteArray->Int) (t:Ty):Int:=(cL t).1 + bif (cL t).2.k == 6 then dp (cL t).2.n else 0
def kA (dp:ByteArray->Int) (fs:List Fl):Int:=fs.foldl (fun m f=>max m (eH dp f.ty)) 0
def dN (ss:List St):Nat->ByteArray->Int
 | 0,_=>1
 | N + 1,n=>kA (dN ss N) ((fS ss n).getD default).fs + 1
inductive LOk:Ty->Prop
 | stop {k s n e}:(k == 5)=false->LOk (.mk k s n e)
 | list {s n u r}:LOk u->LOk (.mk 5 s n (u :: r))
abbrev lW (d:Int):A:=.c1 (.vl (.int .i64 d))
@[go_sem] theorem aCE (f:Nat->Option Nat) (l:List Int):(l.map lW).map (A.ren f)=l.map lW:=by rw [List.map_map]; rfl
@[go_sem] theorem aBI (n:Nat) (xs:List (List C)) (l:List Int):(l.map lW).map (A.pub n xs)=l.map lW:=by rw [List.map_map]; rfl
structure Dp (ss:List St) (D:ByteArray->Int) (r:ByteArray->Nat):Prop where
 ok:∀ s ∈ ss,s.ok
 eq:∀ n t,fS ss n=some t->D n=kA D t.fs + 1
 lo:∀ n,0<=D n
 hi:∀ n,D n<=1000000000000
 ls:∀ n t,fS ss n=some t->∀ f ∈ t.fs,LOk f.ty
 rf:∀ n t,fS ss n=some t->∀ f ∈ t.fs,((cL f.ty).2.k == 6)=true->∃ u,fS ss (cL f.ty).2.n=some u/\r (cL f.ty).2.n < r n
def qX (D:ByteArray->Int) (ms:List ByteArray) (ds:List Int):Prop:=ms.length=ds.length/\∀ n v,fY (eU ms) (ds.map lW) (.string n)=some v->v=lW (D n)
abbrev FC (ks:List Value) (vs:List St) (ks':List Value) (vs':List En) (ms:List ByteArray) (ds:List Int):Hp:=
 [.map .string ks (vs.map gA),.map .string ks' (vs'.map gE),.cells [.mp 0,.mp 1] 117,.map .string (eU ms) (ds.map lW),.cells [.mp 3] 158,.cells [.fn 126 [(false,[.pt 4 0]),(false,[.pt 5 0]),(false,[.pt 2 0])]] 159]
def U3 (N:Nat):W.Spec:=fun av H K=>∃ (ss:List St) (D:ByteArray->Int) (r:ByteArray->Nat) (t:St) (ks:List Value) (vs:List St) (ks':List Value) (vs':List En) (ms:List ByteArray) (ds:List Int),
 av=[.va (.gs (aO t)),.va (.c1 (.pt 4 0)),.va (.c1 (.pt 5 0)),.va (.c1 (.pt 2 0))]/\H=FC ks vs ks' vs' ms ds/\
 iX ks vs ss/\Dp ss D r/\fS ss t.nm=some t/\r t.nm < N/\qX D ms ds/\∀ ms' ds',qX D ms' ds'->K (iS .i64 (D t.nm)) (FC ks vs ks' vs' ms' ds')
theorem II {D:ByteArray->Int} {ms:List ByteArray} {ds:List Int} (h:qX D ms ds) (n:ByteArray):fY (eU ms) (ds.map lW) (.string n)=none\/fY (eU ms) (ds.map lW) (.string n)=some (lW (D n)):=by
 cases hm:fY (eU ms) (ds.map lW) (.string n) with
 | none=>exact .inl rfl
 | some v=>rw [h.2 n v hm]; exact .inr rfl
theorem HY {D:ByteArray->Int} {ms:List ByteArray} {ds:List Int} (h:qX D ms ds) (n:ByteArray):∃ ms' ds',g6 (eU ms) (.string n)=eU ms'/\iR (eU ms) (ds.map lW) (.string n) (lW (D n))=ds'.map lW/\qX D ms' ds':=by
 obtain ⟨ms',ds',h1,h2,h3,h4⟩:=B7 lW h.1 n (D n)
 refine ⟨ms',ds',h1,h2,h3,fun k v hk=>?_⟩
 rw [h4] at hk
 by_cases e:k=n
 · subst e; simp at hk; exact hk.symm
 · simp [e] at hk; exact h.2 k v hk
abbrev gF (D:ByteArray->Int):Int->Fl->Int:=fun m f=>max m (eH D f.ty)
theorem zD (D:ByteArray->Int):∀ (l:List Fl) (m:Int),m<=l.foldl (gF D) m
 | [],_=>Int.le_refl _
 | f :: l,m=>by
  have:=zD D l (max m (eH D f.ty))
  show m<=l.foldl (gF D) (max m (eH D f.ty)); omega
theorem N2 {D:ByteArray->Int} {l:List Fl} {i:Nat} {f:Fl} (hx:l[i]? = some f) (m:Int):(l.drop i).foldl (gF D) m=(l.drop (i + 1)).foldl (gF D) (max m (eH D f.ty)):=by
 obtain ⟨h,rfl⟩:=aY.1 hx
 rw [List.drop_eq_getElem_cons h]; rfl
theorem T6:∀ N,Meets Tryz.prog 126 (U3 N)
 | 0=>⟨by kernel_rfl,by rintro xs vs E ro w K _ _ _ ⟨_,_,_,_,_,_,_,_,_,_,_,_,_,_,_,h,_⟩; exact absurd h (Nat.not_lt_zero _)⟩
 | N + 1=>by
  refine aG Tryz.func126 WI 4 (by rw [Tryz.ntmps126]; decide) (aA (T6 N) (aB _)) (fun av H K h=>by obtain ⟨_,_,_,_,_,_,_,_,_,_,rfl,_⟩:=h; rfl) ?_
  rintro av H K ⟨ss,D,r,t,ks,vs,ks',vs',ms,ds,rfl,rfl,h1,h2,ht,hr,hk,hK⟩
  have htok:=h2.ok t (List.mem_of_find?_eq_some ht)
  obtain ⟨_,hl,hfs⟩:=htok
  rcases II hk t.nm with hm | hm
  · simp (maxSteps:=9^6) -dsimp only [go_sem,aO,F9,F1,hm]
    have hD:=h2.eq t.nm t ht
    have hDh:=h2.hi t.nm
    refine a6 (α:=Nat × Int × List ByteArray × List Int) (fun z=>[(1,.va (.c1 (.pt 4 0))),(2,.va (.c1 (.pt 5 0))),(3,.va (.c1 (.pt 2 0))),(4,.va (.c1 (.pt 6 0))),(8,iS .i64 z.2.1),(23,.va (.c1 (.fz (t.fs.map bI)))),(24,iS .i64 t.fs.length),(25,iS .i64 z.1)])
     (fun z=>FC ks vs ks' vs' z.2.2.1 z.2.2.2 ++ [.cells (aO t) 56])
     (fun z=>z.1<=t.fs.length/\0<=z.2.1/\(t.fs.drop z.1).foldl (gF D) z.2.1=kA D t.fs/\qX D z.2.2.1 z.2.2.2) (fun z=>t.fs.length - z.1) (0,0,ms,ds) 7 ⟨Nat.zero_le _,Int.le_refl _,rfl,hk⟩ ?_ ?_ ?_
    · simp -dsimp only [go_sem]<;>simp
    · simp -dsimp only [go_sem,aO]<;>simp
    clear hk hm
    rintro ⟨i,m,ms,ds⟩ ⟨hi,hm0,ho,hk⟩
    simp only at hi hm0 ho hk ⊢
    have hmb:m<=1000000000000:=by have:=zD D (t.fs.drop i) m; rw [ho] at this; omega
    rcases bQ i t.fs.length with hlt | hge
    · have hg:decide ((i:Int) < (t.fs.length:Int))=true:=by simp; omega
      obtain ⟨f,hx⟩:∃ nm,t.fs[i]? = some nm:=⟨_,aT hlt⟩
      have q1:=a7 (row:=bI) hx
      have hf:f.ok:=hfs f (bH hx)
      rw [N2 hx] at ho
      have hfb:eH D f.ty<=1000000000000:=by have:=zD D (t.fs.drop (i + 1)) (max m (eH D f.ty)); rw [ho] at this; omega
      simp (maxSteps:=9^6) -dsimp only [go_sem,hg,↓q1,bI,kR]
      have hlo:=h2.ls t.nm t ht f (bH hx)
      refine ⟨by omega,⟨wF _,dP _⟩,by rw [dP]; exact Nat.le_refl _,?_⟩
      refine a6 (α:=Nat × Ty) (fun z=>[(1,.va (.c1 (.pt 4 0))),(2,.va (.c1 (.pt 5 0))),(3,.va (.c1 (.pt 2 0))),(4,.va (.c1 (.pt 6 0))),(8,iS .i64 m),(11,iS .i64 z.1),(12,.va (.c1 (.pt 8 0))),(23,.va (.c1 (.fz (t.fs.map bI)))),(24,iS .i64 t.fs.length),(25,iS .i64 i)])
       (fun z=>FC ks vs ks' vs' ms ds ++ [.cells (aO t) 56,.cells (bI f) 64,.cells (aX z.2) 37])
       (fun z=>LOk z.2/\z.1 + (cL z.2).1=(cL f.ty).1/\(cL z.2).2=(cL f.ty).2) (fun z=>z.2.h) (0,f.ty) 9 ⟨hlo,by simp,rfl⟩ ?_ ?_ ?_
      · simp -dsimp only [go_sem]<;>simp
      · simp -dsimp only [go_sem,aO,bI,dP]<;>simp
      rintro ⟨n,u⟩ ⟨hu1,hu2,hu3⟩
      simp only at hu1 hu2 hu3 ⊢
      have hlv:((cL f.ty).1:Int)<=1000000000000:=by
       have hd0:=h2.lo (cL f.ty).2.n
       unfold eH at hfb
       cases hq:(cL f.ty).2.k == 6<;>rw [hq] at hfb<;>simp only [aN,aH] at hfb<;>omega
      cases hu1 with
      | list hv=>
       rename_i s' n' v r'
       have hl5:cL (.mk 5 s' n' (v :: r'))=((cL v).1 + 1,(cL v).2):=by simp [cL,SV]
       rw [hl5] at hu2 hu3
       simp (maxSteps:=9^6) -dsimp only [go_sem,aX,bN]
       refine ⟨by omega,⟨by omega,fun r hr=>by subst hr; exact dP v⟩,fun r hr=>?_⟩
       subst hr
       simp -dsimp only [go_sem,dP]
       refine ⟨wF v,aD (n + 1,v) 9 ⟨hv,by simp only at hu2 ⊢; omega,hu3⟩ (by simp only [Ty.h,Ty.hs]; omega) ?_ ?_⟩
       · simp -dsimp only [go_sem]<;>simp
       · simp -dsimp only [go_sem,aO,bI]<;>simp
      | stop hk5=>
       rename_i k' s' n' e'
       have hl0:cL (.mk k' s' n' e')=(0,.mk k' s' n' e'):=by rw [cL,hk5]; rfl
       rw [hl0] at hu2 hu3
       simp only [Nat.add_zero] at hu2
       have hfd:eH D f.ty=(n:Int) + bif k' == 6 then D n' else 0:=by unfold eH; rw [<-hu2,<-hu3]; rfl
       cases k6:k' == 6 with
       | false=>
        rw [k6,aH,Int.add_zero] at hfd
        rw [hfd] at ho
        simp (maxSteps:=9^6) -dsimp only [go_sem,aX,bN,hk5,k6]
        refine ⟨by omega,aD (i + 1,max m (n:Int),ms,ds) 7 ⟨by simp only; omega,by simp only; omega,ho,hk⟩ (by simp only; omega) ?_ ?_⟩
        · simp -dsimp only [go_sem]<;>simp
        · simp -dsimp only [go_sem,aO]<;>simp
       | true=>
        rw [k6,aN] at hfd
        rw [hfd] at ho
        obtain ⟨w,hw,hrw⟩:=h2.rf t.nm t ht f (bH hx) (by rw [<-hu3]; exact k6)
        rw [<-hu3] at hw hrw
        have hx1:=h1 n'
        rw [show fS ss n'=some w from hw] at hx1
        simp only [Option.map_some] at hx1
        simp (maxSteps:=9^6) -dsimp only [go_sem,aX,bN,hk5,k6,hx1,aO]
        have hwn:w.nm=n':=by have:=List.find?_some hw; simp only [decide_eq_true_eq] at this; exact this
        refine ⟨ss,D,r,w,ks,vs,ks',vs',ms,ds,rfl,rfl,h1,h2,by rw [hwn]; exact hw,by rw [hwn]; exact Nat.lt_of_lt_of_le hrw (Nat.le_of_lt_succ hr),hk,fun ms' ds' hk'=>?_⟩
        rw [hwn]
        have hd0:=h2.lo n'
        have hd1:=h2.hi n'
        simp (maxSteps:=9^6) -dsimp only [go_sem]
        refine ⟨by omega,by omega,aD (i + 1,max m ((n:Int) + D n'),ms',ds') 7 ⟨by simp only; omega,by simp only; omega,ho,hk'⟩ (by simp only; omega) ?_ ?_⟩
        · simp -dsimp only [go_sem]<;>simp
        · simp -dsimp only [go_sem,aO]<;>simp
    · have hg:decide ((i:Int) < (t.fs.length:Int))=false:=by simp; omega
      obtain rfl:i=t.fs.length:=by omega
      rw [List.drop_length] at ho
      simp only [List.foldl_nil] at ho
      obtain ⟨ms',ds',p1,p2,p3⟩:=HY hk t.nm
      have e1:m + 1=D t.nm:=by omega
      simp (maxSteps:=9^6) -dsimp only [go_sem,hg,aO,e1,p1,p2]
      refine ⟨by have:=h2.lo t.nm; omega,by have:=h2.lo t.nm; omega,.sel [0,1,2,3,4,5] (by simp) (by simp) rfl (.done (by simp -dsimp only [go_sem]; simpa [go_sem] using hK ms' ds' p3))⟩
  · simp (maxSteps:=9^6) -dsimp only [go_sem,aO,F9,F1,hm]
    exact .sel [0,1,2,3,4,5] (by simp) (by simp) rfl (.done (by simp -dsimp only [go_sem]; simpa [go_sem] using hK ms ds hk))
def UG:W.Spec:=fun av H K=>∃ (ss:List St) (D:ByteArray->Int) (r:ByteArray->Nat) (t:St) (ks:List Value) (vs:List St) (ks':List Value) (vs':List En),av=[kF,.va (.gs (aO t))]/\H=eF ks vs ks' vs'/\
 iX ks vs ss/\Dp ss D r/\fS ss t.nm=some t/\K (iS .i64 (D t.nm)) (eF ks vs ks' vs')
theorem QE {ss:List St} {D:ByteArray->Int} {r:ByteArray->Nat} {t:St} {ks:List Value} {vs:List St} {ks':List Value} {vs':List En} {K:S->Hp->Prop} (h1:iX ks vs ss) (h2:Dp ss D r) (h3:fS ss t.nm=some t) (hK:K (iS .i64 (D t.nm)) (eF ks vs ks' vs')) :
 UG [kF,.va (.gs (aO t))] (eF ks vs ks' vs') K:=⟨ss,D,r,t,ks,vs,ks',vs',rfl,rfl,h1,h2,h3,hK⟩
theorem UF:Meets Tryz.prog 114 UG:=by
 refine mA 0 (t:=fun N=>fun av H K=>∃ (ss:List St) (D:ByteArray->Int) (r:ByteArray->Nat) (t:St) (ks:List Value) (vs:List St) (ks':List Value) (vs':List En),av=[kF,.va (.gs (aO t))]/\H=eF ks vs ks' vs'/\
  iX ks vs ss/\Dp ss D r/\fS ss t.nm=some t/\r t.nm < N/\K (iS .i64 (D t.nm)) (eF ks vs ks' vs')) (fun N=>?_) fun av H K ⟨ss,D,r,t,ks,vs,ks',vs',e1,e2,h1,h2,h3,hK⟩=>⟨r t.nm + 1,ss,D,r,t,ks,vs,ks',vs',e1,e2,h1,h2,h3,Nat.lt_succ_self _,hK⟩
 refine aG Tryz.func114 WQ 2 (by rw [Tryz.ntmps114]; decide) (aA (T6 N) (aB _)) (fun av H K h=>by obtain ⟨_,_,_,_,_,_,_,_,rfl,_⟩:=h; rfl) ?_
 rintro av H K ⟨ss,D,r,t,ks,vs,ks',vs',rfl,rfl,h1,h2,ht,hr,hK⟩
 simp -dsimp only [go_sem,aO,LW,L8]
 refine ⟨ss,D,r,t,ks,vs,ks',vs',[],[],rfl,rfl,h1,h2,ht,hr,⟨rfl,fun n v h=>by cases h⟩,fun ms ds _=>?_⟩
 simp -dsimp only [go_sem]
 exact .sel [0,1] (by simp) (by simp) rfl (.done (by simp -dsimp only [go_sem]; exact hK))
def BJ (t:St) (b:ByteArray):Prop:=∃ f ∈ t.fs,cG f.ty=true/\bD f.ty=b
def eP (ss:List St) (a b:ByteArray):Prop:=BJ ((fS ss a).getD default) b
inductive Reach (ss:List St):ByteArray->ByteArray->Prop
 | one {a b:ByteArray}:eP ss a b->Reach ss a b
 | more {a b c:ByteArray}:Reach ss a b->eP ss b c->Reach ss a c
theorem Reach.head {ss:List St} {a b c:ByteArray} (h:eP ss a b) (r:Reach ss b c):Reach ss a c:=by
 induction r with
 | one h2=>exact .more (.one h) h2
 | more _ h2 ih=>exact .more ih h2
theorem Reach.trans {ss:List St} {a b c:ByteArray} (h:Reach ss a b) (r:Reach ss b c):Reach ss a c:=by
 induction r with
 | one h2=>exact .more h h2
 | more _ h2 ih=>exact .more ih h2
theorem Reach.first {ss:List St} {a c:ByteArray} (r:Reach ss a c):∃ b,eP ss a b/\(c=b\/Reach ss b c):=by
 induction r with
 | one h=>exact ⟨_,h,.inl rfl⟩
 | more _ h2 ih=>
  obtain ⟨b,h3,h4⟩:=ih
  refine ⟨b,h3,.inr ?_⟩
  rcases h4 with rfl | h4
  · exact .one h2
  · exact .more h4 h2
theorem wS {o:List ByteArray} {n:ByteArray}:b6 o n=false ↔ n ∉ o:=by
 rw [<-Bool.not_eq_true,qP]
theorem KL (ss:List St) {N:Nat} (ih:∀ t o,fresh ss o < N->(∀ b,BJ t b->b ∈ bT ss N t o)/\∀ x ∈ bT ss N t o,x ∉ o->∀ y,eP ss x y->y ∈ bT ss N t o) (o:List ByteArray) (f:Fl) (h:fresh ss o < N + 1) :
 (cG f.ty=true->bD f.ty ∈ a8 (bT ss N) ss o f)/\∀ x ∈ a8 (bT ss N) ss o f,x ∉ o->∀ y,eP ss x y->y ∈ a8 (bT ss N) ss o f:=by
 cases c1:cG f.ty with
 | false=>
  have:a8 (bT ss N) ss o f=o:=by unfold a8; rw [c1]; rfl
  rw [this]; exact ⟨fun h=>by simp at h,fun x hx hn=>absurd hx hn⟩
 | true=>
 cases c2:b6 o (bD f.ty) with
 | true=>
  have:a8 (bT ss N) ss o f=o:=by unfold a8; rw [c1,c2]; rfl
  rw [this]; exact ⟨fun _=>(qP _ _).1 c2,fun x hx hn=>absurd hx hn⟩
 | false=>
  cases hs:fS ss (bD f.ty) with
  | none=>
   have:a8 (bT ss N) ss o f=o ++ [bD f.ty]:=by unfold a8; rw [c1,c2,hs]; rfl
   rw [this]
   refine ⟨fun _=>by simp,fun x hx hn y hy=>?_⟩
   have:x=bD f.ty:=by simpa [hn] using hx
   subst this
   unfold eP at hy; rw [hs] at hy
   obtain ⟨g,hg,_⟩:=hy; cases hg
  | some d=>
   have:a8 (bT ss N) ss o f=bT ss N d (o ++ [bD f.ty]):=by unfold a8; rw [c1,c2,hs]; rfl
   rw [this]
   have hl:=tI c2 hs
   obtain ⟨i1,i2⟩:=ih d (o ++ [bD f.ty]) (by omega)
   obtain ⟨q,hq⟩:=jE ss N d (o ++ [bD f.ty])
   refine ⟨fun _=>by rw [hq]; simp,fun x hx hn y hy=>?_⟩
   by_cases hxn:x=bD f.ty
   · subst hxn
     unfold eP at hy; rw [hs] at hy
     exact i1 y hy
   · exact i2 x hx (by simp [hn,hxn]) y hy
theorem AB (ss:List St) {N:Nat} (ih:∀ t o,fresh ss o < N->(∀ b,BJ t b->b ∈ bT ss N t o)/\∀ x ∈ bT ss N t o,x ∉ o->∀ y,eP ss x y->y ∈ bT ss N t o):∀ (l:List Fl) (o:List ByteArray),fresh ss o < N + 1->
 (∀ f ∈ l,cG f.ty=true->bD f.ty ∈ l.foldl (a8 (bT ss N) ss) o)/\∀ x ∈ l.foldl (a8 (bT ss N) ss) o,x ∉ o->∀ y,eP ss x y->y ∈ l.foldl (a8 (bT ss N) ss) o
 | [],o,_=>⟨fun f h=>(List.not_mem_nil h).elim,fun x hx hn=>absurd hx hn⟩
 | f :: l,o,h=>by
  obtain ⟨s1,s2⟩:=KL ss ih o f h
  have hp:=mE (jE ss N) ss o f
  obtain ⟨r1,r2⟩:=AB ss ih l (a8 (bT ss N) ss o f) (by have:=hp.fresh (ss:=ss); omega)
  obtain ⟨q,hq⟩:=nT (fun o f=>mE (jE ss N) ss o f) l (a8 (bT ss N) ss o f)
  have hin:∀ x,x ∈ a8 (bT ss N) ss o f->x ∈ l.foldl (a8 (bT ss N) ss) (a8 (bT ss N) ss o f):=fun x hx=>by rw [hq]; simp [hx]
  rw [List.foldl_cons]
  refine ⟨fun g hg hn=>?_,fun x hx hn y hy=>?_⟩
  · rcases List.mem_cons.1 hg with rfl | hg
    · exact hin _ (s1 hn)
    · exact r1 g hg hn
  · by_cases hx2:x ∈ a8 (bT ss N) ss o f
    · exact hin _ (s2 x hx2 hn y hy)
    · exact r2 x hx hx2 y hy
theorem HC (ss:List St):∀ (N:Nat) (t:St) (o:List ByteArray),fresh ss o < N->(∀ b,BJ t b->b ∈ bT ss N t o)/\∀ x ∈ bT ss N t o,x ∉ o->∀ y,eP ss x y->y ∈ bT ss N t o
 | 0,_,_,h=>absurd h (Nat.not_lt_zero _)
 | N + 1,t,o,h=>by
  obtain ⟨r1,r2⟩:=AB ss (HC ss N) t.fs o h
  exact ⟨fun b ⟨f,hf,hn,hb⟩=>hb ▸ r1 f hf hn,r2⟩
theorem yV (ss:List St):∀ (N:Nat) (t:St) (o:List ByteArray),∀ x ∈ bT ss N t o,x ∈ o\/∃ b,BJ t b/\(x=b\/Reach ss b x)
 | 0,_,o=>fun x hx=>.inl hx
 | N + 1,t,o=>by
  have step:∀ (o:List ByteArray) (f:Fl),∀ x ∈ a8 (bT ss N) ss o f,x ∈ o\/(cG f.ty=true/\(x=bD f.ty\/Reach ss (bD f.ty) x)):=fun o f x hx=>by
   cases c1:cG f.ty with
   | false=>
    have:a8 (bT ss N) ss o f=o:=by unfold a8; rw [c1]; rfl
    rw [this] at hx; exact .inl hx
   | true=>
   cases c2:b6 o (bD f.ty) with
   | true=>
    have:a8 (bT ss N) ss o f=o:=by unfold a8; rw [c1,c2]; rfl
    rw [this] at hx; exact .inl hx
   | false=>
    cases hs:fS ss (bD f.ty) with
    | none=>
     have:a8 (bT ss N) ss o f=o ++ [bD f.ty]:=by unfold a8; rw [c1,c2,hs]; rfl
     rw [this] at hx
     rcases List.mem_append.1 hx with h | h
     · exact .inl h
     · exact .inr ⟨rfl,.inl (by simpa using h)⟩
    | some d=>
     have:a8 (bT ss N) ss o f=bT ss N d (o ++ [bD f.ty]):=by unfold a8; rw [c1,c2,hs]; rfl
     rw [this] at hx
     rcases yV ss N d _ x hx with h | ⟨b,hb,h⟩
     · rcases List.mem_append.1 h with h | h
       · exact .inl h
       · exact .inr ⟨rfl,.inl (by simpa using h)⟩
     · have hr:eP ss (bD f.ty) b:=by unfold eP; rw [hs]; exact hb
       refine .inr ⟨rfl,.inr ?_⟩
       rcases h with rfl | h
       · exact .one hr
       · exact .head hr h
  have fold:∀ (l:List Fl) (o:List ByteArray),∀ x ∈ l.foldl (a8 (bT ss N) ss) o,x ∈ o\/∃ f ∈ l,cG f.ty=true/\(x=bD f.ty\/Reach ss (bD f.ty) x):=by
   intro l
   induction l with
   | nil=>exact fun o x hx=>.inl hx
   | cons f l ih=>
    intro o x hx
    rw [List.foldl_cons] at hx
    rcases ih _ x hx with h | ⟨g,hg,h⟩
    · rcases step o f x h with h | h
      · exact .inl h
      · exact .inr ⟨f,List.mem_cons_self,h⟩
    · exact .inr ⟨g,List.mem_cons_of_mem _ hg,h⟩
  intro x hx
  rcases fold t.fs o x hx with h | ⟨f,hf,hn,h⟩
  · exact .inl h
  · exact .inr ⟨bD f.ty,⟨f,hf,hn,rfl⟩,h⟩
theorem yL (ss:List St):∀ (N:Nat) (t:St) (o:List ByteArray),o.Nodup->(bT ss N t o).Nodup
 | 0,_,_=>id
 | N + 1,t,o=>by
  have step:∀ (o:List ByteArray) (f:Fl),o.Nodup->(a8 (bT ss N) ss o f).Nodup:=fun o f ho=>by
   have app:b6 o (bD f.ty)=false->(o ++ [bD f.ty]).Nodup:=fun c2=>by
    rw [wS] at c2
    rw [List.nodup_append]
    exact ⟨ho,by simp,fun a ha b hb=>by simp at hb; subst hb; exact fun e=>c2 (e ▸ ha)⟩
   unfold a8
   cases c1:cG f.ty with
   | false=>exact ho
   | true=>
   cases c2:b6 o (bD f.ty) with
   | true=>exact ho
   | false=>
    cases hs:fS ss (bD f.ty) with
    | none=>exact app c2
    | some d=>exact yL ss N d _ (app c2)
  show o.Nodup->(t.fs.foldl (a8 (bT ss N) ss) o).Nodup
  generalize t.fs=l
  induction l generalizing o with
  | nil=>exact id
  | cons f l ih=>exact fun h=>ih _ (step o f h)
theorem iZ (ss:List St) (n x:ByteArray):x ∈ eO ss n ↔ Reach ss n x:=by
 unfold eO
 constructor
 · intro h
   rcases yV ss _ _ _ x h with h | ⟨b,hb,h⟩
   · cases h
   · rcases h with rfl | h
     · exact .one hb
     · exact .head hb h
 · intro h
   obtain ⟨c1,c2⟩:=HC ss (ss.length + 1) ((fS ss n).getD default) [] (Nat.lt_succ_of_le (s0 ss []))
   induction h with
   | one h=>exact c1 _ h
   | more _ h2 ih=>exact c2 _ ih (by simp) _ h2
theorem A5 (ss:List St) (n:ByteArray):(eO ss n).Nodup:=yL ss _ _ _ .nil
theorem JE {l:List ByteArray} {x:ByteArray}:x ∈ eG l ↔ x ∈ l:=by
 unfold eG
 rw [List.mem_map]
 constructor
 · rintro ⟨y,hy,rfl⟩
   rw [List.mem_mergeSort,List.mem_map] at hy
   obtain ⟨z,hz,rfl⟩:=hy
   rw [jT]; exact hz
 · intro h
   exact ⟨bl x,by rw [List.mem_mergeSort]; exact List.mem_map_of_mem h,jT x⟩
theorem HL {ss:List St} {n x:ByteArray}:x ∈ eI ss n ↔ Reach ss n x:=by unfold eI; rw [JE,iZ]
theorem IM (ss:List St) (n:ByteArray):(eI ss n).length=(eO ss n).length:=lL _
structure Gd (ss:List St) (es:List En):Prop where
 ok:∀ s ∈ ss,s.ok
 n:ss.length<=16
 m:es.length<=16
 val:∀ s ∈ ss,∀ f ∈ s.fs,valF ss es f.ty=true
 lv:∀ s ∈ ss,∀ f ∈ s.fs,(cL f.ty).1<=1000000000
 nd:∀ s ∈ ss,fS ss s.nm=some s
def BS (ss:List St):Prop:=∀ s ∈ ss,b6 (eI ss s.nm) s.nm=false
theorem KY {ss:List St} {es:List En} {s:Int} {n:ByteArray} {e:List Ty} (h:valF ss es (.mk 5 s n e)=true):∃ u,e=[u]/\valF ss es u=true:=by
 rw [valF] at h
 simp only [show ((5:Int) == 1)=false from rfl,show ((5:Int) == 2)=false from rfl,show ((5:Int) == 3)=false from rfl,show ((5:Int) == 4)=false from rfl,show ((5:Int) == 5)=true from rfl,aN,aH,Bool.and_eq_true] at h
 obtain ⟨_,h⟩:=h
 match e,h with
 | [],h=>simp [qQ] at h
 | [u],h=>exact ⟨u,rfl,by simpa [qQ] using h⟩
 | u :: v :: r,h=>simp [qQ] at h
theorem uY (ss:List St) (es:List En):∀ (N:Nat) (t:Ty),t.h<=N->valF ss es t=true->LOk t/\dU t=(cL t).2/\((dU t).k == 5)=false/\valF ss es (dU t)=true
 | 0,t,h,_=>absurd h (by have:=t.h_pos; omega)
 | N + 1,.mk k s n e,h,hv=>by
  cases k5:k == 5 with
  | true=>
   obtain rfl:k=5:=by simpa using k5
   obtain ⟨u,rfl,hu⟩:=KY hv
   obtain ⟨i1,i2,i3,i4⟩:=uY ss es N u (by rw [Ty.h,Ty.hs,Ty.hs] at h; omega) hu
   rw [yH]
   exact ⟨.list i1,by rw [i2]; simp [cL,SV],i3,i4⟩
  | false=>
   have h1:dU (.mk k s n e)=.mk k s n e:=tM (by rw [k5]; rfl)
   rw [h1]
   exact ⟨.stop k5,by rw [cL,k5]; rfl,k5,hv⟩
theorem UI {ss:List St} {es:List En} {t:Ty} (hv:valF ss es t=true) (hn:cG t=true):gP ss (bD t)=true\/eS es (bD t)=true:=by
 obtain ⟨_,_,_,h⟩:=uY ss es t.h t (Nat.le_refl _) hv
 unfold cG at hn
 unfold bD
 revert h hn
 generalize dU t=u
 cases u with
 | mk k s n e=>
 intro hn h
 simp only [Ty.k,Bool.or_eq_true,beq_iff_eq] at hn
 rcases hn with rfl | rfl
 · left; rw [valF] at h; simp at h; exact h.1.1
 · right; rw [valF] at h; simp at h; exact h.1.1
theorem OP {ss:List St} {es:List En} {t:Ty} (hv:valF ss es t=true) (hk:((cL t).2.k == 6)=true):cG t=true/\bD t=(cL t).2.n/\gP ss (cL t).2.n=true/\LOk t:=by
 obtain ⟨h1,h2,_,h⟩:=uY ss es t.h t (Nat.le_refl _) hv
 unfold cG bD
 rw [h2] at h ⊢
 refine ⟨by rw [hk]; rfl,rfl,?_,h1⟩
 revert h hk
 generalize (cL t).2=u
 cases u with
 | mk k s n e=>
 intro hk h
 obtain rfl:k=6:=by simpa [Ty.k] using hk
 rw [valF] at h; simp at h; exact h.1.1
theorem pV {ss:List St} {n:ByteArray} {t:St} (h:fS ss n=some t):t ∈ ss/\t.nm=n:=⟨List.mem_of_find?_eq_some h,by have:=List.find?_some h; simpa using this⟩
theorem OA {ss:List St} {a b:ByteArray} (h:eP ss a b):∃ t f,fS ss a=some t/\t ∈ ss/\f ∈ t.fs/\cG f.ty=true/\bD f.ty=b:=by
 obtain ⟨f,hf,hn,hb⟩:=h
 cases hs:fS ss a with
 | none=>rw [hs] at hf; cases hf
 | some t=>rw [hs] at hf; exact ⟨t,f,rfl,(pV hs).1,hf,hn,hb⟩
theorem KH {ss:List St} {es:List En} (g:Gd ss es) {a b:ByteArray} (h:Reach ss a b):gP ss b=true\/eS es b=true:=by
 have:∃ c,eP ss c b:=by cases h with
  | one h=>exact ⟨_,h⟩
  | more _ h=>exact ⟨_,h⟩
 obtain ⟨c,h⟩:=this
 obtain ⟨t,f,_,ht,hf,hn,rfl⟩:=OA h
 exact UI (g.val t ht f hf) hn
theorem yA {α:Type} [DecidableEq α]:∀ {l m:List α},l.Nodup->(∀ x ∈ l,x ∈ m)->l.length<=m.length
 | [],_,_,_=>Nat.zero_le _
 | x :: l,m,h,hs=>by
  have h2:=List.nodup_cons.1 h
  have hx:=hs x List.mem_cons_self
  have:=yA (m:=m.erase x) h2.2 fun y hy=>(List.mem_erase_of_ne (fun e=>h2.1 (by rw [<-e]; exact hy))).2 (hs y (List.mem_cons_of_mem _ hy))
  rw [List.length_erase_of_mem hx] at this
  have hp:=List.length_pos_of_mem hx
  simp only [List.length_cons]; omega
theorem Gd.vlen {ss:List St} {es:List En} (g:Gd ss es) (n:ByteArray):(eO ss n).length<=32:=by
 have h:=yA (m:=ss.map (·.nm) ++ es.map (·.nm)) (A5 ss n) fun x hx=>by
  rw [iZ] at hx
  rw [List.mem_append,List.mem_map,List.mem_map]
  rcases KH g hx with h | h
  · left; unfold gP at h; rw [List.any_eq_true] at h; obtain ⟨t,h1,h2⟩:=h; exact ⟨t,h1,of_decide_eq_true h2⟩
  · right; unfold eS at h; rw [List.any_eq_true] at h; obtain ⟨t,h1,h2⟩:=h; exact ⟨t,h1,of_decide_eq_true h2⟩
 have h1:=g.n
 have h2:=g.m
 simp only [List.length_append,List.length_map] at h
 omega
def BM (ss:List St) (n:ByteArray):Nat:=ss.countP fun s=>b6 (eO ss n) s.nm
theorem yU {α:Type} {p q:α->Bool}:∀ {l:List α},(∀ x ∈ l,p x=true->q x=true)->(∃ x ∈ l,q x=true/\p x=false)->l.countP p < l.countP q
 | [],_,⟨_,h,_⟩=>by cases h
 | y :: l,h,⟨x,hx,h1,h2⟩=>by
  have hm:=List.countP_mono_left fun z hz=>h z (List.mem_cons_of_mem _ hz)
  have hy:=h y List.mem_cons_self
  rw [List.countP_cons,List.countP_cons]
  rcases List.mem_cons.1 hx with rfl | hx
  · rw [h1,h2]; simp; omega
  · have:=yU (fun z hz=>h z (List.mem_cons_of_mem _ hz)) ⟨x,hx,h1,h2⟩
    cases hp:p y with
    | true=>rw [hy hp]; simp; exact this
    | false=>cases q y<;>simp<;>omega
theorem PR (ss:List St) (n:ByteArray):BM ss n<=ss.length:=List.countP_le_length
theorem EE {ss:List St} {n m:ByteArray} {u:St} (h:eP ss n m) (hu:fS ss m=some u) (ha:BS ss):BM ss m < BM ss n:=by
 obtain ⟨h1,h2⟩:=pV hu
 refine yU (fun s _ hs=>?_) ⟨u,h1,?_,?_⟩
 · rw [qP,iZ] at hs ⊢; exact .head h hs
 · rw [qP,iZ,h2]; exact .one h
 · rw [wS,iZ,<-HL,<-wS]
   have:=ha u h1
   rw [h2] at this ⊢; exact this
theorem O0 {dp:ByteArray->Int} {B:Int} (hB:0<=B) {l:List Fl} (h:∀ f ∈ l,eH dp f.ty<=B):kA dp l<=B:=by
 have key:∀ (l:List Fl) (m:Int),m<=B->(∀ f ∈ l,eH dp f.ty<=B)->l.foldl (gF dp) m<=B:=by
  intro l
  induction l with
  | nil=>exact fun m hm _=>hm
  | cons f l ih=>exact fun m hm h=>ih _ (by have:=h f List.mem_cons_self; show max m (eH dp f.ty)<=B; omega) fun g hg=>h g (List.mem_cons_of_mem _ hg)
 exact key l 0 hB h
theorem C8 (dp:ByteArray->Int) (l:List Fl):0<=kA dp l:=zD dp l 0
theorem uE {dp dq:ByteArray->Int} {l:List Fl} (h:∀ f ∈ l,eH dp f.ty=eH dq f.ty):kA dp l=kA dq l:=by
 have key:∀ (l:List Fl) (m:Int),(∀ f ∈ l,eH dp f.ty=eH dq f.ty)->l.foldl (gF dp) m=l.foldl (gF dq) m:=by
  intro l
  induction l with
  | nil=>exact fun _ _=>rfl
  | cons f l ih=>exact fun m h=>by rw [List.foldl_cons,List.foldl_cons,gF,h f List.mem_cons_self]; exact ih _ fun g hg=>h g (List.mem_cons_of_mem _ hg)
 exact key l 0 h
def dK:Nat:=99
def dD (ss:List St) (n:ByteArray):Int:=dN ss (dK + 1) n
theorem NP (ss:List St) (N:Nat) (n:ByteArray):dN ss (N + 1) n=kA (dN ss N) ((fS ss n).getD default).fs + 1:=rfl
theorem MU:dK=99:=rfl
theorem IU (ss:List St) (n:ByteArray):dD ss n=dN ss (dK + 1) n:=rfl
attribute [irreducible] dK
theorem Q5 (ss:List St):∀ (N:Nat) (n:ByteArray),1<=dN ss N n
 | 0,_=>Int.le_refl _
 | N + 1,n=>by have:=C8 (dN ss N) ((fS ss n).getD default).fs; rw [dN]; omega
theorem NI {ss:List St} {es:List En} (g:Gd ss es):∀ (N:Nat) (n:ByteArray),dN ss N n<=1 + N * 1000000001
 | 0,_=>by rw [dN]; omega
 | N + 1,n=>by
  have:kA (dN ss N) ((fS ss n).getD default).fs<=1000000001 + N * 1000000001:=by
   refine O0 (by omega) fun f hf=>?_
   cases hs:fS ss n with
   | none=>rw [hs] at hf; cases hf
   | some t=>
    rw [hs] at hf
    have h1:=g.lv t (pV hs).1 f hf
    have h2:=NI g N (cL f.ty).2.n
    unfold eH
    cases (cL f.ty).2.k == 6<;>simp only [aN,aH]<;>omega
  rw [dN]; omega
theorem EH {ss:List St} {es:List En} (g:Gd ss es) {n:ByteArray} {t:St} (hs:fS ss n=some t) {f:Fl} (hf:f ∈ t.fs) (hk:((cL f.ty).2.k == 6)=true):eP ss n (cL f.ty).2.n/\∃ u,fS ss (cL f.ty).2.n=some u:=by
 obtain ⟨h1,h2,h3,_⟩:=OP (g.val t (pV hs).1 f hf) hk
 refine ⟨⟨f,by rw [hs]; exact hf,h1,h2⟩,?_⟩
 rw [<-HP] at h3
 exact Option.isSome_iff_exists.1 h3
theorem yB {ss:List St} {es:List En} (g:Gd ss es) (ha:BS ss):∀ (N:Nat) (n:ByteArray),BM ss n < N->dN ss (N + 1) n=dN ss N n
 | 0,_,h=>absurd h (Nat.not_lt_zero _)
 | N + 1,n,h=>by
  rw [dN,dN]
  congr 1
  refine uE fun f hf=>?_
  cases hs:fS ss n with
  | none=>rw [hs] at hf; cases hf
  | some t=>
   rw [hs] at hf
   unfold eH
   cases hk:(cL f.ty).2.k == 6 with
   | false=>rfl
   | true=>
    obtain ⟨h1,u,h2⟩:=EH g hs hf hk
    have:=EE h1 h2 ha
    rw [yB g ha N _ (by omega)]
theorem W4 (ss:List St) (n:ByteArray):0<=dD ss n:=Int.le_trans (by decide) (Q5 ss (dK + 1) n)
theorem UW {ss:List St} {es:List En} (g:Gd ss es) (n:ByteArray):dD ss n<=1000000000000:=by
 refine Int.le_trans (NI g (dK + 1) n) ?_
 have:=MU
 generalize dK=k at *
 subst this
 decide
theorem U7 {ss:List St} {es:List En} (g:Gd ss es) (ha:BS ss) (f:Fl):eH (dN ss dK) f.ty=eH (dD ss) f.ty:=by
 have h2:=PR ss (cL f.ty).2.n
 have h3:=g.n
 have h4:=MU
 have h5:=yB g ha dK (cL f.ty).2.n (by omega)
 unfold eH
 rw [IU,h5]
theorem VZ {ss:List St} {es:List En} (g:Gd ss es) (ha:BS ss) {n:ByteArray} {t:St} (hs:fS ss n=some t):dD ss n=kA (dD ss) t.fs + 1:=by
 have h1:=NP ss dK n
 have h2:kA (dN ss dK) t.fs=kA (dD ss) t.fs:=uE fun f _=>U7 g ha f
 rw [hs,Option.getD_some,h2] at h1
 rw [IU]
 exact h1
theorem Gd.dp {ss:List St} {es:List En} (g:Gd ss es) (ha:BS ss):Dp ss (dD ss) (BM ss):=by
 refine ⟨g.ok,fun n t hs=>VZ g ha hs,W4 ss,UW g,fun n t hs f hf=>(uY ss es _ _ (Nat.le_refl _) (g.val t (pV hs).1 f hf)).1,fun n t hs f hf hk=>?_⟩
 obtain ⟨h1,u,h2⟩:=EH g hs hf hk
 exact ⟨u,h2,EE h1 h2 ha⟩
end Go.Proofs.YtgogpogophflhaaGreatDoor
