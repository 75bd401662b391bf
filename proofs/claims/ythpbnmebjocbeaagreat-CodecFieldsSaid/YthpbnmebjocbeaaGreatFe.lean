/- Lemmas and walks for the proof. -/
import Derived.Test.YthpbnmebjocbeaaGreatFd
import Derived.Test.YthpbnmebjocbeaaGreatProg
import Derived.ProofKit
import Derived.OpenShut
import Derived.ChangeStays
import Derived.Deep.Slices
import Derived.JoinedCond
set_option maxRecDepth 100000
set_option maxHeartbeats 8000000
namespace Go.Proofs.YthpbnmebjocbeaaGreat
open Go.W
def z8:PC:=.seq (.gh (.reg [.l 29 (.ldn 3 (.t 3)),.l 30 (.ldn 2 (.t 8)),.l 31 (.ldn 5 (.t 5)),.a 32 (.cq 26 [(.t 29),(.t 30),(.t 31)]),.v 11 32])) (.seq (.seq (.reg [.v 33 11,.q 34 (.lnS (.t 33)),.q 35 (.bin .gtr true (.t 34) (.i 2000))]) (.cond (.t 35) (.seq (.reg [.q 6 (.mv (.k (.string (mk [])))),.q 7 (.mv (.i 3))]) .ret) .skip)) (.seq (.reg [.v 36 11,.v 6 36,.q 7 (.mv (.i 0))]) .ret))
@[go_sem ↓] theorem aL6:aM z8:=aO _
def A5:PC:=.seq (.seq (.gh (.ord  [.q (.l 21 (.ldn 3 (.t 3))),.q (.v 22 1),.q (.l 24 (.ldn 5 (.t 5))),.m (.a 23 (.cl 25 [(.t 22)] [])),.rc (.l 21 (.ldn 3 (.t 3))),.rc (.l 24 (.ldn 5 (.t 5))),.m (.a 25 (.cq 24 [(.t 21),(.t 23),(.t 24)])),.m (.v 10 25)])) (.seq (.reg [.v 26 10,.q 27 (.bin .neq true (.t 26) (.i 0))]) (.cond (.t 27) (.seq (.reg [.v 28 10,.q 6 (.mv (.k (.string (mk [])))),.v 7 28]) .ret) .skip))) (z8)
@[go_sem ↓] theorem aM9:aM A5:=aO _
def pC:PC:=.seq (.seq (.gh (.reg [.v 18 9,.q 19 (.bin .neq true (.t 18) (.i 0))])) (.cond (.t 19) (.seq (.reg [.v 20 9,.q 6 (.mv (.k (.string (mk [])))),.v 7 20]) .ret) .skip)) (A5)
@[go_sem ↓] theorem aNE:aM pC:=aO _
def pc9:PC:=.seq (.reg [.e 3 (.bx 25 (.t 0)),.e 5 (.bx 29 (.t 2)),.q 6 (.mv (.k (.string (mk [])))),.q 7 (.mv (.i 0))]) (.seq (.reg [.l 13 (.ldn 3 (.t 3)),.v 14 1,.a 15 (.cl 23 [(.t 13),(.t 14)] []),.v 12 15,.q 16 (.ex (.t 12) 0),.q 17 (.ex (.t 12) 1),.e 8 (.al (.agg #[(.string (mk [])),(.slice none 0 0)]) 48),.s (.st 2 (.t 8) (.t 16)),.v 9 17]) (pC))
def rs9:List RV:=[.mv (.t 6),.mv (.t 7)]
theorem ok9:aP Tryz.prog true ⟨fun r k=>if r=4/\k=4 then .q else if r=7/\k=3 then .q else .own [],fun r=>[2,4,7].contains r⟩ Tryz.f9=some (pc9,rs9):=by kernel_rfl
def CG:PC:=.seq (.gh (.reg [.l 24 (.ldn 3 (.t 3)),.l 25 (.ldn 2 (.t 8)),.v 26 2,.a 27 (.cl 30 [(.t 24),(.t 25),(.t 26)] []),.q 28 (.ex (.t 27) 0),.q 29 (.ex (.t 27) 1),.s (.st 5 (.t 6) (.t 28)),.v 7 29])) .ret
@[go_sem ↓] theorem aJA:aM CG:=aO _
def mL:PC:=.seq (.seq (.gh (.reg [.v 16 9,.q 17 (.bin .neq true (.t 16) (.i 0))])) (.cond (.t 17) (.seq (.reg [.q 18 (.bd [(.int .i64 0),(.int .i64 0),(.string (mk [])),(.slice none 0 0),(.slice none 0 0)] []),.v 19 9,.s (.st 5 (.t 6) (.t 18)),.v 7 19]) .ret) .skip)) (.seq (.seq (.reg [.v 20 2,.q 21 (.lnS (.t 20)),.q 22 (.bin .gtr true (.t 21) (.i 2000))]) (.cond (.t 22) (.seq (.reg [.q 23 (.bd [(.int .i64 0),(.int .i64 0),(.string (mk [])),(.slice none 0 0),(.slice none 0 0)] []),.s (.st 5 (.t 6) (.t 23)),.q 7 (.mv (.i 3))]) .ret) .skip)) (CG))
@[go_sem ↓] theorem aLQ:aM mL:=aO _
def aA3:PC:=.seq (.reg [.e 3 (.bx 25 (.t 0)),.e 6 (.al (.agg #[(.int .i64 0),(.int .i64 0),(.string (mk [])),(.slice none 0 0),(.slice none 0 0)]) 29),.q 7 (.mv (.i 0))]) (.seq (.reg [.l 11 (.ldn 3 (.t 3)),.v 12 1,.a 13 (.cl 23 [(.t 11),(.t 12)] []),.v 10 13,.q 14 (.ex (.t 10) 0),.q 15 (.ex (.t 10) 1),.e 8 (.al (.agg #[(.string (mk [])),(.slice none 0 0)]) 48),.s (.st 2 (.t 8) (.t 14)),.v 9 15]) (mL))
def YQ:List RV:=[.ld (.ldn 5 (.t 6)),.mv (.t 7)]
theorem aLL:aP Tryz.prog true ⟨fun _ _=>.own [],fun r=>[2,6].contains r⟩ Tryz.f12=some (aA3,YQ):=by kernel_rfl
def tG:PC:=.seq (.seq (.gh (.reg [.v 18 7,.q 19 (.bin .neq true (.t 18) (.i 0))])) (.cond (.t 19) (.seq (.reg [.q 4 (.mv (.k (.string (mk [])))),.q 5 (.mv (.k (.bool false)))]) .ret) .skip)) (.seq (.seq (.reg [.v 20 6,.q 21 (.lnL (.t 20)),.q 22 (.mv (.i 0))]) (.block 0 (.loop (.seq (.reg [.q 23 (.bin .lss true (.t 22) (.t 21))]) (.seq (.cond (.t 23) .skip (.exit 0)) (.seq (.block 1 (.seq (.reg [.l 24 (.ia 2 (.t 20) (.t 22)),.l 25 (.ldn 2 (.t 24)),.e 9 (.al (.agg #[(.int .i64 0),(.string (mk []))]) 89),.s (.st 2 (.t 9) (.t 25))]) (.seq (.reg [.q 26 (.fa 0 (.t 9)),.l 27 (.ld1 (.t 26)),.v 28 1,.q 29 (.bin .eql true (.t 27) (.t 28))]) (.cond (.t 29) (.seq (.reg [.q 30 (.fa 1 (.t 9)),.l 31 (.ld1 (.t 30)),.v 4 31,.q 5 (.mv (.k (.bool true)))]) .ret) .skip)))) (.reg [.q 32 (.bin .add true (.t 22) (.i 1)),.v 22 32]))))))) (.seq (.reg [.q 4 (.mv (.k (.string (mk [])))),.q 5 (.mv (.k (.bool false)))]) .ret))
@[go_sem ↓] theorem aKW:aM tG:=aO _
def NI:PC:=.seq (.reg [.q 4 (.mv (.k (.string (mk [])))),.q 5 (.mv (.k (.bool false)))]) (.seq (.seq (.reg [.v 10 0,.q 11 (.lnS (.t 10)),.q 12 (.bin .gtr true (.t 11) (.i 2000))]) (.cond (.t 12) (.seq (.reg [.q 4 (.mv (.k (.string (mk [])))),.q 5 (.mv (.k (.bool false)))]) .ret) .skip)) (.seq (.reg [.v 14 0,.a 15 (.cl 38 [(.t 14)] []),.v 13 15,.q 16 (.ex (.t 13) 0),.q 17 (.ex (.t 13) 1),.v 6 16,.v 7 17]) (tG)))
def MG:List RV:=[.mv (.t 4),.mv (.t 5)]
theorem aJB:aP Tryz.prog true ⟨fun _ _=>.own [],fun r=>[4].contains r⟩ Tryz.f21=some (NI,MG):=by kernel_rfl
def uB:PC:=.seq (.seq (.gh (.reg [.v 17 5,.q 18 (.bin .neq true (.t 17) (.i 0))])) (.cond (.t 18) (.seq (.reg [.v 19 5,.q 2 (.mv (.k (.slice none 0 0))),.v 3 19]) .ret) .skip)) (.seq (.reg [.q 6 (.mv (.k (.slice none 0 0)))]) (.seq (.seq (.reg [.v 20 4,.q 21 (.lnL (.t 20)),.q 22 (.mv (.i 0))]) (.block 0 (.loop (.seq (.reg [.q 23 (.bin .lss true (.t 22) (.t 21))]) (.seq (.cond (.t 23) .skip (.exit 0)) (.seq (.block 1 (.seq (.reg [.l 24 (.ia 2 (.t 20) (.t 22)),.l 25 (.ldn 2 (.t 24)),.e 8 (.al (.agg #[(.int .i64 0),(.string (mk []))]) 89),.s (.st 2 (.t 8) (.t 25))]) (.reg [.v 26 6,.q 27 (.fa 0 (.t 8)),.l 28 (.ld1 (.t 27)),.e 29 (.bsl 3 1 [(.t 28)]),.e 30 (.ap 3 1 8 (.t 26) (.t 29)),.v 6 30]))) (.reg [.q 31 (.bin .add true (.t 22) (.i 1)),.v 22 31]))))))) (.seq (.reg [.v 32 6,.v 2 32,.q 3 (.mv (.i 0))]) .ret)))
@[go_sem ↓] theorem aHI:aM uB:=aO _
def NU:PC:=.seq (.reg [.q 2 (.mv (.k (.slice none 0 0))),.q 3 (.mv (.i 0))]) (.seq (.seq (.reg [.v 9 0,.q 10 (.lnS (.t 9)),.q 11 (.bin .gtr true (.t 10) (.i 2000))]) (.cond (.t 11) (.seq (.reg [.q 2 (.mv (.k (.slice none 0 0))),.q 3 (.mv (.i 3))]) .ret) .skip)) (.seq (.reg [.v 13 0,.a 14 (.cl 38 [(.t 13)] []),.v 12 14,.q 15 (.ex (.t 12) 0),.q 16 (.ex (.t 12) 1),.v 4 15,.v 5 16]) (uB)))
def MB:List RV:=[.mv (.t 2),.mv (.t 3)]
theorem aHT:aP Tryz.prog true ⟨fun _ _=>.own [],fun r=>[4].contains r⟩ Tryz.f22=some (NU,MB):=by kernel_rfl
def tH:PC:=.seq (.gh (.reg [.v 11 6,.q 12 (.bin .neq true (.t 11) (.i 0))])) (.cond (.t 12) (.seq (.reg [.q 13 (.bd [(.string (mk [])),(.slice none 0 0)] []),.v 14 6,.s (.st 2 (.t 4) (.t 13)),.v 5 14]) .ret) .skip)
@[go_sem ↓] theorem aHZ:aM tH:=aO _
def s9:PC:=.seq (.seq (.gh (.reg [.v 21 8,.q 22 (.not (.t 21))])) (.cond (.t 22) (.seq (.reg [.q 23 (.bd [(.string (mk [])),(.slice none 0 0)] []),.s (.st 2 (.t 4) (.t 23)),.q 5 (.mv (.i 6))]) .ret) .skip)) (.seq (.reg [.l 24 (.ldn 2 (.t 7)),.s (.st 2 (.t 4) (.t 24)),.q 5 (.mv (.i 0))]) .ret)
@[go_sem ↓] theorem aJK:aM s9:=aO _
def B0:PC:=.seq (.gh (.reg [.l 16 (.ldn 3 (.t 2)),.v 17 1,.a 18 (.cl 40 [(.t 16),(.t 17)] []),.v 15 18,.q 19 (.ex (.t 15) 0),.q 20 (.ex (.t 15) 1),.e 7 (.al (.agg #[(.string (mk [])),(.slice none 0 0)]) 48),.s (.st 2 (.t 7) (.t 19)),.v 8 20])) (s9)
@[go_sem ↓] theorem aKX:aM B0:=aO _
def ZM:PC:=.seq (.reg [.e 2 (.bx 25 (.t 0)),.e 4 (.al (.agg #[(.string (mk [])),(.slice none 0 0)]) 48),.q 5 (.mv (.i 0))]) (.seq (.seq (.reg [.l 9 (.ldn 3 (.t 2)),.a 10 (.cq 39 [(.t 9)]),.v 6 10]) (tH)) (B0))
def ZN:List RV:=[.ld (.ldn 2 (.t 4)),.mv (.t 5)]
theorem aLU:aP Tryz.prog true ⟨fun r k=>if r=1/\k=1 then .q else .own [],fun r=>[2,4,5].contains r⟩ Tryz.f23=some (ZM,ZN):=by kernel_rfl
def aBT:PC:=.seq (.reg [.e 2 (.al (.agg #[(.int .i64 0),(.int .i64 0),(.string (mk [])),(.slice none 0 0)]) 42)]) (.seq (.reg [.v 3 0,.q 4 (.bd [(.int .i64 0),(.int .i64 0),(.string (mk [])),(.slice none 0 0)] [(0,1,(.i 6)),(2,1,(.t 3))]),.s (.st 4 (.t 2) (.t 4))]) .ret)
def WZ:List RV:=[.ld (.ldn 4 (.t 2))]
theorem aLO:aP Tryz.prog true ⟨fun _ _=>.own [],fun _=>false⟩ Tryz.f25=some (aBT,WZ):=by kernel_rfl
def vH:PC:=.gh (.reg [.v 41 7,.q 42 (.fa 0 (.t 9)),.l 43 (.ld1 (.t 42)),.q 44 (.cvt .u64 (.t 43)),.a 45 (.cq 46 [(.t 44)]),.l 46 (.ldn 3 (.t 3)),.q 47 (.fa 2 (.t 9)),.l 48 (.ldn 4 (.t 47)),.l 49 (.ldn 5 (.t 10)),.a 50 (.cq 48 [(.t 46),(.t 48),(.t 49)]),.a 51 (.cq 47 [(.t 50)]),.q 52 (.bin .add true (.t 45) (.t 51)),.q 53 (.bin .add true (.t 41) (.t 52)),.v 7 53])
@[go_sem ↓] theorem aJT:aM vH:=aO _
def oF:PC:=.seq (.seq (.gh (.ord  [.q (.v 26 11),.q (.q 27 (.not (.t 26))),.q (.v 28 27),.q ⟨some 29,(some (28,false)),.q (.fa 6 (.t 9))⟩,.q ⟨some 30,(some (28,false)),.l (.ld1 (.t 29))⟩,.q ⟨some 31,(some (28,false)),.q (.not (.t 30))⟩,.q ⟨some 32,(some (28,false)),.q (.mv (.t 31))⟩,.q ⟨some 33,(some (32,true)),.l (.ldn 5 (.t 10))⟩,.q ⟨some 34,(some (32,true)),.l (.ldn 3 (.t 3))⟩,.q ⟨some 35,(some (32,true)),.q (.fa 2 (.t 9))⟩,.q ⟨some 36,(some (32,true)),.l (.ldn 4 (.t 35))⟩,.m ⟨some 37,(some (32,true)),.cl 45 [(.t 34),(.t 36)] []⟩,.rc ⟨some 33,(some (32,true)),.l (.ldn 5 (.t 10))⟩,.m ⟨some 38,(some (32,true)),.cq 44 [(.t 33),(.t 37)]⟩,.q ⟨some 39,(some (28,false)),.pick (.t 32) (.t 38) (.k (.bool false))⟩,.q (.a 40 (.pick (.t 28) (.k (.bool true)) (.t 39)))])) (.cond (.t 40) (.exit 1) .skip)) (vH)
@[go_sem ↓] theorem aI3:aM oF:=aO _
def ZD:PC:=.seq (.reg [.e 3 (.bx 25 (.t 0)),.e 4 (.bx 48 (.t 1)),.e 5 (.bx 29 (.t 2)),.q 6 (.mv (.k (.string (mk []))))]) (.seq (.reg [.q 7 (.mv (.k (.string (mk []))))]) (.seq (.seq (.reg [.q 12 (.fa 1 (.t 4)),.l 13 (.ld1 (.t 12)),.q 14 (.lnL (.t 13)),.q 15 (.mv (.i 0))]) (.block 0 (.loop (.seq (.reg [.q 16 (.bin .lss true (.t 15) (.t 14))]) (.seq (.cond (.t 16) .skip (.exit 0)) (.seq (.block 1 (.seq (.reg [.l 17 (.ia 7 (.t 13) (.t 15)),.l 18 (.ldn 7 (.t 17)),.e 9 (.al (.agg #[(.int .i64 0),(.string (mk [])),(.int .i64 0),(.int .i64 0),(.string (mk [])),(.slice none 0 0),(.bool false)]) 52),.s (.st 7 (.t 9) (.t 18))]) (.seq (.reg [.l 20 (.ldn 5 (.t 5)),.q 21 (.fa 0 (.t 9)),.l 22 (.ld1 (.t 21)),.a 23 (.cl 43 [(.t 20),(.t 22)] []),.v 19 23,.q 24 (.ex (.t 19) 0),.q 25 (.ex (.t 19) 1),.e 10 (.al (.agg #[(.int .i64 0),(.int .i64 0),(.string (mk [])),(.slice none 0 0),(.slice none 0 0)]) 29),.s (.st 5 (.t 10) (.t 24)),.v 11 25]) (oF)))) (.reg [.q 54 (.bin .add true (.t 15) (.i 1)),.v 15 54]))))))) (.seq (.reg [.v 55 7,.v 6 55]) .ret)))
def aA2:List RV:=[.mv (.t 6)]
theorem aLY:aP Tryz.prog true ⟨fun r k=>if r=6/\k=12 then .q else if r=7/\k=4 then .q else if r=7/\k=9 then .q else if r=7/\k=10 then .q else .own [],fun r=>[6,7].contains r⟩ Tryz.f26=some (ZD,aA2):=by kernel_rfl
def gK:List OJ:=[.rc ⟨some 64,(some (63,true)),.l (.ldn 5 (.t 15))⟩,.m ⟨some 69,(some (63,true)),.cq 44 [(.t 64),(.t 68)]⟩,.q (.a 70 (.pick (.t 63) (.t 69) (.k (.bool false)))),.q (.v 71 70),.q ⟨some 72,(some (71,true)),.q (.fa 2 (.t 13))⟩,.q ⟨some 73,(some (71,true)),.q (.fa 0 (.t 72))⟩,.q ⟨some 74,(some (71,true)),.l (.ld1 (.t 73))⟩,.q ⟨some 75,(some (71,true)),.q (.bin .neq true (.t 74) (.i 6))⟩,.q ⟨some 76,(some (71,true)),.q (.mv (.t 75))⟩,.q ⟨some 77,(some (76,false)),.q (.fa 1 (.t 10))⟩,.q ⟨some 78,(some (76,false)),.l (.ld1 (.t 77))⟩,.q ⟨some 79,(some (76,false)),.q (.bin .eql true (.t 78) (.k (.string (mk []))))⟩,.q ⟨some 80,(some (71,true)),.pick (.t 76) (.k (.bool true)) (.t 79)⟩,.q (.a 81 (.pick (.t 71) (.t 80) (.k (.bool false))))]
def mH:PC:=.gh (.reg [.v 86 8,.q 87 (.fa 0 (.t 10)),.l 88 (.ld1 (.t 87)),.l 89 (.ldn 5 (.t 15)),.s (.mu (.int .i64) (.t 86) (.t 88) (.t 89))])
@[go_sem ↓] theorem aF4:aM mH:=aO _
def gO:PC:=.seq (.seq (.gh (.reg [.v 82 12,.q 83 (.bin .neq true (.t 82) (.i 0))])) (.cond (.t 83) (.seq (.reg [.q 84 (.bd [(.int .i64 0),(.int .i64 0),(.string (mk [])),(.slice none 0 0),(.slice none 0 0)] []),.v 85 12,.s (.st 5 (.t 6) (.t 84)),.v 7 85]) .ret) .skip)) (mH)
@[go_sem ↓] theorem aFS:aM gO:=aO _
def mR:PC:=.seq (.seq (.gh (.ord  (.q (.v 56 12) :: .q (.q 57 (.bin .eql true (.t 56) (.i 0))) :: .q (.v 58 57) :: .q ⟨some 59,(some (58,true)),.q (.fa 6 (.t 13))⟩ :: .q ⟨some 60,(some (58,true)),.l (.ld1 (.t 59))⟩ :: .q ⟨some 61,(some (58,true)),.q (.not (.t 60))⟩ :: .q (.a 62 (.pick (.t 58) (.t 61) (.k (.bool false)))) :: .q (.v 63 62) :: .q ⟨some 64,(some (63,true)),.l (.ldn 5 (.t 15))⟩ :: .q ⟨some 65,(some (63,true)),.l (.ldn 3 (.t 3))⟩ :: .q ⟨some 66,(some (63,true)),.q (.fa 2 (.t 13))⟩ :: .q ⟨some 67,(some (63,true)),.l (.ldn 4 (.t 66))⟩ :: .m ⟨some 68,(some (63,true)),.cl 45 [(.t 65),(.t 67)] []⟩ :: gK))) (.cond (.t 81) (.reg [.q 12 (.mv (.i 2))]) .skip)) (gO)
@[go_sem ↓] theorem aGK:aM mR:=aO _
def xA:PC:=.seq (.gh (.reg [.l 48 (.ldn 3 (.t 3)),.q 49 (.fa 2 (.t 13)),.l 50 (.ldn 4 (.t 49)),.q 51 (.fa 1 (.t 10)),.l 52 (.ld1 (.t 51)),.a 53 (.cl 55 [(.t 48),(.t 50),(.t 52)] []),.v 47 53,.q 54 (.ex (.t 47) 0),.q 55 (.ex (.t 47) 1),.e 15 (.al (.agg #[(.int .i64 0),(.int .i64 0),(.string (mk [])),(.slice none 0 0),(.slice none 0 0)]) 29),.s (.st 5 (.t 15) (.t 54)),.v 12 55])) (mR)
@[go_sem ↓] theorem aHA:aM xA:=aO _
def s4:PC:=.seq (.seq (.gh (.reg [.v 45 14,.q 46 (.not (.t 45))])) (.cond (.t 46) (.exit 1) .skip)) (xA)
@[go_sem ↓] theorem aLG:aM s4:=aO _
def EJ:PC:=.seq (.gh (.reg [.l 39 (.ldn 2 (.t 4)),.q 40 (.fa 0 (.t 10)),.l 41 (.ld1 (.t 40)),.a 42 (.cl 54 [(.t 39),(.t 41)] []),.v 38 42,.q 43 (.ex (.t 38) 0),.q 44 (.ex (.t 38) 1),.e 13 (.al (.agg #[(.int .i64 0),(.string (mk [])),(.int .i64 0),(.int .i64 0),(.string (mk [])),(.slice none 0 0),(.bool false)]) 52),.s (.st 7 (.t 13) (.t 43)),.v 14 44])) (s4)
@[go_sem ↓] theorem aIW:aM EJ:=aO _
def B5:PC:=.seq (.gh (.reg [.q 35 (.fa 0 (.t 10)),.l 36 (.ld1 (.t 35)),.v 37 11,.v 9 36,.v 2 37])) (EJ)
@[go_sem ↓] theorem aK5:aM B5:=aO _
def uP:PC:=.seq (.seq (.gh (.reg [.v 31 12,.q 32 (.bin .neq true (.t 31) (.i 0))])) (.cond (.t 32) (.seq (.reg [.q 33 (.bd [(.int .i64 0),(.int .i64 0),(.string (mk [])),(.slice none 0 0),(.slice none 0 0)] []),.v 34 12,.s (.st 5 (.t 6) (.t 33)),.v 7 34]) .ret) .skip)) (B5)
@[go_sem ↓] theorem aID:aM uP:=aO _
def EF:PC:=.seq (.gh (.reg [.v 25 2,.v 26 9,.a 27 (.cl 53 [(.t 25),(.t 26)] []),.v 24 27,.q 28 (.ex (.t 24) 0),.q 29 (.ex (.t 24) 1),.q 30 (.ex (.t 24) 2),.e 10 (.al (.agg #[(.int .i64 0),(.string (mk []))]) 89),.s (.st 2 (.t 10) (.t 28)),.v 11 29,.v 12 30])) (uP)
@[go_sem ↓] theorem aLE:aM EF:=aO _
def w5:PC:=.gh (.reg [.l 113 (.ldn 3 (.t 3)),.q 114 (.fa 2 (.t 18)),.l 115 (.ldn 4 (.t 114)),.a 116 (.cl 45 [(.t 113),(.t 115)] []),.s (.st 5 (.t 19) (.t 116))])
@[go_sem ↓] theorem aGR:aM w5:=aO _
def qR:PC:=.gh (.reg [.q 117 (.fa 4 (.t 16)),.l 118 (.ld1 (.t 117)),.q 119 (.fa 0 (.t 18)),.l 120 (.ld1 (.t 119)),.l 121 (.ldn 5 (.t 19)),.q 122 (.bd [(.int .i64 0),(.int .i64 0),(.int .i64 0),(.string (mk [])),(.slice none 0 0),(.slice none 0 0)] [(0,1,(.t 120)),(1,5,(.t 121))]),.e 123 (.bsl 76 6 [(.t 122)]),.e 124 (.ap 76 6 88 (.t 118) (.t 123)),.q 125 (.fa 4 (.t 16)),.s (.st 1 (.t 125) (.t 124))])
@[go_sem ↓] theorem aGT:aM qR:=aO _
def pT:PC:=.seq (.seq (.gh (.reg [.v 111 20,.q 112 (.not (.t 111))])) (.cond (.t 112) (w5) .skip)) (qR)
@[go_sem ↓] theorem aFH:aM pT:=aO _
def mQ:PC:=.seq (.seq (.gh (.reg [.v 105 20,.q 106 (.not (.t 105)),.v 107 106,⟨some 108,(some (107,true)),.q (.fa 6 (.t 18))⟩,⟨some 109,(some (107,true)),.l (.ld1 (.t 108))⟩,.a 110 (.pick (.t 107) (.t 109) (.k (.bool false)))])) (.cond (.t 110) (.exit 3) .skip)) (pT)
@[go_sem ↓] theorem aGN:aM mQ:=aO _
def qW:PC:=.seq (.gh (.reg [.v 99 8,.q 100 (.fa 0 (.t 18)),.l 101 (.ld1 (.t 100)),.l 102 (.lk (.int .i64) (.agg #[(.int .i64 0),(.int .i64 0),(.string (mk [])),(.slice none 0 0),(.slice none 0 0)]) true (.t 99) (.t 101)),.v 98 102,.q 103 (.ex (.t 98) 0),.q 104 (.ex (.t 98) 1),.e 19 (.al (.agg #[(.int .i64 0),(.int .i64 0),(.string (mk [])),(.slice none 0 0),(.slice none 0 0)]) 29),.s (.st 5 (.t 19) (.t 103)),.v 20 104])) (mQ)
@[go_sem ↓] theorem aFN:aM qW:=aO _
def x9:PC:=.seq (.seq (.gh (.reg [.q 91 (.fa 1 (.t 4)),.l 92 (.ld1 (.t 91)),.q 93 (.lnL (.t 92)),.q 94 (.mv (.i 0))])) (.block 2 (.loop (.seq (.reg [.q 95 (.bin .lss true (.t 94) (.t 93))]) (.seq (.cond (.t 95) .skip (.exit 2)) (.seq (.block 3 (.seq (.reg [.l 96 (.ia 7 (.t 92) (.t 94)),.l 97 (.ldn 7 (.t 96)),.e 18 (.al (.agg #[(.int .i64 0),(.string (mk [])),(.int .i64 0),(.int .i64 0),(.string (mk [])),(.slice none 0 0),(.bool false)]) 52),.s (.st 7 (.t 18) (.t 97))]) (qW))) (.reg [.q 126 (.bin .add true (.t 94) (.i 1)),.v 94 126]))))))) (.seq (.reg [.l 127 (.ldn 5 (.t 16)),.s (.st 5 (.t 6) (.t 127)),.q 7 (.mv (.i 0))]) .ret)
@[go_sem ↓] theorem aGU:aM x9:=aO _
def wQ:PC:=.seq (.gh (.reg [.q 90 (.bd [(.int .i64 0),(.int .i64 0),(.string (mk [])),(.slice none 0 0),(.slice none 0 0)] [(0,1,(.i 6))]),.e 16 (.al (.agg #[(.int .i64 0),(.int .i64 0),(.string (mk [])),(.slice none 0 0),(.slice none 0 0)]) 29),.s (.st 5 (.t 16) (.t 90))])) (x9)
@[go_sem ↓] theorem aHB:aM wQ:=aO _
def ZG:PC:=.seq (.reg [.e 3 (.bx 25 (.t 0)),.e 4 (.bx 48 (.t 1)),.e 6 (.al (.agg #[(.int .i64 0),(.int .i64 0),(.string (mk [])),(.slice none 0 0),(.slice none 0 0)]) 29),.q 7 (.mv (.i 0))]) (.seq (.reg [.e 21 (.mm (.int .i64)),.v 8 21]) (.seq (.reg [.q 9 (.mv (.i 0))]) (.seq (.block 0 (.loop (.seq (.seq (.reg [.v 22 2,.q 23 (.bin .neq true (.t 22) (.k (.string (mk []))))]) (.cond (.t 23) .skip (.exit 0))) (.block 1 (EF))))) (wQ))))
def V9:List RV:=[.ld (.ldn 5 (.t 6)),.mv (.t 7)]
theorem aHX:aP Tryz.prog true ⟨fun r k=>if r=11/\k=13 then .q else .own [],fun r=>[4,5,7,8,9,10,11,13,16,17,20,21,22,15,23,24].contains r⟩ Tryz.f30=some (ZG,V9):=by kernel_rfl
def tK:PC:=.seq (.seq (.gh (.reg [.v 18 8,.q 19 (.bin .neq true (.t 18) (.i 0))])) (.cond (.t 19) (.seq (.reg [.v 20 8,.q 2 (.mv (.k (.slice none 0 0))),.v 3 20]) .ret) .skip)) (.seq (.reg [.v 21 4,.l 22 (.ldn 2 (.t 6)),.e 23 (.bsl 89 2 [(.t 22)]),.e 24 (.ap 89 2 24 (.t 21) (.t 23)),.v 4 24]) (.reg [.q 25 (.fa 0 (.t 6)),.l 26 (.ld1 (.t 25)),.v 27 7,.v 5 26,.v 0 27]))
@[go_sem ↓] theorem aH8:aM tK:=aO _
def DJ:PC:=.seq (.gh (.reg [.v 28 4,.v 2 28,.q 3 (.mv (.i 0))])) .ret
@[go_sem ↓] theorem aJQ:aM DJ:=aO _
def WI:PC:=.seq (.reg [.q 2 (.mv (.k (.slice none 0 0))),.q 3 (.mv (.i 0))]) (.seq (.reg [.q 4 (.mv (.k (.slice none 0 0)))]) (.seq (.reg [.q 5 (.mv (.i 0))]) (.seq (.block 0 (.loop (.seq (.seq (.reg [.v 9 0,.q 10 (.bin .neq true (.t 9) (.k (.string (mk []))))]) (.cond (.t 10) .skip (.exit 0))) (.block 1 (.seq (.reg [.v 12 0,.v 13 5,.a 14 (.cl 53 [(.t 12),(.t 13)] []),.v 11 14,.q 15 (.ex (.t 11) 0),.q 16 (.ex (.t 11) 1),.q 17 (.ex (.t 11) 2),.e 6 (.al (.agg #[(.int .i64 0),(.string (mk []))]) 89),.s (.st 2 (.t 6) (.t 15)),.v 7 16,.v 8 17]) (tK)))))) (DJ))))
def WB:List RV:=[.mv (.t 2),.mv (.t 3)]
theorem aIN:aP Tryz.prog true ⟨fun _ _=>.own [],fun r=>[5,9].contains r⟩ Tryz.f38=some (WI,WB):=by kernel_rfl
def w9:PC:=.gh (.reg [.v 47 8,.l 48 (.ldn 5 (.t 10)),.a 49 (.ca (.t 47) [(.t 48)] [3,0,1])])
@[go_sem ↓] theorem aF0:aM w9:=aO _
def xY:PC:=.seq (.gh (.reg [.l 51 (.ld1 (.t 7)),.v 6 51])) .ret
@[go_sem ↓] theorem aFJ:aM xY:=aO _
def wP:PC:=.seq (.gh (.reg [.q 34 (.fa 3 (.t 5)),.l 35 (.ld1 (.t 34)),.q 36 (.lnL (.t 35)),.q 37 (.cvt .u64 (.t 36)),.a 38 (.cq 46 [(.t 37)]),.e 7 (.al (.string (mk [])) 9),.s (.st 1 (.t 7) (.t 38))])) (.seq (.reg [.q 39 (.mf 85 [(.t 7),(.t 3),(.t 4)]),.v 8 39]) (.seq (.seq (.reg [.q 40 (.fa 3 (.t 5)),.l 41 (.ld1 (.t 40)),.q 42 (.lnL (.t 41)),.q 43 (.mv (.i 0))]) (.block 1 (.loop (.seq (.reg [.q 44 (.bin .lss true (.t 43) (.t 42))]) (.seq (.cond (.t 44) .skip (.exit 1)) (.seq (.block 2 (.seq (.reg [.l 45 (.ia 5 (.t 41) (.t 43)),.l 46 (.ldn 5 (.t 45)),.e 10 (.al (.agg #[(.int .i64 0),(.int .i64 0),(.string (mk [])),(.slice none 0 0),(.slice none 0 0)]) 29),.s (.st 5 (.t 10) (.t 46))]) (w9))) (.reg [.q 50 (.bin .add true (.t 43) (.i 1)),.v 43 50]))))))) (xY)))
@[go_sem ↓] theorem aGP:aM wP:=aO _
def j9:PC:=.seq (.seq (.gh (.reg [.q 16 (.bin .eql true (.t 14) (.i 1)),.v 15 16])) (.cond (.t 15) .skip (.seq (.reg [.q 17 (.bin .eql true (.t 14) (.i 3)),.v 15 17]) (.cond (.t 15) .skip (.reg [.q 18 (.bin .eql true (.t 14) (.i 7)),.v 15 18]))))) (.cond (.t 15) (.seq (.reg [.q 19 (.fa 1 (.t 5)),.l 20 (.ld1 (.t 19)),.q 21 (.cvt .u64 (.t 20)),.a 22 (.cq 46 [(.t 21)]),.v 6 22]) .ret) (.seq (.reg [.q 24 (.bin .eql true (.t 14) (.i 2)),.v 23 24]) (.cond (.t 23) (.seq (.reg [.q 25 (.fa 1 (.t 5)),.l 26 (.ld1 (.t 25)),.a 27 (.cq 84 [(.t 26)]),.v 6 27]) .ret) (.seq (.reg [.q 29 (.bin .eql true (.t 14) (.i 4)),.v 28 29]) (.cond (.t 28) (.seq (.reg [.q 30 (.fa 2 (.t 5)),.l 31 (.ld1 (.t 30)),.v 6 31]) .ret) (.seq (.reg [.q 33 (.bin .eql true (.t 14) (.i 5)),.v 32 33]) (.cond (.t 32) (wP) .skip)))))))
@[go_sem ↓] theorem aK1:aM j9:=aO _
def wH:PC:=.seq (.gh (.reg [.l 59 (.ldn 3 (.t 3)),.l 60 (.ldn 2 (.t 11)),.l 61 (.ldn 5 (.t 5)),.a 62 (.cq 26 [(.t 59),(.t 60),(.t 61)]),.v 6 62])) .ret
@[go_sem ↓] theorem aF8:aM wH:=aO _
def vV:PC:=.seq (.gh (.reg [.l 53 (.ldn 3 (.t 3)),.q 54 (.fa 2 (.t 4)),.l 55 (.ld1 (.t 54)),.a 56 (.cl 40 [(.t 53),(.t 55)] []),.v 52 56,.q 57 (.ex (.t 52) 0),.q 58 (.ex (.t 52) 1),.e 11 (.al (.agg #[(.string (mk [])),(.slice none 0 0)]) 48),.s (.st 2 (.t 11) (.t 57)),.v 12 58])) (wH)
@[go_sem ↓] theorem aGG:aM vV:=aO _
def XH:PC:=.seq (.reg [.e 3 (.bx 25 (.t 0)),.e 4 (.bx 42 (.t 1)),.e 5 (.bx 29 (.t 2)),.q 6 (.mv (.k (.string (mk []))))]) (.seq (.seq (.reg [.q 13 (.fa 0 (.t 4)),.l 14 (.ld1 (.t 13))]) (.block 0 (j9))) (vV))
def aBY:List RV:=[.mv (.t 6)]
theorem aLS:aP Tryz.prog true ⟨fun r k=>if r=5/\k=3 then .q else if r=7/\k=2 then .q else if r=11/\k=4 then .q else if r=16/\k=2 then .own [3,0,1] else if r=20/\k=3 then .q else .own [],fun r=>[2,11,18,19,20,16].contains r⟩ Tryz.f48=some (XH,aBY):=by kernel_rfl
def B7:PC:=.seq (.gh (.reg [.v 38 7,.q 39 (.cvt .i64 (.t 38)),.v 40 10,.q 41 (.bd [(.int .i64 0),(.string (mk []))] [(0,1,(.t 39)),(1,1,(.t 40))]),.v 42 8,.v 43 9,.s (.st 2 (.t 4) (.t 41)),.v 5 42,.v 6 43])) .ret
@[go_sem ↓] theorem aIM:aM B7:=aO _
def aAI:PC:=.seq (.reg [.e 4 (.al (.agg #[(.int .i64 0),(.string (mk []))]) 89),.q 5 (.mv (.k (.string (mk [])))),.q 6 (.mv (.i 0))]) (.seq (.reg [.v 12 0,.a 13 (.cl 94 [(.t 12)] []),.v 11 13,.q 14 (.ex (.t 11) 0),.q 15 (.ex (.t 11) 1),.q 16 (.ex (.t 11) 2),.v 7 14,.v 8 15,.v 9 16]) (.seq (.block 0 (.seq (.reg [.v 18 9,.q 19 (.bin .neq true (.t 18) (.i 0)),.v 17 19]) (.cond (.t 17) (.seq (.reg [.q 20 (.bd [(.int .i64 0),(.string (mk []))] []),.v 21 9,.s (.st 2 (.t 4) (.t 20)),.q 5 (.mv (.k (.string (mk [])))),.v 6 21]) .ret) (.seq (.reg [.v 23 7,.q 24 (.bin .gtr true (.t 23) (.k (.int .u64 2147483647))),.v 22 24]) (.cond (.t 22) (.seq (.reg [.q 25 (.bd [(.int .i64 0),(.string (mk []))] []),.s (.st 2 (.t 4) (.t 25)),.q 5 (.mv (.k (.string (mk [])))),.q 6 (.mv (.i 4))]) .ret) (.seq (.reg [.v 27 7,.q 28 (.cvt .i64 (.t 27)),.v 29 1,.q 30 (.bin .leq true (.t 28) (.t 29)),.v 26 30]) (.cond (.t 26) (.seq (.reg [.q 31 (.bd [(.int .i64 0),(.string (mk []))] []),.s (.st 2 (.t 4) (.t 31)),.q 5 (.mv (.k (.string (mk [])))),.q 6 (.mv (.i 2))]) .ret) .skip))))))) (.seq (.reg [.v 33 8,.a 34 (.cl 95 [(.t 33)] []),.v 32 34,.q 35 (.ex (.t 32) 0),.q 36 (.ex (.t 32) 1),.q 37 (.ex (.t 32) 2),.v 10 35,.v 8 36,.v 9 37]) (B7))))
def aAN:List RV:=[.ld (.ldn 2 (.t 4)),.mv (.t 5),.mv (.t 6)]
theorem aIT:aP Tryz.prog true ⟨fun _ _=>.own [],fun r=>[9].contains r⟩ Tryz.f53=some (aAI,aAN):=by kernel_rfl
def i5:PC:=.seq (.gh (.reg [.q 13 (.bin .eql true (.t 11) (.i 1)),.v 12 13])) (.cond (.t 12) (.seq (.reg [.v 14 2,.a 15 (.cl 97 [(.t 14)] []),.q 16 (.ex (.t 15) 0),.q 17 (.ex (.t 15) 1),.s (.st 5 (.t 6) (.t 16)),.v 7 17]) .ret) (.seq (.seq (.reg [.q 19 (.bin .eql true (.t 11) (.i 2)),.v 18 19]) (.cond (.t 18) .skip (.seq (.reg [.q 20 (.bin .eql true (.t 11) (.i 3)),.v 18 20]) (.cond (.t 18) .skip (.reg [.q 21 (.bin .eql true (.t 11) (.i 7)),.v 18 21]))))) (.cond (.t 18) (.seq (.reg [.l 22 (.ldn 3 (.t 3)),.l 23 (.ldn 4 (.t 4)),.v 24 2,.a 25 (.cl 98 [(.t 22),(.t 23),(.t 24)] []),.q 26 (.ex (.t 25) 0),.q 27 (.ex (.t 25) 1),.s (.st 5 (.t 6) (.t 26)),.v 7 27]) .ret) (.seq (.reg [.q 29 (.bin .eql true (.t 11) (.i 4)),.v 28 29]) (.cond (.t 28) (.seq (.seq (.reg [.v 30 2,.q 31 (.lnS (.t 30)),.q 32 (.fa 1 (.t 4)),.l 33 (.ld1 (.t 32)),.q 34 (.bin .gtr true (.t 31) (.t 33))]) (.cond (.t 34) (.seq (.reg [.q 35 (.bd [(.int .i64 0),(.int .i64 0),(.string (mk [])),(.slice none 0 0),(.slice none 0 0)] []),.s (.st 5 (.t 6) (.t 35)),.q 7 (.mv (.i 3))]) .ret) .skip)) (.seq (.reg [.v 36 2,.q 37 (.bd [(.int .i64 0),(.int .i64 0),(.string (mk [])),(.slice none 0 0),(.slice none 0 0)] [(0,1,(.i 4)),(2,1,(.t 36))]),.s (.st 5 (.t 6) (.t 37)),.q 7 (.mv (.i 0))]) .ret)) (.seq (.reg [.q 39 (.bin .eql true (.t 11) (.i 5)),.v 38 39]) (.cond (.t 38) (.seq (.reg [.l 40 (.ldn 3 (.t 3)),.l 41 (.ldn 4 (.t 4)),.v 42 2,.a 43 (.cl 99 [(.t 40),(.t 41),(.t 42)] []),.q 44 (.ex (.t 43) 0),.q 45 (.ex (.t 43) 1),.s (.st 5 (.t 6) (.t 44)),.v 7 45]) .ret) .skip)))))))
@[go_sem ↓] theorem aHJ:aM i5:=aO _
def x8:PC:=.seq (.gh (.reg [.l 53 (.ldn 3 (.t 3)),.l 54 (.ldn 2 (.t 8)),.v 55 2,.a 56 (.cl 30 [(.t 53),(.t 54),(.t 55)] []),.q 57 (.ex (.t 56) 0),.q 58 (.ex (.t 56) 1),.s (.st 5 (.t 6) (.t 57)),.v 7 58])) .ret
@[go_sem ↓] theorem aFY:aM x8:=aO _
def xB:PC:=.seq (.gh (.reg [.l 47 (.ldn 3 (.t 3)),.q 48 (.fa 2 (.t 4)),.l 49 (.ld1 (.t 48)),.a 50 (.cl 40 [(.t 47),(.t 49)] []),.v 46 50,.q 51 (.ex (.t 46) 0),.q 52 (.ex (.t 46) 1),.e 8 (.al (.agg #[(.string (mk [])),(.slice none 0 0)]) 48),.s (.st 2 (.t 8) (.t 51)),.v 9 52])) (x8)
@[go_sem ↓] theorem aG8:aM xB:=aO _
def aA4:PC:=.seq (.reg [.e 3 (.bx 25 (.t 0)),.e 4 (.bx 42 (.t 1)),.e 6 (.al (.agg #[(.int .i64 0),(.int .i64 0),(.string (mk [])),(.slice none 0 0),(.slice none 0 0)]) 29),.q 7 (.mv (.i 0))]) (.seq (.seq (.reg [.q 10 (.fa 0 (.t 4)),.l 11 (.ld1 (.t 10))]) (.block 0 (i5))) (xB))
def WJ:List RV:=[.ld (.ldn 5 (.t 6)),.mv (.t 7)]
theorem aLB:aP Tryz.prog true ⟨fun _ _=>.own [],fun r=>[2,14,15].contains r⟩ Tryz.f55=some (aA4,WJ):=by kernel_rfl
def aBC:PC:=.seq (.reg [.e 4 (.bx 29 (.t 0))]) (.reg [.l 5 (.ld1 (.t 1)),.l 6 (.ldn 3 (.t 2)),.q 7 (.fa 3 (.t 3)),.l 8 (.ld1 (.t 7)),.l 9 (.ia 4 (.t 8) (.i 0)),.l 10 (.ldn 4 (.t 9)),.l 11 (.ldn 5 (.t 4)),.a 12 (.cq 48 [(.t 6),(.t 10),(.t 11)]),.a 13 (.cq 47 [(.t 12)]),.q 14 (.bin .add true (.t 5) (.t 13)),.s (.st 1 (.t 1) (.t 14))])
def ZU:List RV:=[]
theorem aII:aP Tryz.prog true ⟨fun r k=>if r=1/\k=7 then .q else if r=1/\k=8 then .q else .own [],fun _=>false⟩ Tryz.f85=some (aBC,ZU):=by kernel_rfl
def vN:PC:=.seq (.gh (.reg [.v 14 7,.q 15 (.bin .neq true (.t 14) (.i 0))])) (.cond (.t 15) (.seq (.reg [.v 16 7,.q 2 (.mv (.k (.int .u64 0))),.q 3 (.mv (.k (.string (mk [])))),.v 4 16]) .ret) .skip)
@[go_sem ↓] theorem aJI:aM vN:=aO _
def C2:PC:=.seq (.gh (.ord  [.q (.v 17 6),.q (.v 18 0),.q (.v 19 0),.q (.q 20 (.lnS (.t 19))),.q (.v 21 5),.m (.a 22 (.cl 136 [(.t 21)] [0])),.rc (.v 17 6),.rc (.v 18 0),.rc (.v 19 0),.rc (.q 20 (.lnS (.t 19))),.q (.q 23 (.bin .sub true (.t 20) (.t 22))),.q (.q 24 (.ss (.t 18) (some (.t 23)) none)),.m (.v 2 17),.rc (.v 18 0),.rc (.v 19 0),.rc (.q 20 (.lnS (.t 19))),.rc (.q 23 (.bin .sub true (.t 20) (.t 22))),.rc (.q 24 (.ss (.t 18) (some (.t 23)) none)),.m (.v 3 24),.m (.q 4 (.mv (.i 0)))])) .ret
@[go_sem ↓] theorem aHP:aM C2:=aO _
def BW:PC:=.seq (.seq (.gh (.reg [.v 12 5,.a 13 (.cl 135 [(.t 12)] [0]),.v 7 13])) (vN)) (C2)
@[go_sem ↓] theorem aJ8:aM BW:=aO _
def CJ:PC:=.seq (.gh (.reg [.v 10 5,.a 11 (.cl 134 [(.t 10)] [0]),.v 6 11])) (BW)
@[go_sem ↓] theorem aKR:aM CJ:=aO _
def aBH:PC:=.seq (.reg [.q 2 (.mv (.k (.int .u64 0))),.q 3 (.mv (.k (.string (mk [])))),.q 4 (.mv (.i 0))]) (.seq (.reg [.v 8 0,.a 9 (.cl 133 [(.t 8)] []),.v 5 9]) (CJ))
def WV:List RV:=[.mv (.t 2),.mv (.t 3),.mv (.t 4)]
theorem aIB:aP Tryz.prog true ⟨fun r k=>if r=2/\k=1 then .own [0] else if r=3/\k=1 then .own [0] else if r=6/\k=5 then .own [0] else .own [],fun r=>[2,3,4,6].contains r⟩ Tryz.f94=some (aBH,WV):=by kernel_rfl
def oP:PC:=.seq (.seq (.gh (.reg [.v 12 4,.q 13 (.bin .neq true (.t 12) (.i 0))])) (.cond (.t 13) (.seq (.reg [.v 14 4,.q 2 (.mv (.k (.string (mk [])))),.q 3 (.mv (.k (.string (mk [])))),.v 4 14]) .ret) .skip)) (.seq (.seq (.reg [.v 15 5,.v 16 0,.q 17 (.lnS (.t 16)),.q 18 (.cvt .u64 (.t 17)),.q 19 (.bin .gtr true (.t 15) (.t 18))]) (.cond (.t 19) (.seq (.reg [.q 2 (.mv (.k (.string (mk [])))),.q 3 (.mv (.k (.string (mk [])))),.q 4 (.mv (.i 1))]) .ret) .skip)) (.seq (.reg [.v 20 0,.v 21 5,.q 22 (.ss (.t 20) none (some (.t 21))),.v 23 0,.v 24 5,.q 25 (.ss (.t 23) (some (.t 24)) none),.v 2 22,.v 3 25,.q 4 (.mv (.i 0))]) .ret))
@[go_sem ↓] theorem aJU:aM oP:=aO _
def V1:PC:=.seq (.reg [.q 2 (.mv (.k (.string (mk [])))),.q 3 (.mv (.k (.string (mk [])))),.q 4 (.mv (.i 0))]) (.seq (.reg [.v 7 0,.a 8 (.cl 94 [(.t 7)] []),.v 6 8,.q 9 (.ex (.t 6) 0),.q 10 (.ex (.t 6) 1),.q 11 (.ex (.t 6) 2),.v 5 9,.v 0 10,.v 4 11]) (oP))
def aAE:List RV:=[.mv (.t 2),.mv (.t 3),.mv (.t 4)]
theorem aH3:aP Tryz.prog true ⟨fun _ _=>.own [],fun r=>[2].contains r⟩ Tryz.f95=some (V1,aAE):=by kernel_rfl
def NT:PC:=.seq (.reg [.e 2 (.al (.agg #[(.int .i64 0),(.int .i64 0),(.string (mk [])),(.slice none 0 0),(.slice none 0 0)]) 29),.q 3 (.mv (.i 0))]) (.seq (.block 0 (.seq (.reg [.v 5 0,.q 6 (.bin .eql true (.t 5) (.k (.string (mk [])))),.v 4 6]) (.cond (.t 4) (.seq (.reg [.q 7 (.bd [(.int .i64 0),(.int .i64 0),(.string (mk [])),(.slice none 0 0),(.slice none 0 0)] []),.s (.st 5 (.t 2) (.t 7)),.q 3 (.mv (.i 1))]) .ret) (.seq (.reg [.v 9 0,.a 10 (.ix (.t 9) (.i 0)),.q 11 (.bin .gtr true (.t 10) (.k (.int .u8 1))),.v 12 11,⟨some 13,(some (12,false)),.q (.mv (.t 0))⟩,⟨some 14,(some (12,false)),.q (.lnS (.t 13))⟩,⟨some 15,(some (12,false)),.q (.bin .gtr true (.t 14) (.i 1))⟩,.a 16 (.pick (.t 12) (.k (.bool true)) (.t 15)),.v 8 16]) (.cond (.t 8) (.seq (.reg [.q 17 (.bd [(.int .i64 0),(.int .i64 0),(.string (mk [])),(.slice none 0 0),(.slice none 0 0)] []),.s (.st 5 (.t 2) (.t 17)),.q 3 (.mv (.i 2))]) .ret) .skip))))) (.seq (.reg [.v 18 0,.a 19 (.ix (.t 18) (.i 0)),.q 20 (.cvt .i64 (.t 19)),.q 21 (.bd [(.int .i64 0),(.int .i64 0),(.string (mk [])),(.slice none 0 0),(.slice none 0 0)] [(0,1,(.i 1)),(1,1,(.t 20))]),.s (.st 5 (.t 2) (.t 21)),.q 3 (.mv (.i 0))]) .ret))
def L7:List RV:=[.ld (.ldn 5 (.t 2)),.mv (.t 3)]
theorem aKF:aP Tryz.prog true ⟨fun _ _=>.own [],fun _=>false⟩ Tryz.f97=some (NT,L7):=by kernel_rfl
def tW:PC:=.gh (.reg [.q 19 (.fa 1 (.t 4)),.l 20 (.ld1 (.t 19)),.q 21 (.bin .eql true (.t 20) (.i 64)),.v 22 21,⟨some 23,(some (22,false)),.q (.mv (.t 9))⟩,⟨some 24,(some (22,false)),.q (.fa 1 (.t 4))⟩,⟨some 25,(some (22,false)),.l (.ld1 (.t 24))⟩,⟨some 26,(some (22,false)),.q (.bin .sub true (.t 25) (.i 1))⟩,⟨some 27,(some (22,false)),.q (.bin .shl true (.i (-1)) (.t 26))⟩,⟨some 28,(some (22,false)),.q (.bin .geq true (.t 23) (.t 27))⟩,⟨some 29,(some (22,false)),.q (.mv (.t 28))⟩,⟨some 30,(some (29,true)),.q (.mv (.t 9))⟩,⟨some 31,(some (29,true)),.q (.fa 1 (.t 4))⟩,⟨some 32,(some (29,true)),.l (.ld1 (.t 31))⟩,⟨some 33,(some (29,true)),.q (.bin .sub true (.t 32) (.i 1))⟩,⟨some 34,(some (29,true)),.q (.bin .shl true (.i 1) (.t 33))⟩,⟨some 35,(some (29,true)),.q (.bin .lss true (.t 30) (.t 34))⟩,⟨some 36,(some (22,false)),.pick (.t 29) (.t 35) (.k (.bool false))⟩,.a 37 (.pick (.t 22) (.k (.bool true)) (.t 36)),.v 10 37])
@[go_sem ↓] theorem aLV:aM tW:=aO _
def qC:PC:=.gh (.reg [.v 48 10,.v 49 48,⟨some 50,(some (49,true)),.q (.mv (.t 9))⟩,⟨some 51,(some (49,true)),.q (.fa 1 (.t 4))⟩,⟨some 52,(some (49,true)),.l (.ld1 (.t 51))⟩,⟨some 53,(some (49,true)),.q (.bin .shl true (.i 1) (.t 52))⟩,⟨some 54,(some (49,true)),.q (.bin .lss true (.t 50) (.t 53))⟩,.a 55 (.pick (.t 49) (.t 54) (.k (.bool false))),.v 10 55])
@[go_sem ↓] theorem aFI:aM qC:=aO _
def p5:PC:=.gh (.reg [.v 56 10,.v 57 56,⟨some 58,(some (57,true)),.l (.ldn 3 (.t 3))⟩,⟨some 59,(some (57,true)),.q (.fa 2 (.t 4))⟩,⟨some 60,(some (57,true)),.l (.ld1 (.t 59))⟩,⟨some 61,(some (57,true)),.q (.mv (.t 9))⟩,⟨some 62,(some (57,true)),.cq 139 [(.t 58),(.t 60),(.t 61)]⟩,.a 63 (.pick (.t 57) (.t 62) (.k (.bool false))),.v 10 63])
@[go_sem ↓] theorem aFL:aM p5:=aO _
def jT:PC:=.seq (.gh (.reg [.q 45 (.fa 0 (.t 4)),.l 46 (.ld1 (.t 45)),.q 47 (.bin .eql true (.t 46) (.i 3))])) (.cond (.t 47) (qC) (p5))
@[go_sem ↓] theorem aG4:aM jT:=aO _
def CY:PC:=.seq (.gh (.reg [.v 42 11,.q 43 (.bin .and true (.t 42) (.k (.int .u64 4294967295))),.q 44 (.cvt .i64 (.t 43)),.v 9 44])) (jT)
@[go_sem ↓] theorem aIQ:aM CY:=aO _
def BY:PC:=.seq (.gh (.reg [.v 40 11,.q 41 (.bin .lss true (.t 40) (.k (.int .u64 4294967296))),.v 10 41])) (CY)
@[go_sem ↓] theorem aJ0:aM BY:=aO _
def pV:PC:=.seq (.gh (.reg [.v 77 10,.q 78 (.not (.t 77)),.v 76 78])) (.cond (.t 76) (.seq (.reg [.q 79 (.bd [(.int .i64 0),(.int .i64 0),(.string (mk [])),(.slice none 0 0),(.slice none 0 0)] []),.s (.st 5 (.t 6) (.t 79)),.q 7 (.mv (.i 4))]) .ret) .skip)
@[go_sem ↓] theorem aFE:aM pV:=aO _
def wV:PC:=.seq (.gh (.reg [.v 72 8,.a 73 (.cl 136 [(.t 72)] [3]),.q 74 (.bin .gtr true (.t 73) (.i 0)),.v 71 74])) (.cond (.t 71) (.seq (.reg [.q 75 (.bd [(.int .i64 0),(.int .i64 0),(.string (mk [])),(.slice none 0 0),(.slice none 0 0)] []),.s (.st 5 (.t 6) (.t 75)),.q 7 (.mv (.i 2))]) .ret) (pV))
@[go_sem ↓] theorem aGZ:aM wV:=aO _
def pc98_13:PC:=.seq (.gh (.reg [.v 65 8,.a 66 (.cl 135 [(.t 65)] [3]),.q 67 (.bin .neq true (.t 66) (.i 0)),.v 64 67])) (.cond (.t 64) (.seq (.reg [.q 68 (.bd [(.int .i64 0),(.int .i64 0),(.string (mk [])),(.slice none 0 0),(.slice none 0 0)] []),.v 69 8,.a 70 (.cl 135 [(.t 69)] [3]),.s (.st 5 (.t 6) (.t 68)),.v 7 70]) .ret) (wV))
@[go_sem ↓] theorem aFQ:aM pc98_13:=aO _
def mA:PC:=.seq (.gh (.reg [.q 80 (.fa 0 (.t 4)),.l 81 (.ld1 (.t 80)),.v 82 9,.q 83 (.bd [(.int .i64 0),(.int .i64 0),(.string (mk [])),(.slice none 0 0),(.slice none 0 0)] [(0,1,(.t 81)),(1,1,(.t 82))]),.s (.st 5 (.t 6) (.t 83)),.q 7 (.mv (.i 0))])) .ret
@[go_sem ↓] theorem aFU:aM mA:=aO _
def tP:PC:=.seq (.seq (.gh (.reg [.q 14 (.fa 0 (.t 4)),.l 15 (.ld1 (.t 14)),.q 16 (.bin .eql true (.t 15) (.i 2))])) (.cond (.t 16) (.seq (.reg [.v 17 8,.a 18 (.cl 138 [(.t 17)] [3]),.v 9 18]) (tW)) (.seq (.reg [.v 38 8,.a 39 (.cl 134 [(.t 38)] [3]),.v 11 39]) (BY)))) (.seq (.block 0 (pc98_13)) (mA))
@[go_sem ↓] theorem aIU:aM tP:=aO _
def C4:PC:=.seq (.gh (.reg [.q 10 (.mv (.k (.bool true)))])) (tP)
@[go_sem ↓] theorem aHV:aM C4:=aO _
def B4:PC:=.seq (.gh (.reg [.q 9 (.mv (.i 0))])) (C4)
@[go_sem ↓] theorem aIH:aM B4:=aO _
def YB:PC:=.seq (.reg [.e 3 (.bx 25 (.t 0)),.e 4 (.bx 42 (.t 1)),.e 6 (.al (.agg #[(.int .i64 0),(.int .i64 0),(.string (mk [])),(.slice none 0 0),(.slice none 0 0)]) 29),.q 7 (.mv (.i 0))]) (.seq (.reg [.v 12 2,.a 13 (.cl 133 [(.t 12)] []),.v 8 13]) (B4))
def oJ:List RV:=[.ld (.ldn 5 (.t 6)),.mv (.t 7)]
theorem aK0:aP Tryz.prog true ⟨fun r k=>if r=5/\k=1 then .own [3] else if r=7/\k=1 then .own [3] else if r=12/\k=6 then .q else if r=13/\k=1 then .own [3] else if r=14/\k=2 then .own [3] else if r=15/\k=1 then .own [3] else .own [],fun r=>[2,3,4,6,8,9,10,13,15,17,19,6,11,12].contains r⟩ Tryz.f98=some (YB,oJ):=by kernel_rfl
def vY:PC:=.seq (.gh (.reg [.q 59 (.fa 3 (.t 10)),.l 60 (.ld1 (.t 59)),.l 61 (.ldn 5 (.t 14)),.e 62 (.bsl 29 5 [(.t 61)]),.e 63 (.ap 29 5 80 (.t 60) (.t 62)),.q 64 (.fa 3 (.t 10)),.s (.st 1 (.t 64) (.t 63))])) (.reg [.v 65 12,.v 2 65])
@[go_sem ↓] theorem aGM:aM vY:=aO _
def qM:PC:=.seq (.seq (.gh (.reg [.v 55 13,.q 56 (.bin .neq true (.t 55) (.i 0))])) (.cond (.t 56) (.seq (.reg [.q 57 (.bd [(.int .i64 0),(.int .i64 0),(.string (mk [])),(.slice none 0 0),(.slice none 0 0)] []),.v 58 13,.s (.st 5 (.t 6) (.t 57)),.v 7 58]) .ret) .skip)) (vY)
@[go_sem ↓] theorem aGW:aM qM:=aO _
def xQ:PC:=.seq (.gh (.ord  [.q (.l 46 (.ldn 3 (.t 3))),.q (.q 47 (.fa 3 (.t 4))),.q (.l 48 (.ld1 (.t 47))),.q (.l 49 (.ia 4 (.t 48) (.i 0))),.q (.l 50 (.ldn 4 (.t 49))),.q (.v 51 11),.m (.a 52 (.cl 55 [(.t 46),(.t 50),(.t 51)] [])),.q (.v 45 52),.q (.q 53 (.ex (.t 45) 0)),.q (.q 54 (.ex (.t 45) 1)),.m (.e 14 (.al (.agg #[(.int .i64 0),(.int .i64 0),(.string (mk [])),(.slice none 0 0),(.slice none 0 0)]) 29)),.rc (.v 45 52),.rc (.q 53 (.ex (.t 45) 0)),.rc (.q 54 (.ex (.t 45) 1)),.m (.s (.st 5 (.t 14) (.t 53))),.rc (.q 54 (.ex (.t 45) 1)),.m (.v 13 54)])) (qM)
@[go_sem ↓] theorem aG1:aM xQ:=aO _
def qU:PC:=.seq (.seq (.gh (.reg [.v 41 13,.q 42 (.bin .neq true (.t 41) (.i 0))])) (.cond (.t 42) (.seq (.reg [.q 43 (.bd [(.int .i64 0),(.int .i64 0),(.string (mk [])),(.slice none 0 0),(.slice none 0 0)] []),.v 44 13,.s (.st 5 (.t 6) (.t 43)),.v 7 44]) .ret) .skip)) (xQ)
@[go_sem ↓] theorem aFV:aM qU:=aO _
def DR:PC:=.seq (.gh (.reg [.v 36 2,.a 37 (.cl 95 [(.t 36)] []),.v 35 37,.q 38 (.ex (.t 35) 0),.q 39 (.ex (.t 35) 1),.q 40 (.ex (.t 35) 2),.v 11 38,.v 12 39,.v 13 40])) (qU)
@[go_sem ↓] theorem aKS:aM DR:=aO _
def qP:PC:=.seq (.seq (.gh (.reg [.v 67 2,.q 68 (.bin .neq true (.t 67) (.k (.string (mk []))))])) (.cond (.t 68) (.seq (.reg [.q 69 (.bd [(.int .i64 0),(.int .i64 0),(.string (mk [])),(.slice none 0 0),(.slice none 0 0)] []),.s (.st 5 (.t 6) (.t 69)),.q 7 (.mv (.i 2))]) .ret) .skip)) (.seq (.reg [.l 70 (.ldn 5 (.t 10)),.s (.st 5 (.t 6) (.t 70)),.q 7 (.mv (.i 0))]) .ret)
@[go_sem ↓] theorem aGH:aM qP:=aO _
def DV:PC:=.seq (.seq (.gh (.reg [.v 32 8,.q 33 (.mv (.k (.int .u64 0)))])) (.block 0 (.loop (.seq (.reg [.q 34 (.bin .lss true (.t 33) (.t 32))]) (.seq (.cond (.t 34) .skip (.exit 0)) (.seq (.block 1 (DR)) (.reg [.q 66 (.bin .add true (.t 33) (.k (.int .u64 1))),.v 33 66]))))))) (qP)
@[go_sem ↓] theorem aIC:aM DV:=aO _
def BS:PC:=.seq (.gh (.reg [.q 31 (.bd [(.int .i64 0),(.int .i64 0),(.string (mk [])),(.slice none 0 0),(.slice none 0 0)] [(0,1,(.i 5))]),.e 10 (.al (.agg #[(.int .i64 0),(.int .i64 0),(.string (mk [])),(.slice none 0 0),(.slice none 0 0)]) 29),.s (.st 5 (.t 10) (.t 31))])) (DV)
@[go_sem ↓] theorem aI1:aM BS:=aO _
def uD:PC:=.seq (.seq (.gh (.reg [.v 25 8,.q 26 (.fa 1 (.t 4)),.l 27 (.ld1 (.t 26)),.q 28 (.cvt .u64 (.t 27)),.q 29 (.bin .gtr true (.t 25) (.t 28))])) (.cond (.t 29) (.seq (.reg [.q 30 (.bd [(.int .i64 0),(.int .i64 0),(.string (mk [])),(.slice none 0 0),(.slice none 0 0)] []),.s (.st 5 (.t 6) (.t 30)),.q 7 (.mv (.i 3))]) .ret) .skip)) (BS)
@[go_sem ↓] theorem aKB:aM uD:=aO _
def t6:PC:=.seq (.seq (.gh (.reg [.v 21 9,.q 22 (.bin .neq true (.t 21) (.i 0))])) (.cond (.t 22) (.seq (.reg [.q 23 (.bd [(.int .i64 0),(.int .i64 0),(.string (mk [])),(.slice none 0 0),(.slice none 0 0)] []),.v 24 9,.s (.st 5 (.t 6) (.t 23)),.v 7 24]) .ret) .skip)) (uD)
@[go_sem ↓] theorem aH0:aM t6:=aO _
def aB6:PC:=.seq (.reg [.e 3 (.bx 25 (.t 0)),.e 4 (.bx 42 (.t 1)),.e 6 (.al (.agg #[(.int .i64 0),(.int .i64 0),(.string (mk [])),(.slice none 0 0),(.slice none 0 0)]) 29),.q 7 (.mv (.i 0))]) (.seq (.reg [.v 16 2,.a 17 (.cl 94 [(.t 16)] []),.v 15 17,.q 18 (.ex (.t 15) 0),.q 19 (.ex (.t 15) 1),.q 20 (.ex (.t 15) 2),.v 8 18,.v 2 19,.v 9 20]) (t6))
def ZC:List RV:=[.ld (.ldn 5 (.t 6)),.mv (.t 7)]
theorem aKK:aP Tryz.prog true ⟨fun _ _=>.own [],fun r=>[2,4,6,7,9,10,12,13,15,18].contains r⟩ Tryz.f99=some (aB6,ZC):=by kernel_rfl
def wE:PC:=.seq (.seq (.gh (.reg [.q 17 (.fa 2 (.t 7)),.l 18 (.ld1 (.t 17)),.q 19 (.lnL (.t 18)),.q 20 (.mv (.i 0))])) (.block 0 (.loop (.seq (.reg [.q 21 (.bin .lss true (.t 20) (.t 19))]) (.seq (.cond (.t 21) .skip (.exit 0)) (.seq (.block 1 (.seq (.reg [.l 22 (.ia 1 (.t 18) (.t 20)),.l 23 (.ld1 (.t 22)),.v 10 23]) (.seq (.reg [.v 24 10,.v 25 2,.q 26 (.bin .eql true (.t 24) (.t 25))]) (.cond (.t 26) (.seq (.reg [.q 6 (.mv (.k (.bool true)))]) .ret) .skip)))) (.reg [.q 27 (.bin .add true (.t 20) (.i 1)),.v 20 27]))))))) (.seq (.reg [.q 6 (.mv (.k (.bool false)))]) .ret)
@[go_sem ↓] theorem aFZ:aM wE:=aO _
def SL:PC:=.seq (.reg [.e 3 (.bx 25 (.t 0)),.q 6 (.mv (.k (.bool false)))]) (.seq (.reg [.l 12 (.ldn 3 (.t 3)),.v 13 1,.a 14 (.cl 113 [(.t 12),(.t 13)] []),.v 11 14,.q 15 (.ex (.t 11) 0),.q 16 (.ex (.t 11) 1),.e 7 (.al (.agg #[(.string (mk [])),(.slice none 0 0),(.slice none 0 0)]) 118),.s (.st 3 (.t 7) (.t 15)),.v 8 16]) (wE))
def PO:List RV:=[.mv (.t 6)]
theorem aDE:aP Tryz.prog true ⟨fun _ _=>.own [],fun r=>[2].contains r⟩ Tryz.f139=some (SL,PO):=by kernel_rfl
abbrev uA (n:Nat):A:=.c1 (.vl (.int .u64 n))
theorem ZI:∀ x:Nat,x < 256->IntKind.u8.wrap ((BitVec.ofInt IntKind.u8.bits (x:Int) &&& BitVec.ofInt IntKind.u8.bits 127).toNat:Int)=((x % 128:Nat):Int):=by decide +kernel
theorem S8 (c:UInt8):IntKind.u8.wrap ((BitVec.ofInt IntKind.u8.bits (c.toNat:Int) &&& BitVec.ofInt IntKind.u8.bits 127).toNat:Int)=((c.toNat % 128:Nat):Int):=ZI _ c.toNat_lt
theorem g7 {n:Nat} (h:n < 18446744073709551616):IntKind.u64.wrap (n:Int)=n:=by
 have h2:IntKind.u64.wrap (n:Int)=(n:Int) % 18446744073709551616:=by simp [IntKind.wrap,IntKind.signed,IntKind.bits]
 rw [h2]; omega
theorem ZP {n m i:Nat} (hn:n < 128 ^ i) (hs:n + m * 128 ^ i < 18446744073709551616) (hi:i<=9) :
 IntKind.u64.wrap ((BitVec.ofInt IntKind.u64.bits (n:Int) ||| BitVec.ofInt IntKind.u64.bits (IntKind.u64.wrap ((m:Int) * 2 ^ (min ((7:Int) * (i:Int)).toNat 64)))).toNat:Int)=((n + m * 128 ^ i:Nat):Int):=by
 have hb:IntKind.u64.bits=64:=rfl
 have e1:((7:Int) * (i:Int)).toNat=7 * i:=by omega
 have e2:min (7 * i) 64=7 * i:=by omega
 have e3:(2:Nat) ^ (7 * i)=128 ^ i:=by rw [Nat.pow_mul]
 have e4:(m:Int) * 2 ^ (7 * i)=((m * 128 ^ i:Nat):Int):=by
  rw [<-e3]; simp
 rw [hb,e1,e2,e4,g7 (n:=m * 128 ^ i) (by omega)]
 have e5:(BitVec.ofInt 64 (n:Int)).toNat=n:=by
  rw [BitVec.ofInt_natCast,BitVec.toNat_ofNat]; exact Nat.mod_eq_of_lt (by omega)
 have e6:(BitVec.ofInt 64 ((m * 128 ^ i:Nat):Int)).toNat=m * 128 ^ i:=by
  rw [BitVec.ofInt_natCast,BitVec.toNat_ofNat]; exact Nat.mod_eq_of_lt (by omega)
 rw [BitVec.toNat_or,e5,e6]
 have e7:n ||| m * 128 ^ i=n + m * 128 ^ i:=by
  rw [Nat.or_comm,<-e3,<-Nat.shiftLeft_eq,<-Nat.shiftLeft_add_eq_or_of_lt (by rw [e3]; exact hn),Nat.add_comm]
 rw [e7,g7 hs]
def YE:W.Spec:=fun av H K=>∃ x:ByteArray,av=[tS x]/\H=[]/\x.size<=9223372036854775807/\K (.tu [uA (vr (bl x)).1,iA .i64 (vr (bl x)).2.1,iA .i64 (vr (bl x)).2.2]) []
theorem aAJ {x:ByteArray} {K:S->Hp->Prop} (h:x.size<=9223372036854775807) (hK:K (.tu [uA (vr (bl x)).1,iA .i64 (vr (bl x)).2.1,iA .i64 (vr (bl x)).2.2]) []):YE [tS x] [] K:=⟨x,rfl,rfl,h,hK⟩
theorem LR:Meets Tryz.prog 156 YE:=by
 refine aD Tryz.func156 aE4 1 (by rw [Tryz.ntmps156]; decide) (aB _) (fun av H K h=>by obtain ⟨_,rfl,_⟩:=h; rfl) ?_
 rintro av H K ⟨x,rfl,rfl,hx,hK⟩
 obtain ⟨l,rfl⟩:∃ l,x=mk l:=⟨bl x,(fR x).symm⟩
 rw [cN,lK] at hx
 rw [lK] at hK
 have fin:∀ (n k:Nat) (e:Int),vr l=(n,k,e)->W.Fin 0 K (.tu [uA n,iA .i64 k,iA .i64 e]) []:=fun n k e h=>by
  rw [h] at hK; exact .done hK
 clear hK
 simp (maxSteps:=1000000) -dsimp only [go_sem,RF,PY]
 refine aU (α:=Nat × Nat) (fun z=>[(0,tS (mk l)),(5,iS .u64 z.2),(8,iS .i64 z.1)]) (fun _=>[])
  (fun z=>z.1<=9/\z.2 < 128 ^ z.1/\z.1<=l.length/\rL z.1 z.2 (l.drop z.1)=vr l) (fun z=>10 - z.1) (0,0) 0 ⟨by decide,by decide,Nat.zero_le _,rfl⟩ ?_ ?_ ?_
 · simp -dsimp only [go_sem]<;>simp
 · simp [go_sem]
 rintro ⟨i,n⟩ ⟨hi,hn,hil,ho⟩
 simp only at hi hn hil ho ⊢
 have hg:decide ((i:Int) < 10)=true:=by simp; omega
 rcases a8 i l.length with hlt | hge
 · have hg2:((i:Int) == (l.length:Int))=false:=by simp; omega
   obtain ⟨c,hc⟩:∃ c,l[i]? = some c:=⟨_,aV hlt⟩
   have hd:l.drop i=c :: l.drop (i + 1):=by
    obtain ⟨h,rfl⟩:=bC.1 hc
    exact List.drop_eq_getElem_cons h
   rw [hd,sP] at ho
   have e9:((i:Int) == 9)=(i == 9):=by rw [Bool.eq_iff_iff]; simp; omega
   have e1:decide ((1:Int) < (c.toNat:Int))=decide (1 < c.toNat):=by rw [Bool.eq_iff_iff]; simp; omega
   have e128:decide ((128:Int)<=(c.toNat:Int))=decide (128<=c.toNat):=by rw [Bool.eq_iff_iff]; simp; omega
   have e0:((c.toNat:Int) == 0)=(c.toNat == 0):=by rw [Bool.eq_iff_iff]; simp
   have ei:decide ((0:Int) < (i:Int))=decide (0 < i):=by rw [Bool.eq_iff_iff]; simp
   have hc256:=c.toNat_lt
   cases c1:i == 9 && decide (1 < c.toNat) with
   | true=>
    rw [c1] at ho
    rw [Bool.and_eq_true] at c1
    simp (maxSteps:=1000000) -dsimp only [go_sem,hg,hg2,hc,aF,forall_eq',e9,e1,c1.1,c1.2]
    exact ⟨by omega,fin 0 0 2 ho.symm⟩
   | false=>
    rw [c1,cond_false] at ho
    have key:n + c.toNat % 128 * 128 ^ i < 18446744073709551616:=by
     rcases a8 i 9 with h9 | h9
     · have h1:128 ^ (i + 1)<=128 ^ 9:=Nat.pow_le_pow_right (by decide) (by omega)
       have h2:c.toNat % 128 * 128 ^ i<=127 * 128 ^ i:=Nat.mul_le_mul_right _ (by omega)
       have h3:(128:Nat) ^ 9=9223372036854775808:=by decide
       have h4:128 ^ (i + 1)=128 * 128 ^ i:=by rw [Nat.pow_succ,Nat.mul_comm]
       omega
     · obtain rfl:i=9:=by omega
       rw [show ((9:Nat) == 9)=true from rfl,Bool.true_and] at c1
       have h1:=of_decide_eq_false c1
       have h3:(128:Nat) ^ 9=9223372036854775808:=by decide
       rw [h3] at hn ⊢
       have:c.toNat % 128<=1:=by omega
       have h2:c.toNat % 128 * 9223372036854775808<=1 * 9223372036854775808:=Nat.mul_le_mul_right _ this
       omega
    have hos:=ZP hn key hi
    have c1':((i == 9)=false\/decide (1 < c.toNat)=false):=by rw [Bool.and_eq_false_iff] at c1; exact c1
    have g9:∀ (P Q:Prop),(((bif i == 9 then decide (1 < c.toNat) else false)=true->P)/\((bif i == 9 then decide (1 < c.toNat) else false)=false->Q))=Q:=fun P Q=>by
     have:(bif i == 9 then decide (1 < c.toNat) else false)=false:=by rw [DO]; exact c1
     rw [this]; simp
    simp (maxSteps:=1000000) -dsimp only [go_sem,hg,hg2,hc,aF,forall_eq',e9,e1,c1,S8,e128,e0,ei]
    have hw:IntKind.u64.wrap ((c.toNat % 128:Nat):Int)=((c.toNat % 128:Nat):Int):=g7 (by omega)
    simp only [hw,hos]
    refine ⟨by omega,by omega,by omega,fun h1=>?_,fun h1=>⟨fun h2=>?_,fun h2=>?_⟩⟩
    · rw [h1,cond_true] at ho
      have h128:=of_decide_eq_true h1
      have hi9:i ≠ 9:=fun e=>by
       subst e
       rcases c1' with h | h
       · cases h
       · have:=of_decide_eq_false h; omega
      have hm:c.toNat % 128 * 128 ^ i<=127 * 128 ^ i:=Nat.mul_le_mul_right _ (by omega)
      have hp:128 ^ (i + 1)=128 * 128 ^ i:=by rw [Nat.pow_succ,Nat.mul_comm]
      refine ⟨by omega,aE (i + 1,n + c.toNat % 128 * 128 ^ i) 0 ⟨by simp only; omega,by simp only; rw [hp]; omega,by simp only; omega,ho⟩ (by simp only; omega) ?_ ?_⟩
      · simp -dsimp only [go_sem,hw,hos]<;>simp [hw,hos]
      · simp [go_sem]
    · rw [h1,cond_false,h2,cond_true] at ho
      exact fin 0 0 2 ho.symm
    · rw [h1,cond_false,h2,cond_false] at ho
      refine ⟨by omega,fin (n + c.toNat % 128 * 128 ^ i) (i + 1) 0 ho.symm⟩
 · have hg2:((i:Int) == (l.length:Int))=true:=by simp; omega
   have hd:l.drop i=[]:=List.drop_eq_nil_iff.2 hge
   rw [hd,wM] at ho
   simp (maxSteps:=1000000) -dsimp only [go_sem,hg,hg2]
   exact fin 0 0 1 ho.symm
def cT (x:List UInt8) (a:Nat) (e:Int):List C:=[.vl (.string (mk x)),.vl (.int .i64 a),.vl (.int .i64 e)]
abbrev fG (x:List UInt8) (a:Nat) (e:Int):B:=.cells (cT x a e) 199
abbrev yY (n:Nat):B:=.cells [.vl (.int .u64 n)] 83
def H4:W.Spec:=fun av H K=>∃ x:List UInt8,av=[tS (mk x)]/\H=[]/\K (.va (.c1 (.pt 0 0))) [fG x 0 0]
theorem K9 {x:List UInt8} {K:S->Hp->Prop} (hK:K (.va (.c1 (.pt 0 0))) [fG x 0 0]):H4 [tS (mk x)] [] K:=⟨x,rfl,rfl,hK⟩
theorem vB:Meets Tryz.prog 133 H4:=by
 refine aD Tryz.func133 aC7 1 (by rw [Tryz.ntmps133]; decide) (aB _) (fun av H K h=>by obtain ⟨_,rfl,_⟩:=h; rfl) ?_
 rintro av H K ⟨x,rfl,rfl,hK⟩
 simp (maxSteps:=1000000) -dsimp only [go_sem,QM,OV]
 exact .done hK
def AR:W.Spec:=fun av H K=>∃ (x:List UInt8) (a:Nat) (e:Int),av=[.va (.c1 (.pt 0 0))]/\H=[fG x a e]/\K (iS .i64 e) [fG x a e]
theorem wO {x:List UInt8} {a:Nat} {e:Int} {K:S->Hp->Prop} (hK:K (iS .i64 e) [fG x a e]):AR [.va (.c1 (.pt 0 0))] [fG x a e] K:=⟨x,a,e,rfl,rfl,hK⟩
theorem aBE:Meets Tryz.prog 135 AR:=by
 refine aD Tryz.func135 aEM 1 (by rw [Tryz.ntmps135]; decide) (aB _) (fun av H K h=>by obtain ⟨_,_,_,rfl,_⟩:=h; rfl) ?_
 rintro av H K ⟨x,a,e,rfl,rfl,hK⟩
 simp (maxSteps:=1000000) -dsimp only [go_sem,cT,R5,O5]
 exact .done hK
def AO:W.Spec:=fun av H K=>∃ (x:List UInt8) (a:Nat) (e:Int),av=[.va (.c1 (.pt 0 0))]/\H=[fG x a e]/\a<=x.length/\x.length<=9223372036854775807/\K (iS .i64 ((x.length:Int) - a)) [fG x a e]
theorem GS {x:List UInt8} {a:Nat} {e:Int} {K:S->Hp->Prop} (h1:a<=x.length) (h2:x.length<=9223372036854775807) (hK:K (iS .i64 ((x.length:Int) - a)) [fG x a e]):AO [.va (.c1 (.pt 0 0))] [fG x a e] K:=⟨x,a,e,rfl,rfl,h1,h2,hK⟩
theorem OQ:Meets Tryz.prog 136 AO:=by
 refine aD Tryz.func136 aES 1 (by rw [Tryz.ntmps136]; decide) (aB _) (fun av H K h=>by obtain ⟨_,_,_,rfl,_⟩:=h; rfl) ?_
 rintro av H K ⟨x,a,e,rfl,rfl,h1,h2,hK⟩
 simp (maxSteps:=1000000) -dsimp only [go_sem,cT,PE,SY]
 exact ⟨by omega,.done hK⟩
def Z2:W.Spec:=fun av H K=>∃ (x:List UInt8) (m:Nat),av=[tS (mk x),.va (.c1 (.pt 0 0))]/\H=[yY m]/\x.length<=9223372036854775807/\K (.tu [iA .i64 (vr x).2.1,iA .i64 (vr x).2.2]) [yY (vr x).1]
theorem Z3 {x:List UInt8} {m:Nat} {K:S->Hp->Prop} (h:x.length<=9223372036854775807) (hK:K (.tu [iA .i64 (vr x).2.1,iA .i64 (vr x).2.2]) [yY (vr x).1]):Z2 [tS (mk x),.va (.c1 (.pt 0 0))] [yY m] K:=⟨x,m,rfl,rfl,h,hK⟩
theorem X2:Meets Tryz.prog 155 Z2:=by
 refine aD Tryz.func155 aE8 2 (by rw [Tryz.ntmps155]; decide) (aC LR (aB _)) (fun av H K h=>by obtain ⟨_,_,rfl,_⟩:=h; rfl) ?_
 rintro av H K ⟨x,m,rfl,rfl,h,hK⟩
 simp (maxSteps:=1000000) -dsimp only [go_sem,QO,PW]
 refine aAJ (by rw [cN,lK]; exact h) ?_
 rw [lK]
 simp (maxSteps:=1000000) -dsimp only [go_sem]
 refine aA rfl (.done ?_)
 simp (maxSteps:=1000000) -dsimp only [go_sem,wZ]
 exact .done hK
def QE:W.Spec:=fun av H K=>∃ (x:List UInt8) (m:Nat),av=[.va (.c1 (.pt 0 0)),.va (.c1 (.fn 155 [(false,[.pt 1 0])]))]/\H=[fG x 0 0,yY m]/\x.length<=9223372036854775807/\K (.tu []) [fG x (vr x).2.1 (vr x).2.2,yY (vr x).1]
theorem VI {x:List UInt8} {m:Nat} {K:S->Hp->Prop} (h:x.length<=9223372036854775807) (hK:K (.tu []) [fG x (vr x).2.1 (vr x).2.2,yY (vr x).1]):QE [.va (.c1 (.pt 0 0)),.va (.c1 (.fn 155 [(false,[.pt 1 0])]))] [fG x 0 0,yY m] K:=⟨x,m,rfl,rfl,h,hK⟩
theorem Z6:Meets Tryz.prog 154 QE:=by
 refine aD Tryz.func154 aD9 2 (by rw [Tryz.ntmps154]; decide) (aC X2 (aB _)) (fun av H K h=>by obtain ⟨_,_,rfl,_⟩:=h; rfl) ?_
 rintro av H K ⟨x,m,rfl,rfl,h,hK⟩
 simp (maxSteps:=1000000) -dsimp only [go_sem,cT,OZ,SV,bne_self_eq_false]
 refine aA rfl (.done ?_)
 have z0:(0:Int)<=((0:Nat):Int):=by decide
 have z1:((0:Nat):Int)<=(x.length:Int):=by omega
 simp (maxSteps:=1000000) -dsimp only [go_sem,cT,x6,List.take_length,List.drop_zero,z0,z1]
 refine ⟨by omega,Z3 h ?_⟩
 simp (maxSteps:=1000000) -dsimp only [go_sem]
 refine aA rfl (.done ?_)
 rcases gE x with ⟨h0,h1,h2,_⟩ | ⟨h0,h1,h2,h3,_,_⟩
 · have hne:((vr x).2.2 != 0)=true:=by simpa using h0
   rw [h1,h2] at hK ⊢
   simp (maxSteps:=1000000) -dsimp only [go_sem,cT,qO,hne]
   exact .done hK
 · rw [h0] at hK ⊢
   simp (maxSteps:=1000000) -dsimp only [go_sem,cT,qO,bne_self_eq_false]
   refine ⟨by omega,.done ?_⟩
   rw [show ((0:Nat):Int) + ((vr x).2.1:Int)=((vr x).2.1:Int) by omega]
   exact hK
def HV:W.Spec:=fun av H K=>∃ x:List UInt8,av=[.va (.c1 (.pt 0 0))]/\H=[fG x 0 0]/\x.length<=9223372036854775807/\K (iS .u64 (vr x).1) [fG x (vr x).2.1 (vr x).2.2]
theorem DP {x:List UInt8} {K:S->Hp->Prop} (h:x.length<=9223372036854775807) (hK:K (iS .u64 (vr x).1) [fG x (vr x).2.1 (vr x).2.2]):HV [.va (.c1 (.pt 0 0))] [fG x 0 0] K:=⟨x,rfl,rfl,h,hK⟩
theorem CL:Meets Tryz.prog 134 HV:=by
 refine aD Tryz.func134 aDU 1 (by rw [Tryz.ntmps134]; decide) (aC Z6 (aB _)) (fun av H K h=>by obtain ⟨_,rfl,_⟩:=h; rfl) ?_
 rintro av H K ⟨x,rfl,rfl,h,hK⟩
 simp (maxSteps:=1000000) -dsimp only [go_sem,PB,SD]
 refine aA rfl (.done ?_)
 simp (maxSteps:=1000000) -dsimp only [go_sem,wB]
 refine VI (m:=0) h ?_
 simp (maxSteps:=1000000) -dsimp only [go_sem]
 refine aA rfl (.done ?_)
 simp (maxSteps:=1000000) -dsimp only [go_sem,wG]
 refine .sel [0] (by simp) (by simp) rfl (.done ?_)
 simp -dsimp only [go_sem,cT]
 exact hK
theorem aJG (n:Nat):IntKind.u64.wrap ((BitVec.ofInt IntKind.u64.bits (n:Int) &&& BitVec.ofInt IntKind.u64.bits 1).toNat:Int)=((n % 2:Nat):Int):=by
 have hb:IntKind.u64.bits=64:=rfl
 have e:(BitVec.ofInt 64 (n:Int) &&& BitVec.ofInt 64 1).toNat=n % 2:=by
  rw [BitVec.toNat_and,BitVec.ofInt_natCast,BitVec.toNat_ofNat,show (BitVec.ofInt 64 1).toNat=1 from rfl,Nat.and_one_is_mod]
  omega
 rw [hb,e,g7 (by omega)]
theorem oW {n:Int} (h:bV n):IntKind.i64.wrap n=n:=by
 unfold bV at h
 exact sD (aEO h.1 h.2)
theorem NW (n:Nat) (h:n < 18446744073709551616):IntKind.i64.wrap (n:Int)=if n < 9223372036854775808 then (n:Int) else (n:Int) - 18446744073709551616:=by
 simp [IntKind.wrap,IntKind.signed,IntKind.bits]
 split<;>omega
theorem XO {n:Nat} (h:n < 18446744073709551616):IntKind.i64.wrap ((BitVec.ofInt IntKind.i64.bits (IntKind.i64.wrap ((n:Int).fdiv (2 ^ min 1 64))) ^^^ BitVec.ofInt IntKind.i64.bits (IntKind.i64.wrap (0 - IntKind.i64.wrap ((n % 2:Nat):Int)))).toNat:Int)=tN n:=by
 have hb:IntKind.i64.bits=64:=rfl
 have e1:(n:Int).fdiv (2 ^ min 1 64)=((n / 2:Nat):Int):=by
  rw [show (2:Int) ^ min 1 64=2 from rfl,Int.fdiv_eq_ediv_of_nonneg _ (by decide)]; omega
 have e2:IntKind.i64.wrap ((n / 2:Nat):Int)=((n / 2:Nat):Int):=oW ⟨by omega,by omega⟩
 have e3:IntKind.i64.wrap ((n % 2:Nat):Int)=((n % 2:Nat):Int):=oW ⟨by omega,by omega⟩
 have e4:IntKind.i64.wrap (0 - ((n % 2:Nat):Int))=0 - ((n % 2:Nat):Int):=oW ⟨by omega,by omega⟩
 rw [hb,e1,e2,e3,e4]
 have e5:BitVec.ofInt 64 ((n / 2:Nat):Int)=BitVec.ofNat 64 (n / 2):=BitVec.ofInt_natCast ..
 rw [e5]
 unfold tN
 rcases Nat.mod_two_eq_zero_or_one n with h0 | h0
 · rw [h0,if_neg (by decide),show (0:Int) - ((0:Nat):Int)=0 from rfl,show BitVec.ofInt 64 0=0#64 from rfl,BitVec.xor_zero,BitVec.toNat_ofNat,Nat.mod_eq_of_lt (by omega)]
   exact e2
 · rw [h0,if_pos rfl,show (0:Int) - ((1:Nat):Int)=-1 from rfl,show BitVec.ofInt 64 (-1)=BitVec.allOnes 64 from rfl,BitVec.xor_allOnes,BitVec.toNat_not,BitVec.toNat_ofNat,Nat.mod_eq_of_lt (show n / 2 < 2 ^ 64 by omega),NW _ (by omega)]
   rw [if_neg (by omega)]
   omega
theorem V7 {n:Int} (h:bV n):IntKind.u64.wrap ((BitVec.ofInt IntKind.u64.bits (IntKind.u64.wrap (IntKind.u64.wrap n * 2 ^ min 1 64)) ^^^ BitVec.ofInt IntKind.u64.bits (IntKind.u64.wrap (n.fdiv (2 ^ min 63 64)))).toNat:Int)=(vF n:Int):=by
 unfold bV at h
 have hb:IntKind.u64.bits=64:=rfl
 have hw:∀ x:Int,IntKind.u64.wrap x=x % 18446744073709551616:=fun x=>by simp [IntKind.wrap,IntKind.signed,IntKind.bits]
 have hp:(2:Int) ^ min 63 64=9223372036854775808:=by decide
 rw [hb,hp,show (2:Int) ^ min 1 64=2 from rfl,Int.fdiv_eq_ediv_of_nonneg _ (by decide)]
 unfold vF
 by_cases h0:n < 0
 · have e1:n / 9223372036854775808=-1:=by omega
   have e2:IntKind.u64.wrap (IntKind.u64.wrap n * 2)=((n * 2 + 18446744073709551616).toNat:Int):=by rw [hw,hw]; omega
   rw [if_pos h0,e1,e2,show BitVec.ofInt 64 (IntKind.u64.wrap (-1))=BitVec.allOnes 64 from rfl,BitVec.xor_allOnes,BitVec.toNat_not,BitVec.ofInt_natCast,BitVec.toNat_ofNat,Nat.mod_eq_of_lt (show (n * 2 + 18446744073709551616).toNat < 2 ^ 64 by omega),g7 (by omega)]
   omega
 · have e1:n / 9223372036854775808=0:=by omega
   have e2:IntKind.u64.wrap (IntKind.u64.wrap n * 2)=((n * 2).toNat:Int):=by rw [hw,hw]; omega
   rw [if_neg h0,e1,e2,show BitVec.ofInt 64 (IntKind.u64.wrap 0)=0#64 from rfl,BitVec.xor_zero,BitVec.ofInt_natCast,BitVec.toNat_ofNat,Nat.mod_eq_of_lt (show (n * 2).toNat < 2 ^ 64 by omega),g7 (by omega)]
   omega
def AP:W.Spec:=fun av H K=>∃ x:List UInt8,av=[.va (.c1 (.pt 0 0))]/\H=[fG x 0 0]/\x.length<=9223372036854775807/\K (iS .i64 (tN (vr x).1)) [fG x (vr x).2.1 (vr x).2.2]
theorem U4 {x:List UInt8} {K:S->Hp->Prop} (h:x.length<=9223372036854775807) (hK:K (iS .i64 (tN (vr x).1)) [fG x (vr x).2.1 (vr x).2.2]):AP [.va (.c1 (.pt 0 0))] [fG x 0 0] K:=⟨x,rfl,rfl,h,hK⟩
theorem aEA:Meets Tryz.prog 138 AP:=by
 refine aD Tryz.func138 aEF 1 (by rw [Tryz.ntmps138]; decide) (aC CL (aB _)) (fun av H K h=>by obtain ⟨_,rfl,_⟩:=h; rfl) ?_
 rintro av H K ⟨x,rfl,rfl,h,hK⟩
 simp (maxSteps:=1000000) -dsimp only [go_sem,PP,PG]
 refine DP h ?_
 simp (maxSteps:=1000000) -dsimp only [go_sem]
 refine aA rfl (.done ?_)
 simp (maxSteps:=1000000) -dsimp only [go_sem,wS,aJG]
 have hlt:(vr x).1 < 18446744073709551616:=by
  rcases gE x with ⟨_,h,_⟩ | ⟨_,_,_,_,_,h⟩
  · rw [h]; decide
  · exact h
 rw [XO hlt]
 refine ⟨by decide,.done ?_⟩
 simp -dsimp only [go_sem,cT]
 exact hK
def AC:List S->Prop:=fun av=>match av with
 | [.va (.c1 (.vl (.int .i64 n)))]=>bV n
 | _=>False
theorem m8 {av:List S} (h:AC av):∃ n:Int,av=[iS .i64 n]/\bV n:=by
 unfold AC at h
 split at h
 · exact ⟨_,rfl,h⟩
 · exact h.elim
def N3 (f:Int->Value):Fun:=⟨AC,PM f,fun av h=>by obtain ⟨n,rfl,_⟩:=m8 h; trivial⟩
theorem OA {f:Int->Value}:∀ av H K,(N3 f).sp av H K->av.length=1:=fun av H K h=>by obtain ⟨n,rfl,_⟩:=m8 h.1.1; rfl
attribute [go_sem] N3 AC
theorem aDM:Meets Tryz.prog 84 (N3 fun n=>.string (mk (vi (vF n)))).sp:=by
 refine aD Tryz.func84 aJW 1 (by rw [Tryz.ntmps84]; decide) (aH uZ (aB _)) OA ?_
 rintro av H K ⟨⟨h,rfl⟩,hK⟩
 obtain ⟨n,rfl,hn⟩:=m8 h
 have hK:K (tS (mk (vi (vF n)))) []:=hK
 clear h
 simp (maxSteps:=1000000) -dsimp only [go_sem,XL,aAV]
 have hz:vF n < 18446744073709551616:=by
  unfold bV at hn
  unfold vF
  split<;>omega
 rw [V7 hn]
 exact ⟨by decide,by decide,by omega,.done hK⟩
def QQ:W.Spec:=fun av H K=>∃ x:List UInt8,av=[tS (mk x)]/\H=[]/\x.length<=9223372036854775807/\K (.tu [uA (aY x).1,tA (mk (aY x).2.1),iA .i64 (aY x).2.2]) []
theorem vS {x:List UInt8} {K:S->Hp->Prop} (h:x.length<=9223372036854775807) (hK:K (.tu [uA (aY x).1,tA (mk (aY x).2.1),iA .i64 (aY x).2.2]) []):QQ [tS (mk x)] [] K:=⟨x,rfl,rfl,h,hK⟩
theorem sA:Meets Tryz.prog 94 QQ:=by
 refine aD Tryz.func94 aIB 1 (by rw [Tryz.ntmps94]; decide) (aC vB (aC CL (aC aBE (aC OQ (aB _))))) (fun av H K h=>by obtain ⟨_,rfl,_⟩:=h; rfl) ?_
 rintro av H K ⟨x,rfl,rfl,hx,hK⟩
 have fin:∀ (n:Nat) (r:List UInt8) (e:Int) (R:Hp),aY x=(n,r,e)->W.Fin 0 K (.tu [uA n,tA (mk r),iA .i64 e]) R:=fun n r e R h=>by
  rw [h] at hK; exact .sel [] (by simp) (by simp) rfl (.done (by simpa [go_sem] using hK))
 clear hK
 unfold aY at fin
 simp (maxSteps:=1000000) -dsimp only [go_sem,aBH,WV]
 refine K9 ?_
 simp (maxSteps:=1000000) -dsimp only [go_sem,cT]
 refine aA rfl (.done ?_)
 simp (maxSteps:=1000000) -dsimp only [go_sem,CJ]
 refine DP hx ?_
 simp (maxSteps:=1000000) -dsimp only [go_sem,cT]
 refine aA rfl (.done ?_)
 simp (maxSteps:=1000000) -dsimp only [go_sem,BW]
 refine wO ?_
 simp (maxSteps:=1000000) -dsimp only [go_sem,cT]
 refine aA rfl (.done ?_)
 have hlt:=gE x
 cases c1:(vr x).2.2 != 0 with
 | true=>
  rw [c1,cond_true] at fin
  simp (maxSteps:=1000000) -dsimp only [go_sem,vN,c1]
  exact fin _ _ _ _ rfl
 | false=>
  rw [c1,cond_false] at fin
  simp (maxSteps:=1000000) -dsimp only [go_sem,vN,c1]
  obtain ⟨h0,h1,h2,h3,_⟩:(vr x).2.2=0/\(vr x).2.1=(vi (vr x).1).length/\0 < (vr x).2.1/\(vr x).2.1<=x.length/\True:=by
   rcases hlt with ⟨h,_⟩ | ⟨a,b,c,d,_⟩
   · exact absurd (gS c1) h
   · exact ⟨a,b,c,d,trivial⟩
  have e1:((x.length:Int) - ((x.length:Int) - ((vr x).2.1:Int)))=((vr x).2.1:Int):=by omega
  refine aA rfl (.done ?_)
  simp (maxSteps:=1000000) -dsimp only [go_sem,C2]
  refine GS h3 hx ?_
  simp (maxSteps:=1000000) -dsimp only [go_sem,cT,e1,List.take_length]
  refine ⟨by omega,by omega,by omega,by omega,?_⟩
  exact fin _ _ _ _ rfl
def QY:W.Spec:=fun av H K=>∃ x:List UInt8,av=[tS (mk x)]/\H=[]/\x.length<=9223372036854775807/\K (.tu [tA (mk (bK x).1),tA (mk (bK x).2.1),iA .i64 (bK x).2.2]) []
theorem FT {x:List UInt8} {K:S->Hp->Prop} (h:x.length<=9223372036854775807) (hK:K (.tu [tA (mk (bK x).1),tA (mk (bK x).2.1),iA .i64 (bK x).2.2]) []):QY [tS (mk x)] [] K:=⟨x,rfl,rfl,h,hK⟩
theorem JB:Meets Tryz.prog 95 QY:=by
 refine aD Tryz.func95 aH3 1 (by rw [Tryz.ntmps95]; decide) (aC sA (aB _)) (fun av H K h=>by obtain ⟨_,rfl,_⟩:=h; rfl) ?_
 rintro av H K ⟨x,rfl,rfl,hx,hK⟩
 have fin:∀ (n r:List UInt8) (e:Int) (R:Hp),bK x=(n,r,e)->W.Fin 0 K (.tu [tA (mk n),tA (mk r),iA .i64 e]) R:=fun n r e R h=>by
  rw [h] at hK; exact .sel [] (by simp) (by simp) rfl (.done (by simpa [go_sem] using hK))
 clear hK
 unfold bK at fin
 have hl:=(oY x).1
 simp (maxSteps:=1000000) -dsimp only [go_sem,V1,aAE]
 refine vS hx ?_
 simp (maxSteps:=1000000) -dsimp only [go_sem]
 refine aA rfl (.done ?_)
 generalize aY x=z at *
 obtain ⟨n,r,e⟩:=z
 simp only at fin hl ⊢
 cases c1:e != 0 with
 | true=>
  rw [c1,cond_true] at fin
  simp (maxSteps:=1000000) -dsimp only [go_sem,oP,c1]
  exact fin _ _ _ _ rfl
 | false=>
 rw [c1,cond_false] at fin
 have hu:IntKind.u64.wrap (r.length:Int)=(r.length:Int):=g7 (by omega)
 have hd:decide ((r.length:Int) < (n:Int))=decide (r.length < n):=by rw [Bool.eq_iff_iff]; simp
 cases c2:decide (r.length < n) with
 | true=>
  rw [c2,cond_true] at fin
  simp (maxSteps:=1000000) -dsimp only [go_sem,oP,c1,hu,hd,c2]
  exact fin _ _ _ _ rfl
 | false=>
  rw [c2,cond_false] at fin
  have c2':=of_decide_eq_false c2
  simp (maxSteps:=1000000) -dsimp only [go_sem,oP,c1,hu,hd,c2,List.drop_zero,List.take_length]
  refine ⟨by omega,by omega,?_⟩
  exact fin _ _ _ _ rfl
def d9 (x:Int × List UInt8):List C:=[.vl (.int .i64 x.1),.vl (.string (mk x.2))]
def AM:W.Spec:=fun av H K=>∃ (x:List UInt8) (last:Int),av=[tS (mk x),iS .i64 last]/\H=[]/\x.length<=9223372036854775807/\K (.tu [.gs (d9 (aS x last).1),tA (mk (aS x last).2.1),iA .i64 (aS x last).2.2]) []
theorem GU {x:List UInt8} {last:Int} {K:S->Hp->Prop} (h:x.length<=9223372036854775807) (hK:K (.tu [.gs [.vl (.int .i64 (aS x last).1.1),.vl (.string (mk (aS x last).1.2))],tA (mk (aS x last).2.1),iA .i64 (aS x last).2.2]) []):AM [tS (mk x),iS .i64 last] [] K:=⟨x,last,rfl,rfl,h,hK⟩
theorem FR:Meets Tryz.prog 53 AM:=by
 refine aD Tryz.func53 aIT 2 (by rw [Tryz.ntmps53]; decide) (aC sA (aC JB (aB _))) (fun av H K h=>by obtain ⟨_,_,rfl,_⟩:=h; rfl) ?_
 rintro av H K ⟨x,last,rfl,rfl,hx,hK⟩
 have fin:∀ (a:Int) (c r:List UInt8) (e:Int) (R:Hp),aS x last=((a,c),r,e)->W.Fin 0 K (.tu [.gs [.vl (.int .i64 a),.vl (.string (mk c))],tA (mk r),iA .i64 e]) R:=fun a c r e R h=>by
  rw [h] at hK; exact .sel [] (by simp) (by simp) rfl (.done (by simpa [go_sem,d9] using hK))
 clear hK
 unfold aS at fin
 have hl:=(oY x).1
 simp (maxSteps:=1000000) -dsimp only [go_sem,aAI,aAN]
 refine vS hx ?_
 generalize aY x=z at *
 obtain ⟨n,r,e⟩:=z
 simp only at fin hl ⊢
 have hd:decide ((2147483647:Int) < (n:Int))=decide (2147483647 < n):=by rw [Bool.eq_iff_iff]; simp; omega
 cases c1:e != 0 with
 | true=>
  rw [c1,cond_true] at fin
  simp (maxSteps:=1000000) -dsimp only [go_sem,c1]
  exact fin _ _ _ _ _ rfl
 | false=>
 rw [c1,cond_false] at fin
 cases c2:decide (2147483647 < n) with
 | true=>
  rw [c2,cond_true] at fin
  simp (maxSteps:=1000000) -dsimp only [go_sem,c1,hd,c2]
  exact fin _ _ _ _ _ rfl
 | false=>
 rw [c2,cond_false] at fin
 have c2':=of_decide_eq_false c2
 have hw:IntKind.i64.wrap (n:Int)=(n:Int):=oW ⟨by omega,by omega⟩
 cases c3:decide ((n:Int)<=last) with
 | true=>
  rw [c3,cond_true] at fin
  simp (maxSteps:=1000000) -dsimp only [go_sem,c1,hd,c2,hw,c3]
  exact fin _ _ _ _ _ rfl
 | false=>
  rw [c3,cond_false] at fin
  simp (maxSteps:=1000000) -dsimp only [go_sem,c1,hd,c2,hw,c3]
  refine FT (by omega) ?_
  simp (maxSteps:=1000000) -dsimp only [go_sem]
  refine aA rfl (.done ?_)
  simp (maxSteps:=1000000) -dsimp only [go_sem,B7,hw]
  exact fin _ _ _ _ _ rfl
def rB (b:List UInt8):Vl × Int:=bif b == [] then (v0,1) else bif decide (1 < (b.headD 0).toNat) || decide (1 < b.length) then (v0,2) else (.mk 1 (b.headD 0).toNat (mk []) [] [],0)
def hS (k:Int) (n:Nat):Int:=bif k == 2 then tN n else n
def rN (s:Sc) (t:Ty) (b:List UInt8):Vl × Int:=bif (vr b).2.2 != 0 then (v0,(vr b).2.2) else bif decide ((vr b).2.1 < b.length) then (v0,2) else bif !(f6 s t (hS t.k (vr b).1)) then (v0,4) else (.mk t.k (hS t.k (vr b).1) (mk []) [] [],0)
def QK (t:Ty) (b:List UInt8):Vl × Int:=bif decide (t.s < (b.length:Int)) then (v0,3) else (.mk 4 0 (mk b) [] [],0)
def dT (R:List UInt8->Vl × Int):Nat->List UInt8->(List Vl × List UInt8) × Int
 | 0,b=>(([],b),0)
 | n + 1,b=>bif (bK b).2.2 != 0 then (([],[]),(bK b).2.2) else bif (R (bK b).1).2 != 0 then (([],[]),(R (bK b).1).2) else bif (dT R n (bK b).2.1).2 != 0 then (([],[]),(dT R n (bK b).2.1).2) else (((R (bK b).1).1 :: (dT R n (bK b).2.1).1.1,(dT R n (bK b).2.1).1.2),0)
theorem sZ (R:List UInt8->Vl × Int) (n:Nat) (b:List UInt8):dT R (n + 1) b=bif (bK b).2.2 != 0 then (([],[]),(bK b).2.2) else bif (R (bK b).1).2 != 0 then (([],[]),(R (bK b).1).2) else bif (dT R n (bK b).2.1).2 != 0 then (([],[]),(dT R n (bK b).2.1).2) else (((R (bK b).1).1 :: (dT R n (bK b).2.1).1.1,(dT R n (bK b).2.1).1.2),0):=rfl
def jK (R:List UInt8->Vl × Int) (sz:Int) (b:List UInt8):Vl × Int:=
 bif (aY b).2.2 != 0 then (v0,(aY b).2.2) else bif decide (sz < ((aY b).1:Int)) then (v0,3) else bif (dT R (aY b).1 (aY b).2.1).2 != 0 then (v0,(dT R (aY b).1 (aY b).2.1).2)
 else bif !((dT R (aY b).1 (aY b).2.1).1.2 == []) then (v0,2) else (.mk 5 0 (mk []) (dT R (aY b).1 (aY b).2.1).1.1 [],0)
def BU (R:Ty->List UInt8->Vl × Int) (s:Sc) (f:Fl) (b:List UInt8):Int:=
 bif (R f.ty b).2 != 0 then (R f.ty b).2 else bif !f.opt && (dL (R f.ty b).1 (zF s 23 f.ty) && (f.ty.k != 6 || b == [])) then 2 else 0
def eX (R:Ty->List UInt8->Vl × Int) (s:Sc) (fs:List Fl):Nat->Int->List UInt8->List (Int × Vl) × Int
 | 0,_,_=>([],0)
 | g + 1,last,b=>bif b == [] then ([],0) else bif (aS b last).2.2 != 0 then ([],(aS b last).2.2)
  else bif !(fF fs (aS b last).1.1).isSome then eX R s fs g (aS b last).1.1 (aS b last).2.1
  else bif BU R s ((fF fs (aS b last).1.1).getD default) (aS b last).1.2 != 0 then ([],BU R s ((fF fs (aS b last).1.1).getD default) (aS b last).1.2)
  else bif (eX R s fs g (aS b last).1.1 (aS b last).2.1).2 != 0 then ([],(eX R s fs g (aS b last).1.1 (aS b last).2.1).2)
  else (((aS b last).1.1,(R ((fF fs (aS b last).1.1).getD default).ty (aS b last).1.2).1) :: (eX R s fs g (aS b last).1.1 (aS b last).2.1).1,0)
def GM (s:Sc) (L:List (Int × Vl)) (f:Fl):List (Int × Vl):=bif (eC L f.num).isSome then [(f.num,((eC L f.num).map (·.2)).getD default)] else bif f.opt then [] else [(f.num,zF s 23 f.ty)]
def kY (s:Sc) (fs:List Fl) (L:List (Int × Vl)):List (Int × Vl):=fs.flatMap (GM s L)
def lA (R:Ty->List UInt8->Vl × Int) (s:Sc) (fs:List Fl) (b:List UInt8):Vl × Int:=
 bif (eX R s fs b.length 0 b).2 != 0 then (v0,(eX R s fs b.length 0 b).2) else (.mk 6 0 (mk []) [] (kY s fs (eX R s fs b.length 0 b).1),0)
def bY (s:Sc):Nat->Ty->List UInt8->Vl × Int
 | 0,_,_=>(v0,0)
 | N + 1,t,b=>bif t.k == 1 then rB b else bif t.k == 2 || (t.k == 3 || t.k == 7) then rN s t b else bif t.k == 4 then QK t b else bif t.k == 5 then jK (bY s N (t.e.headD default)) t.s b else lA (bY s N) s (stOf s t).fs b
theorem CU (s:Sc) (N:Nat) (t:Ty) (b:List UInt8):bY s (N + 1) t b=bif t.k == 1 then rB b else bif t.k == 2 || (t.k == 3 || t.k == 7) then rN s t b else bif t.k == 4 then QK t b else bif t.k == 5 then jK (bY s N (t.e.headD default)) t.s b else lA (bY s N) s (stOf s t).fs b:=rfl
def mN (s:Sc) (nm:ByteArray) (b:List UInt8):Vl × Int:=
 bif bP s != 0 then (v0,bP s) else bif !(cK s.ss nm) then (v0,6) else bif decide (2000 < (b.length:Int)) then (v0,3) else lA (bY s 8) s (stOf s (.mk 6 0 nm [])).fs b
def hJ {α:Type} (acc:List α) (q:List α × Int):List α × Int:=bif q.2 != 0 then ([],q.2) else (acc ++ q.1,0)
theorem wI {α:Type} {q:List α × Int} (h:q.2 ≠ 0->q.1=[]):hJ [] q=q:=by
 unfold hJ
 cases hq:q.2 != 0 with
 | true=>rw [cond_true]; obtain ⟨a,b⟩:=q; have:=h (uT hq); simp only at this; rw [this]
 | false=>rw [cond_false]; obtain ⟨a,b⟩:=q; have:=gS hq; simp only at this; rw [this]; rfl
theorem D1 {α:Type} (a b:List α) (q:List α × Int):hJ a (hJ b q)=hJ (a ++ b) q:=by
 unfold hJ
 cases hq:q.2 != 0 with
 | true=>simp only [cond_true,hq]
 | false=>simp only [cond_false]; rw [show ((0:Int) != 0)=false from rfl,cond_false,List.append_assoc]
theorem lW {α:Type} (a:List α) {e:Int} (h:(e != 0)=true):hJ a ([],e)=([],e):=by unfold hJ; rw [h]; rfl
theorem CC {α:Type} (a b:List α):hJ a (b,0)=(a ++ b,0):=rfl
theorem FI {R:Ty->List UInt8->Vl × Int} {s:Sc} {fs:List Fl} (g:Nat) (last:Int):eX R s fs g last []=([],0):=by cases g<;>rfl
theorem rY {R:Ty->List UInt8->Vl × Int} {s:Sc} {fs:List Fl} {g:Nat} {last:Int} {b:List UInt8} (h:b ≠ []):eX R s fs (g + 1) last b=bif (aS b last).2.2 != 0 then ([],(aS b last).2.2)
 else bif !(fF fs (aS b last).1.1).isSome then eX R s fs g (aS b last).1.1 (aS b last).2.1
 else bif BU R s ((fF fs (aS b last).1.1).getD default) (aS b last).1.2 != 0 then ([],BU R s ((fF fs (aS b last).1.1).getD default) (aS b last).1.2)
 else hJ [((aS b last).1.1,(R ((fF fs (aS b last).1.1).getD default).ty (aS b last).1.2).1)] (eX R s fs g (aS b last).1.1 (aS b last).2.1):=by
 have hb:(b == [])=false:=by simpa using h
 rw [eX,hb,cond_false]; rfl
theorem R4 {R:Ty->List UInt8->Vl × Int} {s:Sc} {fs:List Fl}:∀ (g:Nat) (last:Int) (b:List UInt8),(eX R s fs g last b).2 ≠ 0->(eX R s fs g last b).1=[]
 | 0,_,_,h=>absurd rfl h
 | g + 1,last,b,h=>by
  by_cases hb:b=[]
  · subst hb; rfl
  · rw [rY hb] at h ⊢
    cases c1:(aS b last).2.2 != 0 with
    | true=>rfl
    | false=>
    rw [c1,cond_false] at h
    rw [cond_false]
    cases c2:!(fF fs (aS b last).1.1).isSome with
    | true=>rw [c2,cond_true] at h; rw [cond_true]; exact R4 g _ _ h
    | false=>
    rw [c2,cond_false] at h
    rw [cond_false]
    cases c3:BU R s ((fF fs (aS b last).1.1).getD default) (aS b last).1.2 != 0 with
    | true=>rfl
    | false=>
    rw [c3,cond_false] at h
    rw [cond_false]
    unfold hJ at h ⊢
    cases c4:(eX R s fs g (aS b last).1.1 (aS b last).2.1).2 != 0 with
    | true=>rfl
    | false=>rw [c4] at h; exact absurd rfl h
theorem D6 (g:Nat) (last:Int):bQ g last []=([],0):=by cases g<;>rfl
theorem kT {g:Nat} {last:Int} {b:List UInt8} (h:b ≠ []):bQ (g + 1) last b=bif (aS b last).2.2 != 0 then ([],(aS b last).2.2) else hJ [(aS b last).1] (bQ g (aS b last).1.1 (aS b last).2.1):=by
 have hb:(b == [])=false:=by simpa using h
 rw [yU,hb,cond_false]; rfl
theorem nO:∀ (g:Nat) (last:Int) (b:List UInt8),(bQ g last b).1.length<=b.length
 | 0,_,_=>Nat.zero_le _
 | g + 1,last,b=>by
  by_cases hb:b=[]
  · subst hb; exact Nat.le_refl _
  · rw [kT hb]
    have hl:=n7 b last
    cases c1:(aS b last).2.2 != 0 with
    | true=>exact Nat.zero_le _
    | false=>
     rw [cond_false]
     have ih:=nO g (aS b last).1.1 (aS b last).2.1
     have hlt:=hl.2.2 (gS c1)
     unfold hJ
     cases (bQ g (aS b last).1.1 (aS b last).2.1).2 != 0 with
     | true=>exact Nat.zero_le _
     | false=>rw [cond_false,List.length_append,List.length_singleton]; omega
theorem u6:∀ (g:Nat) (last:Int) (b:List UInt8),(bQ g last b).2 ≠ 0->(bQ g last b).1=[]
 | 0,_,_,h=>absurd rfl h
 | g + 1,last,b,h=>by
  by_cases hb:b=[]
  · subst hb; rfl
  · rw [kT hb] at h ⊢
    cases c1:(aS b last).2.2 != 0 with
    | true=>rfl
    | false=>
    rw [c1,cond_false] at h
    rw [cond_false]
    unfold hJ at h ⊢
    cases c4:(bQ g (aS b last).1.1 (aS b last).2.1).2 != 0 with
    | true=>rfl
    | false=>rw [c4] at h; exact absurd rfl h
def S3:W.Spec:=fun av H K=>∃ x:List UInt8,av=[tS (mk x)]/\H=[]/\x.length<=1000000000/\K (.tu [.c1 (.fz ((bQ x.length 0 x).1.map d9)),iA .i64 (bQ x.length 0 x).2]) []
theorem F5 {x:List UInt8} {K:S->Hp->Prop} (h:x.length<=1000000000) (hK:K (.tu [.c1 (.fz ((bQ x.length 0 x).1.map d9)),iA .i64 (bQ x.length 0 x).2]) []):S3 [tS (mk x)] [] K:=⟨x,rfl,rfl,h,hK⟩
theorem BQ:Meets Tryz.prog 38 S3:=by
 refine aD Tryz.func38 aIN 1 (by rw [Tryz.ntmps38]; decide) (aC FR (aB _)) (fun av H K h=>by obtain ⟨_,rfl,_⟩:=h; rfl) ?_
 rintro av H K ⟨x,rfl,rfl,hx,hK⟩
 have key:∀ (L:List (Int × List UInt8)) (e:Int),bQ x.length 0 x=(L,e)->K (.tu [.c1 (.fz (L.map d9)),iA .i64 e]) []:=fun L e h=>by rw [h] at hK; exact hK
 clear hK
 simp (maxSteps:=1000000) -dsimp only [go_sem,WI,WB]
 refine cH (α:=Nat × Int × List UInt8 × List (Int × List UInt8)) (fun z=>[(0,tS (mk z.2.2.1)),(4,.va (.c1 (.sl 0 z.2.2.2.length))),(5,iS .i64 z.2.1)]) (fun z=>[.row (z.2.2.2.map d9) 89 2])
  (fun z=>z.2.2.1.length<=z.1/\z.2.2.1.length + z.2.2.2.length<=x.length/\hJ z.2.2.2 (bQ z.1 z.2.1 z.2.2.1)=bQ x.length 0 x) (fun z=>z.1) (.nil 4 89 2 rfl (iU (x.length,0,x,[]) 1 ⟨Nat.le_refl _,Nat.le_refl _,wI (u6 _ _ _)⟩ ?_ ?_)) ?_
 · simp -dsimp only [go_sem]<;>simp
 · simp -dsimp only [go_sem]<;>simp
 rintro ⟨g,last,b,acc⟩ ⟨hg,hl,ho⟩
 simp only at hg hl ho ⊢
 by_cases hb:b=[]
 · subst hb
   have e0:(([]:List UInt8) == [])=true:=rfl
   rw [D6,CC,List.append_nil] at ho
   simp (maxSteps:=1000000) -dsimp only [go_sem,e0,Bool.not_true]
   refine aA rfl (.done ?_)
   simp (maxSteps:=1000000) -dsimp only [go_sem,DJ]
   refine .pub 0 _ _ _ rfl (.sel [] (by simp) (by simp [cA]) rfl (.done ?_))
   simp -dsimp only [go_sem,cA]
   simpa using key _ _ ho.symm
 · have e0:(b == [])=false:=by simpa using hb
   obtain ⟨g,rfl⟩:∃ k,g=k + 1:=⟨g - 1,by have:=List.length_pos_iff.2 hb; omega⟩
   rw [kT hb] at ho
   have hfl:=n7 b last
   simp (maxSteps:=1000000) -dsimp only [go_sem,e0,Bool.not_false]
   refine GU (by omega) ?_
   generalize aS b last=z at *
   obtain ⟨⟨a,c⟩,r,e⟩:=z
   simp only at ho hfl ⊢
   simp (maxSteps:=1000000) -dsimp only [go_sem]
   refine aA rfl (.done ?_)
   cases c1:e != 0 with
   | true=>
    rw [c1,cond_true,lW acc c1] at ho
    simp (maxSteps:=1000000) -dsimp only [go_sem,tK,c1]
    refine .sel [] (by simp) (by simp) rfl (.done ?_)
    simp -dsimp only [go_sem]
    exact key _ _ ho.symm
   | false=>
    rw [c1,cond_false,D1] at ho
    have hlt:=hfl.2.2 (gS c1)
    simp (maxSteps:=1000000) -dsimp only [go_sem,tK,c1]
    refine ⟨by omega,aE (g,a,r,acc ++ [(a,c)]) 1 ⟨by simp only; omega,by simp only [List.length_append,List.length_singleton]; omega,ho⟩ (by simp only; omega) ?_ ?_⟩
    · simp -dsimp only [go_sem]<;>simp
    · simp -dsimp only [go_sem]<;>simp [d9]
def XC:W.Spec:=fun av H K=>∃ x:List UInt8,av=[tS (mk x)]/\H=[]/\x.length<=9223372036854775807/\
 (2000 < x.length->K (.tu [.c1 (.fz []),iA .i64 3]) [])/\(x.length<=2000->K (.tu [.c1 (.fz ((bQ x.length 0 x).1.map fun y=>dF y.1)),iA .i64 (bQ x.length 0 x).2]) [])
theorem OD:Meets Tryz.prog 22 XC:=by
 refine aD Tryz.func22 aHT 1 (by rw [Tryz.ntmps22]; decide) (aC BQ (aB _)) (fun av H K h=>by obtain ⟨_,rfl,_⟩:=h; rfl) ?_
 rintro av H K ⟨x,rfl,rfl,hx,hK1,hK2⟩
 rcases a8 2000 x.length with hlt | hge
 · have g0:decide ((2000:Int) < (x.length:Int))=true:=by simp; omega
   simp (maxSteps:=1000000) -dsimp only [go_sem,NU,MB,g0]
   exact .done (hK1 hlt)
 · have g0:decide ((2000:Int) < (x.length:Int))=false:=by simp; omega
   have hK:=hK2 hge
   clear hK1 hK2
   simp (maxSteps:=1000000) -dsimp only [go_sem,NU,MB,g0]
   refine F5 (by omega) ?_
   have hen:=u6 x.length 0 x
   have hln:(bQ x.length 0 x).1.length<=x.length:=nO _ _ _
   generalize bQ x.length 0 x=z at *
   obtain ⟨L,e⟩:=z
   simp only at hK hen hln ⊢
   simp (maxSteps:=1000000) -dsimp only [go_sem]
   refine aA rfl (.done ?_)
   cases c1:e != 0 with
   | true=>
    rw [hen (uT c1)] at hK
    simp (maxSteps:=1000000) -dsimp only [go_sem,uB,c1]
    exact .done hK
   | false=>
    have he:=gS c1
    subst he
    simp (maxSteps:=1000000) -dsimp only [go_sem,uB,bne_self_eq_false]
    refine cH (α:=Nat) (fun i=>[(6,.va (.c1 (.sl 0 i))),(20,.va (.c1 (.fz (L.map d9)))),(21,iS .i64 L.length),(22,iS .i64 i)]) (fun i=>[.row ((L.take i).map fun y=>dF y.1) 3 1])
     (fun i=>i<=L.length) (fun i=>L.length - i) (.nil 6 3 1 rfl (iU 0 1 (Nat.zero_le _) ?_ ?_)) ?_
    · simp -dsimp only [go_sem]<;>simp
    · simp -dsimp only [go_sem]<;>simp
    intro i hi
    have hz:(L.take i).length=i:=by rw [List.length_take]; omega
    rcases a8 i L.length with hlt | hge2
    · have hg:decide ((i:Int) < (L.length:Int))=true:=by simp; omega
      have hy:L[i]? = some L[i]:=aV hlt
      have q2:=aZ (row:=d9) hy
      have htk:=dV hy
      generalize L[i]=y at *
      simp (maxSteps:=1000000) -dsimp only [go_sem,hg,↓q2,d9]
      refine ⟨by omega,hz,by omega,by omega,aE (i + 1) 1 (by omega) (by omega) ?_ ?_⟩
      · simp -dsimp only [go_sem]<;>simp
      · simp -dsimp only [go_sem,htk]<;>simp
    · have hg:decide ((i:Int) < (L.length:Int))=false:=by simp; omega
      obtain rfl:i=L.length:=by omega
      rw [List.take_length] at *
      simp (maxSteps:=1000000) -dsimp only [go_sem,hg]
      refine .pub 0 _ _ _ rfl (.sel [] (by simp) (by simp [cA]) rfl (.done ?_))
      simp -dsimp only [go_sem,cA]
      simpa using hK
def eT (L:List (Int × List UInt8)) (k:Int):Option (Int × List UInt8):=L.find? fun y=>decide (y.1=k)
def aB5:W.Spec:=fun av H K=>∃ (x:List UInt8) (k:Int),av=[tS (mk x),iS .i64 k]/\H=[]/\x.length<=9223372036854775807/\
 (2000 < x.length->K (.tu [tA (mk []),bA false]) [])/\(x.length<=2000->K (.tu [tA (mk (((eT (bQ x.length 0 x).1 k).map (·.2)).getD [])),bA (eT (bQ x.length 0 x).1 k).isSome]) [])
theorem aEZ:Meets Tryz.prog 21 aB5:=by
 refine aD Tryz.func21 aJB 2 (by rw [Tryz.ntmps21]; decide) (aC BQ (aB _)) (fun av H K h=>by obtain ⟨_,_,rfl,_⟩:=h; rfl) ?_
 rintro av H K ⟨x,k,rfl,rfl,hx,hK1,hK2⟩
 rcases a8 2000 x.length with hlt | hge
 · have g0:decide ((2000:Int) < (x.length:Int))=true:=by simp; omega
   simp (maxSteps:=1000000) -dsimp only [go_sem,NI,MG,g0]
   exact .done (hK1 hlt)
 · have g0:decide ((2000:Int) < (x.length:Int))=false:=by simp; omega
   have hK:=hK2 hge
   clear hK1 hK2
   simp (maxSteps:=1000000) -dsimp only [go_sem,NI,MG,g0]
   refine F5 (by omega) ?_
   have hen:=u6 x.length 0 x
   have hln:(bQ x.length 0 x).1.length<=x.length:=nO _ _ _
   generalize bQ x.length 0 x=z at *
   obtain ⟨L,e⟩:=z
   simp only at hK hen hln ⊢
   simp (maxSteps:=1000000) -dsimp only [go_sem]
   refine aA rfl (.done ?_)
   cases c1:e != 0 with
   | true=>
    rw [hen (uT c1)] at hK
    simp (maxSteps:=1000000) -dsimp only [go_sem,tG,c1]
    exact .done hK
   | false=>
    simp (maxSteps:=1000000) -dsimp only [go_sem,tG,c1]
    refine aU (α:=Nat) (fun i=>[(1,iS .i64 k),(20,.va (.c1 (.fz (L.map d9)))),(21,iS .i64 L.length),(22,iS .i64 i)]) (fun _=>[])
     (fun i=>i<=L.length/\eT (L.drop i) k=eT L k) (fun i=>L.length - i) 0 0 ⟨Nat.zero_le _,rfl⟩ ?_ ?_ ?_
    · simp -dsimp only [go_sem]<;>simp
    · simp -dsimp only [go_sem]<;>simp
    rintro i ⟨hi,ho⟩
    rcases a8 i L.length with hlt | hge2
    · have hg:decide ((i:Int) < (L.length:Int))=true:=by simp; omega
      have hy:L[i]? = some L[i]:=aV hlt
      have q2:=aZ (row:=d9) hy
      rw [List.drop_eq_getElem_cons hlt] at ho
      unfold eT at ho
      rw [List.find?_cons] at ho
      generalize L[i]=y at *
      have hq:(y.1 == k)=decide (y.1=k):=rfl
      cases hc:decide (y.1=k) with
      | true=>
       rw [hc] at ho
       have ho':eT L k=some y:=ho.symm
       rw [ho'] at hK
       simp (maxSteps:=1000000) -dsimp only [go_sem,hg,↓q2,d9,hq,hc]
       exact ⟨by omega,.sel [] (by simp) (by simp) rfl (.done (by simpa [go_sem] using hK))⟩
      | false=>
       rw [hc] at ho
       simp (maxSteps:=1000000) -dsimp only [go_sem,hg,↓q2,d9,hq,hc]
       refine ⟨by omega,by omega,aE (i + 1) 0 ⟨by omega,ho⟩ (by omega) ?_ ?_⟩
       · simp -dsimp only [go_sem]<;>simp
       · simp -dsimp only [go_sem]<;>simp
    · have hg:decide ((i:Int) < (L.length:Int))=false:=by simp; omega
      have hd:L.drop i=[]:=List.drop_eq_nil_iff.2 hge2
      rw [hd] at ho
      have ho':eT L k=none:=ho.symm
      rw [ho'] at hK
      simp (maxSteps:=1000000) -dsimp only [go_sem,hg]
      exact .done hK
def aJC:Ty:=.mk 2 8 (mk []) []
def xTx:Ty:=.mk 4 5 (mk []) []
def xMo:Ty:=.mk 7 0 (mk [77,111,100,101]) []
def xBo:Ty:=.mk 1 0 (mk []) []
def xLi:Ty:=.mk 5 2 (mk []) [xBo]
def xF1:Fl:=⟨1,mk [120],aJC,false⟩
def xF2:Fl:=⟨2,mk [110,97,109,101],xTx,true⟩
def xF4:Fl:=⟨4,mk [109,111,100,101],xMo,false⟩
def xF5:Fl:=⟨5,mk [108],xLi,false⟩
def xSt:St:=⟨mk [80,111,115,101],[xF1,xF2,xF4,xF5]⟩
def xEn:En:=⟨mk [77,111,100,101],[mk [105,100,108,101],mk [114,117,110]],[0,3]⟩
def xS:Sc:=⟨1,[xEn],[xSt]⟩
def xT:Ty:=.mk 6 0 (mk [80,111,115,101]) []
def x1:List UInt8:=[123,120,32,61,32,45,53,44,32,109,111,100,101,32,61,32,114,117,110,44,32,108,32,61,32,91,116,114,117,101,44,32,102,97,108,115,101,93,125]
def x2:List UInt8:=[123,120,32,61,32,50,48,48,44,32,109,111,100,101,32,61,32,114,117,110,44,32,108,32,61,32,91,93,125]
def x3:List UInt8:=[123,109,111,100,101,32,61,32,114,117,110,44,32,120,32,61,32,49,125]
def x4:List UInt8:=[123,120,32,61,32,49,44,32,109,111,100,101,32,61,32,115,116,111,112,44,32,108,32,61,32,91,93,125]
def PR (k n:Int):Vl:=.mk k n (mk []) [] []
def xL:Vl:=.mk 5 0 (mk []) [PR 1 1,PR 1 0] []
def xV:Vl:=.mk 6 0 (mk []) [] [(1,PR 2 (-5)),(4,PR 7 3),(5,xL)]
theorem e1:HQ (pP 10) xS xT x1=(xV,0,0):=by kernel_rfl
theorem e2:HQ (pP 10) xS xT x2=(v0,4,0):=by kernel_rfl
theorem e3:HQ (pP 10) xS xT x3=(v0,2,13):=by kernel_rfl
theorem e4:HQ (pP 10) xS xT x4=(v0,2,15):=by kernel_rfl
theorem e0:lB xS xT xV=0:=by kernel_rfl
theorem e5:aJ9 (fP 10) xS xT xV=x1:=by kernel_rfl
theorem ty0 (k s:Int) (n:ByteArray) (h1:bV k) (h2:bV s) (h3:n.size<=9223372036854775807):TyOk (.mk k s n []):=.mk h1 h2 h3 (Nat.zero_le _) (fun t h=>by cases h)
theorem gI:VlOk v0:=CR ⟨by decide,by decide⟩ ⟨by decide,by decide⟩ (by decide)
theorem GF {P:Vl->Prop} {R:List UInt8->Vl × Int}:∀ (n:Nat) (b:List UInt8),(∀ c,c.length<=b.length->P (R c).1)->(∀ x ∈ (dT R n b).1.1,P x)/\(dT R n b).1.1.length<=n/\(dT R n b).1.2.length<=b.length
 | 0,b,_=>⟨fun x h=>(by cases h),Nat.le_refl _,Nat.le_refl _⟩
 | n + 1,b,h=>by
  have hl:=CM b
  obtain ⟨i1,i2,i3⟩:=GF n (bK b).2.1 fun c hc=>h c (Nat.le_trans hc hl.2.1)
  have nil:(∀ x ∈ ([]:List Vl),P x)/\([]:List Vl).length<=n + 1/\([]:List UInt8).length<=b.length:=⟨fun x h=>(by cases h),Nat.zero_le _,Nat.zero_le _⟩
  rw [sZ]
  cases (bK b).2.2 != 0 with
  | true=>exact nil
  | false=>
  rw [cond_false]
  cases (R (bK b).1).2 != 0 with
  | true=>exact nil
  | false=>
  rw [cond_false]
  cases (dT R n (bK b).2.1).2 != 0 with
  | true=>exact nil
  | false=>
   rw [cond_false]
   refine ⟨fun x hx=>?_,by rw [List.length_cons]; omega,Nat.le_trans i3 hl.2.1⟩
   rcases List.mem_cons.1 hx with rfl | hx
   · exact h _ hl.1
   · exact i1 x hx
theorem F3 {P:Int->Vl->Prop} {R:Ty->List UInt8->Vl × Int} {s:Sc} {fs:List Fl}:∀ (g:Nat) (last:Int) (b:List UInt8),(∀ f ∈ fs,∀ c,c.length<=b.length->P f.num (R f.ty c).1)->(∀ x ∈ (eX R s fs g last b).1,P x.1 x.2)
 | 0,_,b,_,x,h=>(by cases h)
 | g + 1,last,b,h,x,hx=>by
  by_cases hb:b=[]
  · subst hb; rw [FI] at hx; cases hx
  · rw [rY hb] at hx
    have hl:=n7 b last
    have ih:=F3 (P:=P) (R:=R) (s:=s) (fs:=fs) g (aS b last).1.1 (aS b last).2.1 fun f hf c hc=>h f hf c (Nat.le_trans hc hl.2.1)
    cases c1:(aS b last).2.2 != 0 with
    | true=>rw [c1] at hx; cases hx
    | false=>
    rw [c1,cond_false] at hx
    cases c2:!(fF fs (aS b last).1.1).isSome with
    | true=>rw [c2,cond_true] at hx; exact ih x hx
    | false=>
    rw [c2,cond_false] at hx
    cases c3:BU R s ((fF fs (aS b last).1.1).getD default) (aS b last).1.2 != 0 with
    | true=>rw [c3] at hx; cases hx
    | false=>
    rw [c3,cond_false] at hx
    unfold hJ at hx
    cases c4:(eX R s fs g (aS b last).1.1 (aS b last).2.1).2 != 0 with
    | true=>rw [c4] at hx; cases hx
    | false=>
     rw [c4,cond_false] at hx
     rcases List.mem_append.1 hx with hx | hx
     · obtain rfl:=List.mem_singleton.1 hx
       cases hf:fF fs (aS b last).1.1 with
       | none=>rw [hf] at c2; cases c2
       | some f=>
        have hm:f ∈ fs:=List.mem_of_find?_eq_some hf
        have he:f.num=(aS b last).1.1:=by have:=List.find?_some hf; simpa using this
        have:=h f hm (aS b last).1.2 hl.1
        rw [he] at this
        exact this
     · exact ih x hx
theorem UT {P:Int->Vl->Prop} {s:Sc} {fs:List Fl} {L:List (Int × Vl)} (h1:∀ x ∈ L,P x.1 x.2) (h2:∀ f ∈ fs,P f.num (zF s 23 f.ty)):∀ x ∈ kY s fs L,P x.1 x.2:=fun x hx=>by
 obtain ⟨f,hf,hx⟩:=List.mem_flatMap.1 hx
 unfold GM at hx
 cases hv:eC L f.num with
 | some y=>
  obtain ⟨hm,he⟩:=xM hv
  rw [hv] at hx
  obtain rfl:=List.mem_singleton.1 hx
  have:=h1 y hm
  rw [he] at this
  exact this
 | none=>
  rw [hv] at hx
  change x ∈ bif f.opt then [] else _ at hx
  cases ho:f.opt with
  | true=>rw [ho] at hx; cases hx
  | false=>rw [ho] at hx; obtain rfl:=List.mem_singleton.1 hx; exact h2 f hf
theorem U9 (s:Sc) (L:List (Int × Vl)) (f:Fl):(GM s L f).length<=1:=by
 unfold GM
 cases (eC L f.num).isSome<;>cases f.opt<;>simp
theorem yT {α β:Type} {f:α->List β}:∀ {l:List α},(∀ x,(f x).length<=1)->(l.flatMap f).length<=l.length
 | [],_=>Nat.le_refl _
 | x :: l,h=>by
  have h1:=h x
  have h2:=yT (l:=l) h
  rw [List.flatMap_cons,List.length_append,List.length_cons]; omega
theorem FE (s:Sc) (fs:List Fl) (L:List (Int × Vl)):(kY s fs L).length<=fs.length:=yT (U9 s L)
theorem W5 {n:Nat} (h:n < 18446744073709551616):bV (tN n):=by
 unfold tN bV
 split<;>omega
theorem rg3 {s:Sc} {t:Ty} {n:Int} (h3:(t.k == 3)=true):f6 s t n=(decide (0<=n) && decide (n < (2 ^ t.s.toNat:Int))):=by
 unfold f6
 rw [fO h3 (b:=1) (by decide),fO h3 (b:=2) (by decide),h3]; rfl
theorem rg7 {s:Sc} {t:Ty} {n:Int} (h7:(t.k == 7)=true):f6 s t n=(enOf s t).vs.any (fun x=>x == n):=by
 unfold f6
 rw [fO h7 (b:=1) (by decide),fO h7 (b:=2) (by decide),fO h7 (b:=3) (by decide),h7]; rfl
theorem O6 {s:Sc} (hd:Dg s) {t:Ty} (hv:valF s.ss s.es t=true) (hk:(t.k == 2 || (t.k == 3 || t.k == 7))=true) {n:Nat} (hn:n < 18446744073709551616) (hr:f6 s t (hS t.k n)=true):bV (hS t.k n)/\((t.k == 2)=false->hS t.k n=n/\n < 4294967296):=by
 unfold hS at hr ⊢
 cases c2:t.k == 2 with
 | true=>rw [cond_true]; exact ⟨W5 hn,fun h=>(by cases h)⟩
 | false=>
  rw [c2,cond_false] at hr
  rw [cond_false]
  have key:n < 4294967296:=by
   cases c3:t.k == 3 with
   | true=>
    rw [rg3 c3,Bool.and_eq_true] at hr
    have h2:=of_decide_eq_true hr.2
    have h32:(2:Int) ^ (32:Int).toNat=4294967296:=by decide
    have h16:(2:Int) ^ (16:Int).toNat=65536:=by decide
    have h8:(2:Int) ^ (8:Int).toNat=256:=by decide
    rcases L3 hv c3 with h | h | h<;>rw [h] at h2<;>omega
   | false=>
    have c7:(t.k == 7)=true:=by rw [c2,c3] at hk; simpa using hk
    rw [rg7 c7,List.any_eq_true] at hr
    obtain ⟨x,hx,he⟩:=hr
    have:=(hd.ni.enOf t).n x hx
    have he:=eq_of_beq he
    omega
  exact ⟨⟨by omega,by omega⟩,fun _=>⟨rfl,key⟩⟩
theorem HH (b:List UInt8):(vr b).1 < 18446744073709551616:=by
 rcases gE b with ⟨_,h,_⟩ | ⟨_,_,_,_,_,h⟩
 · rw [h]; decide
 · exact h
theorem aEJ (b:List UInt8):(aY b).1 < 18446744073709551616:=by
 rcases uW b with ⟨_,h,_⟩ | ⟨_,_,h⟩
 · rw [h]; decide
 · exact h
theorem VR {s:Sc} (hs:s.fit) (hd:Dg s) {R:Ty->List UInt8->Vl × Int} {t:Ty} {b:List UInt8} (hR:∀ f ∈ (stOf s t).fs,∀ c,c.length<=b.length->VlOk (R f.ty c).1):VlOk (lA R s (stOf s t).fs b).1:=by
 unfold lA
 cases (eX R s (stOf s t).fs b.length 0 b).2 != 0 with
 | true=>exact gI
 | false=>
  rw [cond_false]
  have hn:=hd.ni.stOf t
  have key:=UT (P:=fun i v=>bV i/\VlOk v) (s:=s) (fs:=(stOf s t).fs) (L:=(eX R s (stOf s t).fs b.length 0 b).1)
   (F3 (P:=fun i v=>bV i/\VlOk v) b.length 0 b fun f hf c hc=>⟨by have:=hn.n f hf; exact ⟨by omega,by omega⟩,hR f hf c hc⟩)
   (fun f hf=>⟨by have:=hn.n f hf; exact ⟨by omega,by omega⟩,AE hs 23 f.ty ((iI hs t).fs f hf).ty⟩)
  have hl:=FE s (stOf s t).fs (eX R s (stOf s t).fs b.length 0 b).1
  have hl2:=hn.l
  exact .mk ⟨by decide,by decide⟩ ⟨by decide,by decide⟩ (by decide) (by simp) (by omega) (fun x h=>(by cases h)) (fun x hx=>(key x hx).1) (fun x hx=>(key x hx).2)
theorem pU {s:Sc} (hs:s.fit) (hd:Dg s):∀ (N:Nat) (t:Ty) (b:List UInt8),TyOk t->valF s.ss s.es t=true->b.length<=1000000000->VlOk (bY s N t b).1
 | 0,_,_,_,_,_=>gI
 | N + 1,t,b,ht,hv,hb=>by
  rw [CU]
  cases c1:t.k == 1 with
  | true=>
   rw [cond_true]
   unfold rB
   cases b == [] with
   | true=>exact gI
   | false=>
   cases decide (1 < (b.headD 0).toNat) || decide (1 < b.length) with
   | true=>exact gI
   | false=>have:=(b.headD 0).toNat_lt; exact CR ⟨by decide,by decide⟩ ⟨by omega,by omega⟩ (by decide)
  | false=>
  rw [cond_false]
  cases c2:t.k == 2 || (t.k == 3 || t.k == 7) with
  | true=>
   rw [cond_true]
   unfold rN
   cases (vr b).2.2 != 0 with
   | true=>exact gI
   | false=>
   rw [cond_false]
   cases decide ((vr b).2.1 < b.length) with
   | true=>exact gI
   | false=>
   rw [cond_false]
   cases c3:f6 s t (hS t.k (vr b).1) with
   | false=>exact gI
   | true=>exact CR ht.k (O6 hd hv c2 (HH b) c3).1 (by decide)
  | false=>
  rw [cond_false]
  cases c4:t.k == 4 with
  | true=>
   rw [cond_true]
   unfold QK
   cases decide (t.s < (b.length:Int)) with
   | true=>exact gI
   | false=>exact CR ⟨by decide,by decide⟩ ⟨by decide,by decide⟩ (by rw [cN,lK]; omega)
  | false=>
  rw [cond_false]
  cases c5:t.k == 5 with
  | true=>
   rw [cond_true]
   obtain ⟨u,he,hu⟩:=HZ hv c5
   have hto:=ht.e u (by rw [he]; exact List.mem_singleton.2 rfl)
   rw [he]
   show VlOk (jK (bY s N u) t.s b).1
   unfold jK
   have hcl:=oY b
   obtain ⟨i1,i2,_⟩:=GF (P:=VlOk) (R:=bY s N u) (aY b).1 (aY b).2.1 fun c hc=>pU hs hd N u c hto hu (by omega)
   cases (aY b).2.2 != 0 with
   | true=>exact gI
   | false=>
   rw [cond_false]
   cases c6:decide (t.s < ((aY b).1:Int)) with
   | true=>exact gI
   | false=>
   rw [cond_false]
   cases (dT (bY s N u) (aY b).1 (aY b).2.1).2 != 0 with
   | true=>exact gI
   | false=>
   rw [cond_false]
   cases !((dT (bY s N u) (aY b).1 (aY b).2.1).1.2 == []) with
   | true=>exact gI
   | false=>
    rw [cond_false]
    have h1:=of_decide_eq_false c6
    have h2:=(qS hv).2 c5
    exact .mk ⟨by decide,by decide⟩ ⟨by decide,by decide⟩ (by decide) (by omega) (by simp) i1 (fun x h=>(by cases h)) (fun x h=>(by cases h))
  | false=>
   rw [cond_false]
   have hn:=hd.ni.stOf t
   exact VR hs hd fun f hf c hc=>pU hs hd N f.ty c ((iI hs t).fs f hf).ty (hn.v f hf) (by omega)
def aBK:W.Spec:=fun av H K=>∃ b:List UInt8,av=[tS (mk b)]/\H=[]/\b.length<=9223372036854775807/\K (.tu [.gs (aQ (rB b).1),iA .i64 (rB b).2]) []
theorem aB2 {b:List UInt8} {K:S->Hp->Prop} (h:b.length<=9223372036854775807) (hK:K (.tu [.gs (aQ (rB b).1),iA .i64 (rB b).2]) []):aBK [tS (mk b)] [] K:=⟨b,rfl,rfl,h,hK⟩
theorem EP:Meets Tryz.prog 97 aBK:=by
 refine aD Tryz.func97 aKF 1 (by rw [Tryz.ntmps97]; decide) (aB _) (fun av H K h=>by obtain ⟨_,rfl,_⟩:=h; rfl) ?_
 rintro av H K ⟨b,rfl,rfl,hb,hK⟩
 have fin:∀ (v:Vl) (e:Int) (R:Hp),rB b=(v,e)->W.Fin 0 K (.tu [.gs (aQ v),iA .i64 e]) R:=fun v e R h=>by
  rw [h] at hK; exact .sel [] (by simp) (by simp) rfl (.done (by rw [aK] at hK ⊢; simpa [go_sem] using hK))
 clear hK
 unfold rB at fin
 cases b with
 | nil=>
  have e0:(([]:List UInt8) == [])=true:=rfl
  simp (maxSteps:=1000000) -dsimp only [go_sem,NT,L7,e0]
  exact fin v0 1 _ rfl
 | cons c r=>
  have e0:(c :: r == [])=false:=rfl
  rw [e0,cond_false,List.headD_cons,List.length_cons] at fin
  have e1:decide ((1:Int) < (c.toNat:Int))=decide (1 < c.toNat):=by rw [Bool.eq_iff_iff]; simp; omega
  have e2:decide ((1:Int) < ((r.length + 1:Nat):Int))=decide (1 < r.length + 1):=by rw [Bool.eq_iff_iff]; simp; omega
  have e3:IntKind.i64.wrap (c.toNat:Int)=(c.toNat:Int):=oW ⟨by omega,by have:=c.toNat_lt; omega⟩
  have z0:(0:Int) < ((r.length + 1:Nat):Int):=by omega
  have z1:(c :: r)[0]? = some c:=rfl
  have z2:(0:Int)<=0:=by decide
  cases c1:decide (1 < c.toNat)<;>cases c2:decide (1 < r.length + 1)<;>rw [c1,c2] at fin <;>
  · simp (maxSteps:=1000000) -dsimp only [go_sem,NT,L7,e0,e1,e2,c1,c2,z0,z1,z2,aF,forall_eq',Bool.false_or,Bool.true_or,Bool.or_self]
    try simp only [e3]
    first
     | exact fin v0 2 _ rfl
     | exact fin (.mk 1 (c.toNat:Int) (mk []) [] []) 0 _ rfl
def A1:List S->Prop:=fun av=>match av with
 | [.va (.gs r),.va (.c1 (.vl (.string _))),.va (.c1 (.vl (.int .i64 _)))]=>lD r
 | _=>False
theorem nR {av:List S} (h:A1 av):∃ (s:Sc) (nm:ByteArray) (n:Int),av=[.va (.gs (aI s)),tS nm,iS .i64 n]/\s.fit:=by
 unfold A1 at h
 split at h
 · obtain ⟨s,rfl,hs⟩:=h; exact ⟨s,_,_,rfl,hs⟩
 · exact h.elim
noncomputable def PF:List S->A:=fun av=>match av with
 | [.va (.gs r),.va (.c1 (.vl (.string nm))),.va (.c1 (.vl (.int .i64 n)))]=>bA (((eI (C.sc r).es nm).getD default).vs.any fun x=>x == n)
 | _=>.gs []
noncomputable def n3Fn:Fun:=⟨A1,PF,fun av h=>by obtain ⟨_,_,_,rfl,_⟩:=nR h; trivial⟩
theorem MW:∀ av H K,n3Fn.sp av H K->av.length=3:=fun av H K h=>by obtain ⟨_,_,_,rfl,_⟩:=nR h.1.1; rfl
attribute [go_sem] n3Fn A1 PF
theorem I7:Meets Tryz.prog 139 n3Fn.sp:=by
 refine aD Tryz.func139 aDE 3 (by rw [Tryz.ntmps139]; decide) (aC DH (aB _)) MW ?_
 rintro av H K ⟨⟨h,rfl⟩,hK⟩
 obtain ⟨s,nm,n,rfl,hs⟩:=nR h
 have hK:K (bS (((eI (C.sc (aI s)).es nm).getD default).vs.any fun x=>x == n)) []:=hK
 rw [kF] at hK
 clear h
 have heo:((eI s.es nm).getD default).vs.length<=1000000000:=by
  cases hf:eI s.es nm with
  | none=>exact Nat.zero_le _
  | some e=>exact (hs.en e (GZ hf).1).2
 simp (maxSteps:=1000000) -dsimp only [go_sem,aI,SL,PO]
 refine xH hs ?_
 generalize (eI s.es nm).getD default=e at *
 simp (maxSteps:=1000000) -dsimp only [go_sem,a7]
 refine aA rfl (.done ?_)
 have fin:∀ (b:Bool) (R:Hp),(e.vs.any fun x=>x == n)=b->W.Fin 0 K (bS b) R:=fun b R h=>by
  rw [h] at hK; exact .sel [] (by simp) (by simp) rfl (.done (by simpa [go_sem] using hK))
 simp (maxSteps:=1000000) -dsimp only [go_sem,wE]
 refine aU (α:=Nat) (fun i=>[(2,iS .i64 n),(18,.va (.c1 (.fz (e.vs.map dF)))),(19,iS .i64 e.vs.length),(20,iS .i64 i)]) (fun _=>[])
  (fun i=>i<=e.vs.length/\(e.vs.drop i).any (fun x=>x == n)=e.vs.any fun x=>x == n) (fun i=>e.vs.length - i) 0 0 ⟨Nat.zero_le _,rfl⟩ ?_ ?_ ?_
 · simp -dsimp only [go_sem]<;>simp
 · simp -dsimp only [go_sem]<;>simp
 rintro i ⟨hi,ho⟩
 rcases a8 i e.vs.length with hlt | hge
 · have hg:decide ((i:Int) < (e.vs.length:Int))=true:=by simp; omega
   have hx:e.vs[i]? = some e.vs[i]:=aV hlt
   have q2:=aZ (row:=dF) hx
   rw [List.drop_eq_getElem_cons hlt,List.any_cons] at ho
   generalize e.vs[i]=y at *
   cases hc:y == n with
   | true=>
    rw [hc,Bool.true_or] at ho
    simp (maxSteps:=1000000) -dsimp only [go_sem,hg,↓q2,hc]
    exact ⟨by omega,fin _ _ ho.symm⟩
   | false=>
    rw [hc,Bool.false_or] at ho
    simp (maxSteps:=1000000) -dsimp only [go_sem,hg,↓q2,hc]
    refine ⟨by omega,by omega,aE (i + 1) 0 ⟨by omega,ho⟩ (by omega) ?_ ?_⟩
    · simp -dsimp only [go_sem]<;>simp
    · simp -dsimp only [go_sem]<;>simp
 · have hg:decide ((i:Int) < (e.vs.length:Int))=false:=by simp; omega
   have:e.vs.drop i=[]:=List.drop_eq_nil_iff.2 (by omega)
   rw [this] at ho
   simp (maxSteps:=1000000) -dsimp only [go_sem,hg]
   exact fin _ _ ho.symm
def WU:W.Spec:=fun av H K=>∃ (s:Sc) (t:Ty) (b:List UInt8),av=[.va (.gs (aI s)),.va (.gs (aW t)),tS (mk b)]/\H=[]/\Dg s/\s.fit/\TyOk t/\valF s.ss s.es t=true/\(t.k == 2 || (t.k == 3 || t.k == 7))=true/\b.length<=9223372036854775807/\K (.tu [.gs (aQ (rN s t b).1),iA .i64 (rN s t b).2]) []
theorem XB {s:Sc} {t:Ty} {b:List UInt8} {K:S->Hp->Prop} (hd:Dg s) (hs:s.fit) (ht:TyOk t) (hv:valF s.ss s.es t=true) (hk:(t.k == 2 || (t.k == 3 || t.k == 7))=true) (hb:b.length<=9223372036854775807)
 (hK:K (.tu [.gs (aQ (rN s t b).1),iA .i64 (rN s t b).2]) []) :
 WU [.va (.gs [.vl (.int .i64 s.ver),.fz (s.es.map a7),.fz (s.ss.map aJ)]),.va (.gs [.vl (.int .i64 t.k),.vl (.int .i64 t.s),.vl (.string t.n),.fz (t.e.map aW)]),tS (mk b)] [] K:=⟨s,t,b,by rw [aR]; rfl,rfl,hd,hs,ht,hv,hk,hb,hK⟩
theorem aK3 (n:Nat):IntKind.u64.wrap ((BitVec.ofInt IntKind.u64.bits (n:Int) &&& BitVec.ofInt IntKind.u64.bits 4294967295).toNat:Int)=((n % 4294967296:Nat):Int):=by
 have hb:IntKind.u64.bits=64:=rfl
 have e:(BitVec.ofInt 64 (n:Int) &&& BitVec.ofInt 64 4294967295).toNat=n % 4294967296:=by
  rw [BitVec.toNat_and,BitVec.ofInt_natCast,BitVec.toNat_ofNat,show (BitVec.ofInt 64 4294967295).toNat=2 ^ 32 - 1 from rfl,Nat.and_two_pow_sub_one_eq_mod]
  omega
 rw [hb,e,g7 (by omega)]
noncomputable def q9:cB:=[(133,.s H4),(138,.s AP),(134,.s HV),(135,.s AR),(136,.s AO),(139,.f n3Fn)]
theorem WF:sp q9 133=H4:=rfl
theorem X5:sp q9 138=AP:=rfl
theorem aBU:sp q9 134=HV:=rfl
theorem J2:sp q9 135=AR:=rfl
theorem Z8:sp q9 136=AO:=rfl
theorem IX:lR q9 139=some n3Fn:=rfl
theorem z6:Meets Tryz.prog 98 WU:=by
 refine aD (Γ:=q9) Tryz.func98 aK0 3 (by rw [Tryz.ntmps98]; decide) (aC vB (aC aEA (aC CL (aC aBE (aC OQ (aH I7 (aB _))))))) (fun av H K h=>by obtain ⟨_,_,_,rfl,_⟩:=h; rfl) ?_
 rintro av H K ⟨s,t,b,rfl,rfl,hd,hs,ht,hv,hk,hb,hK⟩
 have fin:∀ (v:Vl) (e:Int) (R:Hp),rN s t b=(v,e)->W.Fin 0 K (.tu [.gs (aQ v),iA .i64 e]) R:=fun v e R h=>by
  rw [h] at hK; exact .sel [] (by simp) (by simp) rfl (.done (by rw [aK] at hK ⊢; simpa [go_sem] using hK))
 clear hK
 unfold rN at fin
 have hvr:=gE b
 have hnr:(vr b).2.2=0->f6 s t (hS t.k (vr b).1)=true->bV (hS t.k (vr b).1)/\((t.k == 2)=false->hS t.k (vr b).1=(vr b).1/\(vr b).1 < 4294967296):=fun _=>O6 hd hv hk (HH b)
 have hlt:=HH b
 have tail:∀ (n:Int) (ok:Bool),((vr b).2.2=0->(ok=f6 s t (hS t.k (vr b).1)/\(ok=true->n=hS t.k (vr b).1)))->
  vc q9 0 pc98_13.ungh (fC [(4,.va (.c1 (.pt 1 0))),(6,.va (.c1 (.pt 2 0))),(8,.va (.c1 (.pt 3 0))),(9,iS .i64 n),(10,bS ok)])
   [.cells [.vl (.int .i64 s.ver),.fz (s.es.map a7),.fz (s.ss.map aJ)] 25,.cells [.vl (.int .i64 t.k),.vl (.int .i64 t.s),.vl (.string t.n),.fz (t.e.map aW)] 42,.cells [.vl (.int .i64 0),.vl (.int .i64 0),.vl (.string (mk [])),.vl (.slice none 0 0),.vl (.slice none 0 0)] 29,fG b (vr b).2.1 (vr b).2.2]
   (fun e fr' H'=>match e with
     | .e j=>if j=0 then vc q9 0 mA fr' H' (mU 0 oJ K) else mU 0 oJ K (.e j) fr' H'
     | e=>match e with
      | .n=>vc q9 0 mA fr' H' (mU 0 oJ K)
      | e=>mU 0 oJ K e fr' H'):=by
  intro n ok hnk
  simp (maxSteps:=1000000) -dsimp only [go_sem,pc98_13,oJ,J2,cT]
  refine wO ?_
  cases c1:(vr b).2.2 != 0 with
  | true=>
   rw [c1,cond_true] at fin
   simp (maxSteps:=1000000) -dsimp only [go_sem,J2,cT,c1]
   refine wO ?_
   simp (maxSteps:=1000000) -dsimp only [go_sem,cT]
   exact fin v0 _ _ rfl
  | false=>
   rw [c1,cond_false] at fin
   obtain ⟨h0,hle⟩:(vr b).2.2=0/\(vr b).2.1<=b.length:=by
    rcases hvr with ⟨h,_⟩ | ⟨a,_,_,d,_⟩
    · exact absurd (gS c1) h
    · exact ⟨a,d⟩
   obtain ⟨hok,hn⟩:=hnk h0
   simp (maxSteps:=1000000) -dsimp only [go_sem,cT,c1]
   refine aA rfl (.done ?_)
   simp (maxSteps:=1000000) -dsimp only [go_sem,wV,Z8,cT]
   refine GS hle hb ?_
   have e1:decide ((0:Int) < (b.length:Int) - ((vr b).2.1:Int))=decide ((vr b).2.1 < b.length):=by rw [Bool.eq_iff_iff,decide_eq_true_iff,decide_eq_true_iff]; omega
   cases c2:decide ((vr b).2.1 < b.length) with
   | true=>
    rw [c2,cond_true] at fin
    simp (maxSteps:=1000000) -dsimp only [go_sem,cT,e1,c2]
    exact fin v0 _ _ rfl
   | false=>
    rw [c2,cond_false] at fin
    simp (maxSteps:=1000000) -dsimp only [go_sem,cT,e1,c2]
    refine aA rfl (.done ?_)
    rw [<-hok] at fin
    cases ok with
    | false=>
     simp (maxSteps:=1000000) -dsimp only [go_sem,pV,Bool.not_false]
     exact fin v0 _ _ rfl
    | true=>
     rw [hn rfl]
     simp (maxSteps:=1000000) -dsimp only [go_sem,pV,Bool.not_true]
     refine aA rfl (.done ?_)
     simp (maxSteps:=1000000) -dsimp only [go_sem,mA,oJ]
     exact fin (.mk t.k (hS t.k (vr b).1) (mk []) [] []) 0 _ rfl
 simp (maxSteps:=1000000) -dsimp only [go_sem,aI,aR t,YB,oJ,WF]
 refine K9 ?_
 simp (maxSteps:=1000000) -dsimp only [go_sem,cT]
 refine aA rfl (.done ?_)
 simp (maxSteps:=1000000) -dsimp only [go_sem,B4]
 refine aA rfl (.done ?_)
 simp (maxSteps:=1000000) -dsimp only [go_sem,C4]
 refine aA rfl (.done ?_)
 cases c2:t.k == 2 with
 | true=>
  simp (maxSteps:=1000000) -dsimp only [go_sem,tP,c2,X5]
  refine U4 hb ?_
  simp (maxSteps:=1000000) -dsimp only [go_sem,cT]
  refine aA rfl (.done ?_)
  have hnu:hS t.k (vr b).1=tN (vr b).1:=by unfold hS; rw [c2,cond_true]
  have hrg:∀ n:Int,f6 s t n=(t.s == 64 || (decide (-(2 ^ (t.s.toNat - 1):Int)<=n) && decide (n < (2 ^ (t.s.toNat - 1):Int)))):=fun n=>by
   unfold f6; rw [fO c2 (b:=1) (by decide),c2]; rfl
  generalize hN:tN (vr b).1=n at *
  cases h64:t.s == 64 with
  | true=>
   simp (maxSteps:=1000000) -dsimp only [go_sem,tW,h64,Bool.false_and]
   refine jW 4 (tail n true fun h0=>⟨by rw [hrg,h64]; rfl,fun _=>hnu.symm⟩) ?_ ?_
   · simp -dsimp only [go_sem,fT]<;>simp
   · simp -dsimp only [go_sem,cT]<;>simp [cT]
  | false=>
   obtain ⟨b1,b2,e1,e2⟩:8<=t.s/\t.s<=32/\IntKind.i64.wrap (-1 * 2 ^ min (t.s - 1).toNat 64)=-(2 ^ (t.s.toNat - 1):Int)/\IntKind.i64.wrap (1 * 2 ^ min (t.s - 1).toNat 64)=(2 ^ (t.s.toNat - 1):Int):=by
    rcases YY hv c2 with hz | hz | hz | hz
    · rw [hz]; decide
    · rw [hz]; decide
    · rw [hz]; decide
    · rw [hz] at h64; simp at h64
   have f1:(0<=t.s - 1)=True:=eq_true (by omega)
   have f2:(-9223372036854775808<=t.s - 1)=True:=eq_true (by omega)
   have f3:(t.s - 1<=9223372036854775807)=True:=eq_true (by omega)
   have hrg':=hrg n
   rw [h64,Bool.false_or] at hrg'
   generalize (2 ^ (t.s.toNat - 1):Int)=hi at *
   cases h4:decide (-hi<=n)<;>cases h5:decide (n < hi) <;>
   · rw [h4,h5] at hrg'
     simp (maxSteps:=1000000) -dsimp only [go_sem,tW,h64,h4,h5,f1,f2,f3,e1,e2,Bool.and_self,Bool.and_true,Bool.and_false,Bool.true_and,Bool.false_and]
     rw [<-hnu] at hrg'
     refine jW 4 (tail n _ fun h0=>⟨hrg'.symm,fun _=>hnu.symm⟩) ?_ ?_
     · simp -dsimp only [go_sem,fT]<;>simp
     · simp -dsimp only [go_sem,cT]<;>simp [cT]
 | false=>
  simp (maxSteps:=1000000) -dsimp only [go_sem,tP,c2,aBU]
  refine DP hb ?_
  simp (maxSteps:=1000000) -dsimp only [go_sem,cT]
  refine aA rfl (.done ?_)
  simp (maxSteps:=1000000) -dsimp only [go_sem,BY]
  refine aA rfl (.done ?_)
  simp (maxSteps:=1000000) -dsimp only [go_sem,CY,aK3]
  refine aA rfl (.done ?_)
  generalize hU:(vr b).1=U at *
  have hnu:hS t.k U=U:=by unfold hS; rw [c2,cond_false]
  have hw:IntKind.i64.wrap ((U % 4294967296:Nat):Int)=((U % 4294967296:Nat):Int):=oW ⟨by omega,by omega⟩
  have e0:decide ((U:Int) < 4294967296)=decide (U < 4294967296):=by rw [Bool.eq_iff_iff,decide_eq_true_iff,decide_eq_true_iff]; omega
  rw [hnu] at hnr
  have hbig:(vr b).2.2=0->decide (U < 4294967296)=false->f6 s t U=false:=fun h0 h1=>by
   cases h:f6 s t U with
   | false=>rfl
   | true=>have:=((hnr h0 h).2 c2).2; have:=of_decide_eq_false h1; omega
  cases c3:t.k == 3 with
  | true=>
   obtain ⟨b1,b2,e1⟩:8<=t.s/\t.s<=32/\IntKind.i64.wrap (1 * 2 ^ min t.s.toNat 64)=(2 ^ t.s.toNat:Int):=by
    rcases L3 hv c3 with hz | hz | hz<;>rw [hz]<;>decide
   have f1:(0<=t.s)=True:=eq_true (by omega)
   have hrg:=rg3 (s:=s) (n:=(U:Int)) c3
   rw [decide_eq_true (show (0:Int)<=(U:Int) by omega),Bool.true_and] at hrg
   generalize (2 ^ t.s.toNat:Int)=hi at *
   cases h4:decide (U < 4294967296) with
   | true=>
    have hm:U % 4294967296=U:=Nat.mod_eq_of_lt (of_decide_eq_true h4)
    rw [hm] at hw ⊢
    cases h5:decide ((U:Int) < hi) <;>
    · rw [h5] at hrg
      simp (maxSteps:=1000000) -dsimp only [go_sem,jT,c3,hw,e0,h4]
      refine aA rfl (.done ?_)
      simp (maxSteps:=1000000) -dsimp only [go_sem,qC,f1,e1,h5]
      have hx:=hrg
      rw [<-hnu] at hx
      refine jW 4 (tail U _ fun h0=>⟨hx.symm,fun _=>hnu.symm⟩) ?_ ?_
      · simp -dsimp only [go_sem,fT]<;>simp
      · simp -dsimp only [go_sem,cT]<;>simp [cT,hU]
   | false=>
    simp (maxSteps:=1000000) -dsimp only [go_sem,jT,c3,hw,e0,h4]
    refine aA rfl (.done ?_)
    simp (maxSteps:=1000000) -dsimp only [go_sem,qC,f1,e1]
    refine jW 4 (tail ((U % 4294967296:Nat):Int) false fun h0=>⟨by rw [hnu]; exact (hbig h0 h4).symm,fun h=>(by cases h)⟩) ?_ ?_
    · simp -dsimp only [go_sem,fT]<;>simp
    · simp -dsimp only [go_sem,cT]<;>simp [cT,hU]
  | false=>
   have c7:(t.k == 7)=true:=by rw [c2,c3] at hk; simpa using hk
   have hrg:=rg7 (s:=s) (n:=(U:Int)) c7
   have k6:=fK hs
   have k7:=kB s
   have heo:(eI s.es t.n).getD default=enOf s t:=rfl
   cases h4:decide (U < 4294967296) with
   | true=>
    have hm:U % 4294967296=U:=Nat.mod_eq_of_lt (of_decide_eq_true h4)
    rw [hm] at hw ⊢
    simp (maxSteps:=1000000) -dsimp only [go_sem,jT,c3,hw,e0,h4]
    refine aA rfl (.done ?_)
    simp (maxSteps:=1000000) -dsimp only [go_sem,p5,IX,k6,k7,heo]
    have hx:f6 s t (hS t.k U)=(enOf s t).vs.any (fun x=>x == (U:Int)):=by rw [hnu]; exact hrg
    refine jW 4 (tail U _ fun h0=>⟨hx.symm,fun _=>hnu.symm⟩) ?_ ?_
    · simp -dsimp only [go_sem,fT]<;>simp
    · simp -dsimp only [go_sem,cT]<;>simp [cT,hU]
   | false=>
    simp (maxSteps:=1000000) -dsimp only [go_sem,jT,c3,hw,e0,h4]
    refine aA rfl (.done ?_)
    simp (maxSteps:=1000000) -dsimp only [go_sem,p5,IX,k6,k7,heo]
    refine jW 4 (tail ((U % 4294967296:Nat):Int) false fun h0=>⟨by rw [hnu]; exact (hbig h0 h4).symm,fun h=>(by cases h)⟩) ?_ ?_
    · simp -dsimp only [go_sem,fT]<;>simp
    · simp -dsimp only [go_sem,cT]<;>simp [cT,hU]
theorem NP (y:Int × Vl) (F:List (Int × Vl)) (k:Int):eC (y :: F) k=if y.1=k then some y else eC F k:=by
 unfold eC
 rw [List.find?_cons]
 by_cases h:y.1=k
 · rw [decide_eq_true h,if_pos h]
 · rw [decide_eq_false h,if_neg h]
theorem UL {fs:List Fl} {k:Int} {f:Fl} (h:fF fs k=some f):f ∈ fs/\f.num=k:=by
 exact ⟨List.mem_of_find?_eq_some h,by have:=List.find?_some h; simpa using this⟩
structure Fits (s:Sc) (u:St) (F:List (Int × Vl)):Prop where
 p:F.Pairwise (fun x y=>x.1 < y.1)
 m:∀ x ∈ F,∃ f ∈ u.fs,f.num=x.1
 r:∀ f ∈ u.fs,f.opt=false->∃ x ∈ F,x.1=f.num
def omG (s:Sc) (F:List (Int × Vl)) (g:Fl):Bool:=!(eC F g.num).isSome || (!g.opt && dL (((eC F g.num).map (·.2)).getD default) (zF s 23 g.ty))
theorem XY (R:Ty->Vl->List UInt8) (s:Sc) (F:List (Int × Vl)) (g:Fl):JC R s F g=bif omG s F g then [] else n0 g.num ++ rQ (R g.ty (((eC F g.num).map (·.2)).getD default)):=rfl
theorem P9 {s:Sc} {t:Ty} (hv:valF s.ss s.es t=true) (c1:(t.k == 1)=false) (c2:(t.k == 2 || (t.k == 3 || t.k == 7))=false) (c4:(t.k == 4)=false) (c5:(t.k == 5)=false):(t.k == 6)=true:=by
 rw [Bool.or_eq_false_iff,Bool.or_eq_false_iff] at c2
 rcases FN hv with h | h | h | h | h | h | h
 · rw [h] at c1; cases c1
 · rw [h] at c2; cases c2.1
 · rw [h] at c2; cases c2.2.1
 · rw [h] at c4; cases c4
 · rw [h] at c5; cases c5
 · exact h
 · rw [h] at c2; cases c2.2.2
def leS (a b:List UInt8):Prop:=a.length<=b.length/\(a.length=b.length->a=b)
structure Can (s:Sc) (t:Ty) (v:Vl) (b:List UInt8):Prop where
 ck:cZ s t v=0
 rl:dQ v<=kJ s t
 le:∀ N,v.h<=N->N<=8->leS (cS s N t v) b
theorem ZQ {s:Sc} (hd:Dg s) {nm:ByteArray} (h:cK s.ss nm=true):kJ s (.mk 6 0 nm [])<=6/\valF s.ss s.es (.mk 6 0 nm [])=true:=by
 have hv:valF s.ss s.es (.mk 6 0 nm [])=true:=by rw [valF.eq_def]; simp [h]
 have:=(HM hd hv rfl).2.1
 rw [JP rfl]
 exact ⟨this,hv⟩
def xF (N:Nat):W.Spec:=fun av H K=>∃ (s:Sc) (t:Ty) (b:List UInt8),av=[.va (.gs (aI s)),.va (.gs (aW t)),tS (mk b)]/\H=[]/\Dg s/\s.fit/\TyOk t/\valF s.ss s.es t=true/\kJ s t < N/\b.length<=1000000000/\K (.tu [.gs (aQ (bY s N t b).1),iA .i64 (bY s N t b).2]) []
theorem KN {N:Nat} {s:Sc} {t:Ty} {b:List UInt8} {K:S->Hp->Prop} (hd:Dg s) (hs:s.fit) (ht:TyOk t) (hv:valF s.ss s.es t=true) (hf:kJ s t < N) (hb:b.length<=1000000000)
 (hK:K (.tu [.gs [.vl (.int .i64 (bY s N t b).1.k),.vl (.int .i64 (bY s N t b).1.n),.vl (.string (bY s N t b).1.s),.fz ((bY s N t b).1.l.map aQ),.fz ((bY s N t b).1.f.map bE)],iA .i64 (bY s N t b).2]) []) :
 xF N [.va (.gs [.vl (.int .i64 s.ver),.fz (s.es.map a7),.fz (s.ss.map aJ)]),.va (.gs [.vl (.int .i64 t.k),.vl (.int .i64 t.s),.vl (.string t.n),.fz (t.e.map aW)]),tS (mk b)] [] K:=⟨s,t,b,by rw [aR]; rfl,rfl,hd,hs,ht,hv,hf,hb,by rw [aK]; exact hK⟩
def rH (acc:List Vl) (q:(List Vl × List UInt8) × Int):(List Vl × List UInt8) × Int:=bif q.2 != 0 then (([],[]),q.2) else ((acc ++ q.1.1,q.1.2),0)
theorem V4 (a b:List Vl) (q:(List Vl × List UInt8) × Int):rH a (rH b q)=rH (a ++ b) q:=by
 unfold rH
 cases hq:q.2 != 0 with
 | true=>simp only [cond_true,hq]
 | false=>simp only [cond_false]; rw [show ((0:Int) != 0)=false from rfl,cond_false,List.append_assoc]
theorem G0 (a:List Vl) {e:Int} (h:(e != 0)=true) (x:List Vl × List UInt8):rH a (x,e)=(([],[]),e):=by unfold rH; rw [h]; rfl
theorem aEK {R:List UInt8->Vl × Int}:∀ (n:Nat) (b:List UInt8),(dT R n b).2 ≠ 0->(dT R n b).1=([],[])
 | 0,_,h=>absurd rfl h
 | n + 1,b,h=>by
  rw [sZ] at h ⊢
  cases c1:(bK b).2.2 != 0 with
  | true=>rfl
  | false=>
  rw [c1,cond_false] at h
  rw [cond_false]
  cases c2:(R (bK b).1).2 != 0 with
  | true=>rfl
  | false=>
  rw [c2,cond_false] at h
  rw [cond_false]
  cases c:(dT R n (bK b).2.1).2 != 0 with
  | true=>rfl
  | false=>rw [c] at h; exact absurd rfl h
theorem MX (R:List UInt8->Vl × Int) (n:Nat) (b:List UInt8):dT R (n + 1) b=bif (bK b).2.2 != 0 then (([],[]),(bK b).2.2) else bif (R (bK b).1).2 != 0 then (([],[]),(R (bK b).1).2) else rH [(R (bK b).1).1] (dT R n (bK b).2.1):=by
 rw [sZ]; rfl
theorem TL {R:List UInt8->Vl × Int} (n:Nat) (b:List UInt8):rH [] (dT R n b)=dT R n b:=by
 have h:=aEK (R:=R) n b
 unfold rH
 generalize dT R n b=q at *
 obtain ⟨⟨x,y⟩,e⟩:=q
 cases hq:e != 0 with
 | true=>
  have h2:(x,y)=([],[]):=h (uT hq)
  rw [cond_true,h2]
 | false=>
  have:=gS hq
  subst this; rfl
def Y0 (N:Nat):W.Spec:=fun av H K=>∃ (s:Sc) (t:Ty) (b:List UInt8),av=[.va (.gs (aI s)),.va (.gs (aW t)),tS (mk b)]/\H=[]/\Dg s/\s.fit/\TyOk t/\valF s.ss s.es t=true/\(t.k == 5)=true/\kJ s t < N + 1/\b.length<=1000000000/\
 K (.tu [.gs (aQ (jK (bY s N (t.e.headD default)) t.s b).1),iA .i64 (jK (bY s N (t.e.headD default)) t.s b).2]) []
theorem aB8 {N:Nat} {s:Sc} {t:Ty} {b:List UInt8} {K:S->Hp->Prop} (hd:Dg s) (hs:s.fit) (ht:TyOk t) (hv:valF s.ss s.es t=true) (h5:(t.k == 5)=true) (hf:kJ s t < N + 1) (hb:b.length<=1000000000)
 (hK:K (.tu [.gs (aQ (jK (bY s N (t.e.headD default)) t.s b).1),iA .i64 (jK (bY s N (t.e.headD default)) t.s b).2]) []) :
 Y0 N [.va (.gs [.vl (.int .i64 s.ver),.fz (s.es.map a7),.fz (s.ss.map aJ)]),.va (.gs [.vl (.int .i64 t.k),.vl (.int .i64 t.s),.vl (.string t.n),.fz (t.e.map aW)]),tS (mk b)] [] K:=⟨s,t,b,by rw [aR]; rfl,rfl,hd,hs,ht,hv,h5,hf,hb,hK⟩
theorem EO {N:Nat} (hD:Meets Tryz.prog 55 (xF N)):Meets Tryz.prog 99 (Y0 N):=by
 refine aD Tryz.func99 aKK 3 (by rw [Tryz.ntmps99]; decide) (aC sA (aC JB (aC hD (aB _)))) (fun av H K h=>by obtain ⟨_,_,_,rfl,_⟩:=h; rfl) ?_
 rintro av H K ⟨s,t,b,rfl,rfl,hd,hs,ht,hv,h5,hf,hb,hK⟩
 obtain ⟨u,he,hu⟩:=HZ hv h5
 have hto:=ht.e u (by rw [he]; exact List.mem_singleton.2 rfl)
 have hfd:=UX (s:=s) h5 he
 have h32:=(qS hv).2 h5
 have h45:=aIY hv (.inr h5)
 rw [he] at hK
 have fin:∀ (v:Vl) (e:Int) (R:Hp),jK (bY s N u) t.s b=(v,e)->W.Fin 0 K (.tu [.gs (aQ v),iA .i64 e]) R:=fun v e R h=>by
  have hK:K (.tu [.gs (aQ (jK (bY s N u) t.s b).1),iA .i64 (jK (bY s N u) t.s b).2]) []:=hK
  rw [h] at hK; exact .sel [] (by simp) (by simp) rfl (.done (by rw [aK] at hK ⊢; simpa [go_sem] using hK))
 have fin2:∀ (l:List Vl),jK (bY s N u) t.s b=(.mk 5 0 (mk []) l [],0)->K (.tu [.gs (aQ (.mk 5 0 (mk []) l [])),iA .i64 0]) []:=fun l h=>by
  have hK:K (.tu [.gs (aQ (jK (bY s N u) t.s b).1),iA .i64 (jK (bY s N u) t.s b).2]) []:=hK
  rw [h] at hK; exact hK
 clear hK
 unfold jK at fin fin2
 have hcl:=oY b
 have hcn:=aEJ b
 simp (maxSteps:=1000000) -dsimp only [go_sem,aI,aR t,aB6,ZC]
 refine vS (by omega) ?_
 generalize aY b=z at *
 obtain ⟨n,r,e⟩:=z
 simp only at fin fin2 hcl hcn ⊢
 simp (maxSteps:=1000000) -dsimp only [go_sem]
 refine aA rfl (.done ?_)
 cases c1:e != 0 with
 | true=>
  rw [c1,cond_true] at fin
  simp (maxSteps:=1000000) -dsimp only [go_sem,t6,c1]
  exact fin v0 _ _ rfl
 | false=>
 rw [c1,cond_false] at fin fin2
 simp (maxSteps:=1000000) -dsimp only [go_sem,t6,c1]
 refine aA rfl (.done ?_)
 have hw:IntKind.u64.wrap t.s=t.s:=by
  have:=g7 (n:=t.s.toNat) (by omega)
  rwa [Int.toNat_of_nonneg (by omega)] at this
 cases c2:decide (t.s < (n:Int)) with
 | true=>
  rw [c2,cond_true] at fin
  simp (maxSteps:=1000000) -dsimp only [go_sem,uD,hw,c2]
  exact fin v0 _ _ rfl
 | false=>
 rw [c2,cond_false] at fin fin2
 have c2':=of_decide_eq_false c2
 simp (maxSteps:=1000000) -dsimp only [go_sem,uD,hw,c2]
 refine aA rfl (.done ?_)
 simp (maxSteps:=1000000) -dsimp only [go_sem,BS]
 refine aA rfl (.done ?_)
 simp (maxSteps:=1000000) -dsimp only [go_sem,DV]
 refine cH (α:=Nat × List UInt8 × List Vl) (fun z=>[(2,tS (mk z.2.1)),(3,.va (.c1 (.pt 0 0))),(4,.va (.c1 (.pt 1 0))),(6,.va (.c1 (.pt 2 0))),(10,.va (.c1 (.pt 3 0))),(32,iS .u64 n),(33,iS .u64 z.1)])
  (fun z=>[.cells [.vl (.int .i64 s.ver),.fz (s.es.map a7),.fz (s.ss.map aJ)] 25,.cells [.vl (.int .i64 t.k),.vl (.int .i64 t.s),.vl (.string t.n),.fz (t.e.map aW)] 42,.cells [.vl (.int .i64 0),.vl (.int .i64 0),.vl (.string (mk [])),.vl (.slice none 0 0),.vl (.slice none 0 0)] 29,
    .cells [.vl (.int .i64 5),.vl (.int .i64 0),.vl (.string (mk [])),.sl 4 z.2.2.length,.vl (.slice none 0 0)] 29,.row (z.2.2.map aQ) 29 5])
  (fun z=>z.1<=n/\z.2.2.length=z.1/\z.2.1.length<=b.length/\rH z.2.2 (dT (bY s N u) (n - z.1) z.2.1)=dT (bY s N u) n r) (fun z=>n - z.1)
  (.nilc 3 3 29 5 [.vl (.int .i64 5),.vl (.int .i64 0),.vl (.string (mk [])),.vl (.slice none 0 0),.vl (.slice none 0 0)] 29 rfl rfl (iU (0,r,[]) 5 ⟨Nat.zero_le _,rfl,hcl.1,by rw [Nat.sub_zero]; exact TL _ _⟩ ?_ ?_)) ?_
 · simp -dsimp only [go_sem]<;>simp
 · simp -dsimp only [go_sem]<;>simp
 rintro ⟨i,x,acc⟩ ⟨hi,hal,hxl,ho⟩
 simp only at hi hal hxl ho ⊢
 rcases a8 i n with hlt | hge
 · have hg:decide ((i:Int) < (n:Int))=true:=by simp; omega
   obtain ⟨m,hm⟩:∃ m,n - i=m + 1:=⟨n - i - 1,by omega⟩
   have hm':m=n - (i + 1):=by omega
   rw [hm,MX] at ho
   have htl:=CM x
   simp (maxSteps:=1000000) -dsimp only [go_sem,hg]
   refine aA rfl (.done ?_)
   simp (maxSteps:=1000000) -dsimp only [go_sem,DR]
   refine FT (by omega) ?_
   generalize bK x=z at *
   obtain ⟨c,q,e2⟩:=z
   simp only at ho htl ⊢
   simp (maxSteps:=1000000) -dsimp only [go_sem]
   refine aA rfl (.done ?_)
   cases d1:e2 != 0 with
   | true=>
    rw [d1,cond_true,G0 acc d1] at ho
    rw [<-ho] at fin
    simp only [d1,cond_true] at fin
    simp (maxSteps:=1000000) -dsimp only [go_sem,qU,d1]
    exact fin v0 _ _ rfl
   | false=>
    rw [d1,cond_false] at ho
    simp (maxSteps:=1000000) -dsimp only [go_sem,qU,d1]
    refine aA rfl (.done ?_)
    have z0:(0:Int) < ((1:Nat):Int):=by decide
    have z1:(0:Int)<=0:=by decide
    have hvo:=pU hs hd N u c hto hu (by omega)
    simp (maxSteps:=1000000) -dsimp only [go_sem,xQ,he,aR u,forall_eq',z0,z1,List.length_cons,List.length_nil,List.take_succ_cons,List.take_zero]
    refine KN hd hs hto hu (by omega) (by omega) ?_
    generalize bY s N u c=w at *
    obtain ⟨y,e3⟩:=w
    simp only at ho hvo ⊢
    simp (maxSteps:=1000000) -dsimp only [go_sem]
    refine aA rfl (.done ?_)
    cases d2:e3 != 0 with
    | true=>
     rw [d2,cond_true,G0 acc d2] at ho
     rw [<-ho] at fin
     simp only [d2,cond_true] at fin
     simp (maxSteps:=1000000) -dsimp only [go_sem,qM,d2]
     exact fin v0 _ _ rfl
    | false=>
     rw [d2,cond_false,V4,hm'] at ho
     simp (maxSteps:=1000000) -dsimp only [go_sem,qM,d2]
     refine aA rfl (.done ?_)
     simp (maxSteps:=1000000) -dsimp only [go_sem,vY,List.take_succ_cons,List.take_zero,List.length_cons,List.length_nil]
     refine ⟨by omega,by omega,aE (i + 1,q,acc ++ [y]) 5 ⟨by simp only; omega,by simp only [List.length_append,List.length_singleton]; omega,by simp only; omega,ho⟩ (by simp only; omega) ?_ ?_⟩
     · simp -dsimp only [go_sem]<;>simp
     · simp -dsimp only [go_sem,he,aR u]<;>simp [he,aR u,aK y]
 · have hg:decide ((i:Int) < (n:Int))=false:=by simp; omega
   obtain rfl:i=n:=by omega
   rw [Nat.sub_self] at ho
   have ho:((acc ++ [],x),(0:Int))=dT (bY s N u) i r:=ho
   rw [List.append_nil] at ho
   rw [<-ho] at fin fin2
   simp only [bne_self_eq_false,cond_false] at fin fin2
   simp (maxSteps:=1000000) -dsimp only [go_sem,hg]
   refine aA rfl (.done ?_)
   cases d1:x == [] with
   | false=>
    rw [d1] at fin
    simp (maxSteps:=1000000) -dsimp only [go_sem,qP,d1,Bool.not_false]
    exact fin v0 _ _ rfl
   | true=>
    rw [d1] at fin2
    simp (maxSteps:=1000000) -dsimp only [go_sem,qP,d1,Bool.not_true]
    refine .pub 4 _ _ _ rfl (.sel [] (by simp) (by simp [cA]) rfl (.done ?_))
    have:=fin2 acc rfl
    rw [aK] at this
    simp -dsimp only [go_sem,cA]
    simpa [Vl.k,Vl.n,Vl.s,Vl.l,Vl.f,hal] using this
def jH (L:List (Int × Vl)):List Value:=L.map fun y=>.int .i64 y.1
def kQ (L:List (Int × Vl)):List A:=L.map fun y=>.gs (aQ y.2)
theorem I1 (k:Int):∀ (L:List (Int × Vl)),dU (jH L) (kQ L) (.int .i64 k)=(eC L k).map fun y=>.gs (aQ y.2)
 | []=>rfl
 | y :: L=>by
  have ih:=I1 k L
  unfold dU at ih ⊢
  show ((eW (.int .i64 y.1 :: jH L) (.int .i64 k)).bind fun i=>(A.gs (aQ y.2) :: kQ L)[i]?)=_
  rw [eW,NP]
  show ((bif k == y.1 then some 0 else (eW (jH L) (.int .i64 k)).map (· + 1)).bind fun i=>(A.gs (aQ y.2) :: kQ L)[i]?)=_
  by_cases h:y.1=k
  · rw [if_pos h,show (k == y.1)=true by simp [h]]; rfl
  · rw [if_neg h,show (k == y.1)=false by simp; omega,cond_false,<-ih]
    cases eW (jH L) (.int .i64 k)<;>rfl
theorem KX {L:List (Int × Vl)} {k:Int} (h:∀ x ∈ L,x.1 < k):eW (jH L) (.int .i64 k)=none:=by
 induction L with
 | nil=>rfl
 | cons y L ih=>
  show eW (.int .i64 y.1 :: jH L) (.int .i64 k)=none
  rw [eW]
  show (bif k == y.1 then some 0 else (eW (jH L) (.int .i64 k)).map (· + 1))=none
  have:=h y (List.mem_cons_self ..)
  rw [show (k == y.1)=false by simp; omega,cond_false,ih fun x hx=>h x (List.mem_cons_of_mem _ hx)]; rfl
theorem UQ {L:List (Int × Vl)} {k:Int} (h:∀ x ∈ L,x.1 < k) (v:Vl):fA (jH L) (.int .i64 k)=jH (L ++ [(k,v)]):=by
 unfold fA
 rw [KX h]
 unfold jH
 rw [List.map_append]; rfl
theorem VQ {L:List (Int × Vl)} {k:Int} (h:∀ x ∈ L,x.1 < k) (v:Vl):fQ (jH L) (kQ L) (.int .i64 k) (.gs (aQ v))=kQ (L ++ [(k,v)]):=by
 unfold fQ
 rw [KX h]
 unfold kQ
 rw [List.map_append]; rfl
theorem VS {s:Sc} {t:Ty} {z:Vl} {K:S->Hp->Prop} (h1:s.fit) (h2:TyOk t) (hz:z=zF s 23 t) (hK:K (.va (.gs [.vl (.int .i64 z.k),.vl (.int .i64 z.n),.vl (.string z.s),.fz (z.l.map aQ),.fz (z.f.map bE)])) []) :
 C8 [.va (.gs [.vl (.int .i64 s.ver),.fz (s.es.map a7),.fz (s.ss.map aJ)]),.va (.gs [.vl (.int .i64 t.k),.vl (.int .i64 t.s),.vl (.string t.n),.fz (t.e.map aW)])] [] K:=by
 subst hz
 exact v6 h1 h2 (by rw [aK]; exact hK)
theorem VB (f:Nat->Option Nat) (v:Vl):(aQ v).map (C.ren f)=aQ v:=by rw [aK]; rfl
theorem gN (f:Nat->Option Nat) (L:List (Int × Vl)):(kQ L).map (A.ren f)=kQ L:=by
 unfold kQ
 rw [List.map_map]
 refine List.map_congr_left fun y _=>?_
 show A.gs ((aQ y.2).map (C.ren f))=_
 rw [VB]
theorem MO {s:Sc} {fs:List Fl} {L:List (Int × Vl)} {i:Nat} {f:Fl} (h:fs[i]? = some f):kY s (fs.take (i + 1)) L=kY s (fs.take i) L ++ GM s L f:=by
 unfold kY; rw [dV h,List.flatMap_append]; simp
structure DsP (N:Nat) (s:Sc) (u:St):Prop where
 d:Dg s
 f:s.fit
 t:∃ t:Ty,stOf s t=u
 n:∀ f ∈ u.fs,kJ s f.ty < N
def QZ (N:Nat):W.Spec:=fun av H K=>∃ (s:Sc) (u:St) (b:List UInt8),av=[.va (.gs (aI s)),.va (.gs (aJ u)),tS (mk b)]/\H=[]/\DsP N s u/\b.length<=1000000000/\K (.tu [.gs (aQ (lA (bY s N) s u.fs b).1),iA .i64 (lA (bY s N) s u.fs b).2]) []
theorem EW {N:Nat} {s:Sc} {u:St} {b:List UInt8} {K:S->Hp->Prop} (hp:DsP N s u) (hb:b.length<=1000000000) (hK:K (.tu [.gs (aQ (lA (bY s N) s u.fs b).1),iA .i64 (lA (bY s N) s u.fs b).2]) []) :
 QZ N [.va (.gs [.vl (.int .i64 s.ver),.fz (s.es.map a7),.fz (s.ss.map aJ)]),.va (.gs [.vl (.string u.nm),.fz (u.fs.map aT)]),tS (mk b)] [] K:=⟨s,u,b,rfl,rfl,hp,hb,hK⟩
noncomputable def F8 (N:Nat):cB:=[(53,.s AM),(54,.s AY),(55,.s (xF N)),(45,.s C8),(44,.f eqFn2)]
theorem ZZ (N:Nat):sp (F8 N) 53=AM:=rfl
theorem YF (N:Nat):sp (F8 N) 54=AY:=rfl
theorem ZL (N:Nat):sp (F8 N) 55=xF N:=rfl
theorem IZ (N:Nat):sp (F8 N) 45=C8:=rfl
theorem vK (N:Nat):lR (F8 N) 44=some eqFn2:=rfl
abbrev zvC:List C:=[.vl (.int .i64 0),.vl (.int .i64 0),.vl (.string (mk [])),.vl (.slice none 0 0),.vl (.slice none 0 0)]
theorem n1 {N:Nat} (hD:Meets Tryz.prog 55 (xF N)):Meets Tryz.prog 30 (QZ N):=by
 refine aD (Γ:=F8 N) Tryz.func30 aHX 3 (by rw [Tryz.ntmps30]; decide) (aC FR (aC oA (aC hD (aC QU (aH EX (aB _)))))) (fun av H K h=>by obtain ⟨_,_,_,rfl,_⟩:=h; rfl) ?_
 rintro av H K ⟨s,u,b,rfl,rfl,⟨hd,hs,⟨t,htu⟩,hfd⟩,hb,hK⟩
 have hnst:=hd.ni.stOf t
 have huo:=iI hs t
 rw [htu] at hnst huo
 have hus:∀ f ∈ u.fs,TySm f.ty:=by
  rw [<-htu]
  unfold stOf
  cases hf:fS s.ss t.n with
  | none=>exact fun f hf=>(List.not_mem_nil hf).elim
  | some w=>exact (hs.sm w (fJ hf).1).2
 have hul:=hnst.l
 have fin:∀ (v:Vl) (e:Int) (R:Hp),lA (bY s N) s u.fs b=(v,e)->W.Fin 0 K (.tu [.gs (aQ v),iA .i64 e]) R:=fun v e R h=>by
  rw [h] at hK; exact .sel [] (by simp) (by simp) rfl (.done (by rw [aK] at hK ⊢; simpa [go_sem] using hK))
 have fin2:∀ (l:List (Int × Vl)),lA (bY s N) s u.fs b=(.mk 6 0 (mk []) [] l,0)->K (.tu [.gs (aQ (.mk 6 0 (mk []) [] l)),iA .i64 0]) []:=fun l h=>by rw [h] at hK; exact hK
 clear hK
 unfold lA at fin fin2
 simp (maxSteps:=1000000) -dsimp only [go_sem,aI,aJ,ZG,V9]
 refine aU (α:=Nat × Int × List UInt8 × List (Int × Vl)) (fun z=>[(2,tS (mk z.2.2.1)),(3,.va (.c1 (.pt 0 0))),(4,.va (.c1 (.pt 1 0))),(6,.va (.c1 (.pt 2 0))),(8,.va (.c1 (.mp 3))),(9,iS .i64 z.2.1)])
  (fun z=>[.cells [.vl (.int .i64 s.ver),.fz (s.es.map a7),.fz (s.ss.map aJ)] 25,.cells [.vl (.string u.nm),.fz (u.fs.map aT)] 48,.cells zvC 29,.map (.int .i64) (jH z.2.2.2) (kQ z.2.2.2)])
  (fun z=>z.2.2.1.length<=z.1/\z.2.2.1.length<=b.length/\(∀ x ∈ z.2.2.2,x.1<=z.2.1/\VlOk x.2)/\hJ z.2.2.2 (eX (bY s N) s u.fs z.1 z.2.1 z.2.2.1)=eX (bY s N) s u.fs b.length 0 b) (fun z=>z.1) (b.length,0,b,[]) 4
  ⟨Nat.le_refl _,Nat.le_refl _,fun x h=>(by cases h),wI (R4 _ _ _)⟩ ?_ ?_ ?_
 · simp -dsimp only [go_sem]<;>simp
 · simp -dsimp only [go_sem]<;>simp [jH,kQ]
 rintro ⟨g,last,x,acc⟩ ⟨hg,hl,ha,ho⟩
 simp only at hg hl ha ho ⊢
 by_cases hb0:x=[]
 · subst hb0
   have e0:(([]:List UInt8) == [])=true:=rfl
   rw [FI,CC,List.append_nil] at ho
   rw [<-ho] at fin2
   have fin2:=fin2 (kY s u.fs acc) rfl
   simp (maxSteps:=1000000) -dsimp only [go_sem,e0,Bool.not_true]
   refine aA rfl (.done ?_)
   simp (maxSteps:=1000000) -dsimp only [go_sem,wQ]
   refine aA rfl (.done ?_)
   simp (maxSteps:=1000000) -dsimp only [go_sem,x9]
   clear ho hg hl e0
   refine cH (α:=Nat) (fun i=>[(3,.va (.c1 (.pt 0 0))),(6,.va (.c1 (.pt 2 0))),(8,.va (.c1 (.mp 3))),(16,.va (.c1 (.pt 4 0))),(92,.va (.c1 (.fz (u.fs.map aT)))),(93,iS .i64 u.fs.length),(94,iS .i64 i)])
    (fun i=>[.cells [.vl (.int .i64 s.ver),.fz (s.es.map a7),.fz (s.ss.map aJ)] 25,.cells [.vl (.string u.nm),.fz (u.fs.map aT)] 48,.cells zvC 29,.map (.int .i64) (jH acc) (kQ acc),
      .cells [.vl (.int .i64 6),.vl (.int .i64 0),.vl (.string (mk [])),.vl (.slice none 0 0),.sl 5 (kY s (u.fs.take i) acc).length] 29,.row ((kY s (u.fs.take i) acc).map bE) 76 6])
    (fun i=>i<=u.fs.length) (fun i=>u.fs.length - i) (.nilc 4 4 76 6 _ _ rfl rfl (iU 0 6 (Nat.zero_le _) ?_ ?_)) ?_
   · simp -dsimp only [go_sem]<;>simp
   · simp -dsimp only [go_sem]<;>simp [kY,gN]
   intro i hi
   have hli:=Nat.le_trans (FE s (u.fs.take i) acc) (List.length_take_le i u.fs)
   rcases a8 i u.fs.length with hlt | hge
   · have hg:decide ((i:Int) < (u.fs.length:Int))=true:=by simp; omega
     have hx:u.fs[i]? = some u.fs[i]:=aV hlt
     have q2:=aZ (row:=aT) hx
     have hfo:=(huo.fs _ (List.getElem_mem hlt)).ty
     have hnx:=MO (s:=s) (L:=acc) hx
     generalize u.fs[i]=f at *
     unfold GM at hnx
     have hmi:=I1 f.num acc
     simp (maxSteps:=1000000) -dsimp only [go_sem,hg,↓q2,aT]
     refine ⟨by omega,aA rfl (.done ?_)⟩
     cases hv:eC acc f.num with
     | some y=>
      rw [hv] at hmi hnx
      have hmi:dU (jH acc) (kQ acc) (.int .i64 f.num)=some (.gs [.vl (.int .i64 y.2.k),.vl (.int .i64 y.2.n),.vl (.string y.2.s),.fz (y.2.l.map aQ),.fz (y.2.f.map bE)]):=by rw [hmi,<-aK]; rfl
      have hnx:kY s (u.fs.take (i + 1)) acc=kY s (u.fs.take i) acc ++ [(f.num,y.2)]:=hnx
      simp (maxSteps:=1000000) -dsimp only [go_sem,qW,hmi,SJ]
      refine aA rfl (.done ?_)
      simp (maxSteps:=1000000) -dsimp only [go_sem,mQ,Bool.not_true,Bool.false_and]
      refine aA rfl (.done ?_)
      simp (maxSteps:=1000000) -dsimp only [go_sem,pT,Bool.not_true]
      refine aA rfl (.done ?_)
      simp (maxSteps:=1000000) -dsimp only [go_sem,qR,List.take_succ_cons,List.take_zero,List.length_cons,List.length_nil]
      refine ⟨by omega,by omega,aE (i + 1) 6 (by omega) (by omega) ?_ ?_⟩
      · simp -dsimp only [go_sem]<;>simp
      · simp -dsimp only [go_sem,hnx]<;>simp [gN,hM]
     | none=>
      rw [hv] at hmi hnx
      have hmi:dU (jH acc) (kQ acc) (.int .i64 f.num)=none:=hmi
      have hnx:kY s (u.fs.take (i + 1)) acc=kY s (u.fs.take i) acc ++ (bif f.opt then [] else [(f.num,zF s 23 f.ty)]):=hnx
      simp (maxSteps:=1000000) -dsimp only [go_sem,qW,hmi,SJ]
      refine aA rfl (.done ?_)
      cases hopt:f.opt with
      | true=>
       rw [hopt,cond_true,List.append_nil] at hnx
       simp (maxSteps:=1000000) -dsimp only [go_sem,mQ,Bool.not_false,Bool.true_and,hopt]
       refine ⟨by omega,aE (i + 1) 6 (by omega) (by omega) ?_ ?_⟩
       · simp -dsimp only [go_sem]<;>simp
       · simp -dsimp only [go_sem,hnx]<;>simp [gN]
      | false=>
       rw [hopt,cond_false] at hnx
       simp (maxSteps:=1000000) -dsimp only [go_sem,mQ,Bool.not_false,Bool.true_and,hopt]
       refine aA rfl (.done ?_)
       simp (maxSteps:=1000000) -dsimp only [go_sem,pT,Bool.not_false]
       refine aA rfl (.done ?_)
       simp (maxSteps:=1000000) -dsimp only [go_sem,w5,IZ,List.take_succ_cons,List.take_zero,List.drop_succ_cons,List.drop_zero,List.length_cons,List.length_nil]
       refine v6 hs hfo ?_
       generalize zF s 23 f.ty=w at *
       simp (maxSteps:=1000000) -dsimp only [go_sem,aK w]
       refine aA rfl (.done ?_)
       simp (maxSteps:=1000000) -dsimp only [go_sem,qR,List.take_succ_cons,List.take_zero,List.length_cons,List.length_nil]
       refine ⟨by omega,by omega,aE (i + 1) 6 (by omega) (by omega) ?_ ?_⟩
       · simp -dsimp only [go_sem]<;>simp
       · simp -dsimp only [go_sem,hnx]<;>simp [gN,hM]
   · have hg:decide ((i:Int) < (u.fs.length:Int))=false:=by simp; omega
     rw [List.take_of_length_le hge] at *
     simp (maxSteps:=1000000) -dsimp only [go_sem,hg]
     refine .pub 5 _ _ _ rfl (.sel [] (by simp) (by simp [cA]) rfl (.done ?_))
     rw [aK] at fin2
     simp -dsimp only [go_sem,cA]
     simpa [Vl.k,Vl.n,Vl.s,Vl.l,Vl.f] using fin2
 · have e0:(x == [])=false:=by simpa using hb0
   obtain ⟨g,rfl⟩:∃ k,g=k + 1:=⟨g - 1,by have:=List.length_pos_iff.2 hb0; omega⟩
   rw [rY hb0] at ho
   have hfl:=n7 x last
   have hfo:=H7 x last
   simp (maxSteps:=1000000) -dsimp only [go_sem,e0,Bool.not_false]
   refine aA rfl (.done ?_)
   simp (maxSteps:=1000000) -dsimp only [go_sem,EF,ZZ]
   refine GU (by omega) ?_
   generalize aS x last=z at *
   obtain ⟨⟨a,c⟩,r,e⟩:=z
   simp only at ho hfl hfo ⊢
   simp (maxSteps:=1000000) -dsimp only [go_sem]
   refine aA rfl (.done ?_)
   cases c1:e != 0 with
   | true=>
    rw [c1,cond_true,lW acc c1] at ho
    rw [<-ho] at fin
    simp only [c1,cond_true] at fin
    simp (maxSteps:=1000000) -dsimp only [go_sem,uP,c1]
    exact fin v0 _ _ rfl
   | false=>
   rw [c1,cond_false] at ho
   have hlt:=hfl.2.2 (gS c1)
   obtain ⟨ha1,ha2,ha3⟩:last < a/\0<=a/\a<=2147483647:=by
    rcases hfo with h | ⟨_,h1,h2,h3,_⟩
    · exact absurd (gS c1) h
    · exact ⟨h1,h2,h3⟩
   simp (maxSteps:=1000000) -dsimp only [go_sem,uP,c1]
   refine aA rfl (.done ?_)
   simp (maxSteps:=1000000) -dsimp only [go_sem,B5]
   refine aA rfl (.done ?_)
   simp (maxSteps:=1000000) -dsimp only [go_sem,EJ,YF]
   refine wT (t:=u) huo hus ?_
   cases hf:fF u.fs a with
   | none=>
    rw [hf] at ho
    simp only [Option.isSome_none,Bool.not_false,cond_true] at ho
    simp (maxSteps:=1000000) -dsimp only [go_sem,Option.getD_none,Option.isSome_none,wF]
    refine aA rfl (.done ?_)
    simp (maxSteps:=1000000) -dsimp only [go_sem,s4,Bool.not_false]
    refine aE (g,a,r,acc) 4 ⟨by simp only; omega,by simp only; omega,fun y hy=>⟨by have:=(ha y hy).1; simp only; omega,(ha y hy).2⟩,ho⟩ (by simp only; omega) ?_ ?_
    · simp -dsimp only [go_sem]<;>simp
    · simp -dsimp only [go_sem]<;>simp [gN]
   | some f=>
    obtain ⟨hfm,hfe⟩:=UL hf
    have hfo:=(huo.fs f hfm).ty
    have hfv:=hnst.v f hfm
    have hfN:=hfd f hfm
    have hvo:=pU hs hd N f.ty c hfo hfv (by omega)
    have hnew:∀ y ∈ acc,y.1 < a:=fun y hy=>by have:=(ha y hy).1; omega
    rw [hf] at ho
    simp only [Option.isSome_some,Bool.not_true,cond_false,Option.getD_some] at ho
    unfold BU at ho
    simp (maxSteps:=1000000) -dsimp only [go_sem,Option.getD_some,Option.isSome_some,aT]
    refine aA rfl (.done ?_)
    simp (maxSteps:=1000000) -dsimp only [go_sem,s4,Bool.not_true]
    refine aA rfl (.done ?_)
    simp (maxSteps:=1000000) -dsimp only [go_sem,xA,ZL]
    refine KN hd hs hfo hfv hfN (by omega) ?_
    generalize bY s N f.ty c=w at *
    obtain ⟨v,e2⟩:=w
    simp only at ho hvo ⊢
    simp (maxSteps:=1000000) -dsimp only [go_sem]
    refine aA rfl (.done ?_)
    cases d1:e2 != 0 with
    | true=>
     have d0:(e2 == 0)=false:=by simpa using uT d1
     rw [d1,cond_true,d1,cond_true,lW acc d1] at ho
     rw [<-ho] at fin
     simp only [d1,cond_true] at fin
     simp (maxSteps:=1000000) -dsimp only [go_sem,mR,gK,d0,Bool.false_and]
     refine aA rfl (.done ?_)
     simp (maxSteps:=1000000) -dsimp only [go_sem,gO,d1]
     exact fin v0 _ _ rfl
    | false=>
     have d0:=gS d1
     subst d0
     have e00:((0:Int) == 0)=true:=rfl
     have e20:((2:Int) != 0)=true:=rfl
     rw [d1,cond_false] at ho
     have hpk:=UQ hnew v
     have hpv:=VQ hnew v
     rw [aK v] at hpv
     have bad:(!f.opt && (dL v (zF s 23 f.ty) && (f.ty.k != 6 || c == [])))=true->∀ R:Hp,W.Fin 0 K (.tu [.gs (aQ v0),iA .i64 2]) R:=fun h R=>by
      rw [h,cond_true,e20,cond_true,lW acc e20] at ho
      rw [<-ho] at fin
      exact fin v0 2 R rfl
     have good:(!f.opt && (dL v (zF s 23 f.ty) && (f.ty.k != 6 || c == [])))=false->hJ (acc ++ [(a,v)]) (eX (bY s N) s u.fs g a r)=eX (bY s N) s u.fs b.length 0 b:=fun h=>by
      rw [h,cond_false,d1,cond_false,D1] at ho
      exact ho
     have hacc:∀ y ∈ acc ++ [(a,v)],y.1<=a/\VlOk y.2:=fun y hy=>by
      rcases List.mem_append.1 hy with hy | hy
      · exact ⟨by have:=hnew y hy; omega,(ha y hy).2⟩
      · obtain rfl:=List.mem_singleton.1 hy; exact ⟨Int.le_refl _,hvo⟩
     clear ho fin fin2
     cases hopt:f.opt with
     | true=>
      rw [hopt] at good
      have good:=good rfl
      simp (maxSteps:=1000000) -dsimp only [go_sem,mR,gK,e00,hopt,Bool.not_true,Bool.true_and,Bool.false_and]
      refine aA rfl (.done ?_)
      simp (maxSteps:=1000000) -dsimp only [go_sem,gO,d1]
      refine aA rfl (.done ?_)
      simp (maxSteps:=1000000) -dsimp only [go_sem,mH,hpk,hpv]
      refine aE (g,a,r,acc ++ [(a,v)]) 4 ⟨by simp only; omega,by simp only; omega,hacc,good⟩ (by simp only; omega) ?_ ?_
      · simp -dsimp only [go_sem]<;>simp
      · simp -dsimp only [go_sem]<;>simp [gN]
     | false=>
      rw [hopt] at good bad
      simp only [Bool.not_false,Bool.true_and] at good bad
      have hzo:=AE hs 23 f.ty hfo
      obtain ⟨z,hz⟩:∃ z,z=zF s 23 f.ty:=⟨_,rfl⟩
      rw [<-hz] at good bad hzo
      simp (maxSteps:=1000000) -dsimp only [go_sem,mR,e00,hopt,Bool.not_false,Bool.not_true,Bool.true_and,Bool.false_and,IZ]
      refine VS hs hfo hz ?_
      clear hz
      have k1:=dO hvo
      have k2:=gJ v
      have kz1:=dO hzo
      have kz2:=gJ z
      cases heq:dL v z with
      | false=>
       rw [heq] at good
       have good:=good rfl
       simp (maxSteps:=1000000) -dsimp only [go_sem,gK,vK,k1,k2,kz1,kz2,heq,Bool.true_and,Bool.false_and]
       refine aA rfl (.done ?_)
       simp (maxSteps:=1000000) -dsimp only [go_sem,gO,d1]
       refine aA rfl (.done ?_)
       simp (maxSteps:=1000000) -dsimp only [go_sem,mH,hpk,hpv]
       refine aE (g,a,r,acc ++ [(a,v)]) 4 ⟨by simp only; omega,by simp only; omega,hacc,good⟩ (by simp only; omega) ?_ ?_
       · simp -dsimp only [go_sem]<;>simp
       · simp -dsimp only [go_sem]<;>simp [gN]
      | true=>
       rw [heq] at good bad
       simp only [Bool.true_and] at good bad
       cases h6:f.ty.k != 6 with
       | true=>
        rw [h6] at bad
        have bad:=bad rfl
        simp (maxSteps:=1000000) -dsimp only [go_sem,gK,vK,k1,k2,kz1,kz2,heq,h6,Bool.true_and,Bool.true_or]
        refine aA rfl (.done ?_)
        simp (maxSteps:=1000000) -dsimp only [go_sem,gO,e20]
        exact bad _
       | false=>
        rw [h6] at good bad
        simp only [Bool.false_or] at good bad
        cases hc:c == [] with
        | true=>
         have bad:=bad hc
         simp (maxSteps:=1000000) -dsimp only [go_sem,gK,vK,k1,k2,kz1,kz2,heq,h6,hc,Bool.true_and,Bool.false_or]
         refine aA rfl (.done ?_)
         simp (maxSteps:=1000000) -dsimp only [go_sem,gO,e20]
         exact bad _
        | false=>
         have good:=good hc
         simp (maxSteps:=1000000) -dsimp only [go_sem,gK,vK,k1,k2,kz1,kz2,heq,h6,hc,Bool.true_and,Bool.false_or]
         refine aA rfl (.done ?_)
         simp (maxSteps:=1000000) -dsimp only [go_sem,gO,d1]
         refine aA rfl (.done ?_)
         simp (maxSteps:=1000000) -dsimp only [go_sem,mH,hpk,hpv]
         refine aE (g,a,r,acc ++ [(a,v)]) 4 ⟨by simp only; omega,by simp only; omega,hacc,good⟩ (by simp only; omega) ?_ ?_
         · simp -dsimp only [go_sem]<;>simp
         · simp -dsimp only [go_sem]<;>simp [gN]
def aA1 (N:Nat):W.Spec:=fun av H K=>∃ v:Vl,av=[.va (.gs (aQ v))]/\H=[]/\VlOk v/\v.h<=N/\K (.va (.gs (aQ v))) []
theorem BA {N:Nat} {v:Vl} {K:S->Hp->Prop} (h1:VlOk v) (h2:v.h<=N) (hK:K (.va (.gs [.vl (.int .i64 v.k),.vl (.int .i64 v.n),.vl (.string v.s),.fz (v.l.map aQ),.fz (v.f.map bE)])) []) :
 aA1 N [.va (.gs [.vl (.int .i64 v.k),.vl (.int .i64 v.n),.vl (.string v.s),.fz (v.l.map aQ),.fz (v.f.map bE)])] [] K:=⟨v,by rw [aK],rfl,h1,h2,by rw [aK]; exact hK⟩
theorem GK:∀ N,Meets Tryz.prog 81 (aA1 N)
 | 0=>⟨by kernel_rfl,by rintro xs vs E ro w K _ _ _ ⟨v,_,_,_,h,_⟩; have:=v.h_pos; omega⟩
 | N + 1=>by
  refine aD Tryz.func81 aIJ 1 (by rw [Tryz.ntmps81]; decide) (aC (GK N) (aB _)) (fun av H K h=>by obtain ⟨_,rfl,_⟩:=h; rfl) ?_
  rintro av H K ⟨v,rfl,rfl,hv,hh,hK⟩
  have hll:=hv.ll
  have hlf:=hv.lf
  rw [aK] at hK
  simp (maxSteps:=1000000) -dsimp only [go_sem,aK v,aAZ,aAA]
  refine cH (α:=Nat) (fun i=>[(1,.va (.c1 (.pt 0 0))),(2,.va (.c1 (.pt 1 0))),(4,.va (.c1 (.fz (v.f.map bE)))),(15,.va (.c1 (.fz (v.l.map aQ)))),(16,iS .i64 v.l.length),(17,iS .i64 i)])
   (fun i=>[.cells [.vl (.int .i64 v.k),.vl (.int .i64 v.n),.vl (.string v.s),.sl 2 i,.vl (.slice none 0 0)] 29,.cells [.vl (.int .i64 0),.vl (.int .i64 0),.vl (.string (mk [])),.vl (.slice none 0 0),.vl (.slice none 0 0)] 29,.row ((v.l.take i).map aQ) 29 5])
   (fun i=>i<=v.l.length) (fun i=>v.l.length - i) (.nilc 0 3 29 5 [.vl (.int .i64 v.k),.vl (.int .i64 v.n),.vl (.string v.s),.vl (.slice none 0 0),.vl (.slice none 0 0)] 29 rfl rfl (iU 0 3 (Nat.zero_le _) ?_ ?_)) ?_
  · simp -dsimp only [go_sem]<;>simp
  · simp -dsimp only [go_sem]<;>simp
  intro i hi
  have hz:(v.l.take i).length=i:=by rw [List.length_take]; omega
  rcases a8 i v.l.length with hlt | hge
  · have hg:decide ((i:Int) < (v.l.length:Int))=true:=by simp; omega
    have hx:v.l[i]? = some v.l[i]:=aV hlt
    have q1:=lJ hx
    have hxm:=List.getElem_mem hlt
    have hxo:=hv.l _ hxm
    have hxh:v.l[i].h<=N:=by have:=Vl.h_l hxm; omega
    have htk:=dV hx
    generalize v.l[i]=x at *
    simp (maxSteps:=1000000) -dsimp only [go_sem,hg,↓q1]
    refine ⟨by omega,BA hxo hxh ?_⟩
    simp (maxSteps:=1000000) -dsimp only [go_sem]
    refine ⟨hz,by omega,by omega,aE (i + 1) 3 (by omega) (by omega) ?_ ?_⟩
    · simp -dsimp only [go_sem]<;>simp
    · simp -dsimp only [go_sem,htk]<;>simp [aK x]
  · have hg:decide ((i:Int) < (v.l.length:Int))=false:=by simp; omega
    obtain rfl:i=v.l.length:=by omega
    rw [List.take_length]
    simp (maxSteps:=1000000) -dsimp only [go_sem,hg]
    clear hi hge hg hz
    refine cH (α:=Nat) (fun i=>[(1,.va (.c1 (.pt 0 0))),(2,.va (.c1 (.pt 1 0))),(29,.va (.c1 (.fz (v.f.map bE)))),(30,iS .i64 v.f.length),(31,iS .i64 i)])
     (fun i=>[.cells [.vl (.int .i64 v.k),.vl (.int .i64 v.n),.vl (.string v.s),.sl 2 v.l.length,.sl 3 i] 29,.cells [.vl (.int .i64 0),.vl (.int .i64 0),.vl (.string (mk [])),.vl (.slice none 0 0),.vl (.slice none 0 0)] 29,.row (v.l.map aQ) 29 5,.row ((v.f.take i).map bE) 76 6])
     (fun i=>i<=v.f.length) (fun i=>v.f.length - i) (.nilc 0 4 76 6 [.vl (.int .i64 v.k),.vl (.int .i64 v.n),.vl (.string v.s),.sl 2 v.l.length,.vl (.slice none 0 0)] 29 rfl rfl (iU 0 4 (Nat.zero_le _) ?_ ?_)) ?_
    · simp -dsimp only [go_sem]<;>simp
    · simp -dsimp only [go_sem]<;>simp
    intro i hi
    have hz:(v.f.take i).length=i:=by rw [List.length_take]; omega
    rcases a8 i v.f.length with hlt | hge
    · have hg:decide ((i:Int) < (v.f.length:Int))=true:=by simp; omega
      have hx:v.f[i]? = some v.f[i]:=aV hlt
      have q1:=gZ hx
      have hxm:=List.getElem_mem hlt
      have hxo:=hv.f _ hxm
      have hxh:v.f[i].2.h<=N:=by have:=Vl.h_f hxm; omega
      have htk:=dV hx
      generalize v.f[i]=x at *
      simp (maxSteps:=1000000) -dsimp only [go_sem,hg,↓q1,List.take_succ_cons,List.take_zero,List.length_cons,List.length_nil]
      refine ⟨by omega,BA hxo hxh ?_⟩
      simp (maxSteps:=1000000) -dsimp only [go_sem]
      refine ⟨hz,by omega,by omega,aE (i + 1) 4 (by omega) (by omega) ?_ ?_⟩
      · simp -dsimp only [go_sem]<;>simp
      · simp -dsimp only [go_sem,htk]<;>simp [hM x]
    · have hg:decide ((i:Int) < (v.f.length:Int))=false:=by simp; omega
      obtain rfl:i=v.f.length:=by omega
      rw [List.take_length]
      simp (maxSteps:=1000000) -dsimp only [go_sem,hg]
      refine .pub 2 _ _ _ rfl (.pub 3 _ _ _ rfl (.sel [] (by simp) (by simp [cA]) rfl (.done ?_)))
      simp -dsimp only [go_sem,cA]
      simpa using hK
abbrev XW:S:=.va (.c1 (.fn 118 [(false,[.pt 0 0])]))
abbrev nC (k:Int):B:=.cells [.vl (.int .i64 k)] 3
def OH:W.Spec:=fun av H K=>∃ (x:Int × Vl) (k:Int),av=[.va (.gs (GQ x)),.va (.c1 (.pt 0 0))]/\H=[nC k]/\K (bS (x.1 == k)) [nC k]
theorem TV {x:Int × Vl} {k:Int} {K:S->Hp->Prop} (hK:K (bS (x.1 == k)) [nC k]):OH [.va (.gs (GQ x)),.va (.c1 (.pt 0 0))] [nC k] K:=⟨x,k,rfl,rfl,hK⟩
theorem U0:Meets Tryz.prog 118 OH:=by
 refine aD Tryz.func118 aDT 2 (by rw [Tryz.ntmps118]; decide) (aB _) (fun av H K h=>by obtain ⟨_,_,rfl,_⟩:=h; rfl) ?_
 rintro av H K ⟨x,k,rfl,rfl,hK⟩
 simp -dsimp only [go_sem,GQ,O9,RM]
 exact .sel [0] (by simp) (by simp) rfl (.done (by simpa [go_sem] using hK))
def YJ:W.Spec:=fun av H K=>∃ (l:List (Int × Vl)) (k:Int),av=[.va (.c1 (.fz (l.map bE))),XW]/\H=[nC k]/\l.length<=9223372036854775807/\K (iS .i64 (gQ k l 0)) [nC k]
theorem ZY {l:List (Int × Vl)} {k:Int} {K:S->Hp->Prop} (h:l.length<=9223372036854775807) (hK:K (iS .i64 (gQ k l 0)) [nC k]):YJ [.va (.c1 (.fz (l.map bE))),XW] [nC k] K:=⟨l,k,rfl,rfl,h,hK⟩
theorem T4:Meets Tryz.prog 117 YJ:=by
 refine aD Tryz.func117 QV 2 (by rw [Tryz.ntmps117]; decide) (aC U0 (aB _)) (fun av H K h=>by obtain ⟨_,_,rfl,_⟩:=h; rfl) ?_
 rintro av H K ⟨l,k,rfl,rfl,hl,hK⟩
 simp -dsimp only [go_sem,HY,HF]
 refine aU (α:=Nat) (fun i=>[(0,.va (.c1 (.fz (l.map bE)))),(1,XW),(7,iS .i64 l.length),(8,iS .i64 i)]) (fun _=>[nC k])
  (fun i=>i<=l.length/\gQ k (l.drop i) i=gQ k l 0) (fun i=>l.length - i) 0 1 ⟨Nat.zero_le _,rfl⟩ ?_ ?_ ?_
 · simp -dsimp only [go_sem]<;>simp
 · simp -dsimp only [go_sem]<;>simp
 rintro i ⟨hi,ho⟩
 rcases a8 i l.length with hlt | hge
 · have hg:decide ((i:Int) < (l.length:Int))=true:=by simp; omega
   have hx:l[i]? = some l[i]:=aV hlt
   have q2:=gZ hx
   rw [List.drop_eq_getElem_cons hlt,gQ] at ho
   generalize l[i]=y at *
   simp -dsimp only [go_sem,hg,↓q2]
   refine ⟨by omega,TV ?_⟩
   cases hc:y.1 == k with
   | true=>
    rw [hc,bJ] at ho
    simp -dsimp only [go_sem]
    exact .sel [0] (by simp) (by simp) rfl (.done (by simpa [go_sem,ho] using hK))
   | false=>
    rw [hc,aX] at ho
    simp -dsimp only [go_sem]
    refine ⟨by omega,aE (i + 1) 1 ⟨by omega,ho⟩ (by omega) ?_ ?_⟩
    · simp -dsimp only [go_sem]<;>simp
    · simp -dsimp only [go_sem]<;>simp
 · have hg:decide ((i:Int) < (l.length:Int))=false:=by simp; omega
   have:l.drop i=[]:=List.drop_eq_nil_iff.2 (by omega)
   rw [this] at ho
   simp -dsimp only [go_sem,hg]
   exact .sel [0] (by simp) (by simp) rfl (.done (by rw [show gQ k l 0=-1 from ho.symm] at hK; simpa [go_sem] using hK))
theorem BT (k:Int):∀ (l:List (Int × Vl)) (i:Nat),(eC l k=none/\gQ k l i=-1)\/(∃ j x,l[j]? = some x/\eC l k=some x/\gQ k l i=((i + j:Nat):Int))
 | [],_=>.inl ⟨rfl,rfl⟩
 | y :: l,i=>by
  rw [gQ]
  unfold eC
  rw [List.find?_cons]
  by_cases h:y.1=k
  · rw [show (y.1 == k)=true by simpa using h,decide_eq_true h]
    exact .inr ⟨0,y,rfl,rfl,rfl⟩
  · rw [show (y.1 == k)=false by simpa using h,decide_eq_false h,cond_false]
    rcases BT k l (i + 1) with ⟨h1,h2⟩ | ⟨j,x,h1,h2,h3⟩
    · exact .inl ⟨h1,h2⟩
    · exact .inr ⟨j + 1,x,by simpa using h1,h2,by rw [h3]; congr 1; omega⟩
def AJ:List S->Prop:=fun av=>match av with
 | [.va (.gs r),.va (.c1 (.vl (.int .i64 _)))]=>nF r/\(C.vv r).k=6
 | _=>False
theorem nB {av:List S} (h:AJ av):∃ (v:Vl) (k:Int),av=[.va (.gs (aQ v)),iS .i64 k]/\VlOk v/\v.k=6:=by
 unfold AJ at h
 split at h
 · obtain ⟨⟨v,rfl,h1⟩,h2⟩:=h; rw [f7] at h2; exact ⟨v,_,rfl,h1,h2⟩
 · exact h.elim
noncomputable def RQ:List S->A:=fun av=>match av with
 | [.va (.gs r),.va (.c1 (.vl (.int .i64 k)))]=>iA .i64 (gQ k (C.vv r).f 0)
 | _=>.gs []
noncomputable def vxFn:Fun:=⟨AJ,RQ,fun av h=>by obtain ⟨v,k,rfl,_⟩:=nB h; trivial⟩
theorem LV:∀ av H K,vxFn.sp av H K->av.length=2:=fun av H K h=>by obtain ⟨v,k,rfl,_⟩:=nB h.1.1; rfl
attribute [go_sem] vxFn AJ RQ
theorem VK:Meets Tryz.prog 80 vxFn.sp:=by
 refine aD Tryz.func80 aI0 2 (by rw [Tryz.ntmps80]; decide) (aC T4 (aB _)) LV ?_
 rintro av H K ⟨⟨h,rfl⟩,hK⟩
 obtain ⟨v,k,rfl,hv,h6⟩:=nB h
 have hK:K (iS .i64 (gQ k (C.vv (aQ v)).f 0)) []:=hK
 rw [f7] at hK
 clear h
 have g6:(v.k != 6)=false:=by rw [h6]; rfl
 have hl:=hv.lf
 simp (maxSteps:=1000000) -dsimp only [go_sem,aK v,YX,XU,g6]
 refine ZY (by omega) ?_
 simp (maxSteps:=1000000) -dsimp only [go_sem]
 exact .sel [] (by simp) (by simp) rfl (.done (by simpa [go_sem] using hK))
theorem NX (N:Nat):Meets Tryz.prog 43 (fun av H K=>∃ (v:Vl) (k:Int),av=[.va (.gs (aQ v)),iS .i64 k]/\H=[]/\VlOk v/\v.k=6/\v.h<=N/\K (.tu [.gs (aQ (((eC v.f k).map (·.2)).getD default)),bA (eC v.f k).isSome]) []):=by
 refine aD Tryz.func43 aLM 2 (by rw [Tryz.ntmps43]; decide) (aH VK (aC (GK N) (aB _))) (fun av H K h=>by obtain ⟨_,_,rfl,_⟩:=h; rfl) ?_
 rintro av H K ⟨v,k,rfl,rfl,hv,h6,hh,hK⟩
 have k1:=dO hv
 have k2:=gJ v
 have k3:(v.k=6)=True:=eq_true h6
 have hl:=hv.lf
 rcases BT k v.f 0 with ⟨e1,e2⟩ | ⟨j,x,e0,e1,e2⟩
 · rw [e1] at hK
   have g0:decide ((-1:Int) < 0)=true:=rfl
   simp (maxSteps:=1000000) -dsimp only [go_sem,aK v,MS,MU,k1,k2,k3,e2]
   refine aA rfl (.done ?_)
   simp (maxSteps:=1000000) -dsimp only [go_sem,uM,g0]
   exact .sel [] (by simp) (by simp) rfl (.done (by simpa [go_sem,GA] using hK))
 · rw [e1] at hK
   rw [Nat.zero_add] at e2
   have hj:=(bC.1 e0).1
   have g0:decide (((j:Nat):Int) < 0)=false:=by simp
   have q2:=gZ e0
   have hxm:=b6 e0
   simp (maxSteps:=1000000) -dsimp only [go_sem,aK v,MS,MU,k1,k2,k3,e2]
   refine aA rfl (.done ?_)
   simp (maxSteps:=1000000) -dsimp only [go_sem,uM,g0,↓q2,List.take_succ_cons,List.take_zero,List.length_cons,List.length_nil]
   refine ⟨by omega,BA (hv.f x hxm) (by have:=Vl.h_f hxm; omega) ?_⟩
   simp (maxSteps:=1000000) -dsimp only [go_sem]
   exact .sel [] (by simp) (by simp) rfl (.done (by simpa [go_sem,aK x.2] using hK))
theorem T3:Meets Tryz.prog 43 WC:=dX (0:Nat) NX fun av H K h=>by
 obtain ⟨v,k,rfl,e,hv,h6,hK⟩:=h
 exact ⟨v.h,v,k,rfl,e,hv,h6,Nat.le_refl _,hK⟩
def AV (P:Sc->St->Vl->Prop):List S->Prop:=fun av=>match av with
 | [.va (.gs r),.va (.gs q),.va (.gs p)]=>lD r/\N8 q/\nF p/\P (C.sc r) (C.st q) (C.vv p)
 | _=>False
theorem nT {P:Sc->St->Vl->Prop} {av:List S} (h:AV P av):∃ s t v,av=[.va (.gs (aI s)),.va (.gs (aJ t)),.va (.gs (aQ v))]/\s.fit/\t.ok/\VlOk v/\P s t v:=by
 unfold AV at h
 split at h
 · obtain ⟨⟨s,rfl,hs⟩,⟨t,rfl,ht⟩,⟨v,rfl,hv⟩,h⟩:=h
   rw [kF,B8,f7] at h
   exact ⟨s,t,v,rfl,hs,ht,hv,h⟩
 · exact h.elim
noncomputable def OP (f:Sc->St->Vl->Value):List S->A:=fun av=>match av with
 | [.va (.gs r),.va (.gs q),.va (.gs p)]=>.c1 (.vl (f (C.sc r) (C.st q) (C.vv p)))
 | _=>.gs []
noncomputable def BF (P:Sc->St->Vl->Prop) (f:Sc->St->Vl->Value):Fun:=⟨AV P,OP f,fun av h=>by obtain ⟨_,_,_,rfl,_⟩:=nT h; trivial⟩
theorem MK {P:Sc->St->Vl->Prop} {f:Sc->St->Vl->Value}:∀ av H K,(BF P f).sp av H K->av.length=3:=fun av H K h=>by obtain ⟨_,_,_,rfl,_⟩:=nT h.1.1; rfl
attribute [go_sem] BF AV OP
theorem UK {P:Sc->St->Vl->Prop} {f:Sc->St->Vl->Value} {av:List S} {H:Hp} {K:S->Hp->Prop} (h:(BF P f).sp av H K) :
 ∃ s t v,av=[.va (.gs (aI s)),.va (.gs (aJ t)),.va (.gs (aQ v))]/\H=[]/\s.fit/\t.ok/\VlOk v/\P s t v/\K (.va (.c1 (.vl (f s t v)))) []:=by
 obtain ⟨⟨h,rfl⟩,hK⟩:=h
 obtain ⟨s,t,v,rfl,hs,ht,hv,hp⟩:=nT h
 have:(BF P f).val [.va (.gs (aI s)),.va (.gs (aJ t)),.va (.gs (aQ v))]=.c1 (.vl (f s t v)):=by simp -dsimp only [go_sem]
 rw [this] at hK
 exact ⟨s,t,v,rfl,rfl,hs,ht,hv,hp,hK⟩
theorem ZW (t:St):C.st [.vl (.string t.nm),.fz (t.fs.map aT)]=t:=B8 t
theorem KO {t:St} (h:t.ok):N8 [.vl (.string t.nm),.fz (t.fs.map aT)]:=TP h
def A2:List S->Prop:=fun xs=>match xs with
 | [.va (.c1 (.vl (.string s)))]=>(bl s).length<=9223372036854775797
 | _=>False
theorem m3 {xs:List S} (h:A2 xs):∃ s,xs=[tS s]/\(bl s).length<=9223372036854775797:=by
 unfold A2 at h
 split at h
 · exact ⟨_,rfl,h⟩
 · exact h.elim
def OB (f:List UInt8->Value):Fun:=⟨A2,B9 f,fun xs h=>by obtain ⟨s,rfl,_⟩:=m3 h; trivial⟩
theorem LP {f:List UInt8->Value}:∀ xs H K,(OB f).sp xs H K->xs.length=1:=fun xs H K h=>by obtain ⟨s,rfl,_⟩:=m3 h.1.1; rfl
attribute [go_sem] OB A2
theorem GT:Meets Tryz.prog 47 (OB fun l=>.string (mk (rQ l))).sp:=by
 refine aD Tryz.func47 aH5 1 (by rw [Tryz.ntmps47]; decide) (aH uZ (aB _)) LP ?_
 rintro av H K ⟨⟨h,rfl⟩,hK⟩
 obtain ⟨s,rfl,hs⟩:=m3 h
 have hK:K (tS (mk (n0 (bl s).length ++ bl s))) []:=hK
 have hl:=iM (bl s).length
 simp (maxSteps:=1000000) -dsimp only [go_sem,Y5,aBL,oD,oU,iE]
 exact ⟨by omega,.done hK⟩
structure EsP (N:Nat) (s:Sc) (u:St) (v:Vl):Prop where
 d:Dg s
 n:N<=8
 h:∀ x ∈ v.f,x.2.h<=N
 t:∃ t:Ty,TyOk t/\(t.k == 6)=true/\stOf s t=u/\cZ s t v=0
def KY (N:Nat) (s:Sc) (t:Ty) (v:Vl):Prop:=Dg s/\N<=8/\v.h<=N/\cZ s t v=0
noncomputable def yF (N:Nat):Fun:=gY (KY N) fun s t v=>.string (mk (cS s N t v))
noncomputable def G4 (N:Nat):Fun:=BF (EsP N) fun s u v=>.string (mk (f4 (cS s N) s u.fs v.f))
theorem N2 (R:Ty->Vl->List UInt8) (s:Sc) (fs:List Fl) (F:List (Int × Vl)) (i:Nat):(f4 R s (fs.take i) F).length<=(f4 R s fs F).length:=by
 have h:f4 R s fs F=f4 R s (fs.take i) F ++ f4 R s (fs.drop i) F:=by unfold f4; rw [<-List.flatMap_append,List.take_append_drop]
 rw [h,List.length_append]; omega
theorem MJ {R:Ty->Vl->List UInt8} {s:Sc} {fs:List Fl} {F:List (Int × Vl)} {i:Nat} {g:Fl} (h:fs[i]? = some g):f4 R s (fs.take (i + 1)) F=f4 R s (fs.take i) F ++ JC R s F g:=by
 unfold f4; rw [dV h,List.flatMap_append]; simp
theorem U6 {s:Sc} (hd:Dg s) {N:Nat} (hN:N<=8) {t:Ty} {v:Vl} (h6:(t.k == 6)=true) (h0:cZ s t v=0) (hh:∀ x ∈ v.f,x.2.h<=N):(f4 (cS s N) s (stOf s t).fs v.f).length<=4000000000000000000:=by
 obtain ⟨_,_,_,_,h2⟩:=(pX h0).st h6
 have hl:=(hd.ni.stOf t).l
 have hB:=s7 hN
 have h5:(f4 (cS s N) s (stOf s t).fs v.f).length<=(stOf s t).fs.length * (20 + eB N):=mJ fun g hg=>GO hd hg fun x hx=>jX hd N _ x.2 (hh x hx) (h2 x hx)
 have h6:(stOf s t).fs.length * (20 + eB N)<=16 * (20 + eB N):=Nat.mul_le_mul_right _ hl
 omega
theorem n6 {N:Nat} (hE:Meets Tryz.prog 48 (yF N).sp):Meets Tryz.prog 26 (G4 N).sp:=by
 refine aD Tryz.func26 aLY 3 (by rw [Tryz.ntmps26]; decide) (aC T3 (aC QU (aH EX (aH uZ (aH hE (aH GT (aB _))))))) MK ?_
 intro av H K h
 obtain ⟨s,u,v,rfl,rfl,hs,hu,hv,⟨hd,hN,hh,t,hto,h6,htu,h0⟩,hK⟩:=UK h
 clear h
 have hlen:=U6 hd hN h6 h0 hh
 have hc:=pX h0
 obtain ⟨_,_,_,_,hck⟩:=hc.st h6
 have hkk:v.k=6:=by rw [hc.kk]; exact eq_of_beq h6
 have hnst:=hd.ni.stOf t
 have hul:=hnst.l
 have hfl:∀ g ∈ u.fs,kN (stOf s t) g.num=g:=fun g hg=>F4 hd (by rw [htu]; exact hg)
 rw [htu] at hlen hck hnst hfl hul
 have k6:=fK hs
 have k7:=kB s
 simp (maxSteps:=1000000) -dsimp only [go_sem,aI,aJ,aK v,ZD,aA2]
 refine aU (α:=Nat) (fun i=>[(3,.va (.c1 (.pt 0 0))),(5,.va (.c1 (.pt 2 0))),(7,tS (mk (f4 (cS s N) s (u.fs.take i) v.f))),(13,.va (.c1 (.fz (u.fs.map aT)))),(14,iS .i64 u.fs.length),(15,iS .i64 i)])
  (fun _=>[.cells [.vl (.int .i64 s.ver),.fz (s.es.map a7),.fz (s.ss.map aJ)] 25,.cells [.vl (.string u.nm),.fz (u.fs.map aT)] 48,.cells [.vl (.int .i64 v.k),.vl (.int .i64 v.n),.vl (.string v.s),.fz (v.l.map aQ),.fz (v.f.map bE)] 29])
  (fun i=>i<=u.fs.length) (fun i=>u.fs.length - i) 0 3 (Nat.zero_le _) ?_ ?_ ?_
 · simp -dsimp only [go_sem]<;>simp [f4]
 · simp -dsimp only [go_sem]<;>simp
 intro i hi
 rcases a8 i u.fs.length with hlt | hge
 · have hg:decide ((i:Int) < (u.fs.length:Int))=true:=by simp; omega
   have hx:u.fs[i]? = some u.fs[i]:=aV hlt
   have q2:=aZ (row:=aT) hx
   have hgm:=List.getElem_mem hlt
   have hgo:=(hu.fs _ hgm).ty
   have hnx:=MJ (R:=cS s N) (s:=s) (F:=v.f) hx
   have hl1:=N2 (cS s N) s u.fs v.f (i + 1)
   have hgf:=hfl _ hgm
   generalize u.fs[i]=g at *
   rw [hnx] at hl1
   rw [XY] at hnx hl1
   unfold omG at hnx hl1
   simp (maxSteps:=1000000) -dsimp only [go_sem,hg,↓q2,aT]
   refine ⟨by omega,W2 hv hkk ?_⟩
   cases hvf:eC v.f g.num with
   | none=>
    rw [hvf] at hnx
    have hnx:f4 (cS s N) s (u.fs.take (i + 1)) v.f=f4 (cS s N) s (u.fs.take i) v.f:=by rw [hnx]; exact List.append_nil _
    simp (maxSteps:=1000000) -dsimp only [go_sem,Option.map_none,Option.getD_none,Option.isSome_none,GA]
    refine aA rfl (.done ?_)
    simp (maxSteps:=1000000) -dsimp only [go_sem,oF,Bool.false_and,Bool.not_false,Bool.not_true,Bool.true_or]
    refine ⟨by omega,aE (i + 1) 3 (by omega) (by omega) ?_ ?_⟩
    · simp -dsimp only [go_sem,hnx]<;>simp
    · simp -dsimp only [go_sem]<;>simp
   | some x=>
    obtain ⟨hxm,hxe⟩:=xM hvf
    have hxo:=hv.f x hxm
    have hxc:=hck x hxm
    rw [hxe,hgf] at hxc
    have hxh:=hh x hxm
    rw [hvf] at hnx hl1
    simp only [Option.isSome_some,Bool.not_true,Bool.false_or,Option.map_some,Option.getD_some] at hnx hl1 ⊢
    have k1:=dO hxo
    have k2:=gJ x.2
    have k4:=iX hgo
    have k5:=oO g.ty
    have k8:KY N s g.ty x.2=True:=eq_true ⟨hd,hN,hxh,hxc⟩
    have hvl:=iM g.num
    have k9:=jX hd N g.ty x.2 hxh hxc
    have k10:=s7 hN
    have k11:=mC (cS s N g.ty x.2)
    have k12:((cS s N g.ty x.2).length<=9223372036854775797)=True:=eq_true (by omega)
    simp (maxSteps:=1000000) -dsimp only [go_sem,aK x.2]
    refine aA rfl (.done ?_)
    cases ho:g.opt with
    | true=>
     simp (maxSteps:=1000000) -dsimp only [go_sem,oF,Bool.true_and,Bool.false_and,Bool.not_false,Bool.not_true,Bool.or_false,Bool.false_or]
     rw [ho] at hnx hl1
     simp only [Bool.not_true,Bool.false_and,cond_false,List.length_append] at hnx hl1
     refine aA rfl (.done ?_)
     simp (maxSteps:=1000000) -dsimp only [go_sem,vH,yF,oD,oU,iE,k1,k2,k4,k5,k6,k7,k8,k12,List.take_succ_cons,List.take_zero,List.length_cons,List.length_nil]
     refine ⟨by omega,by omega,by omega,aE (i + 1) 3 (by omega) (by omega) ?_ ?_⟩
     · simp -dsimp only [go_sem,hnx,k2,k5,k7,iE]<;>simp
     · simp -dsimp only [go_sem]<;>simp
    | false=>
     rw [ho] at hnx hl1
     simp only [Bool.not_false,Bool.true_and] at hnx hl1
     simp (maxSteps:=1000000) -dsimp only [go_sem,oF,Bool.true_and,Bool.false_and,Bool.not_false,Bool.not_true,Bool.or_false,Bool.false_or]
     refine v6 hs hgo ?_
     have hzo:=AE hs 23 g.ty hgo
     generalize zF s 23 g.ty=z at *
     have kz1:=dO hzo
     have kz2:=gJ z
     cases he:dL x.2 z with
     | true=>
      rw [he,cond_true,List.append_nil] at hnx
      simp (maxSteps:=1000000) -dsimp only [go_sem,aK z,k1,k2,kz1,kz2,he,List.take_succ_cons,List.take_zero,List.length_cons,List.length_nil]
      refine ⟨by omega,aE (i + 1) 3 (by omega) (by omega) ?_ ?_⟩
      · simp -dsimp only [go_sem,hnx]<;>simp
      · simp -dsimp only [go_sem]<;>simp
     | false=>
      rw [he] at hnx hl1
      simp only [cond_false,List.length_append] at hnx hl1
      simp (maxSteps:=1000000) -dsimp only [go_sem,aK z,k1,k2,kz1,kz2,he,List.take_succ_cons,List.take_zero,List.length_cons,List.length_nil]
      refine aA rfl (.done ?_)
      simp (maxSteps:=1000000) -dsimp only [go_sem,vH,yF,oD,oU,iE,k1,k2,k4,k5,k6,k7,k8,k12,List.take_succ_cons,List.take_zero,List.length_cons,List.length_nil]
      refine ⟨by omega,by omega,by omega,aE (i + 1) 3 (by omega) (by omega) ?_ ?_⟩
      · simp -dsimp only [go_sem,hnx,k2,k5,k7,iE]<;>simp
      · simp -dsimp only [go_sem]<;>simp
 · have hg:decide ((i:Int) < (u.fs.length:Int))=false:=by simp; omega
   rw [List.take_of_length_le hge] at *
   simp (maxSteps:=1000000) -dsimp only [go_sem,hg]
   refine .sel [] (by simp) (by simp) rfl (.done ?_)
   simp -dsimp only [go_sem]
   exact hK
abbrev I2 (o:List UInt8):B:=.cells [.vl (.string (mk o))] 9
def aAG (N:Nat):W.Spec:=fun av H K=>∃ (s:Sc) (t u:Ty) (v:Vl) (o:List UInt8),av=[.va (.gs (aQ v)),.va (.c1 (.pt 0 0)),.va (.c1 (.pt 1 0)),.va (.c1 (.pt 2 0))]/\H=[I2 o,.cells (aI s) 25,.cells (aW t) 42]/\
 t.e=[u]/\s.fit/\TyOk u/\VlOk v/\KY N s u v/\o.length<=4000000000000000000/\K (.tu []) [I2 (o ++ rQ (cS s N u v)),.cells (aI s) 25,.cells (aW t) 42]
theorem W0 {N:Nat} {s:Sc} {t u:Ty} {v:Vl} {o:List UInt8} {K:S->Hp->Prop} (h1:t.e=[u]) (h2:s.fit) (h3:TyOk u) (h4:VlOk v) (h5:KY N s u v) (h6:o.length<=4000000000000000000)
 (hK:K (.tu []) [I2 (o ++ rQ (cS s N u v)),.cells (aI s) 25,.cells [.vl (.int .i64 t.k),.vl (.int .i64 t.s),.vl (.string t.n),.fz (t.e.map aW)] 42]) :
 aAG N [.va (.gs [.vl (.int .i64 v.k),.vl (.int .i64 v.n),.vl (.string v.s),.fz (v.l.map aQ),.fz (v.f.map bE)]),.va (.c1 (.pt 0 0)),.va (.c1 (.pt 1 0)),.va (.c1 (.pt 2 0))]
  [I2 o,.cells [.vl (.int .i64 s.ver),.fz (s.es.map a7),.fz (s.ss.map aJ)] 25,.cells [.vl (.int .i64 t.k),.vl (.int .i64 t.s),.vl (.string t.n),.fz (t.e.map aW)] 42] K:=
 ⟨s,t,u,v,o,by rw [aK],by rw [aR]; rfl,h1,h2,h3,h4,h5,h6,by rw [aR]; exact hK⟩
theorem L2 {N:Nat} (hE:Meets Tryz.prog 48 (yF N).sp):Meets Tryz.prog 85 (aAG N):=by
 refine aD Tryz.func85 aII 4 (by rw [Tryz.ntmps85]; decide) (aH hE (aH GT (aB _))) (fun av H K h=>by obtain ⟨_,_,_,_,_,rfl,_⟩:=h; rfl) ?_
 rintro av H K ⟨s,t,u,v,o,rfl,rfl,he,hs,hu,hv,hp,ho,hK⟩
 have hd:=hp.1
 have k1:=dO hv
 have k2:=gJ v
 have k4:=iX hu
 have k5:=oO u
 have k6:=fK hs
 have k7:=kB s
 have k8:KY N s u v=True:=eq_true hp
 have k9:=jX hd N u v hp.2.2.1 hp.2.2.2
 have k10:=s7 hp.2.1
 have k11:=mC (cS s N u v)
 have k12:((cS s N u v).length<=9223372036854775797)=True:=eq_true (by omega)
 have z0:(0:Int) < ((1:Nat):Int):=by decide
 have z1:(0:Int)<=0:=by decide
 simp (maxSteps:=1000000) -dsimp only [go_sem,aI,aR t,aK v,he,aR u,aBC,ZU,yF,k1,k2,k4,k5,k6,k7,k8,k12,forall_eq',z0,z1,List.length_cons,List.length_nil,List.take_succ_cons,List.take_zero]
 refine ⟨by omega,.sel [0,1,2] (by simp) (by simp) rfl (.done ?_)⟩
 simp -dsimp only [aI,aR t,he,List.map_cons,List.map_nil,aR u] at hK
 simp -dsimp only [go_sem]
 exact hK
abbrev e1V:S:=.va (.c1 (.fn 85 [(false,[.pt 3 0]),(false,[.pt 0 0]),(false,[.pt 1 0])]))
theorem NQ (R:Ty->Vl->List UInt8) (t:Ty) (l:List Vl) (i:Nat):(jJ R t (l.take i)).length<=(jJ R t l).length:=by
 have h:jJ R t l=jJ R t (l.take i) ++ jJ R t (l.drop i):=by unfold jJ; rw [<-List.flatMap_append,List.take_append_drop]
 rw [h,List.length_append]; omega
theorem LX {R:Ty->Vl->List UInt8} {t:Ty} {l:List Vl} {i:Nat} {x:Vl} (h:l[i]? = some x):jJ R t (l.take (i + 1))=jJ R t (l.take i) ++ rQ (R t x):=by
 unfold jJ; rw [dV h,List.flatMap_append]; simp
theorem TX {s:Sc} (hd:Dg s) {N:Nat} (hN:N<=8) {u:Ty} {l:List Vl} (h:∀ x ∈ l,x.h<=N/\cZ s u x=0) (hl:l.length<=32):(jJ (cS s N) u l).length<=3000000000000000000:=by
 have hB:=s7 hN
 have h5:(jJ (cS s N) u l).length<=l.length * (10 + eB N):=mJ fun x hx=>by
  have:=jX hd N u x (h x hx).1 (h x hx).2
  have:=mC (cS s N u x)
  omega
 have h6:l.length * (10 + eB N)<=32 * (10 + eB N):=Nat.mul_le_mul_right _ hl
 omega
theorem r9:∀ N,Meets Tryz.prog 48 (yF N).sp
 | 0=>⟨by kernel_rfl,by rintro xs vs E ro w K _ _ _ h; obtain ⟨_,_,v,_,_,_,_,_,h,_⟩:=eU h; have:=v.h_pos; have h2:=h.2.2.1; omega⟩
 | N + 1=>by
  refine aD Tryz.func48 aLS 3 (by rw [Tryz.ntmps48]; decide) (aH uZ (aH aDM (aC (L2 (r9 N)) (aC iG (aH (n6 (r9 N)) (aB _)))))) gL ?_
  intro av H K h
  obtain ⟨s,t,v,rfl,rfl,hs,ht,hv,⟨hd,hN,hh,h0⟩,hK⟩:=eU h
  clear h
  have fin:∀ (x:List UInt8) (R:Hp),cS s (N + 1) t v=x->W.Fin 0 K (tS (mk x)) R:=fun x R h=>by
   rw [h] at hK; exact .sel [] (by simp) (by simp) rfl (.done (by simpa [go_sem] using hK))
  clear hK
  have hc:=pX h0
  have hvn:=hv.n
  have k1:=dO hv
  have k2:=gJ v
  have k6:=fK hs
  have k7:=kB s
  rw [BJ] at fin
  simp (maxSteps:=1000000) -dsimp only [go_sem,aI,aR t,aK v,XH,aBY]
  refine aA rfl (.done ?_)
  cases c1:t.k == 1 || (t.k == 3 || t.k == 7) with
  | true=>
   rw [c1,cond_true] at fin
   have go:∀ b1 b3 b7:Bool,(t.k == 1)=b1->(t.k == 3)=b3->(t.k == 7)=b7->(b1 || (b3 || b7))=true:=fun b1 b3 b7 h1 h3 h7=>by rw [<-h1,<-h3,<-h7]; exact c1
   cases q1:t.k == 1<;>cases q3:t.k == 3<;>cases q7:t.k == 7<;>first
    | exact absurd (go _ _ _ q1 q3 q7) (by decide)
    | (simp (maxSteps:=1000000) -dsimp only [go_sem,j9,q1,q3,q7,oD,oU,iE]
       exact fin _ _ rfl)
  | false=>
  have c1':=c1
  rw [Bool.or_eq_false_iff,Bool.or_eq_false_iff] at c1'
  rw [c1,cond_false] at fin
  cases c2:t.k == 2 with
  | true=>
   rw [c2,cond_true] at fin
   simp (maxSteps:=1000000) -dsimp only [go_sem,j9,c1'.1,c1'.2.1,c1'.2.2,c2,hvn]
   exact fin _ _ rfl
  | false=>
  rw [c2,cond_false] at fin
  cases c4:t.k == 4 with
  | true=>
   rw [c4,cond_true] at fin
   simp (maxSteps:=1000000) -dsimp only [go_sem,j9,c1'.1,c1'.2.1,c1'.2.2,c2,c4]
   have:=fin (bl v.s)
   rw [fR] at this
   exact this _ rfl
  | false=>
  rw [c4,cond_false] at fin
  cases c5:t.k == 5 with
  | true=>
   rw [c5,cond_true] at fin
   obtain ⟨u,he,hu⟩:=HZ hc.va c5
   have hto:=ht.e u (by rw [he]; exact List.mem_singleton.2 rfl)
   obtain ⟨_,_,_,e4,e5⟩:=hc.ls c5
   have h32:=(qS hc.va).2 c5
   rw [he] at fin e5
   simp only [List.headD_cons] at fin e5
   have hxs:∀ x ∈ v.l,x.h<=N/\cZ s u x=0:=fun x hx=>⟨by have:=Vl.h_l hx; omega,e5 x hx⟩
   have hlen:=TX hd (N:=N) (by omega) hxs (by omega)
   have hvl:=iM v.l.length
   simp (maxSteps:=1000000) -dsimp only [go_sem,j9,c1'.1,c1'.2.1,c1'.2.2,c2,c4,c5]
   refine aA rfl (.done ?_)
   simp (maxSteps:=1000000) -dsimp only [go_sem,wP,oD,oU,iE]
   refine aU (α:=Nat) (fun i=>[(3,.va (.c1 (.pt 0 0))),(4,.va (.c1 (.pt 1 0))),(7,.va (.c1 (.pt 3 0))),(8,e1V),(41,.va (.c1 (.fz (v.l.map aQ)))),(42,iS .i64 v.l.length),(43,iS .i64 i)])
    (fun i=>[.cells [.vl (.int .i64 s.ver),.fz (s.es.map a7),.fz (s.ss.map aJ)] 25,.cells [.vl (.int .i64 t.k),.vl (.int .i64 t.s),.vl (.string t.n),.fz (t.e.map aW)] 42,.cells [.vl (.int .i64 v.k),.vl (.int .i64 v.n),.vl (.string v.s),.fz (v.l.map aQ),.fz (v.f.map bE)] 29,I2 (n0 v.l.length ++ jJ (cS s N) u (v.l.take i))])
    (fun i=>i<=v.l.length) (fun i=>v.l.length - i) 0 4 (Nat.zero_le _) ?_ ?_ ?_
   · simp -dsimp only [go_sem]<;>simp
   · simp -dsimp only [go_sem]<;>simp [jJ]
   intro i hi
   have hlt1:=NQ (cS s N) u v.l i
   rcases a8 i v.l.length with hlt | hge
   · have hg:decide ((i:Int) < (v.l.length:Int))=true:=by simp; omega
     have hx:v.l[i]? = some v.l[i]:=aV hlt
     have q1:=lJ hx
     have hxm:=List.getElem_mem hlt
     have hxo:=hv.l _ hxm
     have hxp:=hxs _ hxm
     have hnx:=LX (R:=cS s N) (t:=u) hx
     generalize v.l[i]=x at *
     simp (maxSteps:=1000000) -dsimp only [go_sem,hg,↓q1]
     refine ⟨by omega,aA rfl (.done ?_)⟩
     simp (maxSteps:=1000000) -dsimp only [go_sem,w9]
     refine W0 he hs hto hxo ⟨hd,by omega,hxp.1,hxp.2⟩ (by rw [List.length_append]; omega) ?_
     simp (maxSteps:=1000000) -dsimp only [go_sem,aI]
     refine ⟨by omega,aE (i + 1) 4 (by omega) (by omega) ?_ ?_⟩
     · simp -dsimp only [go_sem]<;>simp
     · simp -dsimp only [go_sem,hnx]<;>simp
   · have hg:decide ((i:Int) < (v.l.length:Int))=false:=by simp; omega
     rw [List.take_of_length_le hge] at *
     simp (maxSteps:=1000000) -dsimp only [go_sem,hg]
     refine aA rfl (.done ?_)
     simp (maxSteps:=1000000) -dsimp only [go_sem,xY]
     exact fin _ _ rfl
  | false=>
   rw [c5,cond_false] at fin
   have c6:(t.k == 6)=true:=P9 hc.va c1'.1 (by rw [c2,c1'.2.1,c1'.2.2]; rfl) c4 c5
   obtain ⟨_,_,_,_,e5⟩:=hc.st c6
   have hst:=iI hs t
   have k4:=KO hst
   have k5:=ZW (stOf s t)
   have k8:EsP N s (stOf s t) v=True:=eq_true ⟨hd,by omega,fun x hx=>by have:=Vl.h_f hx; omega,t,ht,c6,rfl,h0⟩
   simp (maxSteps:=1000000) -dsimp only [go_sem,j9,c1'.1,c1'.2.1,c1'.2.2,c2,c4,c5]
   refine aA rfl (.done ?_)
   simp (maxSteps:=1000000) -dsimp only [go_sem,vV]
   refine jY hs ?_
   rw [show (fS s.ss t.n).getD default=stOf s t from rfl]
   generalize stOf s t=w at *
   simp (maxSteps:=1000000) -dsimp only [go_sem,aJ]
   refine aA rfl (.done ?_)
   simp (maxSteps:=1000000) -dsimp only [go_sem,wH,G4,k1,k2,k4,k5,k6,k7,k8]
   exact fin _ _ rfl
abbrev fY (nm:ByteArray):Ty:=.mk 6 0 nm []
theorem aBA {nm:ByteArray} (h:nm.size<=9223372036854775807):TyOk (fY nm):=.mk ⟨by decide,by decide⟩ ⟨by decide,by decide⟩ h (Nat.zero_le _) fun t h=>(by cases h)
def zT (s:Sc) (nm:ByteArray):St × Int:=bif bP s != 0 then (default,bP s) else bif !(cK s.ss nm) then (default,6) else (stOf s (fY nm),0)
def WP:W.Spec:=fun av H K=>∃ (s:Sc) (nm:ByteArray),av=[.va (.gs (aI s)),tS nm]/\H=[]/\s.fit/\K (.tu [.gs (aJ (zT s nm).1),iA .i64 (zT s nm).2]) []
theorem KM {s:Sc} {nm:ByteArray} {K:S->Hp->Prop} (h:s.fit) (hK:K (.tu [.gs (aJ (zT s nm).1),iA .i64 (zT s nm).2]) []):WP [.va (.gs [.vl (.int .i64 s.ver),.fz (s.es.map a7),.fz (s.ss.map aJ)]),tS nm] [] K:=⟨s,nm,rfl,rfl,h,hK⟩
theorem nH:aJ default=[.vl (.string (mk [])),.fz []]:=rfl
theorem GB:Meets Tryz.prog 23 WP:=by
 refine aD Tryz.func23 aLU 2 (by rw [Tryz.ntmps23]; decide) (aH ZA (aC iG (aB _))) (fun av H K h=>by obtain ⟨_,_,rfl,_⟩:=h; rfl) ?_
 rintro av H K ⟨s,nm,rfl,rfl,hs,hK⟩
 have fin:∀ (u:St) (e:Int) (R:Hp),zT s nm=(u,e)->W.Fin 0 K (.tu [.gs (aJ u),iA .i64 e]) R:=fun u e R h=>by
  rw [h] at hK; exact .sel [] (by simp) (by simp) rfl (.done (by simpa [go_sem,aJ] using hK))
 clear hK
 unfold zT at fin
 have k6:=fK hs
 have k7:=kB s
 simp (maxSteps:=1000000) -dsimp only [go_sem,aI,ZM,ZN,k6,k7]
 refine aA rfl (.done ?_)
 cases c1:bP s != 0 with
 | true=>
  rw [c1,cond_true] at fin
  simp (maxSteps:=1000000) -dsimp only [go_sem,tH,c1]
  exact fin _ _ _ rfl
 | false=>
 rw [c1,cond_false] at fin
 simp (maxSteps:=1000000) -dsimp only [go_sem,tH,c1]
 refine aA rfl (.done ?_)
 simp (maxSteps:=1000000) -dsimp only [go_sem,B0]
 refine jY hs ?_
 rw [show (fS s.ss nm).getD default=stOf s (fY nm) from rfl]
 generalize stOf s (fY nm)=u at *
 simp (maxSteps:=1000000) -dsimp only [go_sem,aJ]
 refine aA rfl (.done ?_)
 cases c2:cK s.ss nm with
 | false=>
  rw [c2,Bool.not_false,cond_true] at fin
  simp (maxSteps:=1000000) -dsimp only [go_sem,s9,Bool.not_false]
  exact fin _ _ _ rfl
 | true=>
  rw [c2,Bool.not_true,cond_false] at fin
  simp (maxSteps:=1000000) -dsimp only [go_sem,s9,Bool.not_true]
  exact fin _ _ _ rfl
def XQ:W.Spec:=fun av H K=>∃ nm:ByteArray,av=[tS nm]/\H=[]/\K (.va (.gs (aW (fY nm)))) []
theorem K3 {nm:ByteArray} {K:S->Hp->Prop} (hK:K (.va (.gs (aW (fY nm)))) []):XQ [tS nm] [] K:=⟨nm,rfl,rfl,hK⟩
theorem EQ:Meets Tryz.prog 25 XQ:=by
 refine aD Tryz.func25 aLO 1 (by rw [Tryz.ntmps25]; decide) (aB _) (fun av H K h=>by obtain ⟨_,rfl,_⟩:=h; rfl) ?_
 rintro av H K ⟨nm,rfl,rfl,hK⟩
 simp (maxSteps:=1000000) -dsimp only [go_sem,aBT,WZ]
 exact .sel [] (by simp) (by simp) rfl (.done (by simpa [go_sem,aR,Ty.k,Ty.s,Ty.n,Ty.e] using hK))
def DK:W.Spec:=fun av H K=>∃ (s:Sc) (nm:ByteArray) (v:Vl),av=[.va (.gs (aI s)),tS nm,.va (.gs (aQ v))]/\H=[]/\s.fit/\nm.size<=9223372036854775807/\VlOk v/\K (.tu [tA (mk (C1 s nm v).1),iA .i64 (C1 s nm v).2]) []
theorem ZS {s:Sc} {nm:ByteArray} {v:Vl} {K:S->Hp->Prop} (h1:s.fit) (h2:nm.size<=9223372036854775807) (h3:VlOk v) (hK:K (.tu [tA (mk (C1 s nm v).1),iA .i64 (C1 s nm v).2]) []) :
 DK [.va (.gs [.vl (.int .i64 s.ver),.fz (s.es.map a7),.fz (s.ss.map aJ)]),tS nm,.va (.gs [.vl (.int .i64 v.k),.vl (.int .i64 v.n),.vl (.string v.s),.fz (v.l.map aQ),.fz (v.f.map bE)])] [] K:=⟨s,nm,v,by rw [aK]; rfl,rfl,h1,h2,h3,hK⟩
theorem VG:Meets Tryz.prog 9 DK:=by
 refine aD Tryz.func9 ok9 3 (by rw [Tryz.ntmps9]; decide) (aC GB (aC EQ (aH T6 (aH (n6 (r9 8)) (aB _))))) (fun av H K h=>by obtain ⟨_,_,_,rfl,_⟩:=h; rfl) ?_
 rintro av H K ⟨s,nm,v,rfl,rfl,hs,hnm,hv,hK⟩
 have fin:∀ (x:List UInt8) (e:Int) (R:Hp),C1 s nm v=(x,e)->W.Fin 0 K (.tu [tA (mk x),iA .i64 e]) R:=fun x e R h=>by
  rw [h] at hK; exact .sel [] (by simp) (by simp) rfl (.done (by simpa [go_sem] using hK))
 clear hK
 unfold C1 at fin
 have hty:=aBA hnm
 have k1:=dO hv
 have k2:=gJ v
 have k4:=iX hty
 have k5:=oO (fY nm)
 have k6:=fK hs
 have k7:=kB s
 simp (maxSteps:=1000000) -dsimp only [go_sem,aI,aK v,pc9,rs9]
 refine KM hs ?_
 have hch:zT s nm=bif bP s != 0 then (default,bP s) else bif !(cK s.ss nm) then (default,6) else (stOf s (fY nm),0):=rfl
 have hst:=iI hs (fY nm)
 cases c1:bP s != 0 with
 | true=>
  rw [c1,cond_true] at fin hch
  rw [hch]
  simp (maxSteps:=1000000) -dsimp only [go_sem,nH]
  refine aA rfl (.done ?_)
  simp (maxSteps:=1000000) -dsimp only [go_sem,pC,c1]
  exact fin _ _ _ rfl
 | false=>
 have hd:=O0 hs (gS c1)
 rw [c1,cond_false] at fin hch
 cases c2:cK s.ss nm with
 | false=>
  rw [c2,Bool.not_false,cond_true] at fin hch
  rw [hch]
  simp (maxSteps:=1000000) -dsimp only [go_sem,nH]
  refine aA rfl (.done ?_)
  have g:((6:Int) != 0)=true:=rfl
  simp (maxSteps:=1000000) -dsimp only [go_sem,pC,g]
  exact fin _ _ _ rfl
 | true=>
 rw [c2,Bool.not_true,cond_false] at fin hch
 rw [hch]
 cases c3:lB s (fY nm) v != 0 with
 | true=>
  rw [c3,cond_true] at fin
  generalize stOf s (fY nm)=w at *
  simp (maxSteps:=1000000) -dsimp only [go_sem,aJ]
  refine aA rfl (.done ?_)
  simp (maxSteps:=1000000) -dsimp only [go_sem,pC,bne_self_eq_false]
  refine aA rfl (.done ?_)
  simp (maxSteps:=1000000) -dsimp only [go_sem,A5]
  refine K3 ?_
  simp (maxSteps:=1000000) -dsimp only [go_sem,aR (fY nm),k1,k2,k4,k5,k6,k7,c3]
  exact fin _ _ _ rfl
 | false=>
  rw [c3,cond_false] at fin
  have hck:=gS c3
  have h0:=(CD hck).1
  have hh:=aJH hck
  have q4:=KO hst
  have q5:=ZW (stOf s (fY nm))
  have q8:EsP 8 s (stOf s (fY nm)) v=True:=eq_true ⟨hd,Nat.le_refl _,fun x hx=>by have:=Vl.h_f hx; omega,fY nm,hty,rfl,rfl,h0⟩
  generalize stOf s (fY nm)=w at *
  simp (maxSteps:=1000000) -dsimp only [go_sem,aJ]
  refine aA rfl (.done ?_)
  simp (maxSteps:=1000000) -dsimp only [go_sem,pC,bne_self_eq_false]
  refine aA rfl (.done ?_)
  simp (maxSteps:=1000000) -dsimp only [go_sem,A5]
  refine K3 ?_
  simp (maxSteps:=1000000) -dsimp only [go_sem,aR (fY nm),k1,k2,k4,k5,k6,k7,c3]
  refine aA rfl (.done ?_)
  cases c4:decide (2000 < ((f4 (cS s 8) s w.fs v.f).length:Int)) with
  | true=>
   rw [c4,cond_true] at fin
   simp (maxSteps:=1000000) -dsimp only [go_sem,z8,G4,k1,k2,q4,q5,k6,k7,q8,c4]
   exact fin _ _ _ rfl
  | false=>
   rw [c4,cond_false] at fin
   simp (maxSteps:=1000000) -dsimp only [go_sem,z8,G4,k1,k2,q4,q5,k6,k7,q8,c4]
   exact fin _ _ _ rfl
theorem sB:∀ N,Meets Tryz.prog 55 (xF N)
 | 0=>⟨by kernel_rfl,by rintro xs vs E ro w K _ _ _ ⟨s,t,_,_,_,_,_,_,_,h,_⟩; have:=IS s t; omega⟩
 | N + 1=>by
  refine aD Tryz.func55 aLB 3 (by rw [Tryz.ntmps55]; decide) (aC EP (aC z6 (aC (EO (sB N)) (aC iG (aC (n1 (sB N)) (aB _)))))) (fun av H K h=>by obtain ⟨_,_,_,rfl,_⟩:=h; rfl) ?_
  rintro av H K ⟨s,t,b,rfl,rfl,hd,hs,ht,hv,hf,hb,hK⟩
  have fin:∀ (v:Vl) (e:Int) (R:Hp),bY s (N + 1) t b=(v,e)->W.Fin 0 K (.tu [.gs [.vl (.int .i64 v.k),.vl (.int .i64 v.n),.vl (.string v.s),.fz (v.l.map aQ),.fz (v.f.map bE)],iA .i64 e]) R:=fun v e R h=>by
   rw [h] at hK; exact .sel [] (by simp) (by simp) rfl (.done (by rw [aK] at hK; simpa [go_sem] using hK))
  clear hK
  rw [CU] at fin
  simp (maxSteps:=1000000) -dsimp only [go_sem,aI,aR t,aA4,WJ]
  refine aA rfl (.done ?_)
  cases c1:t.k == 1 with
  | true=>
   rw [c1,cond_true] at fin
   simp (maxSteps:=1000000) -dsimp only [go_sem,i5,c1]
   refine aB2 (by omega) ?_
   generalize rB b=w at *
   obtain ⟨v,e⟩:=w
   simp (maxSteps:=1000000) -dsimp only [go_sem,aK v]
   exact fin _ _ _ rfl
  | false=>
  rw [c1,cond_false] at fin
  cases c2:t.k == 2 || (t.k == 3 || t.k == 7) with
  | true=>
   rw [c2,cond_true] at fin
   have go:∀ b2 b3 b7:Bool,(t.k == 2)=b2->(t.k == 3)=b3->(t.k == 7)=b7->(b2 || (b3 || b7))=true:=fun b2 b3 b7 h1 h3 h7=>by rw [<-h1,<-h3,<-h7]; exact c2
   cases q2:t.k == 2<;>cases q3:t.k == 3<;>cases q7:t.k == 7<;>first
    | exact absurd (go _ _ _ q2 q3 q7) (by decide)
    | (simp (maxSteps:=1000000) -dsimp only [go_sem,i5,c1,q2,q3,q7]
       refine XB hd hs ht hv c2 (by omega) ?_
       generalize rN s t b=w at *
       obtain ⟨v,e⟩:=w
       simp (maxSteps:=1000000) -dsimp only [go_sem,aK v]
       exact fin _ _ _ rfl)
  | false=>
  have c2':=c2
  rw [Bool.or_eq_false_iff,Bool.or_eq_false_iff] at c2'
  rw [c2,cond_false] at fin
  cases c4:t.k == 4 with
  | true=>
   rw [c4,cond_true] at fin
   unfold QK at fin
   cases d:decide (t.s < (b.length:Int)) with
   | true=>
    rw [d,cond_true] at fin
    simp (maxSteps:=1000000) -dsimp only [go_sem,i5,c1,c2'.1,c2'.2.1,c2'.2.2,c4,d]
    exact fin v0 _ _ rfl
   | false=>
    rw [d,cond_false] at fin
    simp (maxSteps:=1000000) -dsimp only [go_sem,i5,c1,c2'.1,c2'.2.1,c2'.2.2,c4,d]
    exact fin (.mk 4 0 (mk b) [] []) _ _ rfl
  | false=>
  rw [c4,cond_false] at fin
  cases c5:t.k == 5 with
  | true=>
   rw [c5,cond_true] at fin
   simp (maxSteps:=1000000) -dsimp only [go_sem,i5,c1,c2'.1,c2'.2.1,c2'.2.2,c4,c5]
   refine aB8 hd hs ht hv c5 hf hb ?_
   generalize jK (bY s N (t.e.headD default)) t.s b=w at *
   obtain ⟨v,e⟩:=w
   simp (maxSteps:=1000000) -dsimp only [go_sem,aK v]
   exact fin _ _ _ rfl
  | false=>
   rw [c5,cond_false] at fin
   have c6:=P9 hv c1 c2 c4 c5
   have hst:=HM hd hv c6
   have hfd:=JP (s:=s) c6
   have hp:DsP N s (stOf s t):=⟨hd,hs,⟨t,rfl⟩,fun f hf=>by have:=hst.2.2 f hf; omega⟩
   simp (maxSteps:=1000000) -dsimp only [go_sem,i5,c1,c2'.1,c2'.2.1,c2'.2.2,c4,c5]
   refine aA rfl (.done ?_)
   simp (maxSteps:=1000000) -dsimp only [go_sem,xB]
   refine jY hs ?_
   rw [show (fS s.ss t.n).getD default=stOf s t from rfl]
   generalize stOf s t=u at *
   simp (maxSteps:=1000000) -dsimp only [go_sem,aJ]
   refine aA rfl (.done ?_)
   simp (maxSteps:=1000000) -dsimp only [go_sem,x8]
   refine EW hp hb ?_
   generalize lA (bY s N) s u.fs b=w at *
   obtain ⟨v,e⟩:=w
   simp (maxSteps:=1000000) -dsimp only [go_sem,aK v]
   exact fin _ _ _ rfl
def C6:W.Spec:=fun av H K=>∃ (s:Sc) (nm:ByteArray) (b:List UInt8),av=[.va (.gs (aI s)),tS nm,tS (mk b)]/\H=[]/\s.fit/\b.length<=9223372036854775807/\K (.tu [.gs (aQ (mN s nm b).1),iA .i64 (mN s nm b).2]) []
theorem XG {s:Sc} {nm:ByteArray} {b:List UInt8} {K:S->Hp->Prop} (h1:s.fit) (h2:b.length<=9223372036854775807)
 (hK:K (.tu [.gs [.vl (.int .i64 (mN s nm b).1.k),.vl (.int .i64 (mN s nm b).1.n),.vl (.string (mN s nm b).1.s),.fz ((mN s nm b).1.l.map aQ),.fz ((mN s nm b).1.f.map bE)],iA .i64 (mN s nm b).2]) []) :
 C6 [.va (.gs [.vl (.int .i64 s.ver),.fz (s.es.map a7),.fz (s.ss.map aJ)]),tS nm,tS (mk b)] [] K:=⟨s,nm,b,rfl,rfl,h1,h2,by rw [aK]; exact hK⟩
theorem U8:Meets Tryz.prog 12 C6:=by
 refine aD Tryz.func12 aLL 3 (by rw [Tryz.ntmps12]; decide) (aC GB (aC (n1 (sB 8)) (aB _))) (fun av H K h=>by obtain ⟨_,_,_,rfl,_⟩:=h; rfl) ?_
 rintro av H K ⟨s,nm,b,rfl,rfl,hs,hb,hK⟩
 have fin:∀ (v:Vl) (e:Int) (R:Hp),mN s nm b=(v,e)->W.Fin 0 K (.tu [.gs [.vl (.int .i64 v.k),.vl (.int .i64 v.n),.vl (.string v.s),.fz (v.l.map aQ),.fz (v.f.map bE)],iA .i64 e]) R:=fun v e R h=>by
  rw [h] at hK; exact .sel [] (by simp) (by simp) rfl (.done (by rw [aK] at hK; simpa [go_sem] using hK))
 clear hK
 unfold mN at fin
 simp (maxSteps:=1000000) -dsimp only [go_sem,aI,aA3,YQ]
 refine KM hs ?_
 have hch:zT s nm=bif bP s != 0 then (default,bP s) else bif !(cK s.ss nm) then (default,6) else (stOf s (fY nm),0):=rfl
 cases c1:bP s != 0 with
 | true=>
  rw [c1,cond_true] at fin hch
  rw [hch]
  simp (maxSteps:=1000000) -dsimp only [go_sem,nH]
  refine aA rfl (.done ?_)
  simp (maxSteps:=1000000) -dsimp only [go_sem,mL,c1]
  exact fin v0 _ _ rfl
 | false=>
 have hd:=O0 hs (gS c1)
 rw [c1,cond_false] at fin hch
 cases c2:cK s.ss nm with
 | false=>
  rw [c2,Bool.not_false,cond_true] at fin hch
  rw [hch]
  simp (maxSteps:=1000000) -dsimp only [go_sem,nH]
  refine aA rfl (.done ?_)
  have g:((6:Int) != 0)=true:=rfl
  simp (maxSteps:=1000000) -dsimp only [go_sem,mL,g]
  exact fin v0 _ _ rfl
 | true=>
 rw [c2,Bool.not_true,cond_false] at fin hch
 rw [hch]
 obtain ⟨hfd,hv⟩:=ZQ hd c2
 have hst:=HM hd hv rfl
 have hp:DsP 8 s (stOf s (fY nm)):=⟨hd,hs,⟨fY nm,rfl⟩,fun f hf=>by have:=hst.2.2 f hf; have:=hst.2.1; omega⟩
 cases c3:decide (2000 < (b.length:Int)) with
 | true=>
  rw [c3,cond_true] at fin
  generalize stOf s (fY nm)=w at *
  simp (maxSteps:=1000000) -dsimp only [go_sem,aJ]
  refine aA rfl (.done ?_)
  simp (maxSteps:=1000000) -dsimp only [go_sem,mL,bne_self_eq_false,c3]
  exact fin v0 _ _ rfl
 | false=>
  rw [c3,cond_false] at fin
  have hb2:=of_decide_eq_false c3
  generalize stOf s (fY nm)=w at *
  simp (maxSteps:=1000000) -dsimp only [go_sem,aJ]
  refine aA rfl (.done ?_)
  simp (maxSteps:=1000000) -dsimp only [go_sem,mL,bne_self_eq_false,c3]
  refine aA rfl (.done ?_)
  simp (maxSteps:=1000000) -dsimp only [go_sem,CG]
  refine EW hp (by omega) ?_
  generalize lA (bY s 8) s w.fs b=z at *
  obtain ⟨v,e⟩:=z
  simp (maxSteps:=1000000) -dsimp only [go_sem,aK v]
  exact fin _ _ _ rfl
def DN:PC:=.seq (.gh (.reg [.v 32 3,.q 33 (.bin .eql true (.t 32) (.k (.string (mk [1,1,3,2,1,1])))),.v 34 33,⟨some 35,(some (34,true)),.q (.mv (.t 4))⟩,⟨some 36,(some (34,true)),.q (.bin .eql true (.t 35) (.i 0))⟩,.a 37 (.pick (.t 34) (.t 36) (.k (.bool false))),.v 38 37,⟨some 39,(some (38,true)),.l (.ldn 5 (.t 5))⟩,⟨some 40,(some (38,true)),.l (.ldn 5 (.t 2))⟩,⟨some 41,(some (38,true)),.cq 14 [(.t 39),(.t 40)]⟩,.a 42 (.pick (.t 38) (.t 41) (.k (.bool false))),.v 43 42,⟨some 44,(some (43,true)),.q (.mv (.t 6))⟩,⟨some 45,(some (43,true)),.q (.bin .eql true (.t 44) (.i 0))⟩,.a 46 (.pick (.t 43) (.t 45) (.k (.bool false))),.v 47 46,⟨some 48,(some (47,true)),.q (.mv (.t 8))⟩,⟨some 49,(some (47,true)),.q (.bin .eql true (.t 48) (.i 2))⟩,.a 50 (.pick (.t 47) (.t 49) (.k (.bool false))),.v 0 50])) .ret
@[go_sem ↓] theorem aJP:aM DN:=aO _
def C9:PC:=.seq (.gh (.reg [.l 28 (.ldn 3 (.t 1)),.a 29 (.cl 12 [(.t 28),(.k (.string (mk [80]))),(.k (.string (mk [1,1,0])))] []),.v 27 29,.q 30 (.ex (.t 27) 0),.q 31 (.ex (.t 27) 1),.e 7 (.al (.agg #[(.int .i64 0),(.int .i64 0),(.string (mk [])),(.slice none 0 0),(.slice none 0 0)]) 29),.s (.st 5 (.t 7) (.t 30)),.v 8 31])) (DN)
@[go_sem ↓] theorem aLX:aM C9:=aO _
def D3:PC:=.seq (.gh (.reg [.l 23 (.ldn 3 (.t 1)),.a 24 (.cl 12 [(.t 23),(.k (.string (mk [80]))),(.k (.string (mk [1,1,3,2,1,1])))] []),.v 22 24,.q 25 (.ex (.t 22) 0),.q 26 (.ex (.t 22) 1),.e 5 (.al (.agg #[(.int .i64 0),(.int .i64 0),(.string (mk [])),(.slice none 0 0),(.slice none 0 0)]) 29),.s (.st 5 (.t 5) (.t 25)),.v 6 26])) (C9)
@[go_sem ↓] theorem aJM:aM D3:=aO _
def DS:PC:=.seq (.gh (.reg [.l 17 (.ldn 3 (.t 1)),.l 18 (.ldn 5 (.t 2)),.a 19 (.cl 9 [(.t 17),(.k (.string (mk [80]))),(.t 18)] []),.v 16 19,.q 20 (.ex (.t 16) 0),.q 21 (.ex (.t 16) 1),.v 3 20,.v 4 21])) (D3)
@[go_sem ↓] theorem aJ1:aM DS:=aO _
def ZF:PC:=.seq (.reg [.q 0 (.mv (.k (.bool false)))]) (.seq (.reg [.a 9 (.cl 29 [] []),.e 1 (.al (.agg #[(.int .i64 0),(.slice none 0 0),(.slice none 0 0)]) 25),.s (.st 3 (.t 1) (.t 9))]) (.seq (.reg [.q 10 (.bd [(.int .i64 0),(.int .i64 0),(.string (mk [])),(.slice none 0 0),(.slice none 0 0)] [(0,1,(.i 2)),(1,1,(.i (-2)))]),.q 11 (.bd [(.int .i64 0),(.int .i64 0),(.int .i64 0),(.string (mk [])),(.slice none 0 0),(.slice none 0 0)] [(0,1,(.i 1)),(1,5,(.t 10))]),.q 12 (.bd [(.int .i64 0),(.int .i64 0),(.string (mk [])),(.slice none 0 0),(.slice none 0 0)] [(0,1,(.i 1)),(1,1,(.i 1))]),.q 13 (.bd [(.int .i64 0),(.int .i64 0),(.int .i64 0),(.string (mk [])),(.slice none 0 0),(.slice none 0 0)] [(0,1,(.i 2)),(1,5,(.t 12))]),.e 14 (.bsl 76 6 [(.t 11),(.t 13)]),.q 15 (.bd [(.int .i64 0),(.int .i64 0),(.string (mk [])),(.slice none 0 0),(.slice none 0 0)] [(0,1,(.i 6)),(4,1,(.t 14))]),.e 2 (.al (.agg #[(.int .i64 0),(.int .i64 0),(.string (mk [])),(.slice none 0 0),(.slice none 0 0)]) 29),.s (.st 5 (.t 2) (.t 15))]) (DS)))
def V6:List RV:=[.mv (.t 0)]
theorem aK4:aP Tryz.prog true ⟨fun r k=>if r=6/\k=9 then .q else .own [],fun r=>[3,4,5,6].contains r⟩ Tryz.f11=some (ZF,V6):=by kernel_rfl
def aA9:PC:=.seq (.reg [.e 0 (.al (.agg #[(.int .i64 0),(.slice none 0 0),(.slice none 0 0)]) 25)]) (.seq (.reg [.q 1 (.bd [(.int .i64 0),(.int .i64 0),(.string (mk [])),(.slice none 0 0)] [(0,1,(.i 2)),(1,1,(.i 32))]),.q 2 (.bd [(.int .i64 0),(.string (mk [])),(.int .i64 0),(.int .i64 0),(.string (mk [])),(.slice none 0 0),(.bool false)] [(0,1,(.i 1)),(1,1,(.k (.string (mk [120])))),(2,4,(.t 1))]),.q 3 (.bd [(.int .i64 0),(.int .i64 0),(.string (mk [])),(.slice none 0 0)] [(0,1,(.i 1))]),.q 4 (.bd [(.int .i64 0),(.string (mk [])),(.int .i64 0),(.int .i64 0),(.string (mk [])),(.slice none 0 0),(.bool false)] [(0,1,(.i 2)),(1,1,(.k (.string (mk [111,110])))),(2,4,(.t 3))]),.e 5 (.bsl 52 7 [(.t 2),(.t 4)]),.q 6 (.bd [(.string (mk [])),(.slice none 0 0)] [(0,1,(.k (.string (mk [80])))),(1,1,(.t 5))]),.e 7 (.bslx 48 2 [(.t 6)]),.q 8 (.bd [(.int .i64 0),(.slice none 0 0),(.slice none 0 0)] [(0,1,(.i 1)),(2,1,(.t 7))]),.s (.st 3 (.t 0) (.t 8))]) .ret)
def Y3:List RV:=[.ld (.ldn 3 (.t 0))]
theorem aJL:aP Tryz.prog true ⟨fun r k=>if r=1/\k=6 then .q else .own [],fun _=>false⟩ Tryz.f29=some (aA9,Y3):=by kernel_rfl
def yF1:Fl:=⟨1,mk [120],.mk 2 32 (mk []) [],false⟩
def yF2:Fl:=⟨2,mk [111,110],.mk 1 0 (mk []) [],false⟩
def ySt:St:=⟨mk [80],[yF1,yF2]⟩
def yS:Sc:=⟨1,[],[ySt]⟩
def ySp:W.Spec:=fun av H K=>av=[]/\H=[]/\K (.va (.gs (aI yS))) []
theorem G9:Meets Tryz.prog 29 ySp:=by
 refine aD Tryz.func29 aJL 0 (by rw [Tryz.ntmps29]; decide) (aB _) (fun av H K h=>by obtain ⟨rfl,_⟩:=h; rfl) ?_
 rintro av H K ⟨rfl,rfl,hK⟩
 simp (maxSteps:=1000000) -dsimp only [go_sem,aA9,Y3]
 refine .opn 1 _ _ _ rfl (.nfr 1 _ _ _ rfl (.shu 1 _ _ _ rfl ?_ (.pub 1 _ _ _ rfl ?_)))
 · simp [C.nf,C.shut]
 simp -dsimp only [go_sem,cA,C.nf,C.pub]
 refine .shu 2 _ _ _ rfl ?_ (.pub 2 _ _ _ rfl ?_)
 · simp [C.shut]
 simp -dsimp only [go_sem,cA,C.pub]
 refine .sel [] (by simp) (by simp) rfl (.done ?_)
 simp -dsimp only [go_sem]
 exact hK
def yV:Vl:=.mk 6 0 (mk []) [] [(1,.mk 2 (-2) (mk []) [] []),(2,.mk 1 1 (mk []) [] [])]
abbrev yN:ByteArray:=mk [80]
theorem ye1:C1 yS yN yV=([1,1,3,2,1,1],0):=by kernel_rfl
theorem ye2:mN yS yN [1,1,3,2,1,1]=(yV,0):=by kernel_rfl
theorem ye3:mN yS yN [1,1,0]=(v0,2):=by kernel_rfl
theorem aD3:yS.ok:=by
 refine ⟨⟨by decide,by decide⟩,by decide,by decide,fun e he=>(by cases he),fun u hu=>?_⟩
 rw [List.mem_singleton.1 hu]
 refine ⟨by decide,by decide,fun f hf=>?_⟩
 have:f=yF1\/f=yF2:=by simpa [ySt] using hf
 rcases this with rfl | rfl
 · exact ⟨⟨by decide,by decide⟩,by decide,ty0 _ _ _ ⟨by decide,by decide⟩ ⟨by decide,by decide⟩ (by decide)⟩
 · exact ⟨⟨by decide,by decide⟩,by decide,ty0 _ _ _ ⟨by decide,by decide⟩ ⟨by decide,by decide⟩ (by decide)⟩
theorem aB7:M4 yS=true:=by kernel_rfl
theorem J7:yS.fit:=T8 aD3 aB7
theorem OO:VlOk yV:=by
 have hf:∀ k n:Int,bV k->bV n->VlOk (.mk k n (mk []) [] []):=fun k n h1 h2=>CR h1 h2 (by decide)
 refine .mk ⟨by decide,by decide⟩ ⟨by decide,by decide⟩ (by decide) (by decide) (by decide) (fun x h=>by cases h) (fun x hx=>?_) (fun x hx=>?_)
 · have:x=(1,.mk 2 (-2) (mk []) [] [])\/x=(2,.mk 1 1 (mk []) [] []):=by simpa using hx
   rcases this with rfl | rfl<;>exact ⟨by decide,by decide⟩
 · have:x=(1,.mk 2 (-2) (mk []) [] [])\/x=(2,.mk 1 1 (mk []) [] []):=by simpa using hx
   rcases this with rfl | rfl
   · exact hf _ _ ⟨by decide,by decide⟩ ⟨by decide,by decide⟩
   · exact hf _ _ ⟨by decide,by decide⟩ ⟨by decide,by decide⟩
noncomputable def yE:cB:=[(29,.s ySp),(9,.s DK),(12,.s C6),(14,.f eqFn2)]
theorem aDL:sp yE 29=ySp:=rfl
theorem aE3:sp yE 9=DK:=rfl
theorem PD:sp yE 12=C6:=rfl
theorem aDJ:lR yE 14=some eqFn2:=rfl
theorem aK8 {K:S->Hp->Prop} (hK:K (.tu [tA (mk [1,1,3,2,1,1]),iA .i64 0]) []) :
 DK [.va (.gs [.vl (.int .i64 yS.ver),.fz (yS.es.map a7),.fz (yS.ss.map aJ)]),tS yN,.va (.gs [.vl (.int .i64 yV.k),.vl (.int .i64 yV.n),.vl (.string yV.s),.fz (yV.l.map aQ),.fz (yV.f.map bE)])] [] K:=
 ZS J7 (by decide) OO (by rw [ye1]; exact hK)
theorem aAL {b:List UInt8} {v:Vl} {e:Int} {K:S->Hp->Prop} (h:mN yS yN b=(v,e)) (hb:b.length<=9223372036854775807) (hK:K (.tu [.gs [.vl (.int .i64 v.k),.vl (.int .i64 v.n),.vl (.string v.s),.fz (v.l.map aQ),.fz (v.f.map bE)],iA .i64 e]) []) :
 C6 [.va (.gs [.vl (.int .i64 yS.ver),.fz (yS.es.map a7),.fz (yS.ss.map aJ)]),tS yN,tS (mk b)] [] K:=XG J7 hb (by rw [h]; exact hK)
theorem NS:Meets Tryz.prog 11 qTrue.sp:=by
 refine aD (Γ:=yE) Tryz.func11 aK4 0 (by rw [Tryz.ntmps11]; decide) (aC G9 (aC VG (aC U8 (aH UR (aB _))))) J9 ?_
 rintro av H K ⟨⟨h,rfl⟩,hK⟩
 obtain rfl:av=[]:=h
 have hK:K (bS true) []:=hK
 have fin:∀ R:Hp,W.Fin 0 K (bS true) R:=fun R=>.sel [] (by simp) (by simp) rfl (.done (by simpa [go_sem] using hK))
 clear hK
 simp (maxSteps:=1000000) -dsimp only [go_sem,ZF,V6,aDL]
 refine ⟨rfl,rfl,?_⟩
 simp (maxSteps:=1000000) -dsimp only [go_sem,aI]
 refine aA rfl (.opn 1 _ _ _ rfl (.nfr 1 _ _ _ rfl (.shu 1 _ _ _ rfl ?_ (.pub 1 _ _ _ rfl (.done ?_)))))
 · simp [C.nf,C.shut]
 have g0:(0:Int)=0:=rfl
 simp (maxSteps:=1000000) -dsimp only [go_sem,cA,C.nf,C.pub,DS,aE3]
 refine aK8 ?_
 simp (maxSteps:=1000000) -dsimp only [go_sem]
 refine aA rfl (.done ?_)
 simp (maxSteps:=1000000) -dsimp only [go_sem,D3,PD]
 refine aAL ye2 (by decide) ?_
 simp (maxSteps:=1000000) -dsimp only [go_sem]
 refine aA rfl (.done ?_)
 simp (maxSteps:=1000000) -dsimp only [go_sem,C9,PD]
 refine aAL ye3 (by decide) ?_
 simp (maxSteps:=1000000) -dsimp only [go_sem]
 refine aA rfl (.done ?_)
 have k1:=dO OO
 have k2:=gJ yV
 have kx1:nF [.vl (.int .i64 6),.vl (.int .i64 0),.vl (.string (mk [])),.fz [],.fz [[.vl (.int .i64 1),.vl (.int .i64 2),.vl (.int .i64 (-2)),.vl (.string (mk [])),.fz [],.fz []],[.vl (.int .i64 2),.vl (.int .i64 1),.vl (.int .i64 1),.vl (.string (mk [])),.fz [],.fz []]]]:=k1
 have kx2:C.vv [.vl (.int .i64 6),.vl (.int .i64 0),.vl (.string (mk [])),.fz [],.fz [[.vl (.int .i64 1),.vl (.int .i64 2),.vl (.int .i64 (-2)),.vl (.string (mk [])),.fz [],.fz []],[.vl (.int .i64 2),.vl (.int .i64 1),.vl (.int .i64 1),.vl (.string (mk [])),.fz [],.fz []]]]=yV:=k2
 have g0:(([1,1,3,2,1,1]:List UInt8) == [1,1,3,2,1,1])=true:=by decide
 have g1:((0:Int) == 0)=true:=rfl
 have g2:((2:Int) == 2)=true:=rfl
 have g3:=LS yV
 simp (maxSteps:=1000000) -dsimp only [go_sem,DN,aDJ,k1,k2,kx1,kx2,g0,g1,g2,g3,Bool.true_and]
 exact fin _
def pD:PC:=.seq (.gh (.reg [.v 79 15,.q 80 (.not (.t 79)),.v 81 80,⟨some 82,(some (81,false)),.q (.mv (.t 14))⟩,⟨some 83,(some (81,false)),.q (.mv (.t 7))⟩,⟨some 84,(some (81,false)),.q (.mv (.t 13))⟩,⟨some 85,(some (81,false)),.l (.ia 2 (.t 83) (.t 84))⟩,⟨some 86,(some (81,false)),.q (.fa 1 (.t 85))⟩,⟨some 87,(some (81,false)),.l (.ld1 (.t 86))⟩,⟨some 88,(some (81,false)),.q (.bin .neq true (.t 82) (.t 87))⟩,.a 89 (.pick (.t 81) (.k (.bool true)) (.t 88))])) (.cond (.t 89) (.seq (.reg [.q 4 (.mv (.k (.bool false)))]) .ret) .skip)
@[go_sem ↓] theorem aF6:aM pD:=aO _
def p7:PC:=.seq (.seq (.gh (.reg [.v 58 7,.v 59 13,.l 60 (.ia 2 (.t 58) (.t 59)),.q 61 (.fa 0 (.t 60)),.l 62 (.ld1 (.t 61)),.v 63 1,.q 64 (.bin .eql true (.t 62) (.t 63))])) (.cond (.t 64) (.reg [.v 65 7,.v 66 13,.l 67 (.ia 2 (.t 65) (.t 66)),.q 68 (.fa 1 (.t 67)),.l 69 (.ld1 (.t 68)),.v 11 69,.q 12 (.mv (.k (.bool true)))]) .skip)) (.seq (.reg [.v 71 0,.v 72 5,.v 73 13,.l 74 (.ia 1 (.t 72) (.t 73)),.l 75 (.ld1 (.t 74)),.a 76 (.cl 21 [(.t 71),(.t 75)] []),.v 70 76,.q 77 (.ex (.t 70) 0),.q 78 (.ex (.t 70) 1),.v 14 77,.v 15 78]) (pD))
@[go_sem ↓] theorem aF2:aM p7:=aO _
def yC:PC:=.seq (.gh (.reg [.v 90 9,.v 91 11,.q 92 (.bin .eql true (.t 90) (.t 91)),.v 93 92,⟨some 94,(some (93,true)),.q (.mv (.t 10))⟩,⟨some 95,(some (93,true)),.q (.mv (.t 12))⟩,⟨some 96,(some (93,true)),.q (.eqB false (.t 94) (.t 95))⟩,.a 97 (.pick (.t 93) (.t 96) (.k (.bool false))),.v 98 97,⟨some 99,(some (98,true)),.cq 11 []⟩,.a 100 (.pick (.t 98) (.t 99) (.k (.bool false))),.v 4 100])) .ret
@[go_sem ↓] theorem aFO:aM yC:=aO _
def BK:PC:=.seq (.gh (.reg [.q 11 (.mv (.k (.string (mk [])))),.q 12 (.mv (.k (.bool false)))])) (.seq (.seq (.reg [.q 13 (.mv (.i 0))]) (.block 0 (.loop (.seq (.seq (.reg [.v 42 13,.v 43 7,.q 44 (.lnL (.t 43)),.q 45 (.bin .lss true (.t 42) (.t 44))]) (.cond (.t 45) .skip (.exit 0))) (.seq (.block 1 (.seq (.seq (.reg [.v 48 5,.v 49 13,.l 50 (.ia 1 (.t 48) (.t 49)),.l 51 (.ld1 (.t 50)),.v 52 7,.v 53 13,.l 54 (.ia 2 (.t 52) (.t 53)),.q 55 (.fa 0 (.t 54)),.l 56 (.ld1 (.t 55)),.q 57 (.bin .neq true (.t 51) (.t 56))]) (.cond (.t 57) (.seq (.reg [.q 4 (.mv (.k (.bool false)))]) .ret) .skip)) (p7))) (.reg [.v 46 13,.q 47 (.bin .add true (.t 46) (.i 1)),.v 13 47])))))) (yC))
@[go_sem ↓] theorem aIO:aM BK:=aO _
def BB:PC:=.seq (.gh (.reg [.v 37 0,.v 38 1,.a 39 (.cl 21 [(.t 37),(.t 38)] []),.v 36 39,.q 40 (.ex (.t 36) 0),.q 41 (.ex (.t 36) 1),.v 9 40,.v 10 41])) (BK)
@[go_sem ↓] theorem aIS:aM BB:=aO _
def EA:PC:=.seq (.seq (.gh (.reg [.v 26 6,.v 27 8,.q 28 (.bin .neq true (.t 26) (.t 27)),.v 29 28,⟨some 30,(some (29,false)),.q (.mv (.t 5))⟩,⟨some 31,(some (29,false)),.q (.lnL (.t 30))⟩,⟨some 32,(some (29,false)),.q (.mv (.t 7))⟩,⟨some 33,(some (29,false)),.q (.lnL (.t 32))⟩,⟨some 34,(some (29,false)),.q (.bin .neq true (.t 31) (.t 33))⟩,.a 35 (.pick (.t 29) (.k (.bool true)) (.t 34))])) (.cond (.t 35) (.seq (.reg [.q 4 (.mv (.k (.bool false)))]) .ret) .skip)) (BB)
@[go_sem ↓] theorem aKL:aM EA:=aO _
def BV:PC:=.seq (.gh (.reg [.v 22 0,.a 23 (.cl 19 [(.t 22)] []),.v 21 23,.q 24 (.ex (.t 21) 0),.q 25 (.ex (.t 21) 1),.v 7 24,.v 8 25])) (EA)
@[go_sem ↓] theorem aKU:aM BV:=aO _
def VW:PC:=.seq (.reg [.q 4 (.mv (.k (.bool false)))]) (.seq (.reg [.v 17 0,.a 18 (.cl 22 [(.t 17)] []),.v 16 18,.q 19 (.ex (.t 16) 0),.q 20 (.ex (.t 16) 1),.v 5 19,.v 6 20]) (BV))
def Z9:List RV:=[.mv (.t 4)]
theorem aJZ:aP Tryz.prog true ⟨fun r k=>if r=17/\k=9 then .q else .own [],fun r=>[2,3,5,6,12,15,17].contains r⟩ Tryz.f8=some (VW,Z9):=by kernel_rfl
def p6:PC:=.seq (.seq (.gh (.reg [.v 25 9,.q 26 (.bin .neq true (.t 25) (.i 0))])) (.cond (.t 26) (.seq (.reg [.v 27 9,.q 2 (.mv (.k (.slice none 0 0))),.v 3 27]) .ret) .skip)) (.seq (.reg [.v 28 4,.l 29 (.ldn 2 (.t 7)),.e 30 (.bsl 59 2 [(.t 29)]),.e 31 (.ap 59 2 24 (.t 28) (.t 30)),.v 4 31]) (.seq (.reg [.v 32 8,.v 6 32]) (.reg [.q 33 (.fa 0 (.t 7)),.l 34 (.ld1 (.t 33)),.v 5 34])))
@[go_sem ↓] theorem aG9:aM p6:=aO _
def sH:PC:=.seq (.gh (.reg [.v 35 4,.v 2 35,.q 3 (.mv (.i 0))])) .ret
@[go_sem ↓] theorem aDW:aM sH:=aO _
def HI:PC:=.seq (.reg [.q 2 (.mv (.k (.slice none 0 0))),.q 3 (.mv (.i 0))]) (.seq (.seq (.reg [.v 10 0,.q 11 (.lnS (.t 10)),.q 12 (.bin .gtr true (.t 11) (.i 2000))]) (.cond (.t 12) (.seq (.reg [.q 2 (.mv (.k (.slice none 0 0))),.q 3 (.mv (.i 3))]) .ret) .skip)) (.seq (.reg [.q 4 (.mv (.k (.slice none 0 0)))]) (.seq (.reg [.q 5 (.mv (.i 0))]) (.seq (.seq (.reg [.q 6 (.mv (.i 0))]) (.block 0 (.loop (.seq (.seq (.reg [.v 13 6,.v 14 0,.q 15 (.lnS (.t 14)),.q 16 (.bin .lss true (.t 13) (.t 15))]) (.cond (.t 16) .skip (.exit 0))) (.block 1 (.seq (.reg [.v 18 0,.v 19 6,.v 20 5,.a 21 (.cl 35 [(.t 18),(.t 19),(.t 20)] []),.v 17 21,.q 22 (.ex (.t 17) 0),.q 23 (.ex (.t 17) 1),.q 24 (.ex (.t 17) 2),.e 7 (.al (.agg #[(.int .i64 0),(.string (mk []))]) 59),.s (.st 2 (.t 7) (.t 22)),.v 8 23,.v 9 24]) (p6))))))) (sH)))))
def II:List RV:=[.mv (.t 2),.mv (.t 3)]
theorem aC9:aP Tryz.prog true ⟨fun _ _=>.own [],fun r=>[8,13].contains r⟩ Tryz.f19=some (HI,II):=by kernel_rfl
def sT:PC:=.seq (.gh (.ord  [.q (.v 46 10),.q (.v 47 0),.q (.q 48 (.fa 1 (.t 9))),.q (.l 49 (.ld1 (.t 48))),.q (.q 50 (.fa 1 (.t 9))),.q (.l 51 (.ld1 (.t 50))),.q (.v 52 11),.q (.q 53 (.cvt .i64 (.t 52))),.q (.q 54 (.bin .add true (.t 51) (.t 53))),.q (.q 55 (.ss (.t 47) (some (.t 49)) (some (.t 54)))),.q (.q 56 (.bd [(.int .i64 0),(.string (mk []))] [(0,1,(.t 46)),(1,1,(.t 55))])),.q (.q 57 (.fa 1 (.t 9))),.q (.l 58 (.ld1 (.t 57))),.q (.v 59 11),.q (.q 60 (.cvt .i64 (.t 59))),.q (.q 61 (.bin .add true (.t 58) (.t 60))),.m (.s (.st 2 (.t 6) (.t 56))),.rc (.q 57 (.fa 1 (.t 9))),.rc (.l 58 (.ld1 (.t 57))),.rc (.v 59 11),.rc (.q 60 (.cvt .i64 (.t 59))),.rc (.q 61 (.bin .add true (.t 58) (.t 60))),.m (.v 7 61),.m (.q 8 (.mv (.i 0)))])) .ret
@[go_sem ↓] theorem aFA:aM sT:=aO _
def qH:PC:=.seq (.seq (.gh (.reg [.v 40 11,.l 41 (.ldn 3 (.t 9)),.a 42 (.cq 66 [(.t 41)]),.q 43 (.cvt .u64 (.t 42)),.q 44 (.bin .gtr true (.t 40) (.t 43))])) (.cond (.t 44) (.seq (.reg [.q 45 (.bd [(.int .i64 0),(.string (mk []))] []),.s (.st 2 (.t 6) (.t 45)),.q 7 (.mv (.i 0)),.q 8 (.mv (.i 1))]) .ret) .skip)) (sT)
@[go_sem ↓] theorem aGX:aM qH:=aO _
def qJ:PC:=.seq (.seq (.gh (.reg [.q 34 (.fa 2 (.t 9)),.l 35 (.ld1 (.t 34)),.q 36 (.bin .neq true (.t 35) (.i 0))])) (.cond (.t 36) (.seq (.ord  [.q (.q 37 (.bd [(.int .i64 0),(.string (mk []))] [])),.q (.q 38 (.fa 2 (.t 9))),.q (.l 39 (.ld1 (.t 38))),.m (.s (.st 2 (.t 6) (.t 37))),.rc (.q 38 (.fa 2 (.t 9))),.rc (.l 39 (.ld1 (.t 38))),.m (.q 7 (.mv (.i 0))),.rc (.q 38 (.fa 2 (.t 9))),.rc (.l 39 (.ld1 (.t 38))),.m (.v 8 39)]) .ret) .skip)) (qH)
@[go_sem ↓] theorem aHE:aM qJ:=aO _
def pM:PC:=.seq (.seq (.gh (.reg [.v 25 10,.v 26 2,.q 27 (.bin .leq true (.t 25) (.t 26))])) (.cond (.t 27) (.seq (.reg [.q 28 (.bd [(.int .i64 0),(.string (mk []))] []),.s (.st 2 (.t 6) (.t 28)),.q 7 (.mv (.i 0)),.q 8 (.mv (.i 2))]) .ret) .skip)) (.seq (.reg [.l 30 (.ldn 3 (.t 9)),.a 31 (.cl 65 [(.t 30)] []),.v 29 31,.q 32 (.ex (.t 29) 0),.q 33 (.ex (.t 29) 1),.s (.st 3 (.t 9) (.t 32)),.v 11 33]) (qJ))
@[go_sem ↓] theorem aF5:aM pM:=aO _
def l9:PC:=.seq (.seq (.gh (.reg [.q 19 (.fa 2 (.t 9)),.l 20 (.ld1 (.t 19)),.q 21 (.bin .neq true (.t 20) (.i 0))])) (.cond (.t 21) (.seq (.ord  [.q (.q 22 (.bd [(.int .i64 0),(.string (mk []))] [])),.q (.q 23 (.fa 2 (.t 9))),.q (.l 24 (.ld1 (.t 23))),.m (.s (.st 2 (.t 6) (.t 22))),.rc (.q 23 (.fa 2 (.t 9))),.rc (.l 24 (.ld1 (.t 23))),.m (.q 7 (.mv (.i 0))),.rc (.q 23 (.fa 2 (.t 9))),.rc (.l 24 (.ld1 (.t 23))),.m (.v 8 24)]) .ret) .skip)) (pM)
@[go_sem ↓] theorem aG3:aM l9:=aO _
def PN:PC:=.seq (.reg [.e 6 (.al (.agg #[(.int .i64 0),(.string (mk []))]) 59),.q 7 (.mv (.i 0)),.q 8 (.mv (.i 0))]) (.seq (.reg [.v 13 0,.v 14 1,.q 15 (.bd [(.string (mk [])),(.int .i64 0),(.int .i64 0)] [(0,1,(.t 13)),(1,1,(.t 14))]),.a 16 (.cl 64 [(.t 15),(.i 2147483647)] []),.v 12 16,.q 17 (.ex (.t 12) 0),.q 18 (.ex (.t 12) 1),.e 9 (.al (.agg #[(.string (mk [])),(.int .i64 0),(.int .i64 0)]) 108),.s (.st 3 (.t 9) (.t 17)),.v 10 18]) (l9))
def R9:List RV:=[.ld (.ldn 2 (.t 6)),.mv (.t 7),.mv (.t 8)]
theorem aEQ:aP Tryz.prog true ⟨fun r k=>if r=9/\k=2 then .q else .own [],fun r=>[2,4,7,9,11].contains r⟩ Tryz.f35=some (PN,R9):=by kernel_rfl
def wR:PC:=.seq (.gh (.reg [.l 27 (.ldn 3 (.t 6)),.v 28 7,.q 29 (.cvt .i64 (.t 28)),.s (.st 3 (.t 4) (.t 27)),.v 5 29])) .ret
@[go_sem ↓] theorem aFG:aM wR:=aO _
def qT:PC:=.seq (.seq (.gh (.reg [.v 17 1,.q 18 (.bin .lss true (.t 17) (.i 0)),.v 19 18,⟨some 20,(some (19,false)),.q (.mv (.t 7))⟩,⟨some 21,(some (19,false)),.q (.mv (.t 1))⟩,⟨some 22,(some (19,false)),.q (.cvt .u64 (.t 21))⟩,⟨some 23,(some (19,false)),.q (.bin .gtr true (.t 20) (.t 22))⟩,.a 24 (.pick (.t 19) (.k (.bool true)) (.t 23))])) (.cond (.t 24) (.seq (.reg [.l 25 (.ldn 3 (.t 2)),.a 26 (.cl 106 [(.t 25),(.i 4)] []),.s (.st 3 (.t 4) (.t 26)),.q 5 (.mv (.i 0))]) .ret) .skip)) (wR)
@[go_sem ↓] theorem aGQ:aM qT:=aO _
def pH:PC:=.seq (.seq (.gh (.reg [.q 13 (.fa 2 (.t 6)),.l 14 (.ld1 (.t 13)),.q 15 (.bin .neq true (.t 14) (.i 0))])) (.cond (.t 15) (.seq (.reg [.l 16 (.ldn 3 (.t 6)),.s (.st 3 (.t 4) (.t 16)),.q 5 (.mv (.i 0))]) .ret) .skip)) (qT)
@[go_sem ↓] theorem aHD:aM pH:=aO _
def S4:PC:=.seq (.reg [.e 2 (.bx 108 (.t 0)),.e 4 (.al (.agg #[(.string (mk [])),(.int .i64 0),(.int .i64 0)]) 108),.q 5 (.mv (.i 0))]) (.seq (.reg [.l 9 (.ldn 3 (.t 2)),.a 10 (.cl 65 [(.t 9)] []),.v 8 10,.q 11 (.ex (.t 8) 0),.q 12 (.ex (.t 8) 1),.e 6 (.al (.agg #[(.string (mk [])),(.int .i64 0),(.int .i64 0)]) 108),.s (.st 3 (.t 6) (.t 11)),.v 7 12]) (pH))
def PT:List RV:=[.ld (.ldn 3 (.t 4)),.mv (.t 5)]
theorem aDV:aP Tryz.prog true ⟨fun _ _=>.own [],fun r=>[2,4,6].contains r⟩ Tryz.f64=some (S4,PT):=by kernel_rfl
def xD:PC:=.seq (.gh (.reg [.v 25 5,.q 26 (.fa 1 (.t 1)),.s (.st 1 (.t 26) (.t 25))])) (.seq (.reg [.l 27 (.ldn 3 (.t 1)),.v 28 4,.s (.st 3 (.t 2) (.t 27)),.v 3 28]) .ret)
@[go_sem ↓] theorem aFR:aM xD:=aO _
def qX:PC:=.seq (.seq (.gh (.reg [.v 20 6,.q 21 (.bin .neq true (.t 20) (.i 0))])) (.cond (.t 21) (.seq (.reg [.l 22 (.ldn 3 (.t 1)),.v 23 6,.a 24 (.cl 106 [(.t 22),(.t 23)] []),.s (.st 3 (.t 2) (.t 24)),.q 3 (.mv (.k (.int .u64 0)))]) .ret) .skip)) (xD)
@[go_sem ↓] theorem aHC:aM qX:=aO _
def RY:PC:=.seq (.reg [.e 1 (.bx 108 (.t 0)),.e 2 (.al (.agg #[(.string (mk [])),(.int .i64 0),(.int .i64 0)]) 108),.q 3 (.mv (.k (.int .u64 0)))]) (.seq (.seq (.reg [.q 7 (.fa 2 (.t 1)),.l 8 (.ld1 (.t 7)),.q 9 (.bin .neq true (.t 8) (.i 0))]) (.cond (.t 9) (.seq (.reg [.l 10 (.ldn 3 (.t 1)),.s (.st 3 (.t 2) (.t 10)),.q 3 (.mv (.k (.int .u64 0)))]) .ret) .skip)) (.seq (.reg [.q 12 (.fa 0 (.t 1)),.l 13 (.ld1 (.t 12)),.q 14 (.fa 1 (.t 1)),.l 15 (.ld1 (.t 14)),.a 16 (.cl 107 [(.t 13),(.t 15)] []),.v 11 16,.q 17 (.ex (.t 11) 0),.q 18 (.ex (.t 11) 1),.q 19 (.ex (.t 11) 2),.v 4 17,.v 5 18,.v 6 19]) (qX)))
def RG:List RV:=[.ld (.ldn 3 (.t 2)),.mv (.t 3)]
theorem aC4:aP Tryz.prog true ⟨fun _ _=>.own [],fun r=>[4,6].contains r⟩ Tryz.f65=some (RY,RG):=by kernel_rfl
def PK:PC:=.seq (.reg [.e 1 (.bx 108 (.t 0)),.q 2 (.mv (.i 0))]) (.seq (.reg [.q 3 (.fa 0 (.t 1)),.l 4 (.ld1 (.t 3)),.q 5 (.lnS (.t 4)),.q 6 (.fa 1 (.t 1)),.l 7 (.ld1 (.t 6)),.q 8 (.bin .sub true (.t 5) (.t 7)),.v 2 8]) .ret)
def Q6:List RV:=[.mv (.t 2)]
theorem aC3:aP Tryz.prog true ⟨fun _ _=>.own [],fun _=>false⟩ Tryz.f66=some (PK,Q6):=by kernel_rfl
def J0:PC:=.seq (.reg [.e 2 (.bx 108 (.t 0)),.e 4 (.al (.agg #[(.string (mk [])),(.int .i64 0),(.int .i64 0)]) 108)]) (.seq (.reg [.v 5 1,.q 6 (.fa 2 (.t 2)),.s (.st 1 (.t 6) (.t 5))]) (.seq (.reg [.l 7 (.ldn 3 (.t 2)),.s (.st 3 (.t 4) (.t 7))]) .ret))
def JW:List RV:=[.ld (.ldn 3 (.t 4))]
theorem WT:aP Tryz.prog true ⟨fun _ _=>.own [],fun _=>false⟩ Tryz.f106=some (J0,JW):=by kernel_rfl
def I9:PC:=.seq (.reg [.q 4 (.mv (.k (.int .u64 0))),.q 5 (.mv (.i 0)),.q 6 (.mv (.i 0))]) (.seq (.reg [.q 7 (.mv (.k (.int .u64 0)))]) (.seq (.reg [.q 8 (.mv (.k (.int .u64 1)))]) (.seq (.seq (.reg [.q 9 (.mv (.i 0))]) (.block 0 (.loop (.seq (.seq (.reg [.v 11 9,.q 12 (.bin .lss false (.t 11) (.i 10))]) (.cond (.t 12) .skip (.exit 0))) (.seq (.block 1 (.seq (.seq (.reg [.v 15 1,.v 16 9,.q 17 (.bin .add false (.t 15) (.t 16)),.v 18 0,.q 19 (.lnS (.t 18)),.q 20 (.bin .geq false (.t 17) (.t 19))]) (.cond (.t 20) (.seq (.reg [.v 21 1,.q 4 (.mv (.k (.int .u64 0))),.v 5 21,.q 6 (.mv (.i 1))]) .ret) .skip)) (.seq (.reg [.v 22 0,.v 23 1,.v 24 9,.q 25 (.bin .add false (.t 23) (.t 24)),.a 26 (.ix (.t 22) (.t 25)),.v 10 26]) (.seq (.seq (.reg [.v 27 9,.q 28 (.bin .eql false (.t 27) (.i 9)),.v 29 28,⟨some 30,(some (29,true)),.q (.mv (.t 10))⟩,⟨some 31,(some (29,true)),.q (.bin .gtr false (.t 30) (.k (.int .u8 1)))⟩,.a 32 (.pick (.t 29) (.t 31) (.k (.bool false)))]) (.cond (.t 32) (.seq (.reg [.v 33 1,.q 4 (.mv (.k (.int .u64 0))),.v 5 33,.q 6 (.mv (.i 2))]) .ret) .skip)) (.seq (.reg [.v 34 7,.v 35 10,.q 36 (.bin .rem false (.t 35) (.k (.int .u8 128))),.q 37 (.cvt .u64 (.t 36)),.v 38 8,.q 39 (.bin .mul false (.t 37) (.t 38)),.q 40 (.bin .add false (.t 34) (.t 39)),.v 7 40]) (.seq (.reg [.v 41 8,.q 42 (.bin .mul false (.t 41) (.k (.int .u64 128))),.v 8 42]) (.seq (.reg [.v 43 10,.q 44 (.bin .lss false (.t 43) (.k (.int .u8 128)))]) (.cond (.t 44) (.seq (.seq (.reg [.v 45 10,.q 46 (.bin .eql false (.t 45) (.k (.int .u8 0))),.v 47 46,⟨some 48,(some (47,true)),.q (.mv (.t 9))⟩,⟨some 49,(some (47,true)),.q (.bin .gtr false (.t 48) (.i 0))⟩,.a 50 (.pick (.t 47) (.t 49) (.k (.bool false)))]) (.cond (.t 50) (.seq (.reg [.v 51 1,.q 4 (.mv (.k (.int .u64 0))),.v 5 51,.q 6 (.mv (.i 2))]) .ret) .skip)) (.seq (.reg [.v 52 7,.v 53 1,.v 54 9,.q 55 (.bin .add false (.t 53) (.t 54)),.q 56 (.bin .add false (.t 55) (.i 1)),.v 4 52,.v 5 56,.q 6 (.mv (.i 0))]) .ret)) .skip)))))))) (.reg [.v 13 9,.q 14 (.bin .add false (.t 13) (.i 1)),.v 9 14])))))) (.seq (.reg [.v 57 1,.q 4 (.mv (.k (.int .u64 0))),.v 5 57,.q 6 (.mv (.i 2))]) .ret))))
def LF:List RV:=[.mv (.t 4),.mv (.t 5),.mv (.t 6)]
theorem V2:aP Tryz.prog false ⟨fun _ _=>.own [],fun _=>false⟩ Tryz.f107=some (I9,LF):=by kernel_rfl
abbrev fW (x:List UInt8) (a:Nat) (e:Int):List C:=[.vl (.string (mk x)),.vl (.int .i64 a),.vl (.int .i64 e)]
def P6:W.Spec:=fun av H K=>∃ (x:List UInt8) (a:Nat) (e e':Int),av=[.va (.gs (fW x a e)),iS .i64 e']/\H=[]/\K (.va (.gs (fW x a e'))) []
theorem EU {x:List UInt8} {a:Nat} {e e':Int} {K:S->Hp->Prop} (hK:K (.va (.gs (fW x a e'))) []):P6 [.va (.gs (fW x a e)),iS .i64 e'] [] K:=⟨x,a,e,e',rfl,rfl,hK⟩
theorem CB:Meets Tryz.prog 106 P6:=by
 refine aD Tryz.func106 WT 2 (by rw [Tryz.ntmps106]; decide) (aB _) (fun av H K h=>by obtain ⟨_,_,_,_,rfl,_⟩:=h; rfl) ?_
 rintro av H K ⟨x,a,e,e',rfl,rfl,hK⟩
 simp (maxSteps:=1000000) -dsimp only [go_sem,J0,JW]
 refine .sel [] (by simp) (by simp) rfl (.done ?_)
 simpa [go_sem] using hK
def R8:W.Spec:=fun av H K=>∃ (x:List UInt8) (a:Nat),av=[tS (mk x),iS .i64 a]/\H=[]/\a<=x.length/\x.length<=1000000/\K (.tu [uA (vr (x.drop a)).1,iA .i64 ((a + (vr (x.drop a)).2.1:Nat):Int),iA .i64 (vr (x.drop a)).2.2]) []
theorem UV {x:List UInt8} {a:Nat} {K:S->Hp->Prop} (h:a<=x.length) (hx:x.length<=1000000) (hK:K (.tu [uA (vr (x.drop a)).1,iA .i64 ((a + (vr (x.drop a)).2.1:Nat):Int),iA .i64 (vr (x.drop a)).2.2]) []):R8 [tS (mk x),iS .i64 a] [] K:=⟨x,a,rfl,rfl,h,hx,hK⟩
theorem A3 {n:Nat} (h:n < 9223372036854775808):IntKind.i64.wrap (n:Int)=n:=oW ⟨by omega,by omega⟩
theorem MA:Meets Tryz.prog 107 R8:=by
 refine aD Tryz.func107 V2 2 (by rw [Tryz.ntmps107]; decide) (aB _) (fun av H K h=>by obtain ⟨_,_,rfl,_⟩:=h; rfl) ?_
 rintro av H K ⟨l,a,rfl,rfl,hal,hx,hK⟩
 have fin:∀ (n k:Nat) (e:Int),vr (l.drop a)=(n,k,e)->W.Fin 0 K (.tu [uA n,iA .i64 ((a + k:Nat):Int),iA .i64 e]) []:=fun n k e h=>by
  rw [h] at hK; exact .done hK
 clear hK
 simp (maxSteps:=1000000) -dsimp only [go_sem,I9,LF]
 refine aU (α:=Nat × Nat) (fun z=>[(0,tS (mk l)),(1,iS .i64 a),(7,iS .u64 z.2),(8,iS .u64 ((128 ^ z.1:Nat):Int)),(9,iS .i64 z.1)]) (fun _=>[])
  (fun z=>z.1<=9/\z.2 < 128 ^ z.1/\a + z.1<=l.length/\rL z.1 z.2 (l.drop (a + z.1))=vr (l.drop a)) (fun z=>10 - z.1) (0,0) 0 ⟨by decide,by decide,hal,rfl⟩ ?_ ?_ ?_
 · simp -dsimp only [go_sem]<;>simp
 · simp [go_sem]
 rintro ⟨i,n⟩ ⟨hi,hn,hil,ho⟩
 simp only at hi hn hil ho ⊢
 have hg:decide ((i:Int) < 10)=true:=by simp; omega
 have ha:IntKind.i64.wrap ((a:Int) + (i:Int))=((a + i:Nat):Int):=by rw [<-Int.natCast_add]; exact A3 (by omega)
 rcases a8 (a + i) l.length with hlt | hge
 · have hg2:decide ((l.length:Int)<=((a + i:Nat):Int))=false:=by simp; omega
   obtain ⟨c,hc⟩:∃ c,l[a + i]? = some c:=⟨_,aV hlt⟩
   have hd:l.drop (a + i)=c :: l.drop (a + i + 1):=by
    obtain ⟨h,rfl⟩:=bC.1 hc
    exact List.drop_eq_getElem_cons h
   rw [hd,sP] at ho
   have e9:((i:Int) == 9)=(i == 9):=by rw [Bool.eq_iff_iff]; simp; omega
   have e1:decide ((1:Int) < (c.toNat:Int))=decide (1 < c.toNat):=by rw [Bool.eq_iff_iff]; simp; omega
   have e128:decide ((c.toNat:Int) < 128)=!decide (128<=c.toNat):=by rw [Bool.eq_iff_iff]; simp; omega
   have e0:((c.toNat:Int) == 0)=(c.toNat == 0):=by rw [Bool.eq_iff_iff]; simp
   have ei:decide ((0:Int) < (i:Int))=decide (0 < i):=by rw [Bool.eq_iff_iff]; simp
   have hc256:=c.toNat_lt
   cases c1:i == 9 && decide (1 < c.toNat) with
   | true=>
    rw [c1,cond_true] at ho
    simp (maxSteps:=1000000) -dsimp only [go_sem,hg,ha,hg2,hc,aF,forall_eq',e9,e1,e128,e0,ei,c1]
    exact ⟨⟨by omega,by omega⟩,fin 0 0 2 ho.symm⟩
   | false=>
    rw [c1,cond_false] at ho
    have key:n + c.toNat % 128 * 128 ^ i < 18446744073709551616:=by
     rcases a8 i 9 with h9 | h9
     · have h1:128 ^ (i + 1)<=128 ^ 9:=Nat.pow_le_pow_right (by decide) (by omega)
       have h2:c.toNat % 128 * 128 ^ i<=127 * 128 ^ i:=Nat.mul_le_mul_right _ (by omega)
       have h3:(128:Nat) ^ 9=9223372036854775808:=by decide
       have h4:128 ^ (i + 1)=128 * 128 ^ i:=by rw [Nat.pow_succ,Nat.mul_comm]
       omega
     · obtain rfl:i=9:=by omega
       rw [show ((9:Nat) == 9)=true from rfl,Bool.true_and] at c1
       have h1:=of_decide_eq_false c1
       have h3:(128:Nat) ^ 9=9223372036854775808:=by decide
       rw [h3] at hn ⊢
       have:c.toNat % 128<=1:=by omega
       have h2:c.toNat % 128 * 9223372036854775808<=1 * 9223372036854775808:=Nat.mul_le_mul_right _ this
       omega
    have c1':i=9->c.toNat<=1:=fun e=>by
     subst e
     rw [show ((9:Nat) == 9)=true from rfl,Bool.true_and] at c1
     have:=of_decide_eq_false c1; omega
    simp (maxSteps:=1000000) -dsimp only [go_sem,hg,ha,hg2,hc,aF,forall_eq',e9,e1,e128,e0,ei,c1]
    have hp:128 ^ (i + 1)=128 * 128 ^ i:=by rw [Nat.pow_succ,Nat.mul_comm]
    have hle:c.toNat % 128 * 128 ^ i<=n + c.toNat % 128 * 128 ^ i:=Nat.le_add_left _ _
    have ht:(c.toNat:Int).tmod 128=((c.toNat % 128:Nat):Int):=rfl
    have hw:IntKind.u64.wrap ((n:Int) + IntKind.u64.wrap (IntKind.u64.wrap ((c.toNat:Int).tmod 128) * ((128 ^ i:Nat):Int)))=((n + c.toNat % 128 * 128 ^ i:Nat):Int):=by
     rw [ht,g7 (n:=c.toNat % 128) (by omega),<-Int.natCast_mul,g7 (n:=c.toNat % 128 * 128 ^ i) (by omega),<-Int.natCast_add,g7 key]
    have ha1:IntKind.i64.wrap (((a + i:Nat):Int) + 1)=((a + (i + 1):Nat):Int):=by
     rw [show ((a + i:Nat):Int) + 1=((a + (i + 1):Nat):Int) by omega]; exact A3 (by omega)
    rw [hw,ha1]
    refine ⟨⟨by omega,by omega⟩,by decide,fun h1=>⟨fun h2=>?_,fun h2=>?_⟩,fun h1=>?_⟩
    · rw [h1,cond_false,h2,cond_true] at ho
      exact fin 0 0 2 ho.symm
    · rw [h1,cond_false,h2,cond_false] at ho
      exact fin _ _ 0 ho.symm
    · have h1:decide (128<=c.toNat)=true:=by simpa using h1
      rw [h1,cond_true] at ho
      have h128:=of_decide_eq_true h1
      have hi9:i ≠ 9:=fun e=>by have:=c1' e; omega
      have hm:c.toNat % 128 * 128 ^ i<=127 * 128 ^ i:=Nat.mul_le_mul_right _ (by omega)
      have hsc:IntKind.u64.wrap (((128 ^ i:Nat):Int) * 128)=((128 ^ (i + 1):Nat):Int):=by
       have h3:128 ^ (i + 1)<=128 ^ 9:=Nat.pow_le_pow_right (by decide) (by omega)
       have h4:(128:Nat) ^ 9=9223372036854775808:=by decide
       rw [show ((128 ^ i:Nat):Int) * 128=((128 ^ (i + 1):Nat):Int) by rw [hp]; omega]
       exact g7 (by omega)
      have hi1:IntKind.i64.wrap ((i:Int) + 1)=(i:Int) + 1:=oW ⟨by omega,by omega⟩
      refine aE (i + 1,n + c.toNat % 128 * 128 ^ i) 0 ⟨by simp only; omega,by simp only; rw [hp]; omega,by simp only; omega,ho⟩ (by simp only; omega) ?_ ?_
      · simp -dsimp only [go_sem,hw,hsc,hi1]<;>simp
      · simp [go_sem]
 · have hg2:decide ((l.length:Int)<=((a + i:Nat):Int))=true:=by simp; omega
   have hd:l.drop (a + i)=[]:=List.drop_eq_nil_iff.2 hge
   rw [hd,wM] at ho
   simp (maxSteps:=1000000) -dsimp only [go_sem,hg,ha,hg2]
   exact fin 0 0 1 ho.symm
def SE:W.Spec:=fun av H K=>∃ (x:List UInt8) (a:Nat),av=[.va (.gs (fW x a 0))]/\H=[]/\a<=x.length/\x.length<=1000000/\K (.tu [.gs (fW x (a + (vr (x.drop a)).2.1) (vr (x.drop a)).2.2),uA (vr (x.drop a)).1]) []
theorem E9 {x:List UInt8} {a:Nat} {K:S->Hp->Prop} (h:a<=x.length) (hx:x.length<=1000000) (hK:K (.tu [.gs (fW x (a + (vr (x.drop a)).2.1) (vr (x.drop a)).2.2),uA (vr (x.drop a)).1]) []):SE [.va (.gs (fW x a 0))] [] K:=⟨x,a,rfl,rfl,h,hx,hK⟩
theorem tJ:Meets Tryz.prog 65 SE:=by
 refine aD Tryz.func65 aC4 1 (by rw [Tryz.ntmps65]; decide) (aC MA (aC CB (aB _))) (fun av H K h=>by obtain ⟨_,_,rfl,_⟩:=h; rfl) ?_
 rintro av H K ⟨x,a,rfl,rfl,ha,hx,hK⟩
 have fin:∀ (n k:Nat) (e:Int) (R:Hp),vr (x.drop a)=(n,k,e)->W.Fin 0 K (.tu [.gs (fW x (a + k) e),uA n]) R:=fun n k e R h=>by
  rw [h] at hK; exact .sel [] (by simp) (by simp) rfl (.done (by simpa [go_sem,fW] using hK))
 clear hK
 have hlt:=gE (x.drop a)
 have e00:((0:Int) != 0)=false:=rfl
 simp (maxSteps:=1000000) -dsimp only [go_sem,RY,RG,e00]
 refine UV ha hx ?_
 simp (maxSteps:=1000000) -dsimp only [go_sem]
 refine aA rfl (.done ?_)
 generalize vr (x.drop a)=z at *
 obtain ⟨n,k,e⟩:=z
 simp only at fin hlt ⊢
 cases c1:e != 0 with
 | true=>
  simp (maxSteps:=1000000) -dsimp only [go_sem,qX,c1]
  refine EU ?_
  simp (maxSteps:=1000000) -dsimp only [go_sem]
  rcases hlt with ⟨_,rfl,rfl,_⟩ | ⟨h,_⟩
  · exact fin _ _ _ _ rfl
  · exact absurd h (uT c1)
 | false=>
  obtain rfl:=gS c1
  simp (maxSteps:=1000000) -dsimp only [go_sem,qX,c1]
  refine aA rfl (.done ?_)
  simp (maxSteps:=1000000) -dsimp only [go_sem,xD]
  exact fin _ _ _ _ rfl
def rF (x:List UInt8) (a:Nat):Nat × Nat × Int:=bif (vr (x.drop a)).2.2 != 0 then (0,a,(vr (x.drop a)).2.2) else bif decide (2147483647 < (vr (x.drop a)).1) then (0,a,4) else ((vr (x.drop a)).1,a + (vr (x.drop a)).2.1,0)
def P2:W.Spec:=fun av H K=>∃ (x:List UInt8) (a:Nat),av=[.va (.gs (fW x a 0)),iS .i64 2147483647]/\H=[]/\a<=x.length/\x.length<=1000000/\K (.tu [.gs (fW x (rF x a).2.1 (rF x a).2.2),iA .i64 ((rF x a).1:Nat)]) []
theorem US {x:List UInt8} {a:Nat} {K:S->Hp->Prop} (h:a<=x.length) (hx:x.length<=1000000) (hK:K (.tu [.gs (fW x (rF x a).2.1 (rF x a).2.2),iA .i64 ((rF x a).1:Nat)]) []):P2 [.va (.gs (fW x a 0)),iS .i64 2147483647] [] K:=⟨x,a,rfl,rfl,h,hx,hK⟩
theorem EL:Meets Tryz.prog 64 P2:=by
 refine aD Tryz.func64 aDV 2 (by rw [Tryz.ntmps64]; decide) (aC tJ (aC CB (aB _))) (fun av H K h=>by obtain ⟨_,_,rfl,_⟩:=h; rfl) ?_
 rintro av H K ⟨x,a,rfl,rfl,ha,hx,hK⟩
 have fin:∀ (n k:Nat) (e:Int) (R:Hp),rF x a=(n,k,e)->W.Fin 0 K (.tu [.gs (fW x k e),iA .i64 (n:Nat)]) R:=fun n k e R h=>by
  rw [h] at hK; exact .sel [] (by simp) (by simp) rfl (.done (by simpa [go_sem,fW] using hK))
 clear hK
 unfold rF at fin
 have hlt:=gE (x.drop a)
 simp (maxSteps:=1000000) -dsimp only [go_sem,S4,PT]
 refine E9 ha hx ?_
 simp (maxSteps:=1000000) -dsimp only [go_sem]
 refine aA rfl (.done ?_)
 generalize vr (x.drop a)=z at *
 obtain ⟨n,k,e⟩:=z
 simp only at fin hlt ⊢
 cases c1:e != 0 with
 | true=>
  rw [c1,cond_true] at fin
  simp (maxSteps:=1000000) -dsimp only [go_sem,pH,c1]
  rcases hlt with ⟨_,rfl,rfl,_⟩ | ⟨h,_⟩
  · exact fin _ _ _ _ rfl
  · exact absurd h (uT c1)
 | false=>
  obtain rfl:=gS c1
  rw [c1,cond_false] at fin
  simp (maxSteps:=1000000) -dsimp only [go_sem,pH,c1]
  refine aA rfl (.done ?_)
  have e1:decide ((2147483647:Int) < 0)=false:=by decide
  have e2:IntKind.u64.wrap 2147483647=2147483647:=by decide
  have e3:decide ((2147483647:Int) < (n:Int))=decide (2147483647 < n):=by rw [Bool.eq_iff_iff]; simp; omega
  cases c2:decide (2147483647 < n) with
  | true=>
   rw [c2,cond_true] at fin
   simp (maxSteps:=1000000) -dsimp only [go_sem,qT,e1,e2,e3,c2]
   refine EU ?_
   simp (maxSteps:=1000000) -dsimp only [go_sem]
   exact fin _ _ _ _ rfl
  | false=>
   rw [c2,cond_false] at fin
   have c2':=of_decide_eq_false c2
   simp (maxSteps:=1000000) -dsimp only [go_sem,qT,e1,e2,e3,c2]
   refine aA rfl (.done ?_)
   have hw:IntKind.i64.wrap (n:Int)=(n:Int):=A3 (by omega)
   simp (maxSteps:=1000000) -dsimp only [go_sem,wR,hw]
   exact fin _ _ _ _ rfl
def AN (r:List C):Prop:=∃ (x:List UInt8) (a:Nat) (e:Int),r=fW x a e/\a<=x.length/\x.length<=1000000
def C.lf4:List C->Int:=fun r=>match r with
 | [.vl (.string s),.vl (.int _ a),_]=>(s.size:Int) - a
 | _=>0
@[go_sem] theorem VZ (x:List UInt8) (a:Nat) (e:Int):C.lf4 (fW x a e)=(x.length:Int) - (a:Int):=by
 show ((mk x).size:Int) - (a:Int)=_
 rw [cN,lK]
theorem LY {x:List UInt8} {a:Nat} {e:Int} (h:a<=x.length) (hx:x.length<=1000000):AN (fW x a e):=⟨x,a,e,rfl,h,hx⟩
theorem aAS:Meets Tryz.prog 66 (tC AN C.lf4 fun n=>.int .i64 n).sp:=by
 refine aD Tryz.func66 aC3 1 (by rw [Tryz.ntmps66]; decide) (aB _) pK ?_
 rintro av H K ⟨⟨h,rfl⟩,hK⟩
 obtain ⟨r,rfl,x,a,e,rfl,ha,hx⟩:=gR h
 have hK:K (iS .i64 ((x.length:Int) - (a:Int))) []:=by
  have:(tC AN C.lf4 fun n=>.int .i64 n).val [.va (.gs (fW x a e))]=iA .i64 ((x.length:Int) - (a:Int)):=by
   show A.c1 (.vl (.int .i64 (C.lf4 (fW x a e))))=_
   rw [VZ]
  rw [this] at hK; exact hK
 clear h
 simp (maxSteps:=1000000) -dsimp only [go_sem,PK,Q6]
 refine ⟨by omega,.sel [] (by simp) (by simp) rfl (.done ?_)⟩
 simpa [go_sem] using hK
def nx2 (b:List UInt8) (n a:Nat) (z:Nat × Nat × Int):(Int × List UInt8) × Nat × Int:=bif z.2.2 != 0 then ((0,[]),0,z.2.2) else bif decide (b.length - (a + z.2.1) < z.1) then ((0,[]),0,1) else (((n:Int),(b.drop (a + z.2.1)).take z.1),a + z.2.1 + z.1,0)
def nx1 (b:List UInt8) (a:Nat) (last:Int) (z:Nat × Nat × Int):(Int × List UInt8) × Nat × Int:=bif z.2.2 != 0 then ((0,[]),0,z.2.2) else bif decide (2147483647 < z.1) then ((0,[]),0,4) else bif decide ((z.1:Int)<=last) then ((0,[]),0,2) else nx2 b z.1 (a + z.2.1) (vr (b.drop (a + z.2.1)))
def nW (b:List UInt8) (a:Nat) (last:Int):(Int × List UInt8) × Nat × Int:=nx1 b a last (vr (b.drop a))
theorem aDN {b:List UInt8} {a:Nat} {last:Int} (ha:a<=b.length):nW b a last=bif (aS (b.drop a) last).2.2 != 0 then ((0,[]),0,(aS (b.drop a) last).2.2) else ((aS (b.drop a) last).1,b.length - (aS (b.drop a) last).2.1.length,0):=by
 have h1:=gE (b.drop a)
 unfold nW nx1 aS aY
 generalize hz:vr (b.drop a)=z at *
 obtain ⟨n,k,e⟩:=z
 simp only at h1 ⊢
 cases c1:e != 0 with
 | true=>simp only [cond_true,c1]
 | false=>
 obtain rfl:=gS c1
 have hk:k<=(b.drop a).length:=by
  rcases h1 with ⟨h,_⟩ | ⟨_,_,_,h,_⟩
  · exact absurd rfl h
  · exact h
 rw [List.length_drop] at hk
 simp only [cond_false,show ((0:Int) != 0)=false from rfl]
 cases decide (2147483647 < n) with
 | true=>rfl
 | false=>
 simp only [cond_false]
 cases decide ((n:Int)<=last) with
 | true=>rfl
 | false=>
 simp only [cond_false]
 unfold nx2 bK aY
 rw [List.drop_drop]
 have h2:=gE (b.drop (a + k))
 generalize hz2:vr (b.drop (a + k))=z2 at *
 obtain ⟨n2,k2,e2⟩:=z2
 simp only at h2 ⊢
 cases c2:e2 != 0 with
 | true=>simp only [cond_true,c2]
 | false=>
 obtain rfl:=gS c2
 have hk2:k2<=(b.drop (a + k)).length:=by
  rcases h2 with ⟨h,_⟩ | ⟨_,_,_,h,_⟩
  · exact absurd rfl h
  · exact h
 rw [List.length_drop] at hk2
 simp only [cond_false,show ((0:Int) != 0)=false from rfl,List.drop_drop,List.length_drop]
 cases c3:decide (b.length - (a + k + k2) < n2) with
 | true=>rfl
 | false=>
  have:=of_decide_eq_false c3
  simp only [cond_false,show ((0:Int) != 0)=false from rfl,List.length_drop]
  rw [show b.length - (b.length - (a + k + k2 + n2))=a + k + k2 + n2 by omega]
def aBI:W.Spec:=fun av H K=>∃ (b:List UInt8) (a:Nat) (last:Int),av=[tS (mk b),iS .i64 a,iS .i64 last]/\H=[]/\a<=b.length/\b.length<=1000000/\K (.tu [.gs (d9 (nW b a last).1),iA .i64 ((nW b a last).2.1:Nat),iA .i64 (nW b a last).2.2]) []
theorem aAU {b:List UInt8} {a:Nat} {last:Int} {K:S->Hp->Prop} (h:a<=b.length) (hx:b.length<=1000000) (hK:K (.tu [.gs [.vl (.int .i64 (nW b a last).1.1),.vl (.string (mk (nW b a last).1.2))],iA .i64 ((nW b a last).2.1:Nat),iA .i64 (nW b a last).2.2]) []):aBI [tS (mk b),iS .i64 a,iS .i64 last] [] K:=⟨b,a,last,rfl,rfl,h,hx,hK⟩
theorem aD1:Meets Tryz.prog 35 aBI:=by
 refine aD Tryz.func35 aEQ 3 (by rw [Tryz.ntmps35]; decide) (aC EL (aC tJ (aH aAS (aB _)))) (fun av H K h=>by obtain ⟨_,_,_,rfl,_⟩:=h; rfl) ?_
 rintro av H K ⟨b,a,last,rfl,rfl,ha,hb,hK⟩
 have fin:∀ (c:Int) (n:List UInt8) (k:Nat) (e:Int) (R:Hp),nW b a last=((c,n),k,e)->W.Fin 0 K (.tu [.gs [.vl (.int .i64 c),.vl (.string (mk n))],iA .i64 (k:Nat),iA .i64 e]) R:=fun c n k e R h=>by
  rw [h] at hK; exact .sel [] (by simp) (by simp) rfl (.done (by simpa [go_sem,d9] using hK))
 clear hK
 unfold nW nx1 at fin
 have hr:rF b a=bif (vr (b.drop a)).2.2 != 0 then (0,a,(vr (b.drop a)).2.2) else bif decide (2147483647 < (vr (b.drop a)).1) then (0,a,4) else ((vr (b.drop a)).1,a + (vr (b.drop a)).2.1,0):=rfl
 have h1:=gE (b.drop a)
 simp (maxSteps:=1000000) -dsimp only [go_sem,PN,R9]
 refine US ha hb ?_
 generalize rF b a=y at *
 generalize vr (b.drop a)=z at *
 obtain ⟨n,k,e⟩:=z
 simp only at fin h1 hr
 have hal:a + k<=b.length:=by
  rcases h1 with ⟨_,_,rfl,_⟩ | ⟨_,_,_,h,_⟩
  · exact ha
  · rw [List.length_drop] at h; omega
 cases c1:e != 0 with
 | true=>
  rw [c1,cond_true] at fin hr
  subst hr
  simp (maxSteps:=1000000) -dsimp only [go_sem]
  refine aA rfl (.done ?_)
  simp (maxSteps:=1000000) -dsimp only [go_sem,l9,c1]
  exact fin _ _ _ _ _ rfl
 | false=>
 rw [c1,cond_false] at fin hr
 cases c2:decide (2147483647 < n) with
 | true=>
  rw [c2,cond_true] at fin hr
  subst hr
  have e4:((4:Int) != 0)=true:=rfl
  simp (maxSteps:=1000000) -dsimp only [go_sem]
  refine aA rfl (.done ?_)
  simp (maxSteps:=1000000) -dsimp only [go_sem,l9,e4]
  exact fin _ _ _ _ _ rfl
 | false=>
 rw [c2,cond_false] at fin hr
 have c2':=of_decide_eq_false c2
 subst hr
 have e00:((0:Int) != 0)=false:=rfl
 simp (maxSteps:=1000000) -dsimp only [go_sem]
 refine aA rfl (.done ?_)
 simp (maxSteps:=1000000) -dsimp only [go_sem,l9,e00]
 refine aA rfl (.done ?_)
 cases c3:decide ((n:Int)<=last) with
 | true=>
  rw [c3,cond_true] at fin
  simp (maxSteps:=1000000) -dsimp only [go_sem,pM,c3]
  exact fin _ _ _ _ _ rfl
 | false=>
 rw [c3,cond_false] at fin
 unfold nx2 at fin
 have h2:=gE (b.drop (a + k))
 simp (maxSteps:=1000000) -dsimp only [go_sem,pM,c3]
 refine E9 hal hb ?_
 generalize vr (b.drop (a + k))=z2 at *
 obtain ⟨n2,k2,e2⟩:=z2
 simp only at fin h2 ⊢
 have hal2:a + k + k2<=b.length:=by
  rcases h2 with ⟨_,_,rfl,_⟩ | ⟨_,_,_,h,_⟩
  · exact hal
  · rw [List.length_drop] at h; omega
 simp (maxSteps:=1000000) -dsimp only [go_sem]
 refine aA rfl (.done ?_)
 cases c4:e2 != 0 with
 | true=>
  rw [c4,cond_true] at fin
  simp (maxSteps:=1000000) -dsimp only [go_sem,qJ,c4]
  exact fin _ _ _ _ _ rfl
 | false=>
 rw [c4,cond_false] at fin
 simp (maxSteps:=1000000) -dsimp only [go_sem,qJ,c4]
 refine aA rfl (.done ?_)
 have hrd:AN (fW b (a + k + k2) e2):=LY hal2 hb
 have hu:IntKind.u64.wrap ((b.length:Int) - ((a + k + k2:Nat):Int))=((b.length - (a + k + k2):Nat):Int):=by rw [show (b.length:Int) - ((a + k + k2:Nat):Int)=((b.length - (a + k + k2):Nat):Int) by omega]; exact g7 (by omega)
 have hd:decide (((b.length - (a + k + k2):Nat):Int) < (n2:Int))=decide (b.length - (a + k + k2) < n2):=by rw [Bool.eq_iff_iff]; simp only [decide_eq_true_eq]; omega
 cases c5:decide (b.length - (a + k + k2) < n2) with
 | true=>
  rw [c5,cond_true] at fin
  simp (maxSteps:=1000000) -dsimp only [go_sem,qH,hrd,hu,hd,c5]
  exact fin _ _ _ _ _ rfl
 | false=>
  rw [c5,cond_false] at fin
  have c5':=of_decide_eq_false c5
  simp (maxSteps:=1000000) -dsimp only [go_sem,qH,hrd,hu,hd,c5]
  refine aA rfl (.done ?_)
  have hw:IntKind.i64.wrap (n2:Int)=(n2:Int):=A3 (by omega)
  have es:((a + k + k2:Nat):Int) + (n2:Int)=((a + k + k2 + n2:Nat):Int):=by omega
  have hsl:List.drop (a + k + k2) (List.take (a + k + k2 + n2) b)=List.take n2 (List.drop (a + k + k2) b):=by rw [List.drop_take]; congr 1; omega
  simp (maxSteps:=1000000) -dsimp only [go_sem,sT,hw,es,Int.toNat_natCast,hsl]
  refine ⟨by omega,by omega,by omega,by omega,?_⟩
  exact fin _ _ _ _ _ rfl
def XM:W.Spec:=fun av H K=>∃ x:List UInt8,av=[tS (mk x)]/\H=[]/\x.length<=9223372036854775807/\
 (2000 < x.length->K (.tu [.c1 (.fz []),iA .i64 3]) [])/\(x.length<=2000->K (.tu [.c1 (.fz ((bQ x.length 0 x).1.map d9)),iA .i64 (bQ x.length 0 x).2]) [])
theorem aAO:Meets Tryz.prog 19 XM:=by
 refine aD Tryz.func19 aC9 1 (by rw [Tryz.ntmps19]; decide) (aC aD1 (aB _)) (fun av H K h=>by obtain ⟨_,rfl,_⟩:=h; rfl) ?_
 rintro av H K ⟨x,rfl,rfl,hx,hK1,hK2⟩
 rcases a8 2000 x.length with hlt | hge
 · have g0:decide ((2000:Int) < (x.length:Int))=true:=by simp; omega
   simp (maxSteps:=1000000) -dsimp only [go_sem,HI,II,g0]
   exact .done (hK1 hlt)
 have g0:decide ((2000:Int) < (x.length:Int))=false:=by simp; omega
 have hK:=hK2 hge
 clear hK1 hK2
 have key:∀ (L:List (Int × List UInt8)) (e:Int),bQ x.length 0 x=(L,e)->K (.tu [.c1 (.fz (L.map d9)),iA .i64 e]) []:=fun L e h=>by rw [h] at hK; exact hK
 clear hK
 simp (maxSteps:=1000000) -dsimp only [go_sem,HI,II,g0]
 refine cH (α:=Nat × Int × Nat × List (Int × List UInt8)) (fun z=>[(0,tS (mk x)),(4,.va (.c1 (.sl 0 z.2.2.2.length))),(5,iS .i64 z.2.1),(6,iS .i64 z.2.2.1)]) (fun z=>[.row (z.2.2.2.map d9) 59 2])
  (fun z=>z.2.2.1<=x.length/\x.length - z.2.2.1<=z.1/\z.2.2.2.length<=z.2.2.1/\hJ z.2.2.2 (bQ z.1 z.2.1 (x.drop z.2.2.1))=bQ x.length 0 x) (fun z=>z.1) (.nil 4 59 2 rfl (iU (x.length,0,0,[]) 1 ⟨Nat.zero_le _,Nat.sub_le _ _,Nat.le_refl _,wI (u6 _ _ _)⟩ ?_ ?_)) ?_
 · simp -dsimp only [go_sem]<;>simp
 · simp -dsimp only [go_sem]<;>simp
 rintro ⟨g,last,a,acc⟩ ⟨ha,hg,hl,ho⟩
 simp only at ha hg hl ho ⊢
 rcases a8 a x.length with hax | hax
 · have g1:decide ((a:Int) < (x.length:Int))=true:=by simp; omega
   have hb:x.drop a ≠ []:=fun h=>by have:=congrArg List.length h; rw [List.length_drop] at this; simp at this; omega
   obtain ⟨g,rfl⟩:∃ k,g=k + 1:=⟨g - 1,by omega⟩
   rw [kT hb] at ho
   have hfl:=n7 (x.drop a) last
   have hnx:=aDN (last:=last) ha
   have hok:=H7 (x.drop a) last
   simp (maxSteps:=1000000) -dsimp only [go_sem,g1]
   refine aAU ha (by omega) ?_
   generalize nW x a last=y at *
   generalize aS (x.drop a) last=z at *
   obtain ⟨⟨c,n⟩,r,e⟩:=z
   simp only at ho hfl hnx hok
   cases c1:e != 0 with
   | true=>
    rw [c1,cond_true] at hnx
    rw [c1,cond_true,lW acc c1] at ho
    subst hnx
    simp (maxSteps:=1000000) -dsimp only [go_sem]
    refine aA rfl (.done ?_)
    simp (maxSteps:=1000000) -dsimp only [go_sem,p6,c1]
    refine .sel [] (by simp) (by simp) rfl (.done ?_)
    simp -dsimp only [go_sem]
    exact key _ _ ho.symm
   | false=>
    rw [c1,cond_false] at hnx
    rw [c1,cond_false,D1] at ho
    subst hnx
    have hlt:=hfl.2.2 (gS c1)
    obtain rfl:=gS c1
    rw [List.length_drop] at hlt
    have hdr:x.drop (x.length - r.length)=r:=by
     rcases hok with h | ⟨_,_,_,_,h⟩
     · exact absurd rfl h
     · have h2:x=x.take a ++ (vi c.toNat ++ (vi n.length ++ n)) ++ r:=by rw [List.append_assoc,<-h,List.take_append_drop]
       have h3:x.length - r.length=(x.take a ++ (vi c.toNat ++ (vi n.length ++ n))).length:=by have:=congrArg List.length h2; rw [List.length_append] at this; omega
       rw [h3]
       exact (congrArg (List.drop (x.take a ++ (vi c.toNat ++ (vi n.length ++ n))).length) h2).trans List.drop_left
    have e00:((0:Int) != 0)=false:=rfl
    simp (maxSteps:=1000000) -dsimp only [go_sem]
    refine aA rfl (.done ?_)
    simp (maxSteps:=1000000) -dsimp only [go_sem,p6,e00]
    refine ⟨by omega,aE (g,c,x.length - r.length,acc ++ [(c,n)]) 1 ⟨by simp only; omega,by simp only; omega,by simp only [List.length_append,List.length_singleton]; omega,by simp only; rw [hdr]; exact ho⟩ (by simp only; omega) ?_ ?_⟩
    · simp -dsimp only [go_sem]<;>simp
    · simp -dsimp only [go_sem]<;>simp [d9]
 · have g1:decide ((a:Int) < (x.length:Int))=false:=by simp; omega
   have hb:x.drop a=[]:=List.drop_eq_nil_iff.2 hax
   rw [hb,D6,CC,List.append_nil] at ho
   simp (maxSteps:=1000000) -dsimp only [go_sem,g1]
   refine aA rfl (.done ?_)
   simp (maxSteps:=1000000) -dsimp only [go_sem,sH]
   refine .pub 0 _ _ _ rfl (.sel [] (by simp) (by simp [cA]) rfl (.done ?_))
   simp -dsimp only [go_sem,cA]
   simpa using key _ _ ho.symm
def pF (x:List UInt8):List (Int × List UInt8) × Int:=if 2000 < x.length then ([],3) else bQ x.length 0 x
theorem HP {x:List UInt8} (h:2000 < x.length):pF x=([],3):=if_pos h
theorem HX {x:List UInt8} (h:x.length<=2000):pF x=bQ x.length 0 x:=if_neg (by omega)
theorem XP {x:List UInt8} {K:S->Hp->Prop} (h:x.length<=9223372036854775807) (hK:K (.tu [.c1 (.fz ((pF x).1.map fun y=>dF y.1)),iA .i64 (pF x).2]) []):XC [tS (mk x)] [] K:=
 ⟨x,rfl,rfl,h,fun h1=>(by rw [HP h1] at hK; exact hK),fun h1=>(by rw [HX h1] at hK; exact hK)⟩
theorem aAX {x:List UInt8} {K:S->Hp->Prop} (h:x.length<=9223372036854775807) (hK:K (.tu [.c1 (.fz ((pF x).1.map d9)),iA .i64 (pF x).2]) []):XM [tS (mk x)] [] K:=
 ⟨x,rfl,rfl,h,fun h1=>(by rw [HP h1] at hK; exact hK),fun h1=>(by rw [HX h1] at hK; exact hK)⟩
theorem CQ {x:List UInt8} {k:Int} {K:S->Hp->Prop} (h:x.length<=9223372036854775807) (hK:K (.tu [tA (mk (((eT (pF x).1 k).map (·.2)).getD [])),bA (eT (pF x).1 k).isSome]) []):aB5 [tS (mk x),iS .i64 k] [] K:=
 ⟨x,k,rfl,rfl,h,fun h1=>(by rw [HP h1] at hK; exact hK),fun h1=>(by rw [HX h1] at hK; exact hK)⟩
theorem GG:∀ (g:Nat) (last:Int) (b:List UInt8),(∀ y ∈ (bQ g last b).1,last < y.1)/\((bQ g last b).1).Pairwise (fun y z=>y.1 < z.1)
 | 0,_,_=>⟨fun y h=>(by cases h),List.Pairwise.nil⟩
 | g + 1,last,b=>by
  rw [yU]
  cases b == [] with
  | true=>exact ⟨fun y h=>(by cases h),List.Pairwise.nil⟩
  | false=>
  rw [cond_false]
  have h1:=H7 b last
  cases c1:(aS b last).2.2 != 0 with
  | true=>exact ⟨fun y h=>(by cases h),List.Pairwise.nil⟩
  | false=>
  rw [cond_false]
  obtain ⟨h2,h3⟩:=GG g (aS b last).1.1 (aS b last).2.1
  cases (bQ g (aS b last).1.1 (aS b last).2.1).2 != 0 with
  | true=>exact ⟨fun y h=>(by cases h),List.Pairwise.nil⟩
  | false=>
  have h4:last < (aS b last).1.1:=by
   rcases h1 with h | ⟨_,h,_⟩
   · exact absurd (gS c1) h
   · exact h
  refine ⟨fun y hy=>?_,List.pairwise_cons.2 ⟨h2,h3⟩⟩
  rcases List.mem_cons.1 hy with rfl | hy
  · exact h4
  · have:=h2 y hy; omega
theorem YV (x:List UInt8):(pF x).1.length<=x.length:=by
 unfold pF
 split
 · exact Nat.zero_le _
 · exact nO _ _ _
theorem XS (x:List UInt8):((pF x).1).Pairwise (fun y z=>y.1 < z.1):=by
 unfold pF
 split
 · exact List.Pairwise.nil
 · exact (GG _ _ _).2
theorem SI:∀ {L:List (Int × List UInt8)} {i:Nat} {y:Int × List UInt8},L.Pairwise (fun y z=>y.1 < z.1)->L[i]? = some y->eT L y.1=some y
 | z :: L,0,y,_,h=>by
  simp at h
  subst h
  unfold eT
  simp
 | z :: L,i + 1,y,hp,h=>by
  have h:=(List.getElem?_cons_succ).symm.trans h
  obtain ⟨h1,h2⟩:=List.pairwise_cons.1 hp
  have h3:=h1 y (b6 h)
  have h4:=SI h2 h
  unfold eT at h4 ⊢
  rw [List.find?_cons_of_neg (by simp; omega)]
  exact h4
theorem TZ {L:List (Int × List UInt8)} {i:Nat} {y:Int × List UInt8} {k:Int} (hp:L.Pairwise (fun y z=>y.1 < z.1)) (h:L[i]? = some y):eT (L.take (i + 1)) k=bif y.1 == k then some y else eT (L.take i) k:=by
 have ht:L.take (i + 1)=L.take i ++ [y]:=by
  obtain ⟨hl,rfl⟩:=bC.1 h
  exact List.take_succ_eq_append_getElem hl
 have hp2:(L.take i ++ [y]).Pairwise (fun y z=>y.1 < z.1):=by rw [<-ht]; exact hp.sublist (List.take_sublist _ _)
 rw [ht]
 obtain ⟨_,_,h3⟩:=List.pairwise_append.1 hp2
 unfold eT
 rw [List.find?_append]
 cases c:y.1 == k with
 | true=>
  have hk:=eq_of_beq c
  have hn:(L.take i).find? (fun y=>decide (y.1=k))=none:=by
   rw [List.find?_eq_none]
   intro z hz
   have:=h3 z hz y (by simp)
   simp; omega
  rw [hn]; simp [hk]
 | false=>
  have hk:=ne_of_beq_false c
  simp [hk]
theorem J4 (b:ByteArray):(b == b)=true:=by
 cases b
 show (Array.isEqv _ _ _)=true
 simp [Array.isEqv_eq_decide]
def AS:List S->Prop:=fun av=>match av with
 | [.va (.c1 (.vl (.string b))),.va (.c1 (.vl (.int .i64 _)))]=>b.size<=9223372036854775807
 | _=>False
theorem s6 {av:List S} (h:AS av):∃ (b:List UInt8) (k:Int),av=[tS (mk b),iS .i64 k]/\b.length<=9223372036854775807:=by
 unfold AS at h
 split at h
 · rename_i b k
   rw [cN] at h
   exact ⟨bl b,k,by rw [fR],h⟩
 · exact h.elim
def lfFn:Fun:=⟨AS,fun _=>bA true,fun _ _=>trivial⟩
attribute [go_sem] lfFn AS
theorem G7:Meets Tryz.prog 8 lfFn.sp:=by
 refine aD Tryz.func8 aJZ 2 (by rw [Tryz.ntmps8]; decide) (aC OD (aC aAO (aC aEZ (aH NS (aB _))))) (fun av H K h=>by obtain ⟨_,_,rfl,_⟩:=s6 h.1.1; rfl) ?_
 rintro av H K ⟨⟨h,rfl⟩,hK⟩
 obtain ⟨b,k,rfl,hb⟩:=s6 h
 have hK:K (bS true) []:=hK
 clear h
 have fin:∀ R:Hp,W.Fin 0 K (bS true) R:=fun R=>.sel [] (by simp) (by simp) rfl (.done (by simpa [go_sem] using hK))
 clear hK
 have hasc:=XS b
 simp (maxSteps:=1000000) -dsimp only [go_sem,VW,Z9]
 refine XP hb ?_
 simp (maxSteps:=1000000) -dsimp only [go_sem]
 refine aA rfl (.done ?_)
 simp (maxSteps:=1000000) -dsimp only [go_sem,BV]
 refine aAX hb ?_
 simp (maxSteps:=1000000) -dsimp only [go_sem]
 refine aA rfl (.done ?_)
 have e1:((pF b).2 != (pF b).2)=false:=bne_self_eq_false _
 have e2:((((pF b).1.length:Nat):Int) != (((pF b).1.length:Nat):Int))=false:=bne_self_eq_false _
 simp (maxSteps:=1000000) -dsimp only [go_sem,EA,List.length_map,e1,e2]
 refine aA rfl (.done ?_)
 simp (maxSteps:=1000000) -dsimp only [go_sem,BB]
 refine CQ hb ?_
 simp (maxSteps:=1000000) -dsimp only [go_sem]
 refine aA rfl (.done ?_)
 simp (maxSteps:=1000000) -dsimp only [go_sem,BK]
 have hlen:=YV b
 obtain ⟨⟨L,e⟩,hp⟩:∃ z,z=pF b:=⟨_,rfl⟩
 have hL:(pF b).1=L:=by rw [<-hp]
 rw [hL] at hasc hlen
 clear e1 e2
 refine aU (α:=Nat) (fun i=>[(0,tS (mk b)),(1,iS .i64 k),(5,.va (.c1 (.fz (L.map fun y=>dF y.1)))),(7,.va (.c1 (.fz (L.map d9)))),(9,tS (mk (((eT L k).map (·.2)).getD []))),(10,bS (eT L k).isSome),(11,tS (mk (((eT (L.take i) k).map (·.2)).getD []))),(12,bS (eT (L.take i) k).isSome),(13,iS .i64 i)]) (fun _=>[])
  (fun i=>i<=L.length) (fun i=>L.length - i) 0 0 (Nat.zero_le _) ?_ ?_ ?_
 · have q0:eT [] k=none:=rfl
   have q1:eT (L.take 0) k=none:=rfl
   simp -dsimp only [go_sem,q1,hL]<;>simp [q0]
 · simp [go_sem]
 intro i hi
 rcases a8 i L.length with hlt | hge
 · have hg:decide ((i:Int) < (L.length:Int))=true:=by simp; omega
   have hy:L[i]? = some L[i]:=aV hlt
   have q1:=aZ (row:=fun y:Int × List UInt8=>dF y.1) hy
   have q2:=aZ (row:=d9) hy
   have hrw:=SI hasc hy
   have hnx:=TZ (k:=k) hasc hy
   generalize L[i]=y at *
   have e1:(y.1 != y.1)=false:=bne_self_eq_false _
   have em:(mk y.2 != mk y.2)=false:=by rw [bne,J4]; rfl
   simp (maxSteps:=1000000) -dsimp only [go_sem,hg,↓q1,↓q2,d9,e1]
   refine ⟨⟨by omega,by omega⟩,⟨by omega,by omega⟩,?_⟩
   refine aA rfl (.done ?_)
   cases c1:y.1 == k with
   | true=>
    rw [c1,cond_true] at hnx
    simp (maxSteps:=1000000) -dsimp only [go_sem,p7,↓q1,↓q2,d9,c1]
    refine ⟨⟨by omega,by omega⟩,⟨by omega,by omega⟩,⟨by omega,by omega⟩,CQ hb ?_⟩
    rw [hL,hrw]
    simp (maxSteps:=1000000) -dsimp only [go_sem,Option.map_some,Option.getD_some,Option.isSome_some]
    refine aA rfl (.done ?_)
    simp (maxSteps:=1000000) -dsimp only [go_sem,pD,↓q2,d9,em]
    refine ⟨⟨by omega,by omega⟩,by omega,aE (i + 1) 0 (by omega) (by omega) ?_ ?_⟩
    · simp -dsimp only [go_sem,hnx]<;>simp
    · simp [go_sem]
   | false=>
    rw [c1,cond_false] at hnx
    simp (maxSteps:=1000000) -dsimp only [go_sem,p7,↓q1,↓q2,d9,c1]
    refine ⟨⟨by omega,by omega⟩,⟨by omega,by omega⟩,CQ hb ?_⟩
    rw [hL,hrw]
    simp (maxSteps:=1000000) -dsimp only [go_sem,Option.map_some,Option.getD_some,Option.isSome_some]
    refine aA rfl (.done ?_)
    simp (maxSteps:=1000000) -dsimp only [go_sem,pD,↓q2,d9,em]
    refine ⟨⟨by omega,by omega⟩,by omega,aE (i + 1) 0 (by omega) (by omega) ?_ ?_⟩
    · simp -dsimp only [go_sem,hnx]<;>simp
    · simp [go_sem]
 · have hg:decide ((i:Int) < (L.length:Int))=false:=by simp; omega
   obtain rfl:i=L.length:=by omega
   rw [List.take_length] at *
   simp (maxSteps:=1000000) -dsimp only [go_sem,hg]
   refine aA rfl (.done ?_)
   have e1:(mk (((eT L k).map (·.2)).getD []) == mk (((eT L k).map (·.2)).getD []))=true:=J4 _
   have e2:((eT L k).isSome == (eT L k).isSome)=true:=beq_self_eq_true _
   simp (maxSteps:=1000000) -dsimp only [go_sem,yC,e1,e2]
   exact fin _
end Go.Proofs.YthpbnmebjocbeaaGreat
namespace Go.W
open Go.RowKit
structure Stay (w w':World):Prop where
 os:w'.os=w.os
 out:w'.output=w.output
 size:w.heap.size<=w'.heap.size
 keep:∀ b:Nat,b < w.heap.size->w'.heap[b]? = w.heap[b]?
theorem Stay.kept {w w':World} (h:Stay w w') (may:MemPlace->Prop):w.keptBut w' may:=by
 refine ⟨h.os,h.out,fun i hi=>?_⟩
 rw [h.keep i hi]
 split
 · rename_i h1 h2; rw [h1] at h2; cases h2; exact ⟨rfl,rfl,rfl,fun _ _=>rfl⟩
 · rename_i h1 h2; rw [h1] at h2; cases h2; exact Or.inr ⟨rfl,rfl⟩
 · rfl
theorem Stay.frozen {w w':World} (h:Stay w w') {a:Addr} (ha:a.block < w.heap.size):w'.frozen? a=w.frozen? a:=by
 unfold World.frozen?; rw [h.keep _ ha]
theorem Stay.cell {w w':World} (h:Stay w w') {a:Addr} (ha:a.block < w.heap.size):w'.cell? a=w.cell? a:=by
 unfold World.cell?; rw [h.keep _ ha]
theorem VH {w:World} {ro:RO} (h:∀ (b off:Nat) (v:Value),ro b off=some v->w.cell? ⟨b,off,none⟩=some v):Rel ⟨w,cF [],ro,gm []⟩ [] ro w where
 own:=fun n g blk h=>by simp at h
 inj:=fun n m gn gm bn bm b h=>by simp at h
 apart:=fun b off v _ n g blk h=>by simp at h
 rd:=h
 ro0:=fun _ _ _ h=>h
 rob:=fun b off v h=>.inl h
 par:=fun n b g blk h=>by simp at h
 gx:=.refl _
 sz:=Nat.le_refl _
 keep:=fun b _ _=>rfl
 os:=rfl
 tape:=rfl
 output:=rfl
theorem Meets.run {P:Program} {f:FuncId} {s:Fun} (hm:Meets P f s.sp) {av:List S} {vs:List Value} {ro:RO} {w:World} {x:A} (hpre:s.pre av) (hval:s.val av=x) (hl:av.length=vs.length)
 (hrel:∀ (i:Nat) (x:S) (v:Value),av[i]? = some x->vs[i]? = some v->x.rel (gm []) ro v) (hro:∀ (b off:Nat) (v:Value),ro b off=some v->w.cell? ⟨b,off,none⟩=some v) (hG:GR P ro w) :
 Calls P f vs.toArray w fun e w'=>∃ v γ ro',e=.returned v/\S.rel γ ro' (.va x) v/\Stay w w':=by
 subst hval
 refine (hm.2 av vs [] ro w (fun r H=>r=.va (s.val av)/\H=[]) hl hrel (VH hro) ⟨⟨hpre,rfl⟩,rfl,rfl⟩ hG).mono ?_
 rintro e w' ⟨r,v,E',ro',rfl,h1,⟨rfl,h2⟩,h3⟩
 exact ⟨v,_,ro',rfl,h1,h3.os,h3.output,h3.sz,fun b hb=>h3.keep b hb (by simp [cF])⟩
theorem Meets.yes {P:Program} {f:FuncId} {s:Fun} (hm:Meets P f s.sp) {av:List S} {vs:List Value} {ro:RO} {w:World} (hpre:s.pre av) (hval:s.val av=.c1 (.vl (.bool true))) (hl:av.length=vs.length)
 (hrel:∀ (i:Nat) (x:S) (v:Value),av[i]? = some x->vs[i]? = some v->x.rel (gm []) ro v) (hro:∀ (b off:Nat) (v:Value),ro b off=some v->w.cell? ⟨b,off,none⟩=some v) (hG:GR P ro w) :
 Calls P f vs.toArray w fun e w'=>e=.returned (.bool true)/\Stay w w':=by
 refine (hm.run hpre hval hl hrel hro hG).mono ?_
 rintro e w' ⟨v,γ,ro',rfl,h1,h2⟩
 have:v=.bool true:=h1
 exact ⟨by rw [this],h2⟩
section
variable {H:Type} {enc:TypeId × Value->H} {P:Program}
theorem CE {f:Func} {s:ChangeSpec} {apart fresh handsOn again:Bool} {W W':World} {args:Array Value} {v:Value} {ds gs:List (DataW H)} {before pa pv:List MemPlace}
 (hW:DataW.Whole enc P f.params.toList s.vars apart W args.toList ds gs before)
 (hres:∀ (b:Nat) (sp:Nat->Bool) (hd:Bool),DataW.TrodAll enc P W' b sp hd f.resultTypes.toList (v.resultList f.resultTypes.size) (s.fn H (ds ++ gs)).results [])
 (hargs:∀ sp:Nat->Bool,(∀ p ∈ before,sp p.block=true)->DataW.TrodAll enc P W' 0 sp true f.params.toList args.toList (s.fn H (ds ++ gs)).args pa)
 (hvars:∀ sp:Nat->Bool,(∀ p ∈ before,sp p.block=true)->DataW.TrodVars enc P W' sp s.vars (s.fn H (ds ++ gs)).vars pv)
 (hps:before=pa ++ pv) (hs:Stay W W')
 (hok:∀ (j:Nat) (t:TypeId) (r:Value),f.resultTypes[j]? = some t->(v.resultList f.resultTypes.size)[j]? = some r->Value.okWide P W' .any 0 t r) :
 s.post enc P f apart fresh handsOn again W args v W':=by
 have hlt:∀ p ∈ before,p.block < W.heap.size:=fun p hp=>hW.lt p hp
 have hsp:∀ p ∈ before,(fun b=>decide (b < W.heap.size)) p.block=true:=fun p hp=>by simpa using hlt p hp
 have hall:∀ p ∈ before,(fun _:Nat=>true) p.block=true:=fun _ _=>rfl
 obtain ⟨_,_,_,_,_,hz,hn⟩:=id hW
 refine ⟨ds,gs,before,[],pa,pv,hW,hres _ _ _,hargs _ hsp,hvars _ hsp,World.keptBut_mono (fun p hp=>⟨hp,.inr ?_⟩) (hs.kept (· ∈ before)),fun _=>⟨hok,_,_,([] ++ pa) ++ pv,
  ⟨[] ++ pa,pv,ChangeShapes.trodAll_append (hargs _ hall) (hres _ _ _),hvars _ hall,rfl,fun b off hp=>?_,fun ha=>?_⟩,fun p hp _=>?_⟩⟩
 · rw [hps,List.mem_append] at hp; exact hp
 · have hb:MemPlace.cell b off ∈ before:=by rw [hps]; simpa using hp
   rw [hs.frozen (hlt _ hb)]
   exact hz b off hb
 · have:=hn ha
   rw [hps] at this
   simpa using this
 · rw [hps]
   simpa using hp
end
open Go.RowKit
def j5 (W:World):RO:=fun b off=>W.cell? ⟨b,off,none⟩
theorem XT (W:World):∀ (b off:Nat) (v:Value),j5 W b off=some v->W.cell? ⟨b,off,none⟩=some v:=fun _ _ _ h=>h
theorem XF (ro:RO):FzR ro [] (.slice none 0 0):=
 FzR.mk [] 1 none none (fun h=>absurd rfl h) 0 (fun _=>.bool true) (by simp) (by simp) (by simp) (by simp) (by simp) (by simp) (by simp)
def nA (P:Program):Bool:=(List.range P.types.size).all fun t=>match P.underlying t with | some (.slice e)=>decide (0 < P.cellsOf e) | _=>true
section
variable {H:Type} {enc:TypeId × Value->H} {P:Program}
theorem K0 {W W':World} (h:Stay W W') {p:MemPlace} (hp:p.block < W.heap.size):W.sameAt W' p:=by
 cases p with
 | cell b off=>exact h.cell (a:=⟨b,off,none⟩) hp
 | map b=>exact h.keep b hp
theorem oS {W W':World} {sp:Nat->Bool} (hl:laidOutB P=true) (hm:mapsRowed P=true) (hs:nA P=true) (hst:Stay W W') :
 ∀ {ts:List TypeId} {vs:List Value} {ds:List (DataW H)} {ps:List MemPlace},(∀ t ∈ ts,t < P.types.size)->DataW.TrodAll enc P W 0 (fun _=>true) true ts vs ds ps->(∀ p ∈ ps,p.block < W.heap.size)->(∀ p ∈ ps,sp p.block=true)->
  DataW.TrodAll enc P W' 0 sp true ts vs ds ps
 | [],[],[],ps,_,h,_,_=>h
 | t :: ts,v :: vs,d :: ds,ps,ht,h,hb,hp=>by
  obtain ⟨p,q,⟨n,h1⟩,h2,rfl⟩:=h
  have hsz:∀ {t e:TypeId},t < P.types.size->P.underlying t=some (.slice e)->0 < P.cellsOf e:=fun {t e} ht hu=>by
   have:=List.all_eq_true.1 hs t (List.mem_range.2 ht)
   rw [hu] at this
   simpa using this
  exact ⟨p,q,⟨n,DataW.trod_stays (T:=(· < P.types.size)) (kids_rows hl hm) hsz (fun h=>by cases h) (ht t (by simp)) h1 (fun x hx=>K0 hst (hb x (by simp [hx]))) (fun x hx=>hp x (by simp [hx]))⟩,
   oS hl hm hs hst (fun u hu=>ht u (by simp [hu])) h2 (fun x hx=>hb x (by simp [hx])) (fun x hx=>hp x (by simp [hx])),rfl⟩
 | [],_ :: _,_,_,_,h,_,_=>h.elim
 | [],[],_ :: _,_,_,h,_,_=>h.elim
 | _ :: _,[],_,_,_,h,_,_=>h.elim
 | _ :: _,_ :: _,[],_,_,h,_,_=>h.elim
theorem NO {f:Func} {s:ChangeSpec} {apart fresh handsOn again:Bool} {W W':World} {args:Array Value} {ds gs:List (DataW H)} {before:List MemPlace} {tb:TypeId}
 (hl:laidOutB P=true) (hm:mapsRowed P=true) (hsr:nA P=true) (hps:∀ t ∈ f.params.toList,t < P.types.size) (hrt:f.resultTypes=#[tb]) (htb:P.underlying tb=some .bool)
 (hvars:s.vars=[]) (hW:DataW.Whole enc P f.params.toList s.vars apart W args.toList ds gs before) (hfn:s.fn H (ds ++ gs)={ results:=[.lit (.bool true)],args:=ds,vars:=[] }) (hst:Stay W W') :
 s.post enc P f apart fresh handsOn again W args (.bool true) W':=by
 have hlt:∀ p ∈ before,p.block < W.heap.size:=fun p hp=>hW.lt p hp
 obtain ⟨p,q,hA,hV,hb,_,_⟩:=id hW
 have hq:q=[]:=by
  rw [hvars] at hV
  cases gs with
  | nil=>exact hV
  | cons g gs=>exact hV.elim
 subst hq
 have hbp:before=p:=by rw [hb]; simp
 refine CE (pa:=p) (pv:=[]) hW (fun b sp hd=>?_) (fun sp hsp=>?_) (fun sp hsp=>?_) hb hst ?_
 · rw [hrt,hfn]
   exact ⟨[],[],⟨1,by simp [DataW.trod,Value.cells,htb]⟩,rfl,rfl⟩
 · rw [hfn]
   rw [hbp] at hlt hsp
   exact oS hl hm hsr hst hps hA hlt hsp
 · rw [hfn,hvars]; rfl
 · intro j t r h1 h2
   rw [hrt] at h1 h2
   match j with
   | 0=>
    cases h1
    cases h2
    simp [Value.okWide,Cell.okWide,Cell.ok,htb]
   | j + 1=>cases h1
end
end Go.W
