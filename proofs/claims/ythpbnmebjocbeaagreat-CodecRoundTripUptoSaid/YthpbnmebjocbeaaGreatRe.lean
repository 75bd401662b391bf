/- Lemmas and walks for the proof. -/
import Derived.Test.YthpbnmebjocbeaaGreatRd
import Derived.Test.YthpbnmebjocbeaaGreatProg
import Derived.ProofKit
import Derived.OpenShut
import Derived.ChangeStays
import Derived.Deep.Slices
import Derived.JoinedCond
import Derived.KernelRfl
import Derived.Test.YthpbnmebjocbeaaGreatRows
set_option maxRecDepth 100000
set_option maxHeartbeats 8000000
namespace Go.Proofs.YthpbnmebjocbeaaGreat
open Go.W
def AE:PC:=.seq (.gh (.reg [.l 29 (.ldn 3 (.t 3)),.l 30 (.ldn 2 (.t 8)),.l 31 (.ldn 5 (.t 5)),.a 32 (.cq 26 [(.t 29),(.t 30),(.t 31)]),.v 11 32])) (.seq (.seq (.reg [.v 33 11,.q 34 (.lnS (.t 33)),.q 35 (.bin .gtr true (.t 34) (.i 2000))]) (.cond (.t 35) (.seq (.reg [.q 6 (.mv (.k (.string (mk [])))),.q 7 (.mv (.i 3))]) .ret) .skip)) (.seq (.reg [.v 36 11,.v 6 36,.q 7 (.mv (.i 0))]) .ret))
@[go_sem ↓] theorem aKS:aO AE:=aQ _
def A9:PC:=.seq (.seq (.gh (.ord  [.q (.l 21 (.ldn 3 (.t 3))),.q (.v 22 1),.q (.l 24 (.ldn 5 (.t 5))),.m (.a 23 (.cl 25 [(.t 22)] [])),.rc (.l 21 (.ldn 3 (.t 3))),.rc (.l 24 (.ldn 5 (.t 5))),.m (.a 25 (.cq 24 [(.t 21),(.t 23),(.t 24)])),.m (.v 10 25)])) (.seq (.reg [.v 26 10,.q 27 (.bin .neq true (.t 26) (.i 0))]) (.cond (.t 27) (.seq (.reg [.v 28 10,.q 6 (.mv (.k (.string (mk [])))),.v 7 28]) .ret) .skip))) (AE)
@[go_sem ↓] theorem aLW:aO A9:=aQ _
def pU:PC:=.seq (.seq (.gh (.reg [.v 18 9,.q 19 (.bin .neq true (.t 18) (.i 0))])) (.cond (.t 19) (.seq (.reg [.v 20 9,.q 6 (.mv (.k (.string (mk [])))),.v 7 20]) .ret) .skip)) (A9)
@[go_sem ↓] theorem aL2:aO pU:=aQ _
def pc9:PC:=.seq (.reg [.e 3 (.bx 25 (.t 0)),.e 5 (.bx 29 (.t 2)),.q 6 (.mv (.k (.string (mk [])))),.q 7 (.mv (.i 0))]) (.seq (.reg [.l 13 (.ldn 3 (.t 3)),.v 14 1,.a 15 (.cl 23 [(.t 13),(.t 14)] []),.v 12 15,.q 16 (.ex (.t 12) 0),.q 17 (.ex (.t 12) 1),.e 8 (.al (.agg #[(.string (mk [])),(.slice none 0 0)]) 48),.s (.st 2 (.t 8) (.t 16)),.v 9 17]) (pU))
def rs9:List RV:=[.mv (.t 6),.mv (.t 7)]
theorem ok9:aS Tryz.prog true ⟨fun r k=>if r=4/\k=4 then .q else if r=7/\k=3 then .q else .own [],fun r=>[2,4,7].contains r⟩ Tryz.f9=some (pc9,rs9):=by kernel_rfl
def CE:PC:=.seq (.gh (.reg [.l 24 (.ldn 3 (.t 3)),.l 25 (.ldn 2 (.t 8)),.v 26 2,.a 27 (.cl 30 [(.t 24),(.t 25),(.t 26)] []),.q 28 (.ex (.t 27) 0),.q 29 (.ex (.t 27) 1),.s (.st 5 (.t 6) (.t 28)),.v 7 29])) .ret
@[go_sem ↓] theorem aH3:aO CE:=aQ _
def mT:PC:=.seq (.seq (.gh (.reg [.v 16 9,.q 17 (.bin .neq true (.t 16) (.i 0))])) (.cond (.t 17) (.seq (.reg [.q 18 (.bd [(.int .i64 0),(.int .i64 0),(.string (mk [])),(.slice none 0 0),(.slice none 0 0)] []),.v 19 9,.s (.st 5 (.t 6) (.t 18)),.v 7 19]) .ret) .skip)) (.seq (.seq (.reg [.v 20 2,.q 21 (.lnS (.t 20)),.q 22 (.bin .gtr true (.t 21) (.i 2000))]) (.cond (.t 22) (.seq (.reg [.q 23 (.bd [(.int .i64 0),(.int .i64 0),(.string (mk [])),(.slice none 0 0),(.slice none 0 0)] []),.s (.st 5 (.t 6) (.t 23)),.q 7 (.mv (.i 3))]) .ret) .skip)) (CE))
@[go_sem ↓] theorem aKB:aO mT:=aQ _
def aAF:PC:=.seq (.reg [.e 3 (.bx 25 (.t 0)),.e 6 (.al (.agg #[(.int .i64 0),(.int .i64 0),(.string (mk [])),(.slice none 0 0),(.slice none 0 0)]) 29),.q 7 (.mv (.i 0))]) (.seq (.reg [.l 11 (.ldn 3 (.t 3)),.v 12 1,.a 13 (.cl 23 [(.t 11),(.t 12)] []),.v 10 13,.q 14 (.ex (.t 10) 0),.q 15 (.ex (.t 10) 1),.e 8 (.al (.agg #[(.string (mk [])),(.slice none 0 0)]) 48),.s (.st 2 (.t 8) (.t 14)),.v 9 15]) (mT))
def XZ:List RV:=[.ld (.ldn 5 (.t 6)),.mv (.t 7)]
theorem aJ6:aS Tryz.prog true ⟨fun _ _=>.own [],fun r=>[2,6].contains r⟩ Tryz.f12=some (aAF,XZ):=by kernel_rfl
def CK:PC:=.seq (.gh (.reg [.v 16 7,.q 17 (.lnS (.t 16)),.v 6 17])) .ret
@[go_sem ↓] theorem aHZ:aO CK:=aQ _
def aAU:PC:=.seq (.reg [.e 3 (.bx 25 (.t 0)),.e 5 (.bx 29 (.t 2)),.q 6 (.mv (.i 0))]) (.seq (.reg [.l 10 (.ldn 3 (.t 3)),.v 11 1,.l 12 (.ldn 5 (.t 5)),.a 13 (.cl 9 [(.t 10),(.t 11),(.t 12)] []),.v 9 13,.q 14 (.ex (.t 9) 0),.q 15 (.ex (.t 9) 1),.v 7 14,.v 8 15]) (CK))
def VM:List RV:=[.mv (.t 6)]
theorem aKL:aS Tryz.prog true ⟨fun _ _=>.own [],fun r=>[2].contains r⟩ Tryz.f16=some (aAU,VM):=by kernel_rfl
def tK:PC:=.seq (.gh (.reg [.v 11 6,.q 12 (.bin .neq true (.t 11) (.i 0))])) (.cond (.t 12) (.seq (.reg [.q 13 (.bd [(.string (mk [])),(.slice none 0 0)] []),.v 14 6,.s (.st 2 (.t 4) (.t 13)),.v 5 14]) .ret) .skip)
@[go_sem ↓] theorem aGU:aO tK:=aQ _
def tF:PC:=.seq (.seq (.gh (.reg [.v 21 8,.q 22 (.not (.t 21))])) (.cond (.t 22) (.seq (.reg [.q 23 (.bd [(.string (mk [])),(.slice none 0 0)] []),.s (.st 2 (.t 4) (.t 23)),.q 5 (.mv (.i 6))]) .ret) .skip)) (.seq (.reg [.l 24 (.ldn 2 (.t 7)),.s (.st 2 (.t 4) (.t 24)),.q 5 (.mv (.i 0))]) .ret)
@[go_sem ↓] theorem aIB:aO tF:=aQ _
def B0:PC:=.seq (.gh (.reg [.l 16 (.ldn 3 (.t 2)),.v 17 1,.a 18 (.cl 40 [(.t 16),(.t 17)] []),.v 15 18,.q 19 (.ex (.t 15) 0),.q 20 (.ex (.t 15) 1),.e 7 (.al (.agg #[(.string (mk [])),(.slice none 0 0)]) 48),.s (.st 2 (.t 7) (.t 19)),.v 8 20])) (tF)
@[go_sem ↓] theorem aJI:aO B0:=aQ _
def YZ:PC:=.seq (.reg [.e 2 (.bx 25 (.t 0)),.e 4 (.al (.agg #[(.string (mk [])),(.slice none 0 0)]) 48),.q 5 (.mv (.i 0))]) (.seq (.seq (.reg [.l 9 (.ldn 3 (.t 2)),.a 10 (.cq 39 [(.t 9)]),.v 6 10]) (tK)) (B0))
def Y0:List RV:=[.ld (.ldn 2 (.t 4)),.mv (.t 5)]
theorem aKF:aS Tryz.prog true ⟨fun r k=>if r=1/\k=1 then .q else .own [],fun r=>[2,4,5].contains r⟩ Tryz.f23=some (YZ,Y0):=by kernel_rfl
def aA7:PC:=.seq (.reg [.e 2 (.al (.agg #[(.int .i64 0),(.int .i64 0),(.string (mk [])),(.slice none 0 0)]) 42)]) (.seq (.reg [.v 3 0,.q 4 (.bd [(.int .i64 0),(.int .i64 0),(.string (mk [])),(.slice none 0 0)] [(0,1,(.i 6)),(2,1,(.t 3))]),.s (.st 4 (.t 2) (.t 4))]) .ret)
def WC:List RV:=[.ld (.ldn 4 (.t 2))]
theorem aJ9:aS Tryz.prog true ⟨fun _ _=>.own [],fun _=>false⟩ Tryz.f25=some (aA7,WC):=by kernel_rfl
def vH:PC:=.gh (.reg [.v 41 7,.q 42 (.fa 0 (.t 9)),.l 43 (.ld1 (.t 42)),.q 44 (.cvt .u64 (.t 43)),.a 45 (.cq 46 [(.t 44)]),.l 46 (.ldn 3 (.t 3)),.q 47 (.fa 2 (.t 9)),.l 48 (.ldn 4 (.t 47)),.l 49 (.ldn 5 (.t 10)),.a 50 (.cq 48 [(.t 46),(.t 48),(.t 49)]),.a 51 (.cq 47 [(.t 50)]),.q 52 (.bin .add true (.t 45) (.t 51)),.q 53 (.bin .add true (.t 41) (.t 52)),.v 7 53])
@[go_sem ↓] theorem aIJ:aO vH:=aQ _
def oY:PC:=.seq (.seq (.gh (.ord  [.q (.v 26 11),.q (.q 27 (.not (.t 26))),.q (.v 28 27),.q ⟨some 29,(some (28,false)),.q (.fa 6 (.t 9))⟩,.q ⟨some 30,(some (28,false)),.l (.ld1 (.t 29))⟩,.q ⟨some 31,(some (28,false)),.q (.not (.t 30))⟩,.q ⟨some 32,(some (28,false)),.q (.mv (.t 31))⟩,.q ⟨some 33,(some (32,true)),.l (.ldn 5 (.t 10))⟩,.q ⟨some 34,(some (32,true)),.l (.ldn 3 (.t 3))⟩,.q ⟨some 35,(some (32,true)),.q (.fa 2 (.t 9))⟩,.q ⟨some 36,(some (32,true)),.l (.ldn 4 (.t 35))⟩,.m ⟨some 37,(some (32,true)),.cl 45 [(.t 34),(.t 36)] []⟩,.rc ⟨some 33,(some (32,true)),.l (.ldn 5 (.t 10))⟩,.m ⟨some 38,(some (32,true)),.cq 44 [(.t 33),(.t 37)]⟩,.q ⟨some 39,(some (28,false)),.pick (.t 32) (.t 38) (.k (.bool false))⟩,.q (.a 40 (.pick (.t 28) (.k (.bool true)) (.t 39)))])) (.cond (.t 40) (.exit 1) .skip)) (vH)
@[go_sem ↓] theorem aHV:aO oY:=aQ _
def YO:PC:=.seq (.reg [.e 3 (.bx 25 (.t 0)),.e 4 (.bx 48 (.t 1)),.e 5 (.bx 29 (.t 2)),.q 6 (.mv (.k (.string (mk []))))]) (.seq (.reg [.q 7 (.mv (.k (.string (mk []))))]) (.seq (.seq (.reg [.q 12 (.fa 1 (.t 4)),.l 13 (.ld1 (.t 12)),.q 14 (.lnL (.t 13)),.q 15 (.mv (.i 0))]) (.block 0 (.loop (.seq (.reg [.q 16 (.bin .lss true (.t 15) (.t 14))]) (.seq (.cond (.t 16) .skip (.exit 0)) (.seq (.block 1 (.seq (.reg [.l 17 (.ia 7 (.t 13) (.t 15)),.l 18 (.ldn 7 (.t 17)),.e 9 (.al (.agg #[(.int .i64 0),(.string (mk [])),(.int .i64 0),(.int .i64 0),(.string (mk [])),(.slice none 0 0),(.bool false)]) 52),.s (.st 7 (.t 9) (.t 18))]) (.seq (.reg [.l 20 (.ldn 5 (.t 5)),.q 21 (.fa 0 (.t 9)),.l 22 (.ld1 (.t 21)),.a 23 (.cl 43 [(.t 20),(.t 22)] []),.v 19 23,.q 24 (.ex (.t 19) 0),.q 25 (.ex (.t 19) 1),.e 10 (.al (.agg #[(.int .i64 0),(.int .i64 0),(.string (mk [])),(.slice none 0 0),(.slice none 0 0)]) 29),.s (.st 5 (.t 10) (.t 24)),.v 11 25]) (oY)))) (.reg [.q 54 (.bin .add true (.t 15) (.i 1)),.v 15 54]))))))) (.seq (.reg [.v 55 7,.v 6 55]) .ret)))
def aAE:List RV:=[.mv (.t 6)]
theorem aKJ:aS Tryz.prog true ⟨fun r k=>if r=6/\k=12 then .q else if r=7/\k=4 then .q else if r=7/\k=9 then .q else if r=7/\k=10 then .q else .own [],fun r=>[6,7].contains r⟩ Tryz.f26=some (YO,aAE):=by kernel_rfl
def gK:List OJ:=[.rc ⟨some 64,(some (63,true)),.l (.ldn 5 (.t 15))⟩,.m ⟨some 69,(some (63,true)),.cq 44 [(.t 64),(.t 68)]⟩,.q (.a 70 (.pick (.t 63) (.t 69) (.k (.bool false)))),.q (.v 71 70),.q ⟨some 72,(some (71,true)),.q (.fa 2 (.t 13))⟩,.q ⟨some 73,(some (71,true)),.q (.fa 0 (.t 72))⟩,.q ⟨some 74,(some (71,true)),.l (.ld1 (.t 73))⟩,.q ⟨some 75,(some (71,true)),.q (.bin .neq true (.t 74) (.i 6))⟩,.q ⟨some 76,(some (71,true)),.q (.mv (.t 75))⟩,.q ⟨some 77,(some (76,false)),.q (.fa 1 (.t 10))⟩,.q ⟨some 78,(some (76,false)),.l (.ld1 (.t 77))⟩,.q ⟨some 79,(some (76,false)),.q (.bin .eql true (.t 78) (.k (.string (mk []))))⟩,.q ⟨some 80,(some (71,true)),.pick (.t 76) (.k (.bool true)) (.t 79)⟩,.q (.a 81 (.pick (.t 71) (.t 80) (.k (.bool false))))]
def mO:PC:=.gh (.reg [.v 86 8,.q 87 (.fa 0 (.t 10)),.l 88 (.ld1 (.t 87)),.l 89 (.ldn 5 (.t 15)),.s (.mu (.int .i64) (.t 86) (.t 88) (.t 89))])
@[go_sem ↓] theorem aFA:aO mO:=aQ _
def gP:PC:=.seq (.seq (.gh (.reg [.v 82 12,.q 83 (.bin .neq true (.t 82) (.i 0))])) (.cond (.t 83) (.seq (.reg [.q 84 (.bd [(.int .i64 0),(.int .i64 0),(.string (mk [])),(.slice none 0 0),(.slice none 0 0)] []),.v 85 12,.s (.st 5 (.t 6) (.t 84)),.v 7 85]) .ret) .skip)) (mO)
@[go_sem ↓] theorem aEZ:aO gP:=aQ _
def mZ:PC:=.seq (.seq (.gh (.ord  (.q (.v 56 12) :: .q (.q 57 (.bin .eql true (.t 56) (.i 0))) :: .q (.v 58 57) :: .q ⟨some 59,(some (58,true)),.q (.fa 6 (.t 13))⟩ :: .q ⟨some 60,(some (58,true)),.l (.ld1 (.t 59))⟩ :: .q ⟨some 61,(some (58,true)),.q (.not (.t 60))⟩ :: .q (.a 62 (.pick (.t 58) (.t 61) (.k (.bool false)))) :: .q (.v 63 62) :: .q ⟨some 64,(some (63,true)),.l (.ldn 5 (.t 15))⟩ :: .q ⟨some 65,(some (63,true)),.l (.ldn 3 (.t 3))⟩ :: .q ⟨some 66,(some (63,true)),.q (.fa 2 (.t 13))⟩ :: .q ⟨some 67,(some (63,true)),.l (.ldn 4 (.t 66))⟩ :: .m ⟨some 68,(some (63,true)),.cl 45 [(.t 65),(.t 67)] []⟩ :: gK))) (.cond (.t 81) (.reg [.q 12 (.mv (.i 2))]) .skip)) (gP)
@[go_sem ↓] theorem aFO:aO mZ:=aQ _
def xC:PC:=.seq (.gh (.reg [.l 48 (.ldn 3 (.t 3)),.q 49 (.fa 2 (.t 13)),.l 50 (.ldn 4 (.t 49)),.q 51 (.fa 1 (.t 10)),.l 52 (.ld1 (.t 51)),.a 53 (.cl 55 [(.t 48),(.t 50),(.t 52)] []),.v 47 53,.q 54 (.ex (.t 47) 0),.q 55 (.ex (.t 47) 1),.e 15 (.al (.agg #[(.int .i64 0),(.int .i64 0),(.string (mk [])),(.slice none 0 0),(.slice none 0 0)]) 29),.s (.st 5 (.t 15) (.t 54)),.v 12 55])) (mZ)
@[go_sem ↓] theorem aGA:aO xC:=aQ _
def tC:PC:=.seq (.seq (.gh (.reg [.v 45 14,.q 46 (.not (.t 45))])) (.cond (.t 46) (.exit 1) .skip)) (xC)
@[go_sem ↓] theorem aJ1:aO tC:=aQ _
def EJ:PC:=.seq (.gh (.reg [.l 39 (.ldn 2 (.t 4)),.q 40 (.fa 0 (.t 10)),.l 41 (.ld1 (.t 40)),.a 42 (.cl 54 [(.t 39),(.t 41)] []),.v 38 42,.q 43 (.ex (.t 38) 0),.q 44 (.ex (.t 38) 1),.e 13 (.al (.agg #[(.int .i64 0),(.string (mk [])),(.int .i64 0),(.int .i64 0),(.string (mk [])),(.slice none 0 0),(.bool false)]) 52),.s (.st 7 (.t 13) (.t 43)),.v 14 44])) (tC)
@[go_sem ↓] theorem aHO:aO EJ:=aQ _
def B5:PC:=.seq (.gh (.reg [.q 35 (.fa 0 (.t 10)),.l 36 (.ld1 (.t 35)),.v 37 11,.v 9 36,.v 2 37])) (EJ)
@[go_sem ↓] theorem aJQ:aO B5:=aQ _
def uT:PC:=.seq (.seq (.gh (.reg [.v 31 12,.q 32 (.bin .neq true (.t 31) (.i 0))])) (.cond (.t 32) (.seq (.reg [.q 33 (.bd [(.int .i64 0),(.int .i64 0),(.string (mk [])),(.slice none 0 0),(.slice none 0 0)] []),.v 34 12,.s (.st 5 (.t 6) (.t 33)),.v 7 34]) .ret) .skip)) (B5)
@[go_sem ↓] theorem aG8:aO uT:=aQ _
def EE:PC:=.seq (.gh (.reg [.v 25 2,.v 26 9,.a 27 (.cl 53 [(.t 25),(.t 26)] []),.v 24 27,.q 28 (.ex (.t 24) 0),.q 29 (.ex (.t 24) 1),.q 30 (.ex (.t 24) 2),.e 10 (.al (.agg #[(.int .i64 0),(.string (mk []))]) 89),.s (.st 2 (.t 10) (.t 28)),.v 11 29,.v 12 30])) (uT)
@[go_sem ↓] theorem aJZ:aO EE:=aQ _
def w7:PC:=.gh (.reg [.l 113 (.ldn 3 (.t 3)),.q 114 (.fa 2 (.t 18)),.l 115 (.ldn 4 (.t 114)),.a 116 (.cl 45 [(.t 113),(.t 115)] []),.s (.st 5 (.t 19) (.t 116))])
@[go_sem ↓] theorem aFU:aO w7:=aQ _
def q9:PC:=.gh (.reg [.q 117 (.fa 4 (.t 16)),.l 118 (.ld1 (.t 117)),.q 119 (.fa 0 (.t 18)),.l 120 (.ld1 (.t 119)),.l 121 (.ldn 5 (.t 19)),.q 122 (.bd [(.int .i64 0),(.int .i64 0),(.int .i64 0),(.string (mk [])),(.slice none 0 0),(.slice none 0 0)] [(0,1,(.t 120)),(1,5,(.t 121))]),.e 123 (.bsl 76 6 [(.t 122)]),.e 124 (.ap 76 6 88 (.t 118) (.t 123)),.q 125 (.fa 4 (.t 16)),.s (.st 1 (.t 125) (.t 124))])
@[go_sem ↓] theorem aFW:aO q9:=aQ _
def qA:PC:=.seq (.seq (.gh (.reg [.v 111 20,.q 112 (.not (.t 111))])) (.cond (.t 112) (w7) .skip)) (q9)
@[go_sem ↓] theorem aEQ:aO qA:=aQ _
def mY:PC:=.seq (.seq (.gh (.reg [.v 105 20,.q 106 (.not (.t 105)),.v 107 106,⟨some 108,(some (107,true)),.q (.fa 6 (.t 18))⟩,⟨some 109,(some (107,true)),.l (.ld1 (.t 108))⟩,.a 110 (.pick (.t 107) (.t 109) (.k (.bool false)))])) (.cond (.t 110) (.exit 3) .skip)) (qA)
@[go_sem ↓] theorem aFR:aO mY:=aQ _
def rC:PC:=.seq (.gh (.reg [.v 99 8,.q 100 (.fa 0 (.t 18)),.l 101 (.ld1 (.t 100)),.l 102 (.lk (.int .i64) (.agg #[(.int .i64 0),(.int .i64 0),(.string (mk [])),(.slice none 0 0),(.slice none 0 0)]) true (.t 99) (.t 101)),.v 98 102,.q 103 (.ex (.t 98) 0),.q 104 (.ex (.t 98) 1),.e 19 (.al (.agg #[(.int .i64 0),(.int .i64 0),(.string (mk [])),(.slice none 0 0),(.slice none 0 0)]) 29),.s (.st 5 (.t 19) (.t 103)),.v 20 104])) (mY)
@[go_sem ↓] theorem aEW:aO rC:=aQ _
def yC:PC:=.seq (.seq (.gh (.reg [.q 91 (.fa 1 (.t 4)),.l 92 (.ld1 (.t 91)),.q 93 (.lnL (.t 92)),.q 94 (.mv (.i 0))])) (.block 2 (.loop (.seq (.reg [.q 95 (.bin .lss true (.t 94) (.t 93))]) (.seq (.cond (.t 95) .skip (.exit 2)) (.seq (.block 3 (.seq (.reg [.l 96 (.ia 7 (.t 92) (.t 94)),.l 97 (.ldn 7 (.t 96)),.e 18 (.al (.agg #[(.int .i64 0),(.string (mk [])),(.int .i64 0),(.int .i64 0),(.string (mk [])),(.slice none 0 0),(.bool false)]) 52),.s (.st 7 (.t 18) (.t 97))]) (rC))) (.reg [.q 126 (.bin .add true (.t 94) (.i 1)),.v 94 126]))))))) (.seq (.reg [.l 127 (.ldn 5 (.t 16)),.s (.st 5 (.t 6) (.t 127)),.q 7 (.mv (.i 0))]) .ret)
@[go_sem ↓] theorem aFX:aO yC:=aQ _
def wT:PC:=.seq (.gh (.reg [.q 90 (.bd [(.int .i64 0),(.int .i64 0),(.string (mk [])),(.slice none 0 0),(.slice none 0 0)] [(0,1,(.i 6))]),.e 16 (.al (.agg #[(.int .i64 0),(.int .i64 0),(.string (mk [])),(.slice none 0 0),(.slice none 0 0)]) 29),.s (.st 5 (.t 16) (.t 90))])) (yC)
@[go_sem ↓] theorem aGB:aO wT:=aQ _
def YR:PC:=.seq (.reg [.e 3 (.bx 25 (.t 0)),.e 4 (.bx 48 (.t 1)),.e 6 (.al (.agg #[(.int .i64 0),(.int .i64 0),(.string (mk [])),(.slice none 0 0),(.slice none 0 0)]) 29),.q 7 (.mv (.i 0))]) (.seq (.reg [.e 21 (.mm (.int .i64)),.v 8 21]) (.seq (.reg [.q 9 (.mv (.i 0))]) (.seq (.block 0 (.loop (.seq (.seq (.reg [.v 22 2,.q 23 (.bin .neq true (.t 22) (.k (.string (mk []))))]) (.cond (.t 23) .skip (.exit 0))) (.block 1 (EE))))) (wT))))
def VL:List RV:=[.ld (.ldn 5 (.t 6)),.mv (.t 7)]
theorem aGS:aS Tryz.prog true ⟨fun r k=>if r=11/\k=13 then .q else .own [],fun r=>[4,5,7,8,9,10,11,13,16,17,20,21,22,15,23,24].contains r⟩ Tryz.f30=some (YR,VL):=by kernel_rfl
def xB:PC:=.gh (.reg [.v 47 8,.l 48 (.ldn 5 (.t 10)),.a 49 (.ca (.t 47) [(.t 48)] [3,0,1])])
@[go_sem ↓] theorem aE7:aO xB:=aQ _
def xZ:PC:=.seq (.gh (.reg [.l 51 (.ld1 (.t 7)),.v 6 51])) .ret
@[go_sem ↓] theorem aES:aO xZ:=aQ _
def wS:PC:=.seq (.gh (.reg [.q 34 (.fa 3 (.t 5)),.l 35 (.ld1 (.t 34)),.q 36 (.lnL (.t 35)),.q 37 (.cvt .u64 (.t 36)),.a 38 (.cq 46 [(.t 37)]),.e 7 (.al (.string (mk [])) 9),.s (.st 1 (.t 7) (.t 38))])) (.seq (.reg [.q 39 (.mf 85 [(.t 7),(.t 3),(.t 4)]),.v 8 39]) (.seq (.seq (.reg [.q 40 (.fa 3 (.t 5)),.l 41 (.ld1 (.t 40)),.q 42 (.lnL (.t 41)),.q 43 (.mv (.i 0))]) (.block 1 (.loop (.seq (.reg [.q 44 (.bin .lss true (.t 43) (.t 42))]) (.seq (.cond (.t 44) .skip (.exit 1)) (.seq (.block 2 (.seq (.reg [.l 45 (.ia 5 (.t 41) (.t 43)),.l 46 (.ldn 5 (.t 45)),.e 10 (.al (.agg #[(.int .i64 0),(.int .i64 0),(.string (mk [])),(.slice none 0 0),(.slice none 0 0)]) 29),.s (.st 5 (.t 10) (.t 46))]) (xB))) (.reg [.q 50 (.bin .add true (.t 43) (.i 1)),.v 43 50]))))))) (xZ)))
@[go_sem ↓] theorem aFT:aO wS:=aQ _
def kJ:PC:=.seq (.seq (.gh (.reg [.q 16 (.bin .eql true (.t 14) (.i 1)),.v 15 16])) (.cond (.t 15) .skip (.seq (.reg [.q 17 (.bin .eql true (.t 14) (.i 3)),.v 15 17]) (.cond (.t 15) .skip (.reg [.q 18 (.bin .eql true (.t 14) (.i 7)),.v 15 18]))))) (.cond (.t 15) (.seq (.reg [.q 19 (.fa 1 (.t 5)),.l 20 (.ld1 (.t 19)),.q 21 (.cvt .u64 (.t 20)),.a 22 (.cq 46 [(.t 21)]),.v 6 22]) .ret) (.seq (.reg [.q 24 (.bin .eql true (.t 14) (.i 2)),.v 23 24]) (.cond (.t 23) (.seq (.reg [.q 25 (.fa 1 (.t 5)),.l 26 (.ld1 (.t 25)),.a 27 (.cq 84 [(.t 26)]),.v 6 27]) .ret) (.seq (.reg [.q 29 (.bin .eql true (.t 14) (.i 4)),.v 28 29]) (.cond (.t 28) (.seq (.reg [.q 30 (.fa 2 (.t 5)),.l 31 (.ld1 (.t 30)),.v 6 31]) .ret) (.seq (.reg [.q 33 (.bin .eql true (.t 14) (.i 5)),.v 32 33]) (.cond (.t 32) (wS) .skip)))))))
@[go_sem ↓] theorem aJM:aO kJ:=aQ _
def wL:PC:=.seq (.gh (.reg [.l 59 (.ldn 3 (.t 3)),.l 60 (.ldn 2 (.t 11)),.l 61 (.ldn 5 (.t 5)),.a 62 (.cq 26 [(.t 59),(.t 60),(.t 61)]),.v 6 62])) .ret
@[go_sem ↓] theorem aFC:aO wL:=aQ _
def vY:PC:=.seq (.gh (.reg [.l 53 (.ldn 3 (.t 3)),.q 54 (.fa 2 (.t 4)),.l 55 (.ld1 (.t 54)),.a 56 (.cl 40 [(.t 53),(.t 55)] []),.v 52 56,.q 57 (.ex (.t 52) 0),.q 58 (.ex (.t 52) 1),.e 11 (.al (.agg #[(.string (mk [])),(.slice none 0 0)]) 48),.s (.st 2 (.t 11) (.t 57)),.v 12 58])) (wL)
@[go_sem ↓] theorem aFK:aO vY:=aQ _
def WT:PC:=.seq (.reg [.e 3 (.bx 25 (.t 0)),.e 4 (.bx 42 (.t 1)),.e 5 (.bx 29 (.t 2)),.q 6 (.mv (.k (.string (mk []))))]) (.seq (.seq (.reg [.q 13 (.fa 0 (.t 4)),.l 14 (.ld1 (.t 13))]) (.block 0 (kJ))) (vY))
def aBC:List RV:=[.mv (.t 6)]
theorem aKD:aS Tryz.prog true ⟨fun r k=>if r=5/\k=3 then .q else if r=7/\k=2 then .q else if r=11/\k=4 then .q else if r=16/\k=2 then .own [3,0,1] else if r=20/\k=3 then .q else .own [],fun r=>[2,11,18,19,20,16].contains r⟩ Tryz.f48=some (WT,aBC):=by kernel_rfl
def B7:PC:=.seq (.gh (.reg [.v 38 7,.q 39 (.cvt .i64 (.t 38)),.v 40 10,.q 41 (.bd [(.int .i64 0),(.string (mk []))] [(0,1,(.t 39)),(1,1,(.t 40))]),.v 42 8,.v 43 9,.s (.st 2 (.t 4) (.t 41)),.v 5 42,.v 6 43])) .ret
@[go_sem ↓] theorem aHH:aO B7:=aQ _
def ZW:PC:=.seq (.reg [.e 4 (.al (.agg #[(.int .i64 0),(.string (mk []))]) 89),.q 5 (.mv (.k (.string (mk [])))),.q 6 (.mv (.i 0))]) (.seq (.reg [.v 12 0,.a 13 (.cl 94 [(.t 12)] []),.v 11 13,.q 14 (.ex (.t 11) 0),.q 15 (.ex (.t 11) 1),.q 16 (.ex (.t 11) 2),.v 7 14,.v 8 15,.v 9 16]) (.seq (.block 0 (.seq (.reg [.v 18 9,.q 19 (.bin .neq true (.t 18) (.i 0)),.v 17 19]) (.cond (.t 17) (.seq (.reg [.q 20 (.bd [(.int .i64 0),(.string (mk []))] []),.v 21 9,.s (.st 2 (.t 4) (.t 20)),.q 5 (.mv (.k (.string (mk [])))),.v 6 21]) .ret) (.seq (.reg [.v 23 7,.q 24 (.bin .gtr true (.t 23) (.k (.int .u64 2147483647))),.v 22 24]) (.cond (.t 22) (.seq (.reg [.q 25 (.bd [(.int .i64 0),(.string (mk []))] []),.s (.st 2 (.t 4) (.t 25)),.q 5 (.mv (.k (.string (mk [])))),.q 6 (.mv (.i 4))]) .ret) (.seq (.reg [.v 27 7,.q 28 (.cvt .i64 (.t 27)),.v 29 1,.q 30 (.bin .leq true (.t 28) (.t 29)),.v 26 30]) (.cond (.t 26) (.seq (.reg [.q 31 (.bd [(.int .i64 0),(.string (mk []))] []),.s (.st 2 (.t 4) (.t 31)),.q 5 (.mv (.k (.string (mk [])))),.q 6 (.mv (.i 2))]) .ret) .skip))))))) (.seq (.reg [.v 33 8,.a 34 (.cl 95 [(.t 33)] []),.v 32 34,.q 35 (.ex (.t 32) 0),.q 36 (.ex (.t 32) 1),.q 37 (.ex (.t 32) 2),.v 10 35,.v 8 36,.v 9 37]) (B7))))
def Z1:List RV:=[.ld (.ldn 2 (.t 4)),.mv (.t 5),.mv (.t 6)]
theorem aHL:aS Tryz.prog true ⟨fun _ _=>.own [],fun r=>[9].contains r⟩ Tryz.f53=some (ZW,Z1):=by kernel_rfl
def i7:PC:=.seq (.gh (.reg [.q 13 (.bin .eql true (.t 11) (.i 1)),.v 12 13])) (.cond (.t 12) (.seq (.reg [.v 14 2,.a 15 (.cl 97 [(.t 14)] []),.q 16 (.ex (.t 15) 0),.q 17 (.ex (.t 15) 1),.s (.st 5 (.t 6) (.t 16)),.v 7 17]) .ret) (.seq (.seq (.reg [.q 19 (.bin .eql true (.t 11) (.i 2)),.v 18 19]) (.cond (.t 18) .skip (.seq (.reg [.q 20 (.bin .eql true (.t 11) (.i 3)),.v 18 20]) (.cond (.t 18) .skip (.reg [.q 21 (.bin .eql true (.t 11) (.i 7)),.v 18 21]))))) (.cond (.t 18) (.seq (.reg [.l 22 (.ldn 3 (.t 3)),.l 23 (.ldn 4 (.t 4)),.v 24 2,.a 25 (.cl 98 [(.t 22),(.t 23),(.t 24)] []),.q 26 (.ex (.t 25) 0),.q 27 (.ex (.t 25) 1),.s (.st 5 (.t 6) (.t 26)),.v 7 27]) .ret) (.seq (.reg [.q 29 (.bin .eql true (.t 11) (.i 4)),.v 28 29]) (.cond (.t 28) (.seq (.seq (.reg [.v 30 2,.q 31 (.lnS (.t 30)),.q 32 (.fa 1 (.t 4)),.l 33 (.ld1 (.t 32)),.q 34 (.bin .gtr true (.t 31) (.t 33))]) (.cond (.t 34) (.seq (.reg [.q 35 (.bd [(.int .i64 0),(.int .i64 0),(.string (mk [])),(.slice none 0 0),(.slice none 0 0)] []),.s (.st 5 (.t 6) (.t 35)),.q 7 (.mv (.i 3))]) .ret) .skip)) (.seq (.reg [.v 36 2,.q 37 (.bd [(.int .i64 0),(.int .i64 0),(.string (mk [])),(.slice none 0 0),(.slice none 0 0)] [(0,1,(.i 4)),(2,1,(.t 36))]),.s (.st 5 (.t 6) (.t 37)),.q 7 (.mv (.i 0))]) .ret)) (.seq (.reg [.q 39 (.bin .eql true (.t 11) (.i 5)),.v 38 39]) (.cond (.t 38) (.seq (.reg [.l 40 (.ldn 3 (.t 3)),.l 41 (.ldn 4 (.t 4)),.v 42 2,.a 43 (.cl 99 [(.t 40),(.t 41),(.t 42)] []),.q 44 (.ex (.t 43) 0),.q 45 (.ex (.t 43) 1),.s (.st 5 (.t 6) (.t 44)),.v 7 45]) .ret) .skip)))))))
@[go_sem ↓] theorem aGF:aO i7:=aQ _
def yB:PC:=.seq (.gh (.reg [.l 53 (.ldn 3 (.t 3)),.l 54 (.ldn 2 (.t 8)),.v 55 2,.a 56 (.cl 30 [(.t 53),(.t 54),(.t 55)] []),.q 57 (.ex (.t 56) 0),.q 58 (.ex (.t 56) 1),.s (.st 5 (.t 6) (.t 57)),.v 7 58])) .ret
@[go_sem ↓] theorem aE5:aO yB:=aQ _
def xD:PC:=.seq (.gh (.reg [.l 47 (.ldn 3 (.t 3)),.q 48 (.fa 2 (.t 4)),.l 49 (.ld1 (.t 48)),.a 50 (.cl 40 [(.t 47),(.t 49)] []),.v 46 50,.q 51 (.ex (.t 46) 0),.q 52 (.ex (.t 46) 1),.e 8 (.al (.agg #[(.string (mk [])),(.slice none 0 0)]) 48),.s (.st 2 (.t 8) (.t 51)),.v 9 52])) (yB)
@[go_sem ↓] theorem aF9:aO xD:=aQ _
def aAG:PC:=.seq (.reg [.e 3 (.bx 25 (.t 0)),.e 4 (.bx 42 (.t 1)),.e 6 (.al (.agg #[(.int .i64 0),(.int .i64 0),(.string (mk [])),(.slice none 0 0),(.slice none 0 0)]) 29),.q 7 (.mv (.i 0))]) (.seq (.seq (.reg [.q 10 (.fa 0 (.t 4)),.l 11 (.ld1 (.t 10))]) (.block 0 (i7))) (xD))
def VX:List RV:=[.ld (.ldn 5 (.t 6)),.mv (.t 7)]
theorem aJW:aS Tryz.prog true ⟨fun _ _=>.own [],fun r=>[2,14,15].contains r⟩ Tryz.f55=some (aAG,VX):=by kernel_rfl
def aAO:PC:=.seq (.reg [.e 4 (.bx 29 (.t 0))]) (.reg [.l 5 (.ld1 (.t 1)),.l 6 (.ldn 3 (.t 2)),.q 7 (.fa 3 (.t 3)),.l 8 (.ld1 (.t 7)),.l 9 (.ia 4 (.t 8) (.i 0)),.l 10 (.ldn 4 (.t 9)),.l 11 (.ldn 5 (.t 4)),.a 12 (.cq 48 [(.t 6),(.t 10),(.t 11)]),.a 13 (.cq 47 [(.t 12)]),.q 14 (.bin .add true (.t 5) (.t 13)),.s (.st 1 (.t 1) (.t 14))])
def Y7:List RV:=[]
theorem aHD:aS Tryz.prog true ⟨fun r k=>if r=1/\k=7 then .q else if r=1/\k=8 then .q else .own [],fun _=>false⟩ Tryz.f85=some (aAO,Y7):=by kernel_rfl
def vP:PC:=.seq (.gh (.reg [.v 14 7,.q 15 (.bin .neq true (.t 14) (.i 0))])) (.cond (.t 15) (.seq (.reg [.v 16 7,.q 2 (.mv (.k (.int .u64 0))),.q 3 (.mv (.k (.string (mk [])))),.v 4 16]) .ret) .skip)
@[go_sem ↓] theorem aH9:aO vP:=aQ _
def C0:PC:=.seq (.gh (.ord  [.q (.v 17 6),.q (.v 18 0),.q (.v 19 0),.q (.q 20 (.lnS (.t 19))),.q (.v 21 5),.m (.a 22 (.cl 136 [(.t 21)] [0])),.rc (.v 17 6),.rc (.v 18 0),.rc (.v 19 0),.rc (.q 20 (.lnS (.t 19))),.q (.q 23 (.bin .sub true (.t 20) (.t 22))),.q (.q 24 (.ss (.t 18) (some (.t 23)) none)),.m (.v 2 17),.rc (.v 18 0),.rc (.v 19 0),.rc (.q 20 (.lnS (.t 19))),.rc (.q 23 (.bin .sub true (.t 20) (.t 22))),.rc (.q 24 (.ss (.t 18) (some (.t 23)) none)),.m (.v 3 24),.m (.q 4 (.mv (.i 0)))])) .ret
@[go_sem ↓] theorem aGL:aO C0:=aQ _
def BW:PC:=.seq (.seq (.gh (.reg [.v 12 5,.a 13 (.cl 135 [(.t 12)] [0]),.v 7 13])) (vP)) (C0)
@[go_sem ↓] theorem aIW:aO BW:=aQ _
def CG:PC:=.seq (.gh (.reg [.v 10 5,.a 11 (.cl 134 [(.t 10)] [0]),.v 6 11])) (BW)
@[go_sem ↓] theorem aJE:aO CG:=aQ _
def aAT:PC:=.seq (.reg [.q 2 (.mv (.k (.int .u64 0))),.q 3 (.mv (.k (.string (mk [])))),.q 4 (.mv (.i 0))]) (.seq (.reg [.v 8 0,.a 9 (.cl 133 [(.t 8)] []),.v 5 9]) (CG))
def V8:List RV:=[.mv (.t 2),.mv (.t 3),.mv (.t 4)]
theorem aG6:aS Tryz.prog true ⟨fun r k=>if r=2/\k=1 then .own [0] else if r=3/\k=1 then .own [0] else if r=6/\k=5 then .own [0] else .own [],fun r=>[2,3,4,6].contains r⟩ Tryz.f94=some (aAT,V8):=by kernel_rfl
def pG:PC:=.seq (.seq (.gh (.reg [.v 12 4,.q 13 (.bin .neq true (.t 12) (.i 0))])) (.cond (.t 13) (.seq (.reg [.v 14 4,.q 2 (.mv (.k (.string (mk [])))),.q 3 (.mv (.k (.string (mk [])))),.v 4 14]) .ret) .skip)) (.seq (.seq (.reg [.v 15 5,.v 16 0,.q 17 (.lnS (.t 16)),.q 18 (.cvt .u64 (.t 17)),.q 19 (.bin .gtr true (.t 15) (.t 18))]) (.cond (.t 19) (.seq (.reg [.q 2 (.mv (.k (.string (mk [])))),.q 3 (.mv (.k (.string (mk [])))),.q 4 (.mv (.i 1))]) .ret) .skip)) (.seq (.reg [.v 20 0,.v 21 5,.q 22 (.ss (.t 20) none (some (.t 21))),.v 23 0,.v 24 5,.q 25 (.ss (.t 23) (some (.t 24)) none),.v 2 22,.v 3 25,.q 4 (.mv (.i 0))]) .ret))
@[go_sem ↓] theorem aIK:aO pG:=aQ _
def VD:PC:=.seq (.reg [.q 2 (.mv (.k (.string (mk [])))),.q 3 (.mv (.k (.string (mk [])))),.q 4 (.mv (.i 0))]) (.seq (.reg [.v 7 0,.a 8 (.cl 94 [(.t 7)] []),.v 6 8,.q 9 (.ex (.t 6) 0),.q 10 (.ex (.t 6) 1),.q 11 (.ex (.t 6) 2),.v 5 9,.v 0 10,.v 4 11]) (pG))
def ZR:List RV:=[.mv (.t 2),.mv (.t 3),.mv (.t 4)]
theorem aGZ:aS Tryz.prog true ⟨fun _ _=>.own [],fun r=>[2].contains r⟩ Tryz.f95=some (VD,ZR):=by kernel_rfl
def NT:PC:=.seq (.reg [.e 2 (.al (.agg #[(.int .i64 0),(.int .i64 0),(.string (mk [])),(.slice none 0 0),(.slice none 0 0)]) 29),.q 3 (.mv (.i 0))]) (.seq (.block 0 (.seq (.reg [.v 5 0,.q 6 (.bin .eql true (.t 5) (.k (.string (mk [])))),.v 4 6]) (.cond (.t 4) (.seq (.reg [.q 7 (.bd [(.int .i64 0),(.int .i64 0),(.string (mk [])),(.slice none 0 0),(.slice none 0 0)] []),.s (.st 5 (.t 2) (.t 7)),.q 3 (.mv (.i 1))]) .ret) (.seq (.reg [.v 9 0,.a 10 (.ix (.t 9) (.i 0)),.q 11 (.bin .gtr true (.t 10) (.k (.int .u8 1))),.v 12 11,⟨some 13,(some (12,false)),.q (.mv (.t 0))⟩,⟨some 14,(some (12,false)),.q (.lnS (.t 13))⟩,⟨some 15,(some (12,false)),.q (.bin .gtr true (.t 14) (.i 1))⟩,.a 16 (.pick (.t 12) (.k (.bool true)) (.t 15)),.v 8 16]) (.cond (.t 8) (.seq (.reg [.q 17 (.bd [(.int .i64 0),(.int .i64 0),(.string (mk [])),(.slice none 0 0),(.slice none 0 0)] []),.s (.st 5 (.t 2) (.t 17)),.q 3 (.mv (.i 2))]) .ret) .skip))))) (.seq (.reg [.v 18 0,.a 19 (.ix (.t 18) (.i 0)),.q 20 (.cvt .i64 (.t 19)),.q 21 (.bd [(.int .i64 0),(.int .i64 0),(.string (mk [])),(.slice none 0 0),(.slice none 0 0)] [(0,1,(.i 1)),(1,1,(.t 20))]),.s (.st 5 (.t 2) (.t 21)),.q 3 (.mv (.i 0))]) .ret))
def MB:List RV:=[.ld (.ldn 5 (.t 2)),.mv (.t 3)]
theorem aI3:aS Tryz.prog true ⟨fun _ _=>.own [],fun _=>false⟩ Tryz.f97=some (NT,MB):=by kernel_rfl
def t6:PC:=.gh (.reg [.q 19 (.fa 1 (.t 4)),.l 20 (.ld1 (.t 19)),.q 21 (.bin .eql true (.t 20) (.i 64)),.v 22 21,⟨some 23,(some (22,false)),.q (.mv (.t 9))⟩,⟨some 24,(some (22,false)),.q (.fa 1 (.t 4))⟩,⟨some 25,(some (22,false)),.l (.ld1 (.t 24))⟩,⟨some 26,(some (22,false)),.q (.bin .sub true (.t 25) (.i 1))⟩,⟨some 27,(some (22,false)),.q (.bin .shl true (.i (-1)) (.t 26))⟩,⟨some 28,(some (22,false)),.q (.bin .geq true (.t 23) (.t 27))⟩,⟨some 29,(some (22,false)),.q (.mv (.t 28))⟩,⟨some 30,(some (29,true)),.q (.mv (.t 9))⟩,⟨some 31,(some (29,true)),.q (.fa 1 (.t 4))⟩,⟨some 32,(some (29,true)),.l (.ld1 (.t 31))⟩,⟨some 33,(some (29,true)),.q (.bin .sub true (.t 32) (.i 1))⟩,⟨some 34,(some (29,true)),.q (.bin .shl true (.i 1) (.t 33))⟩,⟨some 35,(some (29,true)),.q (.bin .lss true (.t 30) (.t 34))⟩,⟨some 36,(some (22,false)),.pick (.t 29) (.t 35) (.k (.bool false))⟩,.a 37 (.pick (.t 22) (.k (.bool true)) (.t 36)),.v 10 37])
@[go_sem ↓] theorem aKG:aO t6:=aQ _
def qK:PC:=.gh (.reg [.v 48 10,.v 49 48,⟨some 50,(some (49,true)),.q (.mv (.t 9))⟩,⟨some 51,(some (49,true)),.q (.fa 1 (.t 4))⟩,⟨some 52,(some (49,true)),.l (.ld1 (.t 51))⟩,⟨some 53,(some (49,true)),.q (.bin .shl true (.i 1) (.t 52))⟩,⟨some 54,(some (49,true)),.q (.bin .lss true (.t 50) (.t 53))⟩,.a 55 (.pick (.t 49) (.t 54) (.k (.bool false))),.v 10 55])
@[go_sem ↓] theorem aER:aO qK:=aQ _
def qF:PC:=.gh (.reg [.v 56 10,.v 57 56,⟨some 58,(some (57,true)),.l (.ldn 3 (.t 3))⟩,⟨some 59,(some (57,true)),.q (.fa 2 (.t 4))⟩,⟨some 60,(some (57,true)),.l (.ld1 (.t 59))⟩,⟨some 61,(some (57,true)),.q (.mv (.t 9))⟩,⟨some 62,(some (57,true)),.cq 139 [(.t 58),(.t 60),(.t 61)]⟩,.a 63 (.pick (.t 57) (.t 62) (.k (.bool false))),.v 10 63])
@[go_sem ↓] theorem aEU:aO qF:=aQ _
def j3:PC:=.seq (.gh (.reg [.q 45 (.fa 0 (.t 4)),.l 46 (.ld1 (.t 45)),.q 47 (.bin .eql true (.t 46) (.i 3))])) (.cond (.t 47) (qK) (qF))
@[go_sem ↓] theorem aF5:aO j3:=aQ _
def CW:PC:=.seq (.gh (.reg [.v 42 11,.q 43 (.bin .and true (.t 42) (.k (.int .u64 4294967295))),.q 44 (.cvt .i64 (.t 43)),.v 9 44])) (j3)
@[go_sem ↓] theorem aHJ:aO CW:=aQ _
def BY:PC:=.seq (.gh (.reg [.v 40 11,.q 41 (.bin .lss true (.t 40) (.k (.int .u64 4294967296))),.v 10 41])) (CW)
@[go_sem ↓] theorem aIP:aO BY:=aQ _
def qD:PC:=.seq (.gh (.reg [.v 77 10,.q 78 (.not (.t 77)),.v 76 78])) (.cond (.t 76) (.seq (.reg [.q 79 (.bd [(.int .i64 0),(.int .i64 0),(.string (mk [])),(.slice none 0 0),(.slice none 0 0)] []),.s (.st 5 (.t 6) (.t 79)),.q 7 (.mv (.i 4))]) .ret) .skip)
@[go_sem ↓] theorem aEO:aO qD:=aQ _
def wX:PC:=.seq (.gh (.reg [.v 72 8,.a 73 (.cl 136 [(.t 72)] [3]),.q 74 (.bin .gtr true (.t 73) (.i 0)),.v 71 74])) (.cond (.t 71) (.seq (.reg [.q 75 (.bd [(.int .i64 0),(.int .i64 0),(.string (mk [])),(.slice none 0 0),(.slice none 0 0)] []),.s (.st 5 (.t 6) (.t 75)),.q 7 (.mv (.i 2))]) .ret) (qD))
@[go_sem ↓] theorem aF1:aO wX:=aQ _
def pc98_13:PC:=.seq (.gh (.reg [.v 65 8,.a 66 (.cl 135 [(.t 65)] [3]),.q 67 (.bin .neq true (.t 66) (.i 0)),.v 64 67])) (.cond (.t 64) (.seq (.reg [.q 68 (.bd [(.int .i64 0),(.int .i64 0),(.string (mk [])),(.slice none 0 0),(.slice none 0 0)] []),.v 69 8,.a 70 (.cl 135 [(.t 69)] [3]),.s (.st 5 (.t 6) (.t 68)),.v 7 70]) .ret) (wX))
@[go_sem ↓] theorem aEY:aO pc98_13:=aQ _
def mH:PC:=.seq (.gh (.reg [.q 80 (.fa 0 (.t 4)),.l 81 (.ld1 (.t 80)),.v 82 9,.q 83 (.bd [(.int .i64 0),(.int .i64 0),(.string (mk [])),(.slice none 0 0),(.slice none 0 0)] [(0,1,(.t 81)),(1,1,(.t 82))]),.s (.st 5 (.t 6) (.t 83)),.q 7 (.mv (.i 0))])) .ret
@[go_sem ↓] theorem aE1:aO mH:=aQ _
def tT:PC:=.seq (.seq (.gh (.reg [.q 14 (.fa 0 (.t 4)),.l 15 (.ld1 (.t 14)),.q 16 (.bin .eql true (.t 15) (.i 2))])) (.cond (.t 16) (.seq (.reg [.v 17 8,.a 18 (.cl 138 [(.t 17)] [3]),.v 9 18]) (t6)) (.seq (.reg [.v 38 8,.a 39 (.cl 134 [(.t 38)] [3]),.v 11 39]) (BY)))) (.seq (.block 0 (pc98_13)) (mH))
@[go_sem ↓] theorem aHM:aO tT:=aQ _
def C2:PC:=.seq (.gh (.reg [.q 10 (.mv (.k (.bool true)))])) (tT)
@[go_sem ↓] theorem aGQ:aO C2:=aQ _
def B4:PC:=.seq (.gh (.reg [.q 9 (.mv (.i 0))])) (C2)
@[go_sem ↓] theorem aHC:aO B4:=aQ _
def XL:PC:=.seq (.reg [.e 3 (.bx 25 (.t 0)),.e 4 (.bx 42 (.t 1)),.e 6 (.al (.agg #[(.int .i64 0),(.int .i64 0),(.string (mk [])),(.slice none 0 0),(.slice none 0 0)]) 29),.q 7 (.mv (.i 0))]) (.seq (.reg [.v 12 2,.a 13 (.cl 133 [(.t 12)] []),.v 8 13]) (B4))
def pA:List RV:=[.ld (.ldn 5 (.t 6)),.mv (.t 7)]
theorem aJL:aS Tryz.prog true ⟨fun r k=>if r=5/\k=1 then .own [3] else if r=7/\k=1 then .own [3] else if r=12/\k=6 then .q else if r=13/\k=1 then .own [3] else if r=14/\k=2 then .own [3] else if r=15/\k=1 then .own [3] else .own [],fun r=>[2,3,4,6,8,9,10,13,15,17,19,6,11,12].contains r⟩ Tryz.f98=some (XL,pA):=by kernel_rfl
def v8:PC:=.seq (.gh (.reg [.q 59 (.fa 3 (.t 10)),.l 60 (.ld1 (.t 59)),.l 61 (.ldn 5 (.t 14)),.e 62 (.bsl 29 5 [(.t 61)]),.e 63 (.ap 29 5 80 (.t 60) (.t 62)),.q 64 (.fa 3 (.t 10)),.s (.st 1 (.t 64) (.t 63))])) (.reg [.v 65 12,.v 2 65])
@[go_sem ↓] theorem aFQ:aO v8:=aQ _
def qV:PC:=.seq (.seq (.gh (.reg [.v 55 13,.q 56 (.bin .neq true (.t 55) (.i 0))])) (.cond (.t 56) (.seq (.reg [.q 57 (.bd [(.int .i64 0),(.int .i64 0),(.string (mk [])),(.slice none 0 0),(.slice none 0 0)] []),.v 58 13,.s (.st 5 (.t 6) (.t 57)),.v 7 58]) .ret) .skip)) (v8)
@[go_sem ↓] theorem aFZ:aO qV:=aQ _
def xR:PC:=.seq (.gh (.ord  [.q (.l 46 (.ldn 3 (.t 3))),.q (.q 47 (.fa 3 (.t 4))),.q (.l 48 (.ld1 (.t 47))),.q (.l 49 (.ia 4 (.t 48) (.i 0))),.q (.l 50 (.ldn 4 (.t 49))),.q (.v 51 11),.m (.a 52 (.cl 55 [(.t 46),(.t 50),(.t 51)] [])),.q (.v 45 52),.q (.q 53 (.ex (.t 45) 0)),.q (.q 54 (.ex (.t 45) 1)),.m (.e 14 (.al (.agg #[(.int .i64 0),(.int .i64 0),(.string (mk [])),(.slice none 0 0),(.slice none 0 0)]) 29)),.rc (.v 45 52),.rc (.q 53 (.ex (.t 45) 0)),.rc (.q 54 (.ex (.t 45) 1)),.m (.s (.st 5 (.t 14) (.t 53))),.rc (.q 54 (.ex (.t 45) 1)),.m (.v 13 54)])) (qV)
@[go_sem ↓] theorem aF3:aO xR:=aQ _
def rA:PC:=.seq (.seq (.gh (.reg [.v 41 13,.q 42 (.bin .neq true (.t 41) (.i 0))])) (.cond (.t 42) (.seq (.reg [.q 43 (.bd [(.int .i64 0),(.int .i64 0),(.string (mk [])),(.slice none 0 0),(.slice none 0 0)] []),.v 44 13,.s (.st 5 (.t 6) (.t 43)),.v 7 44]) .ret) .skip)) (xR)
@[go_sem ↓] theorem aE2:aO rA:=aQ _
def DP:PC:=.seq (.gh (.reg [.v 36 2,.a 37 (.cl 95 [(.t 36)] []),.v 35 37,.q 38 (.ex (.t 35) 0),.q 39 (.ex (.t 35) 1),.q 40 (.ex (.t 35) 2),.v 11 38,.v 12 39,.v 13 40])) (rA)
@[go_sem ↓] theorem aJF:aO DP:=aQ _
def qY:PC:=.seq (.seq (.gh (.reg [.v 67 2,.q 68 (.bin .neq true (.t 67) (.k (.string (mk []))))])) (.cond (.t 68) (.seq (.reg [.q 69 (.bd [(.int .i64 0),(.int .i64 0),(.string (mk [])),(.slice none 0 0),(.slice none 0 0)] []),.s (.st 5 (.t 6) (.t 69)),.q 7 (.mv (.i 2))]) .ret) .skip)) (.seq (.reg [.l 70 (.ldn 5 (.t 10)),.s (.st 5 (.t 6) (.t 70)),.q 7 (.mv (.i 0))]) .ret)
@[go_sem ↓] theorem aFL:aO qY:=aQ _
def DT:PC:=.seq (.seq (.gh (.reg [.v 32 8,.q 33 (.mv (.k (.int .u64 0)))])) (.block 0 (.loop (.seq (.reg [.q 34 (.bin .lss true (.t 33) (.t 32))]) (.seq (.cond (.t 34) .skip (.exit 0)) (.seq (.block 1 (DP)) (.reg [.q 66 (.bin .add true (.t 33) (.k (.int .u64 1))),.v 33 66]))))))) (qY)
@[go_sem ↓] theorem aG7:aO DT:=aQ _
def BU:PC:=.seq (.gh (.reg [.q 31 (.bd [(.int .i64 0),(.int .i64 0),(.string (mk [])),(.slice none 0 0),(.slice none 0 0)] [(0,1,(.i 5))]),.e 10 (.al (.agg #[(.int .i64 0),(.int .i64 0),(.string (mk [])),(.slice none 0 0),(.slice none 0 0)]) 29),.s (.st 5 (.t 10) (.t 31))])) (DT)
@[go_sem ↓] theorem aHT:aO BU:=aQ _
def uG:PC:=.seq (.seq (.gh (.reg [.v 25 8,.q 26 (.fa 1 (.t 4)),.l 27 (.ld1 (.t 26)),.q 28 (.cvt .u64 (.t 27)),.q 29 (.bin .gtr true (.t 25) (.t 28))])) (.cond (.t 29) (.seq (.reg [.q 30 (.bd [(.int .i64 0),(.int .i64 0),(.string (mk [])),(.slice none 0 0),(.slice none 0 0)] []),.s (.st 5 (.t 6) (.t 30)),.q 7 (.mv (.i 3))]) .ret) .skip)) (BU)
@[go_sem ↓] theorem aIZ:aO uG:=aQ _
def uC:PC:=.seq (.seq (.gh (.reg [.v 21 9,.q 22 (.bin .neq true (.t 21) (.i 0))])) (.cond (.t 22) (.seq (.reg [.q 23 (.bd [(.int .i64 0),(.int .i64 0),(.string (mk [])),(.slice none 0 0),(.slice none 0 0)] []),.v 24 9,.s (.st 5 (.t 6) (.t 23)),.v 7 24]) .ret) .skip)) (uG)
@[go_sem ↓] theorem aGV:aO uC:=aQ _
def aBJ:PC:=.seq (.reg [.e 3 (.bx 25 (.t 0)),.e 4 (.bx 42 (.t 1)),.e 6 (.al (.agg #[(.int .i64 0),(.int .i64 0),(.string (mk [])),(.slice none 0 0),(.slice none 0 0)]) 29),.q 7 (.mv (.i 0))]) (.seq (.reg [.v 16 2,.a 17 (.cl 94 [(.t 16)] []),.v 15 17,.q 18 (.ex (.t 15) 0),.q 19 (.ex (.t 15) 1),.q 20 (.ex (.t 15) 2),.v 8 18,.v 2 19,.v 9 20]) (uC))
def YN:List RV:=[.ld (.ldn 5 (.t 6)),.mv (.t 7)]
theorem aI8:aS Tryz.prog true ⟨fun _ _=>.own [],fun r=>[2,4,6,7,9,10,12,13,15,18].contains r⟩ Tryz.f99=some (aBJ,YN):=by kernel_rfl
def wI:PC:=.seq (.seq (.gh (.reg [.q 17 (.fa 2 (.t 7)),.l 18 (.ld1 (.t 17)),.q 19 (.lnL (.t 18)),.q 20 (.mv (.i 0))])) (.block 0 (.loop (.seq (.reg [.q 21 (.bin .lss true (.t 20) (.t 19))]) (.seq (.cond (.t 21) .skip (.exit 0)) (.seq (.block 1 (.seq (.reg [.l 22 (.ia 1 (.t 18) (.t 20)),.l 23 (.ld1 (.t 22)),.v 10 23]) (.seq (.reg [.v 24 10,.v 25 2,.q 26 (.bin .eql true (.t 24) (.t 25))]) (.cond (.t 26) (.seq (.reg [.q 6 (.mv (.k (.bool true)))]) .ret) .skip)))) (.reg [.q 27 (.bin .add true (.t 20) (.i 1)),.v 20 27]))))))) (.seq (.reg [.q 6 (.mv (.k (.bool false)))]) .ret)
@[go_sem ↓] theorem aE6:aO wI:=aQ _
def R6:PC:=.seq (.reg [.e 3 (.bx 25 (.t 0)),.q 6 (.mv (.k (.bool false)))]) (.seq (.reg [.l 12 (.ldn 3 (.t 3)),.v 13 1,.a 14 (.cl 113 [(.t 12),(.t 13)] []),.v 11 14,.q 15 (.ex (.t 11) 0),.q 16 (.ex (.t 11) 1),.e 7 (.al (.agg #[(.string (mk [])),(.slice none 0 0),(.slice none 0 0)]) 118),.s (.st 3 (.t 7) (.t 15)),.v 8 16]) (wI))
def PK:List RV:=[.mv (.t 6)]
theorem aCR:aS Tryz.prog true ⟨fun _ _=>.own [],fun r=>[2].contains r⟩ Tryz.f139=some (R6,PK):=by kernel_rfl
abbrev uA (n:Nat):A:=.c1 (.vl (.int .u64 n))
theorem YU:∀ x:Nat,x < 256->IntKind.u8.wrap ((BitVec.ofInt IntKind.u8.bits (x:Int) &&& BitVec.ofInt IntKind.u8.bits 127).toNat:Int)=((x % 128:Nat):Int):=by decide +kernel
theorem SP (c:UInt8):IntKind.u8.wrap ((BitVec.ofInt IntKind.u8.bits (c.toNat:Int) &&& BitVec.ofInt IntKind.u8.bits 127).toNat:Int)=((c.toNat % 128:Nat):Int):=YU _ c.toNat_lt
theorem nR {n:Nat} (h:n < 18446744073709551616):IntKind.u64.wrap (n:Int)=n:=by
 have h2:IntKind.u64.wrap (n:Int)=(n:Int) % 18446744073709551616:=by simp [IntKind.wrap,IntKind.signed,IntKind.bits]
 rw [h2]; omega
theorem Y3 {n m i:Nat} (hn:n < 128 ^ i) (hs:n + m * 128 ^ i < 18446744073709551616) (hi:i<=9) :
 IntKind.u64.wrap ((BitVec.ofInt IntKind.u64.bits (n:Int) ||| BitVec.ofInt IntKind.u64.bits (IntKind.u64.wrap ((m:Int) * 2 ^ (min ((7:Int) * (i:Int)).toNat 64)))).toNat:Int)=((n + m * 128 ^ i:Nat):Int):=by
 have hb:IntKind.u64.bits=64:=rfl
 have e1:((7:Int) * (i:Int)).toNat=7 * i:=by omega
 have e2:min (7 * i) 64=7 * i:=by omega
 have e3:(2:Nat) ^ (7 * i)=128 ^ i:=by rw [Nat.pow_mul]
 have e4:(m:Int) * 2 ^ (7 * i)=((m * 128 ^ i:Nat):Int):=by
  rw [<-e3]; simp
 rw [hb,e1,e2,e4,nR (n:=m * 128 ^ i) (by omega)]
 have e5:(BitVec.ofInt 64 (n:Int)).toNat=n:=by
  rw [BitVec.ofInt_natCast,BitVec.toNat_ofNat]; exact Nat.mod_eq_of_lt (by omega)
 have e6:(BitVec.ofInt 64 ((m * 128 ^ i:Nat):Int)).toNat=m * 128 ^ i:=by
  rw [BitVec.ofInt_natCast,BitVec.toNat_ofNat]; exact Nat.mod_eq_of_lt (by omega)
 rw [BitVec.toNat_or,e5,e6]
 have e7:n ||| m * 128 ^ i=n + m * 128 ^ i:=by
  rw [Nat.or_comm,<-e3,<-Nat.shiftLeft_eq,<-Nat.shiftLeft_add_eq_or_of_lt (by rw [e3]; exact hn),Nat.add_comm]
 rw [e7,nR hs]
def XO:W.Spec:=fun av H K=>∃ x:ByteArray,av=[tS x]/\H=[]/\x.size<=9223372036854775807/\K (.tu [uA (vr (bl x)).1,iA .i64 (vr (bl x)).2.1,iA .i64 (vr (bl x)).2.2]) []
theorem ZX {x:ByteArray} {K:S->Hp->Prop} (h:x.size<=9223372036854775807) (hK:K (.tu [uA (vr (bl x)).1,iA .i64 (vr (bl x)).2.1,iA .i64 (vr (bl x)).2.2]) []):XO [tS x] [] K:=⟨x,rfl,rfl,h,hK⟩
theorem LY:Meets Tryz.prog 156 XO:=by
 refine aD Tryz.func156 aEF 1 (by rw [Tryz.ntmps156]; decide) (aB _) (fun av H K h=>by obtain ⟨_,rfl,_⟩:=h; rfl) ?_
 rintro av H K ⟨x,rfl,rfl,hx,hK⟩
 obtain ⟨l,rfl⟩:∃ l,x=mk l:=⟨bl x,(fQ x).symm⟩
 rw [cV,n6] at hx
 rw [n6] at hK
 have fin:∀ (n k:Nat) (e:Int),vr l=(n,k,e)->W.Fin 0 K (.tu [uA n,iA .i64 k,iA .i64 e]) []:=fun n k e h=>by
  rw [h] at hK; exact .done hK
 clear hK
 simp (maxSteps:=1000000) -dsimp only [go_sem,Q5,PT]
 refine aV (α:=Nat × Nat) (fun z=>[(0,tS (mk l)),(5,iS .u64 z.2),(8,iS .i64 z.1)]) (fun _=>[])
  (fun z=>z.1<=9/\z.2 < 128 ^ z.1/\z.1<=l.length/\oI z.1 z.2 (l.drop z.1)=vr l) (fun z=>10 - z.1) (0,0) 0 ⟨by decide,by decide,Nat.zero_le _,rfl⟩ ?_ ?_ ?_
 · simp -dsimp only [go_sem]<;>simp
 · simp [go_sem]
 rintro ⟨i,n⟩ ⟨hi,hn,hil,ho⟩
 simp only at hi hn hil ho ⊢
 have hg:decide ((i:Int) < 10)=true:=by simp; omega
 rcases bD i l.length with hlt | hge
 · have hg2:((i:Int) == (l.length:Int))=false:=by simp; omega
   obtain ⟨c,hc⟩:∃ c,l[i]? = some c:=⟨_,aT hlt⟩
   have hd:l.drop i=c :: l.drop (i + 1):=by
    obtain ⟨h,rfl⟩:=a8.1 hc
    exact List.drop_eq_getElem_cons h
   rw [hd,nM] at ho
   have e9:((i:Int) == 9)=(i == 9):=by rw [Bool.eq_iff_iff]; simp; omega
   have e1:decide ((1:Int) < (c.toNat:Int))=decide (1 < c.toNat):=by rw [Bool.eq_iff_iff]; simp; omega
   have e128:decide ((128:Int)<=(c.toNat:Int))=decide (128<=c.toNat):=by rw [Bool.eq_iff_iff]; simp; omega
   have e0:((c.toNat:Int) == 0)=(c.toNat == 0):=by rw [Bool.eq_iff_iff]; simp
   have ei:decide ((0:Int) < (i:Int))=decide (0 < i):=by rw [Bool.eq_iff_iff]; simp
   have hc256:=c.toNat_lt
   cases c1:i == 9 && decide (1 < c.toNat) with
   | true=>
    rw [c1] at ho
    rw [Bool.and_eq_true] at c1
    simp (maxSteps:=1000000) -dsimp only [go_sem,hg,hg2,hc,aE,forall_eq',e9,e1,c1.1,c1.2]
    exact ⟨by omega,fin 0 0 2 ho.symm⟩
   | false=>
    rw [c1,cond_false] at ho
    have key:n + c.toNat % 128 * 128 ^ i < 18446744073709551616:=by
     rcases bD i 9 with h9 | h9
     · have h1:128 ^ (i + 1)<=128 ^ 9:=Nat.pow_le_pow_right (by decide) (by omega)
       have h2:c.toNat % 128 * 128 ^ i<=127 * 128 ^ i:=Nat.mul_le_mul_right _ (by omega)
       have h3:(128:Nat) ^ 9=9223372036854775808:=by decide
       have h4:128 ^ (i + 1)=128 * 128 ^ i:=by rw [Nat.pow_succ,Nat.mul_comm]
       omega
     · obtain rfl:i=9:=by omega
       rw [show ((9:Nat) == 9)=true from rfl,Bool.true_and] at c1
       have h1:=of_decide_eq_false c1
       have h3:(128:Nat) ^ 9=9223372036854775808:=by decide
       rw [h3] at hn ⊢
       have:c.toNat % 128<=1:=by omega
       have h2:c.toNat % 128 * 9223372036854775808<=1 * 9223372036854775808:=Nat.mul_le_mul_right _ this
       omega
    have hos:=Y3 hn key hi
    have c1':((i == 9)=false\/decide (1 < c.toNat)=false):=by rw [Bool.and_eq_false_iff] at c1; exact c1
    have g9:∀ (P Q:Prop),(((bif i == 9 then decide (1 < c.toNat) else false)=true->P)/\((bif i == 9 then decide (1 < c.toNat) else false)=false->Q))=Q:=fun P Q=>by
     have:(bif i == 9 then decide (1 < c.toNat) else false)=false:=by rw [DM]; exact c1
     rw [this]; simp
    simp (maxSteps:=1000000) -dsimp only [go_sem,hg,hg2,hc,aE,forall_eq',e9,e1,c1,SP,e128,e0,ei]
    have hw:IntKind.u64.wrap ((c.toNat % 128:Nat):Int)=((c.toNat % 128:Nat):Int):=nR (by omega)
    simp only [hw,hos]
    refine ⟨by omega,by omega,by omega,fun h1=>?_,fun h1=>⟨fun h2=>?_,fun h2=>?_⟩⟩
    · rw [h1,cond_true] at ho
      have h128:=of_decide_eq_true h1
      have hi9:i ≠ 9:=fun e=>by
       subst e
       rcases c1' with h | h
       · cases h
       · have:=of_decide_eq_false h; omega
      have hm:c.toNat % 128 * 128 ^ i<=127 * 128 ^ i:=Nat.mul_le_mul_right _ (by omega)
      have hp:128 ^ (i + 1)=128 * 128 ^ i:=by rw [Nat.pow_succ,Nat.mul_comm]
      refine ⟨by omega,aF (i + 1,n + c.toNat % 128 * 128 ^ i) 0 ⟨by simp only; omega,by simp only; rw [hp]; omega,by simp only; omega,ho⟩ (by simp only; omega) ?_ ?_⟩
      · simp -dsimp only [go_sem,hw,hos]<;>simp [hw,hos]
      · simp [go_sem]
    · rw [h1,cond_false,h2,cond_true] at ho
      exact fin 0 0 2 ho.symm
    · rw [h1,cond_false,h2,cond_false] at ho
      refine ⟨by omega,fin (n + c.toNat % 128 * 128 ^ i) (i + 1) 0 ho.symm⟩
 · have hg2:((i:Int) == (l.length:Int))=true:=by simp; omega
   have hd:l.drop i=[]:=List.drop_eq_nil_iff.2 hge
   rw [hd,FG] at ho
   simp (maxSteps:=1000000) -dsimp only [go_sem,hg,hg2]
   exact fin 0 0 1 ho.symm
def cS (x:List UInt8) (a:Nat) (e:Int):List C:=[.vl (.string (mk x)),.vl (.int .i64 a),.vl (.int .i64 e)]
abbrev fG (x:List UInt8) (a:Nat) (e:Int):B:=.cells (cS x a e) 199
abbrev y1 (n:Nat):B:=.cells [.vl (.int .u64 n)] 83
def H8:W.Spec:=fun av H K=>∃ x:List UInt8,av=[tS (mk x)]/\H=[]/\K (.va (.c1 (.pt 0 0))) [fG x 0 0]
theorem LH {x:List UInt8} {K:S->Hp->Prop} (hK:K (.va (.c1 (.pt 0 0))) [fG x 0 0]):H8 [tS (mk x)] [] K:=⟨x,rfl,rfl,hK⟩
theorem vC:Meets Tryz.prog 133 H8:=by
 refine aD Tryz.func133 aCL 1 (by rw [Tryz.ntmps133]; decide) (aB _) (fun av H K h=>by obtain ⟨_,rfl,_⟩:=h; rfl) ?_
 rintro av H K ⟨x,rfl,rfl,hK⟩
 simp (maxSteps:=1000000) -dsimp only [go_sem,QA,OU]
 exact .done hK
def AW:W.Spec:=fun av H K=>∃ (x:List UInt8) (a:Nat) (e:Int),av=[.va (.c1 (.pt 0 0))]/\H=[fG x a e]/\K (iS .i64 e) [fG x a e]
theorem wR {x:List UInt8} {a:Nat} {e:Int} {K:S->Hp->Prop} (hK:K (iS .i64 e) [fG x a e]):AW [.va (.c1 (.pt 0 0))] [fG x a e] K:=⟨x,a,e,rfl,rfl,hK⟩
theorem aAQ:Meets Tryz.prog 135 AW:=by
 refine aD Tryz.func135 aDW 1 (by rw [Tryz.ntmps135]; decide) (aB _) (fun av H K h=>by obtain ⟨_,_,_,rfl,_⟩:=h; rfl) ?_
 rintro av H K ⟨x,a,e,rfl,rfl,hK⟩
 simp (maxSteps:=1000000) -dsimp only [go_sem,cS,RQ,O3]
 exact .done hK
def AT:W.Spec:=fun av H K=>∃ (x:List UInt8) (a:Nat) (e:Int),av=[.va (.c1 (.pt 0 0))]/\H=[fG x a e]/\a<=x.length/\x.length<=9223372036854775807/\K (iS .i64 ((x.length:Int) - a)) [fG x a e]
theorem GT {x:List UInt8} {a:Nat} {e:Int} {K:S->Hp->Prop} (h1:a<=x.length) (h2:x.length<=9223372036854775807) (hK:K (iS .i64 ((x.length:Int) - a)) [fG x a e]):AT [.va (.c1 (.pt 0 0))] [fG x a e] K:=⟨x,a,e,rfl,rfl,h1,h2,hK⟩
theorem OO:Meets Tryz.prog 136 AT:=by
 refine aD Tryz.func136 aD3 1 (by rw [Tryz.ntmps136]; decide) (aB _) (fun av H K h=>by obtain ⟨_,_,_,rfl,_⟩:=h; rfl) ?_
 rintro av H K ⟨x,a,e,rfl,rfl,h1,h2,hK⟩
 simp (maxSteps:=1000000) -dsimp only [go_sem,cS,PB,SI]
 exact ⟨by omega,.done hK⟩
def ZF:W.Spec:=fun av H K=>∃ (x:List UInt8) (m:Nat),av=[tS (mk x),.va (.c1 (.pt 0 0))]/\H=[y1 m]/\x.length<=9223372036854775807/\K (.tu [iA .i64 (vr x).2.1,iA .i64 (vr x).2.2]) [y1 (vr x).1]
theorem ZG {x:List UInt8} {m:Nat} {K:S->Hp->Prop} (h:x.length<=9223372036854775807) (hK:K (.tu [iA .i64 (vr x).2.1,iA .i64 (vr x).2.2]) [y1 (vr x).1]):ZF [tS (mk x),.va (.c1 (.pt 0 0))] [y1 m] K:=⟨x,m,rfl,rfl,h,hK⟩
theorem XB:Meets Tryz.prog 155 ZF:=by
 refine aD Tryz.func155 aEJ 2 (by rw [Tryz.ntmps155]; decide) (aC LY (aB _)) (fun av H K h=>by obtain ⟨_,_,rfl,_⟩:=h; rfl) ?_
 rintro av H K ⟨x,m,rfl,rfl,h,hK⟩
 simp (maxSteps:=1000000) -dsimp only [go_sem,QC,PR]
 refine ZX (by rw [cV,n6]; exact h) ?_
 rw [n6]
 simp (maxSteps:=1000000) -dsimp only [go_sem]
 refine aA rfl (.done ?_)
 simp (maxSteps:=1000000) -dsimp only [go_sem,w4]
 exact .done hK
def P5:W.Spec:=fun av H K=>∃ (x:List UInt8) (m:Nat),av=[.va (.c1 (.pt 0 0)),.va (.c1 (.fn 155 [(false,[.pt 1 0])]))]/\H=[fG x 0 0,y1 m]/\x.length<=9223372036854775807/\K (.tu []) [fG x (vr x).2.1 (vr x).2.2,y1 (vr x).1]
theorem UV {x:List UInt8} {m:Nat} {K:S->Hp->Prop} (h:x.length<=9223372036854775807) (hK:K (.tu []) [fG x (vr x).2.1 (vr x).2.2,y1 (vr x).1]):P5 [.va (.c1 (.pt 0 0)),.va (.c1 (.fn 155 [(false,[.pt 1 0])]))] [fG x 0 0,y1 m] K:=⟨x,m,rfl,rfl,h,hK⟩
theorem ZJ:Meets Tryz.prog 154 P5:=by
 refine aD Tryz.func154 aDJ 2 (by rw [Tryz.ntmps154]; decide) (aC XB (aB _)) (fun av H K h=>by obtain ⟨_,_,rfl,_⟩:=h; rfl) ?_
 rintro av H K ⟨x,m,rfl,rfl,h,hK⟩
 simp (maxSteps:=1000000) -dsimp only [go_sem,cS,OY,SF,bne_self_eq_false]
 refine aA rfl (.done ?_)
 have z0:(0:Int)<=((0:Nat):Int):=by decide
 have z1:((0:Nat):Int)<=(x.length:Int):=by omega
 simp (maxSteps:=1000000) -dsimp only [go_sem,cS,x7,List.take_length,List.drop_zero,z0,z1]
 refine ⟨by omega,ZG h ?_⟩
 simp (maxSteps:=1000000) -dsimp only [go_sem]
 refine aA rfl (.done ?_)
 rcases qB x with ⟨h0,h1,h2,_⟩ | ⟨h0,h1,h2,h3,_,_⟩
 · have hne:((vr x).2.2 != 0)=true:=by simpa using h0
   rw [h1,h2] at hK ⊢
   simp (maxSteps:=1000000) -dsimp only [go_sem,cS,qX,hne]
   exact .done hK
 · rw [h0] at hK ⊢
   simp (maxSteps:=1000000) -dsimp only [go_sem,cS,qX,bne_self_eq_false]
   refine ⟨by omega,.done ?_⟩
   rw [show ((0:Nat):Int) + ((vr x).2.1:Int)=((vr x).2.1:Int) by omega]
   exact hK
def H0:W.Spec:=fun av H K=>∃ x:List UInt8,av=[.va (.c1 (.pt 0 0))]/\H=[fG x 0 0]/\x.length<=9223372036854775807/\K (iS .u64 (vr x).1) [fG x (vr x).2.1 (vr x).2.2]
theorem DN {x:List UInt8} {K:S->Hp->Prop} (h:x.length<=9223372036854775807) (hK:K (iS .u64 (vr x).1) [fG x (vr x).2.1 (vr x).2.2]):H0 [.va (.c1 (.pt 0 0))] [fG x 0 0] K:=⟨x,rfl,rfl,h,hK⟩
theorem CJ:Meets Tryz.prog 134 H0:=by
 refine aD Tryz.func134 aC7 1 (by rw [Tryz.ntmps134]; decide) (aC ZJ (aB _)) (fun av H K h=>by obtain ⟨_,rfl,_⟩:=h; rfl) ?_
 rintro av H K ⟨x,rfl,rfl,h,hK⟩
 simp (maxSteps:=1000000) -dsimp only [go_sem,O9,RX]
 refine aA rfl (.done ?_)
 simp (maxSteps:=1000000) -dsimp only [go_sem,wF]
 refine UV (m:=0) h ?_
 simp (maxSteps:=1000000) -dsimp only [go_sem]
 refine aA rfl (.done ?_)
 simp (maxSteps:=1000000) -dsimp only [go_sem,wK]
 refine .sel [0] (by simp) (by simp) rfl (.done ?_)
 simp -dsimp only [go_sem,cS]
 exact hK
theorem aH8 (n:Nat):IntKind.u64.wrap ((BitVec.ofInt IntKind.u64.bits (n:Int) &&& BitVec.ofInt IntKind.u64.bits 1).toNat:Int)=((n % 2:Nat):Int):=by
 have hb:IntKind.u64.bits=64:=rfl
 have e:(BitVec.ofInt 64 (n:Int) &&& BitVec.ofInt 64 1).toNat=n % 2:=by
  rw [BitVec.toNat_and,BitVec.ofInt_natCast,BitVec.toNat_ofNat,show (BitVec.ofInt 64 1).toNat=1 from rfl,Nat.and_one_is_mod]
  omega
 rw [hb,e,nR (by omega)]
theorem x8 {n:Int} (h:bM n):IntKind.i64.wrap n=n:=by
 unfold bM at h
 exact sI (aDY h.1 h.2)
theorem NV (n:Nat) (h:n < 18446744073709551616):IntKind.i64.wrap (n:Int)=if n < 9223372036854775808 then (n:Int) else (n:Int) - 18446744073709551616:=by
 simp [IntKind.wrap,IntKind.signed,IntKind.bits]
 split<;>omega
theorem W0 {n:Nat} (h:n < 18446744073709551616):IntKind.i64.wrap ((BitVec.ofInt IntKind.i64.bits (IntKind.i64.wrap ((n:Int).fdiv (2 ^ min 1 64))) ^^^ BitVec.ofInt IntKind.i64.bits (IntKind.i64.wrap (0 - IntKind.i64.wrap ((n % 2:Nat):Int)))).toNat:Int)=oV n:=by
 have hb:IntKind.i64.bits=64:=rfl
 have e1:(n:Int).fdiv (2 ^ min 1 64)=((n / 2:Nat):Int):=by
  rw [show (2:Int) ^ min 1 64=2 from rfl,Int.fdiv_eq_ediv_of_nonneg _ (by decide)]; omega
 have e2:IntKind.i64.wrap ((n / 2:Nat):Int)=((n / 2:Nat):Int):=x8 ⟨by omega,by omega⟩
 have e3:IntKind.i64.wrap ((n % 2:Nat):Int)=((n % 2:Nat):Int):=x8 ⟨by omega,by omega⟩
 have e4:IntKind.i64.wrap (0 - ((n % 2:Nat):Int))=0 - ((n % 2:Nat):Int):=x8 ⟨by omega,by omega⟩
 rw [hb,e1,e2,e3,e4]
 have e5:BitVec.ofInt 64 ((n / 2:Nat):Int)=BitVec.ofNat 64 (n / 2):=BitVec.ofInt_natCast ..
 rw [e5]
 unfold oV
 rcases Nat.mod_two_eq_zero_or_one n with h0 | h0
 · rw [h0,if_neg (by decide),show (0:Int) - ((0:Nat):Int)=0 from rfl,show BitVec.ofInt 64 0=0#64 from rfl,BitVec.xor_zero,BitVec.toNat_ofNat,Nat.mod_eq_of_lt (by omega)]
   exact e2
 · rw [h0,if_pos rfl,show (0:Int) - ((1:Nat):Int)=-1 from rfl,show BitVec.ofInt 64 (-1)=BitVec.allOnes 64 from rfl,BitVec.xor_allOnes,BitVec.toNat_not,BitVec.toNat_ofNat,Nat.mod_eq_of_lt (show n / 2 < 2 ^ 64 by omega),NV _ (by omega)]
   rw [if_neg (by omega)]
   omega
theorem VI {n:Int} (h:bM n):IntKind.u64.wrap ((BitVec.ofInt IntKind.u64.bits (IntKind.u64.wrap (IntKind.u64.wrap n * 2 ^ min 1 64)) ^^^ BitVec.ofInt IntKind.u64.bits (IntKind.u64.wrap (n.fdiv (2 ^ min 63 64)))).toNat:Int)=(oM n:Int):=by
 unfold bM at h
 have hb:IntKind.u64.bits=64:=rfl
 have hw:∀ x:Int,IntKind.u64.wrap x=x % 18446744073709551616:=fun x=>by simp [IntKind.wrap,IntKind.signed,IntKind.bits]
 have hp:(2:Int) ^ min 63 64=9223372036854775808:=by decide
 rw [hb,hp,show (2:Int) ^ min 1 64=2 from rfl,Int.fdiv_eq_ediv_of_nonneg _ (by decide)]
 unfold oM
 by_cases h0:n < 0
 · have e1:n / 9223372036854775808=-1:=by omega
   have e2:IntKind.u64.wrap (IntKind.u64.wrap n * 2)=((n * 2 + 18446744073709551616).toNat:Int):=by rw [hw,hw]; omega
   rw [if_pos h0,e1,e2,show BitVec.ofInt 64 (IntKind.u64.wrap (-1))=BitVec.allOnes 64 from rfl,BitVec.xor_allOnes,BitVec.toNat_not,BitVec.ofInt_natCast,BitVec.toNat_ofNat,Nat.mod_eq_of_lt (show (n * 2 + 18446744073709551616).toNat < 2 ^ 64 by omega),nR (by omega)]
   omega
 · have e1:n / 9223372036854775808=0:=by omega
   have e2:IntKind.u64.wrap (IntKind.u64.wrap n * 2)=((n * 2).toNat:Int):=by rw [hw,hw]; omega
   rw [if_neg h0,e1,e2,show BitVec.ofInt 64 (IntKind.u64.wrap 0)=0#64 from rfl,BitVec.xor_zero,BitVec.ofInt_natCast,BitVec.toNat_ofNat,Nat.mod_eq_of_lt (show (n * 2).toNat < 2 ^ 64 by omega),nR (by omega)]
   omega
def AU:W.Spec:=fun av H K=>∃ x:List UInt8,av=[.va (.c1 (.pt 0 0))]/\H=[fG x 0 0]/\x.length<=9223372036854775807/\K (iS .i64 (oV (vr x).1)) [fG x (vr x).2.1 (vr x).2.2]
theorem UJ {x:List UInt8} {K:S->Hp->Prop} (h:x.length<=9223372036854775807) (hK:K (iS .i64 (oV (vr x).1)) [fG x (vr x).2.1 (vr x).2.2]):AU [.va (.c1 (.pt 0 0))] [fG x 0 0] K:=⟨x,rfl,rfl,h,hK⟩
theorem aDK:Meets Tryz.prog 138 AU:=by
 refine aD Tryz.func138 aDP 1 (by rw [Tryz.ntmps138]; decide) (aC CJ (aB _)) (fun av H K h=>by obtain ⟨_,rfl,_⟩:=h; rfl) ?_
 rintro av H K ⟨x,rfl,rfl,h,hK⟩
 simp (maxSteps:=1000000) -dsimp only [go_sem,PL,PE]
 refine DN h ?_
 simp (maxSteps:=1000000) -dsimp only [go_sem]
 refine aA rfl (.done ?_)
 simp (maxSteps:=1000000) -dsimp only [go_sem,wU,aH8]
 have hlt:(vr x).1 < 18446744073709551616:=by
  rcases qB x with ⟨_,h,_⟩ | ⟨_,_,_,_,_,h⟩
  · rw [h]; decide
  · exact h
 rw [W0 hlt]
 refine ⟨by decide,.done ?_⟩
 simp -dsimp only [go_sem,cS]
 exact hK
def AH:List S->Prop:=fun av=>match av with
 | [.va (.c1 (.vl (.int .i64 n)))]=>bM n
 | _=>False
theorem nI {av:List S} (h:AH av):∃ n:Int,av=[iS .i64 n]/\bM n:=by
 unfold AH at h
 split at h
 · exact ⟨_,rfl,h⟩
 · exact h.elim
def N2 (f:Int->Value):Fun:=⟨AH,PJ f,fun av h=>by obtain ⟨n,rfl,_⟩:=nI h; trivial⟩
theorem N9 {f:Int->Value}:∀ av H K,(N2 f).sp av H K->av.length=1:=fun av H K h=>by obtain ⟨n,rfl,_⟩:=nI h.1.1; rfl
attribute [go_sem] N2 AH
theorem aCZ:Meets Tryz.prog 84 (N2 fun n=>.string (mk (vi (oM n)))).sp:=by
 refine aD Tryz.func84 aIM 1 (by rw [Tryz.ntmps84]; decide) (aH u1 (aB _)) N9 ?_
 rintro av H K ⟨⟨h,rfl⟩,hK⟩
 obtain ⟨n,rfl,hn⟩:=nI h
 have hK:K (tS (mk (vi (oM n)))) []:=hK
 clear h
 simp (maxSteps:=1000000) -dsimp only [go_sem,WX,Z8]
 have hz:oM n < 18446744073709551616:=by
  unfold bM at hn
  unfold oM
  split<;>omega
 rw [VI hn]
 exact ⟨by decide,by decide,by omega,.done hK⟩
def QE:W.Spec:=fun av H K=>∃ x:List UInt8,av=[tS (mk x)]/\H=[]/\x.length<=9223372036854775807/\K (.tu [uA (aX x).1,tA (mk (aX x).2.1),iA .i64 (aX x).2.2]) []
theorem vU {x:List UInt8} {K:S->Hp->Prop} (h:x.length<=9223372036854775807) (hK:K (.tu [uA (aX x).1,tA (mk (aX x).2.1),iA .i64 (aX x).2.2]) []):QE [tS (mk x)] [] K:=⟨x,rfl,rfl,h,hK⟩
theorem sD:Meets Tryz.prog 94 QE:=by
 refine aD Tryz.func94 aG6 1 (by rw [Tryz.ntmps94]; decide) (aC vC (aC CJ (aC aAQ (aC OO (aB _))))) (fun av H K h=>by obtain ⟨_,rfl,_⟩:=h; rfl) ?_
 rintro av H K ⟨x,rfl,rfl,hx,hK⟩
 have fin:∀ (n:Nat) (r:List UInt8) (e:Int) (R:Hp),aX x=(n,r,e)->W.Fin 0 K (.tu [uA n,tA (mk r),iA .i64 e]) R:=fun n r e R h=>by
  rw [h] at hK; exact .sel [] (by simp) (by simp) rfl (.done (by simpa [go_sem] using hK))
 clear hK
 unfold aX at fin
 simp (maxSteps:=1000000) -dsimp only [go_sem,aAT,V8]
 refine LH ?_
 simp (maxSteps:=1000000) -dsimp only [go_sem,cS]
 refine aA rfl (.done ?_)
 simp (maxSteps:=1000000) -dsimp only [go_sem,CG]
 refine DN hx ?_
 simp (maxSteps:=1000000) -dsimp only [go_sem,cS]
 refine aA rfl (.done ?_)
 simp (maxSteps:=1000000) -dsimp only [go_sem,BW]
 refine wR ?_
 simp (maxSteps:=1000000) -dsimp only [go_sem,cS]
 refine aA rfl (.done ?_)
 have hlt:=qB x
 cases c1:(vr x).2.2 != 0 with
 | true=>
  rw [c1,cond_true] at fin
  simp (maxSteps:=1000000) -dsimp only [go_sem,vP,c1]
  exact fin _ _ _ _ rfl
 | false=>
  rw [c1,cond_false] at fin
  simp (maxSteps:=1000000) -dsimp only [go_sem,vP,c1]
  obtain ⟨h0,h1,h2,h3,_⟩:(vr x).2.2=0/\(vr x).2.1=(vi (vr x).1).length/\0 < (vr x).2.1/\(vr x).2.1<=x.length/\True:=by
   rcases hlt with ⟨h,_⟩ | ⟨a,b,c,d,_⟩
   · exact absurd (mS c1) h
   · exact ⟨a,b,c,d,trivial⟩
  have e1:((x.length:Int) - ((x.length:Int) - ((vr x).2.1:Int)))=((vr x).2.1:Int):=by omega
  refine aA rfl (.done ?_)
  simp (maxSteps:=1000000) -dsimp only [go_sem,C0]
  refine GT h3 hx ?_
  simp (maxSteps:=1000000) -dsimp only [go_sem,cS,e1,List.take_length]
  refine ⟨by omega,by omega,by omega,by omega,?_⟩
  exact fin _ _ _ _ rfl
def QP:W.Spec:=fun av H K=>∃ x:List UInt8,av=[tS (mk x)]/\H=[]/\x.length<=9223372036854775807/\K (.tu [tA (mk (bG x).1),tA (mk (bG x).2.1),iA .i64 (bG x).2.2]) []
theorem FT {x:List UInt8} {K:S->Hp->Prop} (h:x.length<=9223372036854775807) (hK:K (.tu [tA (mk (bG x).1),tA (mk (bG x).2.1),iA .i64 (bG x).2.2]) []):QP [tS (mk x)] [] K:=⟨x,rfl,rfl,h,hK⟩
theorem JD:Meets Tryz.prog 95 QP:=by
 refine aD Tryz.func95 aGZ 1 (by rw [Tryz.ntmps95]; decide) (aC sD (aB _)) (fun av H K h=>by obtain ⟨_,rfl,_⟩:=h; rfl) ?_
 rintro av H K ⟨x,rfl,rfl,hx,hK⟩
 have fin:∀ (n r:List UInt8) (e:Int) (R:Hp),bG x=(n,r,e)->W.Fin 0 K (.tu [tA (mk n),tA (mk r),iA .i64 e]) R:=fun n r e R h=>by
  rw [h] at hK; exact .sel [] (by simp) (by simp) rfl (.done (by simpa [go_sem] using hK))
 clear hK
 unfold bG at fin
 have hl:=(pO x).1
 simp (maxSteps:=1000000) -dsimp only [go_sem,VD,ZR]
 refine vU hx ?_
 simp (maxSteps:=1000000) -dsimp only [go_sem]
 refine aA rfl (.done ?_)
 generalize aX x=z at *
 obtain ⟨n,r,e⟩:=z
 simp only at fin hl ⊢
 cases c1:e != 0 with
 | true=>
  rw [c1,cond_true] at fin
  simp (maxSteps:=1000000) -dsimp only [go_sem,pG,c1]
  exact fin _ _ _ _ rfl
 | false=>
 rw [c1,cond_false] at fin
 have hu:IntKind.u64.wrap (r.length:Int)=(r.length:Int):=nR (by omega)
 have hd:decide ((r.length:Int) < (n:Int))=decide (r.length < n):=by rw [Bool.eq_iff_iff]; simp
 cases c2:decide (r.length < n) with
 | true=>
  rw [c2,cond_true] at fin
  simp (maxSteps:=1000000) -dsimp only [go_sem,pG,c1,hu,hd,c2]
  exact fin _ _ _ _ rfl
 | false=>
  rw [c2,cond_false] at fin
  have c2':=of_decide_eq_false c2
  simp (maxSteps:=1000000) -dsimp only [go_sem,pG,c1,hu,hd,c2,List.drop_zero,List.take_length]
  refine ⟨by omega,by omega,?_⟩
  exact fin _ _ _ _ rfl
def fdC (x:Int × List UInt8):List C:=[.vl (.int .i64 x.1),.vl (.string (mk x.2))]
def AR:W.Spec:=fun av H K=>∃ (x:List UInt8) (last:Int),av=[tS (mk x),iS .i64 last]/\H=[]/\x.length<=9223372036854775807/\K (.tu [.gs (fdC (a7 x last).1),tA (mk (a7 x last).2.1),iA .i64 (a7 x last).2.2]) []
theorem UZ {x:List UInt8} {last:Int} {K:S->Hp->Prop} (h:x.length<=9223372036854775807) (hK:K (.tu [.gs [.vl (.int .i64 (a7 x last).1.1),.vl (.string (mk (a7 x last).1.2))],tA (mk (a7 x last).2.1),iA .i64 (a7 x last).2.2]) []):AR [tS (mk x),iS .i64 last] [] K:=⟨x,last,rfl,rfl,h,hK⟩
theorem TX:Meets Tryz.prog 53 AR:=by
 refine aD Tryz.func53 aHL 2 (by rw [Tryz.ntmps53]; decide) (aC sD (aC JD (aB _))) (fun av H K h=>by obtain ⟨_,_,rfl,_⟩:=h; rfl) ?_
 rintro av H K ⟨x,last,rfl,rfl,hx,hK⟩
 have fin:∀ (a:Int) (c r:List UInt8) (e:Int) (R:Hp),a7 x last=((a,c),r,e)->W.Fin 0 K (.tu [.gs [.vl (.int .i64 a),.vl (.string (mk c))],tA (mk r),iA .i64 e]) R:=fun a c r e R h=>by
  rw [h] at hK; exact .sel [] (by simp) (by simp) rfl (.done (by simpa [go_sem,fdC] using hK))
 clear hK
 unfold a7 at fin
 have hl:=(pO x).1
 simp (maxSteps:=1000000) -dsimp only [go_sem,ZW,Z1]
 refine vU hx ?_
 generalize aX x=z at *
 obtain ⟨n,r,e⟩:=z
 simp only at fin hl ⊢
 have hd:decide ((2147483647:Int) < (n:Int))=decide (2147483647 < n):=by rw [Bool.eq_iff_iff]; simp; omega
 cases c1:e != 0 with
 | true=>
  rw [c1,cond_true] at fin
  simp (maxSteps:=1000000) -dsimp only [go_sem,c1]
  exact fin _ _ _ _ _ rfl
 | false=>
 rw [c1,cond_false] at fin
 cases c2:decide (2147483647 < n) with
 | true=>
  rw [c2,cond_true] at fin
  simp (maxSteps:=1000000) -dsimp only [go_sem,c1,hd,c2]
  exact fin _ _ _ _ _ rfl
 | false=>
 rw [c2,cond_false] at fin
 have c2':=of_decide_eq_false c2
 have hw:IntKind.i64.wrap (n:Int)=(n:Int):=x8 ⟨by omega,by omega⟩
 cases c3:decide ((n:Int)<=last) with
 | true=>
  rw [c3,cond_true] at fin
  simp (maxSteps:=1000000) -dsimp only [go_sem,c1,hd,c2,hw,c3]
  exact fin _ _ _ _ _ rfl
 | false=>
  rw [c3,cond_false] at fin
  simp (maxSteps:=1000000) -dsimp only [go_sem,c1,hd,c2,hw,c3]
  refine FT (by omega) ?_
  simp (maxSteps:=1000000) -dsimp only [go_sem]
  refine aA rfl (.done ?_)
  simp (maxSteps:=1000000) -dsimp only [go_sem,B7,hw]
  exact fin _ _ _ _ _ rfl
def oD (b:List UInt8):Vl × Int:=bif b == [] then (v0,1) else bif decide (1 < (b.headD 0).toNat) || decide (1 < b.length) then (v0,2) else (.mk 1 (b.headD 0).toNat (mk []) [] [],0)
def gA (k:Int) (n:Nat):Int:=bif k == 2 then oV n else n
def oK (s:Sc) (t:Ty) (b:List UInt8):Vl × Int:=bif (vr b).2.2 != 0 then (v0,(vr b).2.2) else bif decide ((vr b).2.1 < b.length) then (v0,2) else bif !(fX s t (gA t.k (vr b).1)) then (v0,4) else (.mk t.k (gA t.k (vr b).1) (mk []) [] [],0)
def J0 (t:Ty) (b:List UInt8):Vl × Int:=bif decide (t.s < (b.length:Int)) then (v0,3) else (.mk 4 0 (mk b) [] [],0)
def dR (R:List UInt8->Vl × Int):Nat->List UInt8->(List Vl × List UInt8) × Int
 | 0,b=>(([],b),0)
 | n + 1,b=>bif (bG b).2.2 != 0 then (([],[]),(bG b).2.2) else bif (R (bG b).1).2 != 0 then (([],[]),(R (bG b).1).2) else bif (dR R n (bG b).2.1).2 != 0 then (([],[]),(dR R n (bG b).2.1).2) else (((R (bG b).1).1 :: (dR R n (bG b).2.1).1.1,(dR R n (bG b).2.1).1.2),0)
theorem nX (R:List UInt8->Vl × Int) (n:Nat) (b:List UInt8):dR R (n + 1) b=bif (bG b).2.2 != 0 then (([],[]),(bG b).2.2) else bif (R (bG b).1).2 != 0 then (([],[]),(R (bG b).1).2) else bif (dR R n (bG b).2.1).2 != 0 then (([],[]),(dR R n (bG b).2.1).2) else (((R (bG b).1).1 :: (dR R n (bG b).2.1).1.1,(dR R n (bG b).2.1).1.2),0):=rfl
def jB (R:List UInt8->Vl × Int) (sz:Int) (b:List UInt8):Vl × Int:=
 bif (aX b).2.2 != 0 then (v0,(aX b).2.2) else bif decide (sz < ((aX b).1:Int)) then (v0,3) else bif (dR R (aX b).1 (aX b).2.1).2 != 0 then (v0,(dR R (aX b).1 (aX b).2.1).2)
 else bif !((dR R (aX b).1 (aX b).2.1).1.2 == []) then (v0,2) else (.mk 5 0 (mk []) (dR R (aX b).1 (aX b).2.1).1.1 [],0)
def tN (R:Ty->List UInt8->Vl × Int) (s:Sc) (f:Fl) (b:List UInt8):Int:=
 bif (R f.ty b).2 != 0 then (R f.ty b).2 else bif !f.opt && (cU (R f.ty b).1 (zF s 23 f.ty) && (f.ty.k != 6 || b == [])) then 2 else 0
def eI (R:Ty->List UInt8->Vl × Int) (s:Sc) (fs:List Fl):Nat->Int->List UInt8->List (Int × Vl) × Int
 | 0,_,_=>([],0)
 | g + 1,last,b=>bif b == [] then ([],0) else bif (a7 b last).2.2 != 0 then ([],(a7 b last).2.2)
  else bif !(fF fs (a7 b last).1.1).isSome then eI R s fs g (a7 b last).1.1 (a7 b last).2.1
  else bif tN R s ((fF fs (a7 b last).1.1).getD default) (a7 b last).1.2 != 0 then ([],tN R s ((fF fs (a7 b last).1.1).getD default) (a7 b last).1.2)
  else bif (eI R s fs g (a7 b last).1.1 (a7 b last).2.1).2 != 0 then ([],(eI R s fs g (a7 b last).1.1 (a7 b last).2.1).2)
  else (((a7 b last).1.1,(R ((fF fs (a7 b last).1.1).getD default).ty (a7 b last).1.2).1) :: (eI R s fs g (a7 b last).1.1 (a7 b last).2.1).1,0)
def D5 (s:Sc) (L:List (Int × Vl)) (f:Fl):List (Int × Vl):=bif (cH L f.num).isSome then [(f.num,((cH L f.num).map (·.2)).getD default)] else bif f.opt then [] else [(f.num,zF s 23 f.ty)]
def jC (s:Sc) (fs:List Fl) (L:List (Int × Vl)):List (Int × Vl):=fs.flatMap (D5 s L)
def jQ (R:Ty->List UInt8->Vl × Int) (s:Sc) (fs:List Fl) (b:List UInt8):Vl × Int:=
 bif (eI R s fs b.length 0 b).2 != 0 then (v0,(eI R s fs b.length 0 b).2) else (.mk 6 0 (mk []) [] (jC s fs (eI R s fs b.length 0 b).1),0)
def bW (s:Sc):Nat->Ty->List UInt8->Vl × Int
 | 0,_,_=>(v0,0)
 | N + 1,t,b=>bif t.k == 1 then oD b else bif t.k == 2 || (t.k == 3 || t.k == 7) then oK s t b else bif t.k == 4 then J0 t b else bif t.k == 5 then jB (bW s N (t.e.headD default)) t.s b else jQ (bW s N) s (stOf s t).fs b
theorem sM (s:Sc) (N:Nat) (t:Ty) (b:List UInt8):bW s (N + 1) t b=bif t.k == 1 then oD b else bif t.k == 2 || (t.k == 3 || t.k == 7) then oK s t b else bif t.k == 4 then J0 t b else bif t.k == 5 then jB (bW s N (t.e.headD default)) t.s b else jQ (bW s N) s (stOf s t).fs b:=rfl
def kY (s:Sc) (nm:ByteArray) (b:List UInt8):Vl × Int:=
 bif bP s != 0 then (v0,bP s) else bif !(cB s.ss nm) then (v0,6) else bif decide (2000 < (b.length:Int)) then (v0,3) else jQ (bW s 8) s (stOf s (.mk 6 0 nm [])).fs b
def lQ {α:Type} (acc:List α) (q:List α × Int):List α × Int:=bif q.2 != 0 then ([],q.2) else (acc ++ q.1,0)
theorem TC {α:Type} {q:List α × Int} (h:q.2 ≠ 0->q.1=[]):lQ [] q=q:=by
 unfold lQ
 cases hq:q.2 != 0 with
 | true=>rw [cond_true]; obtain ⟨a,b⟩:=q; have:=h (zM hq); simp only at this; rw [this]
 | false=>rw [cond_false]; obtain ⟨a,b⟩:=q; have:=mS hq; simp only at this; rw [this]; rfl
theorem Z7 {α:Type} (a b:List α) (q:List α × Int):lQ a (lQ b q)=lQ (a ++ b) q:=by
 unfold lQ
 cases hq:q.2 != 0 with
 | true=>simp only [cond_true,hq]
 | false=>simp only [cond_false]; rw [show ((0:Int) != 0)=false from rfl,cond_false,List.append_assoc]
theorem vT {α:Type} (a:List α) {e:Int} (h:(e != 0)=true):lQ a ([],e)=([],e):=by unfold lQ; rw [h]; rfl
theorem WZ {α:Type} (a b:List α):lQ a (b,0)=(a ++ b,0):=rfl
theorem wP {R:Ty->List UInt8->Vl × Int} {s:Sc} {fs:List Fl} (g:Nat) (last:Int):eI R s fs g last []=([],0):=by cases g<;>rfl
theorem m1 {R:Ty->List UInt8->Vl × Int} {s:Sc} {fs:List Fl} {g:Nat} {last:Int} {b:List UInt8} (h:b ≠ []):eI R s fs (g + 1) last b=bif (a7 b last).2.2 != 0 then ([],(a7 b last).2.2)
 else bif !(fF fs (a7 b last).1.1).isSome then eI R s fs g (a7 b last).1.1 (a7 b last).2.1
 else bif tN R s ((fF fs (a7 b last).1.1).getD default) (a7 b last).1.2 != 0 then ([],tN R s ((fF fs (a7 b last).1.1).getD default) (a7 b last).1.2)
 else lQ [((a7 b last).1.1,(R ((fF fs (a7 b last).1.1).getD default).ty (a7 b last).1.2).1)] (eI R s fs g (a7 b last).1.1 (a7 b last).2.1):=by
 have hb:(b == [])=false:=by simpa using h
 rw [eI,hb,cond_false]; rfl
theorem RP {R:Ty->List UInt8->Vl × Int} {s:Sc} {fs:List Fl}:∀ (g:Nat) (last:Int) (b:List UInt8),(eI R s fs g last b).2 ≠ 0->(eI R s fs g last b).1=[]
 | 0,_,_,h=>absurd rfl h
 | g + 1,last,b,h=>by
  by_cases hb:b=[]
  · subst hb; rfl
  · rw [m1 hb] at h ⊢
    cases c1:(a7 b last).2.2 != 0 with
    | true=>rfl
    | false=>
    rw [c1,cond_false] at h
    rw [cond_false]
    cases c2:!(fF fs (a7 b last).1.1).isSome with
    | true=>rw [c2,cond_true] at h; rw [cond_true]; exact RP g _ _ h
    | false=>
    rw [c2,cond_false] at h
    rw [cond_false]
    cases c3:tN R s ((fF fs (a7 b last).1.1).getD default) (a7 b last).1.2 != 0 with
    | true=>rfl
    | false=>
    rw [c3,cond_false] at h
    rw [cond_false]
    unfold lQ at h ⊢
    cases c4:(eI R s fs g (a7 b last).1.1 (a7 b last).2.1).2 != 0 with
    | true=>rfl
    | false=>rw [c4] at h; exact absurd rfl h
def aH4:Ty:=.mk 2 8 (mk []) []
def xTx:Ty:=.mk 4 5 (mk []) []
def xMo:Ty:=.mk 7 0 (mk [77,111,100,101]) []
def xBo:Ty:=.mk 1 0 (mk []) []
def xLi:Ty:=.mk 5 2 (mk []) [xBo]
def xF1:Fl:=⟨1,mk [120],aH4,false⟩
def xF2:Fl:=⟨2,mk [110,97,109,101],xTx,true⟩
def xF4:Fl:=⟨4,mk [109,111,100,101],xMo,false⟩
def xF5:Fl:=⟨5,mk [108],xLi,false⟩
def xSt:St:=⟨mk [80,111,115,101],[xF1,xF2,xF4,xF5]⟩
def xEn:En:=⟨mk [77,111,100,101],[mk [105,100,108,101],mk [114,117,110]],[0,3]⟩
def xS:Sc:=⟨1,[xEn],[xSt]⟩
def xT:Ty:=.mk 6 0 (mk [80,111,115,101]) []
def x1:List UInt8:=[123,120,32,61,32,45,53,44,32,109,111,100,101,32,61,32,114,117,110,44,32,108,32,61,32,91,116,114,117,101,44,32,102,97,108,115,101,93,125]
def x2:List UInt8:=[123,120,32,61,32,50,48,48,44,32,109,111,100,101,32,61,32,114,117,110,44,32,108,32,61,32,91,93,125]
def x3:List UInt8:=[123,109,111,100,101,32,61,32,114,117,110,44,32,120,32,61,32,49,125]
def x4:List UInt8:=[123,120,32,61,32,49,44,32,109,111,100,101,32,61,32,115,116,111,112,44,32,108,32,61,32,91,93,125]
def PN (k n:Int):Vl:=.mk k n (mk []) [] []
def xL:Vl:=.mk 5 0 (mk []) [PN 1 1,PN 1 0] []
def xV:Vl:=.mk 6 0 (mk []) [] [(1,PN 2 (-5)),(4,PN 7 3),(5,xL)]
theorem e1:HV (pP 10) xS xT x1=(xV,0,0):=by kernel_rfl
theorem e2:HV (pP 10) xS xT x2=(v0,4,0):=by kernel_rfl
theorem e3:HV (pP 10) xS xT x3=(v0,2,13):=by kernel_rfl
theorem e4:HV (pP 10) xS xT x4=(v0,2,15):=by kernel_rfl
theorem e0:jR xS xT xV=0:=by kernel_rfl
theorem e5:aIX (fP 10) xS xT xV=x1:=by kernel_rfl
theorem ty0 (k s:Int) (n:ByteArray) (h1:bM k) (h2:bM s) (h3:n.size<=9223372036854775807):TyOk (.mk k s n []):=.mk h1 h2 h3 (Nat.zero_le _) (fun t h=>by cases h)
theorem gJ:VlOk v0:=CR ⟨by decide,by decide⟩ ⟨by decide,by decide⟩ (by decide)
theorem GI {P:Vl->Prop} {R:List UInt8->Vl × Int}:∀ (n:Nat) (b:List UInt8),(∀ c,c.length<=b.length->P (R c).1)->(∀ x ∈ (dR R n b).1.1,P x)/\(dR R n b).1.1.length<=n/\(dR R n b).1.2.length<=b.length
 | 0,b,_=>⟨fun x h=>(by cases h),Nat.le_refl _,Nat.le_refl _⟩
 | n + 1,b,h=>by
  have hl:=CM b
  obtain ⟨i1,i2,i3⟩:=GI n (bG b).2.1 fun c hc=>h c (Nat.le_trans hc hl.2.1)
  have nil:(∀ x ∈ ([]:List Vl),P x)/\([]:List Vl).length<=n + 1/\([]:List UInt8).length<=b.length:=⟨fun x h=>(by cases h),Nat.zero_le _,Nat.zero_le _⟩
  rw [nX]
  cases (bG b).2.2 != 0 with
  | true=>exact nil
  | false=>
  rw [cond_false]
  cases (R (bG b).1).2 != 0 with
  | true=>exact nil
  | false=>
  rw [cond_false]
  cases (dR R n (bG b).2.1).2 != 0 with
  | true=>exact nil
  | false=>
   rw [cond_false]
   refine ⟨fun x hx=>?_,by rw [List.length_cons]; omega,Nat.le_trans i3 hl.2.1⟩
   rcases List.mem_cons.1 hx with rfl | hx
   · exact h _ hl.1
   · exact i1 x hx
theorem F5 {P:Int->Vl->Prop} {R:Ty->List UInt8->Vl × Int} {s:Sc} {fs:List Fl}:∀ (g:Nat) (last:Int) (b:List UInt8),(∀ f ∈ fs,∀ c,c.length<=b.length->P f.num (R f.ty c).1)->(∀ x ∈ (eI R s fs g last b).1,P x.1 x.2)
 | 0,_,b,_,x,h=>(by cases h)
 | g + 1,last,b,h,x,hx=>by
  by_cases hb:b=[]
  · subst hb; rw [wP] at hx; cases hx
  · rw [m1 hb] at hx
    have hl:=IP b last
    have ih:=F5 (P:=P) (R:=R) (s:=s) (fs:=fs) g (a7 b last).1.1 (a7 b last).2.1 fun f hf c hc=>h f hf c (Nat.le_trans hc hl.2.1)
    cases c1:(a7 b last).2.2 != 0 with
    | true=>rw [c1] at hx; cases hx
    | false=>
    rw [c1,cond_false] at hx
    cases c2:!(fF fs (a7 b last).1.1).isSome with
    | true=>rw [c2,cond_true] at hx; exact ih x hx
    | false=>
    rw [c2,cond_false] at hx
    cases c3:tN R s ((fF fs (a7 b last).1.1).getD default) (a7 b last).1.2 != 0 with
    | true=>rw [c3] at hx; cases hx
    | false=>
    rw [c3,cond_false] at hx
    unfold lQ at hx
    cases c4:(eI R s fs g (a7 b last).1.1 (a7 b last).2.1).2 != 0 with
    | true=>rw [c4] at hx; cases hx
    | false=>
     rw [c4,cond_false] at hx
     rcases List.mem_append.1 hx with hx | hx
     · obtain rfl:=List.mem_singleton.1 hx
       cases hf:fF fs (a7 b last).1.1 with
       | none=>rw [hf] at c2; cases c2
       | some f=>
        have hm:f ∈ fs:=List.mem_of_find?_eq_some hf
        have he:f.num=(a7 b last).1.1:=by have:=List.find?_some hf; simpa using this
        have:=h f hm (a7 b last).1.2 hl.1
        rw [he] at this
        exact this
     · exact ih x hx
theorem T9 {P:Int->Vl->Prop} {s:Sc} {fs:List Fl} {L:List (Int × Vl)} (h1:∀ x ∈ L,P x.1 x.2) (h2:∀ f ∈ fs,P f.num (zF s 23 f.ty)):∀ x ∈ jC s fs L,P x.1 x.2:=fun x hx=>by
 obtain ⟨f,hf,hx⟩:=List.mem_flatMap.1 hx
 unfold D5 at hx
 cases hv:cH L f.num with
 | some y=>
  obtain ⟨hm,he⟩:=qT hv
  rw [hv] at hx
  obtain rfl:=List.mem_singleton.1 hx
  have:=h1 y hm
  rw [he] at this
  exact this
 | none=>
  rw [hv] at hx
  change x ∈ bif f.opt then [] else _ at hx
  cases ho:f.opt with
  | true=>rw [ho] at hx; cases hx
  | false=>rw [ho] at hx; obtain rfl:=List.mem_singleton.1 hx; exact h2 f hf
theorem UN (s:Sc) (L:List (Int × Vl)) (f:Fl):(D5 s L f).length<=1:=by
 unfold D5
 cases (cH L f.num).isSome<;>cases f.opt<;>simp
theorem yX {α β:Type} {f:α->List β}:∀ {l:List α},(∀ x,(f x).length<=1)->(l.flatMap f).length<=l.length
 | [],_=>Nat.le_refl _
 | x :: l,h=>by
  have h1:=h x
  have h2:=yX (l:=l) h
  rw [List.flatMap_cons,List.length_append,List.length_cons]; omega
theorem FD (s:Sc) (fs:List Fl) (L:List (Int × Vl)):(jC s fs L).length<=fs.length:=yX (UN s L)
theorem WI {n:Nat} (h:n < 18446744073709551616):bM (oV n):=by
 unfold oV bM
 split<;>omega
theorem YX {s:Sc} {t:Ty} {n:Int} (h3:(t.k == 3)=true):fX s t n=(decide (0<=n) && decide (n < (2 ^ t.s.toNat:Int))):=by
 unfold fX
 rw [cM h3 (b:=1) (by decide),cM h3 (b:=2) (by decide),h3]; rfl
theorem W9 {s:Sc} {t:Ty} {n:Int} (h7:(t.k == 7)=true):fX s t n=(enOf s t).vs.any (fun x=>x == n):=by
 unfold fX
 rw [cM h7 (b:=1) (by decide),cM h7 (b:=2) (by decide),cM h7 (b:=3) (by decide),h7]; rfl
theorem O4 {s:Sc} (hd:Dg s) {t:Ty} (hv:valF s.ss s.es t=true) (hk:(t.k == 2 || (t.k == 3 || t.k == 7))=true) {n:Nat} (hn:n < 18446744073709551616) (hr:fX s t (gA t.k n)=true):bM (gA t.k n)/\((t.k == 2)=false->gA t.k n=n/\n < 4294967296):=by
 unfold gA at hr ⊢
 cases c2:t.k == 2 with
 | true=>rw [cond_true]; exact ⟨WI hn,fun h=>(by cases h)⟩
 | false=>
  rw [c2,cond_false] at hr
  rw [cond_false]
  have key:n < 4294967296:=by
   cases c3:t.k == 3 with
   | true=>
    rw [YX c3,Bool.and_eq_true] at hr
    have h2:=of_decide_eq_true hr.2
    have h32:(2:Int) ^ (32:Int).toNat=4294967296:=by decide
    have h16:(2:Int) ^ (16:Int).toNat=65536:=by decide
    have h8:(2:Int) ^ (8:Int).toNat=256:=by decide
    rcases L7 hv c3 with h | h | h<;>rw [h] at h2<;>omega
   | false=>
    have c7:(t.k == 7)=true:=by rw [c2,c3] at hk; simpa using hk
    rw [W9 c7,List.any_eq_true] at hr
    obtain ⟨x,hx,he⟩:=hr
    have:=(hd.ni.enOf t).n x hx
    have he:=eq_of_beq he
    omega
  exact ⟨⟨by omega,by omega⟩,fun _=>⟨rfl,key⟩⟩
theorem HL (b:List UInt8):(vr b).1 < 18446744073709551616:=by
 rcases qB b with ⟨_,h,_⟩ | ⟨_,_,_,_,_,h⟩
 · rw [h]; decide
 · exact h
theorem aDT (b:List UInt8):(aX b).1 < 18446744073709551616:=by
 rcases uY b with ⟨_,h,_⟩ | ⟨_,_,h⟩
 · rw [h]; decide
 · exact h
theorem U5 {s:Sc} (hs:s.fit) (hd:Dg s) {R:Ty->List UInt8->Vl × Int} {t:Ty} {b:List UInt8} (hR:∀ f ∈ (stOf s t).fs,∀ c,c.length<=b.length->VlOk (R f.ty c).1):VlOk (jQ R s (stOf s t).fs b).1:=by
 unfold jQ
 cases (eI R s (stOf s t).fs b.length 0 b).2 != 0 with
 | true=>exact gJ
 | false=>
  rw [cond_false]
  have hn:=hd.ni.stOf t
  have key:=T9 (P:=fun i v=>bM i/\VlOk v) (s:=s) (fs:=(stOf s t).fs) (L:=(eI R s (stOf s t).fs b.length 0 b).1)
   (F5 (P:=fun i v=>bM i/\VlOk v) b.length 0 b fun f hf c hc=>⟨by have:=hn.n f hf; exact ⟨by omega,by omega⟩,hR f hf c hc⟩)
   (fun f hf=>⟨by have:=hn.n f hf; exact ⟨by omega,by omega⟩,AJ hs 23 f.ty ((fR hs t).fs f hf).ty⟩)
  have hl:=FD s (stOf s t).fs (eI R s (stOf s t).fs b.length 0 b).1
  have hl2:=hn.l
  exact .mk ⟨by decide,by decide⟩ ⟨by decide,by decide⟩ (by decide) (by simp) (by omega) (fun x h=>(by cases h)) (fun x hx=>(key x hx).1) (fun x hx=>(key x hx).2)
theorem qC {s:Sc} (hs:s.fit) (hd:Dg s):∀ (N:Nat) (t:Ty) (b:List UInt8),TyOk t->valF s.ss s.es t=true->b.length<=1000000000->VlOk (bW s N t b).1
 | 0,_,_,_,_,_=>gJ
 | N + 1,t,b,ht,hv,hb=>by
  rw [sM]
  cases c1:t.k == 1 with
  | true=>
   rw [cond_true]
   unfold oD
   cases b == [] with
   | true=>exact gJ
   | false=>
   cases decide (1 < (b.headD 0).toNat) || decide (1 < b.length) with
   | true=>exact gJ
   | false=>have:=(b.headD 0).toNat_lt; exact CR ⟨by decide,by decide⟩ ⟨by omega,by omega⟩ (by decide)
  | false=>
  rw [cond_false]
  cases c2:t.k == 2 || (t.k == 3 || t.k == 7) with
  | true=>
   rw [cond_true]
   unfold oK
   cases (vr b).2.2 != 0 with
   | true=>exact gJ
   | false=>
   rw [cond_false]
   cases decide ((vr b).2.1 < b.length) with
   | true=>exact gJ
   | false=>
   rw [cond_false]
   cases c3:fX s t (gA t.k (vr b).1) with
   | false=>exact gJ
   | true=>exact CR ht.k (O4 hd hv c2 (HL b) c3).1 (by decide)
  | false=>
  rw [cond_false]
  cases c4:t.k == 4 with
  | true=>
   rw [cond_true]
   unfold J0
   cases decide (t.s < (b.length:Int)) with
   | true=>exact gJ
   | false=>exact CR ⟨by decide,by decide⟩ ⟨by decide,by decide⟩ (by rw [cV,n6]; omega)
  | false=>
  rw [cond_false]
  cases c5:t.k == 5 with
  | true=>
   rw [cond_true]
   obtain ⟨u,he,hu⟩:=DG hv c5
   have hto:=ht.e u (by rw [he]; exact List.mem_singleton.2 rfl)
   rw [he]
   show VlOk (jB (bW s N u) t.s b).1
   unfold jB
   have hcl:=pO b
   obtain ⟨i1,i2,_⟩:=GI (P:=VlOk) (R:=bW s N u) (aX b).1 (aX b).2.1 fun c hc=>qC hs hd N u c hto hu (by omega)
   cases (aX b).2.2 != 0 with
   | true=>exact gJ
   | false=>
   rw [cond_false]
   cases c6:decide (t.s < ((aX b).1:Int)) with
   | true=>exact gJ
   | false=>
   rw [cond_false]
   cases (dR (bW s N u) (aX b).1 (aX b).2.1).2 != 0 with
   | true=>exact gJ
   | false=>
   rw [cond_false]
   cases !((dR (bW s N u) (aX b).1 (aX b).2.1).1.2 == []) with
   | true=>exact gJ
   | false=>
    rw [cond_false]
    have h1:=of_decide_eq_false c6
    have h2:=(mV hv).2 c5
    exact .mk ⟨by decide,by decide⟩ ⟨by decide,by decide⟩ (by decide) (by omega) (by simp) i1 (fun x h=>(by cases h)) (fun x h=>(by cases h))
  | false=>
   rw [cond_false]
   have hn:=hd.ni.stOf t
   exact U5 hs hd fun f hf c hc=>qC hs hd N f.ty c ((fR hs t).fs f hf).ty (hn.v f hf) (by omega)
def aAY:W.Spec:=fun av H K=>∃ b:List UInt8,av=[tS (mk b)]/\H=[]/\b.length<=9223372036854775807/\K (.tu [.gs (aN (oD b).1),iA .i64 (oD b).2]) []
theorem aBG {b:List UInt8} {K:S->Hp->Prop} (h:b.length<=9223372036854775807) (hK:K (.tu [.gs (aN (oD b).1),iA .i64 (oD b).2]) []):aAY [tS (mk b)] [] K:=⟨b,rfl,rfl,h,hK⟩
theorem EO:Meets Tryz.prog 97 aAY:=by
 refine aD Tryz.func97 aI3 1 (by rw [Tryz.ntmps97]; decide) (aB _) (fun av H K h=>by obtain ⟨_,rfl,_⟩:=h; rfl) ?_
 rintro av H K ⟨b,rfl,rfl,hb,hK⟩
 have fin:∀ (v:Vl) (e:Int) (R:Hp),oD b=(v,e)->W.Fin 0 K (.tu [.gs (aN v),iA .i64 e]) R:=fun v e R h=>by
  rw [h] at hK; exact .sel [] (by simp) (by simp) rfl (.done (by rw [aK] at hK ⊢; simpa [go_sem] using hK))
 clear hK
 unfold oD at fin
 cases b with
 | nil=>
  have e0:(([]:List UInt8) == [])=true:=rfl
  simp (maxSteps:=1000000) -dsimp only [go_sem,NT,MB,e0]
  exact fin v0 1 _ rfl
 | cons c r=>
  have e0:(c :: r == [])=false:=rfl
  rw [e0,cond_false,List.headD_cons,List.length_cons] at fin
  have e1:decide ((1:Int) < (c.toNat:Int))=decide (1 < c.toNat):=by rw [Bool.eq_iff_iff]; simp; omega
  have e2:decide ((1:Int) < ((r.length + 1:Nat):Int))=decide (1 < r.length + 1):=by rw [Bool.eq_iff_iff]; simp; omega
  have e3:IntKind.i64.wrap (c.toNat:Int)=(c.toNat:Int):=x8 ⟨by omega,by have:=c.toNat_lt; omega⟩
  have z0:(0:Int) < ((r.length + 1:Nat):Int):=by omega
  have z1:(c :: r)[0]? = some c:=rfl
  have z2:(0:Int)<=0:=by decide
  cases c1:decide (1 < c.toNat)<;>cases c2:decide (1 < r.length + 1)<;>rw [c1,c2] at fin <;>
  · simp (maxSteps:=1000000) -dsimp only [go_sem,NT,MB,e0,e1,e2,c1,c2,z0,z1,z2,aE,forall_eq',Bool.false_or,Bool.true_or,Bool.or_self]
    try simp only [e3]
    first
     | exact fin v0 2 _ rfl
     | exact fin (.mk 1 (c.toNat:Int) (mk []) [] []) 0 _ rfl
def A5:List S->Prop:=fun av=>match av with
 | [.va (.gs r),.va (.c1 (.vl (.string _))),.va (.c1 (.vl (.int .i64 _)))]=>iV r
 | _=>False
theorem n7 {av:List S} (h:A5 av):∃ (s:Sc) (nm:ByteArray) (n:Int),av=[.va (.gs (aI s)),tS nm,iS .i64 n]/\s.fit:=by
 unfold A5 at h
 split at h
 · obtain ⟨s,rfl,hs⟩:=h; exact ⟨s,_,_,rfl,hs⟩
 · exact h.elim
noncomputable def PD:List S->A:=fun av=>match av with
 | [.va (.gs r),.va (.c1 (.vl (.string nm))),.va (.c1 (.vl (.int .i64 n)))]=>bA (((eH (C.sc r).es nm).getD default).vs.any fun x=>x == n)
 | _=>.gs []
noncomputable def n3Fn:Fun:=⟨A5,PD,fun av h=>by obtain ⟨_,_,_,rfl,_⟩:=n7 h; trivial⟩
theorem MY:∀ av H K,n3Fn.sp av H K->av.length=3:=fun av H K h=>by obtain ⟨_,_,_,rfl,_⟩:=n7 h.1.1; rfl
attribute [go_sem] n3Fn A5 PD
theorem JA:Meets Tryz.prog 139 n3Fn.sp:=by
 refine aD Tryz.func139 aCR 3 (by rw [Tryz.ntmps139]; decide) (aC DH (aB _)) MY ?_
 rintro av H K ⟨⟨h,rfl⟩,hK⟩
 obtain ⟨s,nm,n,rfl,hs⟩:=n7 h
 have hK:K (bS (((eH (C.sc (aI s)).es nm).getD default).vs.any fun x=>x == n)) []:=hK
 rw [jD] at hK
 clear h
 have heo:((eH s.es nm).getD default).vs.length<=1000000000:=by
  cases hf:eH s.es nm with
  | none=>exact Nat.zero_le _
  | some e=>exact (hs.en e (G1 hf).1).2
 simp (maxSteps:=1000000) -dsimp only [go_sem,aI,R6,PK]
 refine xI hs ?_
 generalize (eH s.es nm).getD default=e at *
 simp (maxSteps:=1000000) -dsimp only [go_sem,aY]
 refine aA rfl (.done ?_)
 have fin:∀ (b:Bool) (R:Hp),(e.vs.any fun x=>x == n)=b->W.Fin 0 K (bS b) R:=fun b R h=>by
  rw [h] at hK; exact .sel [] (by simp) (by simp) rfl (.done (by simpa [go_sem] using hK))
 simp (maxSteps:=1000000) -dsimp only [go_sem,wI]
 refine aV (α:=Nat) (fun i=>[(2,iS .i64 n),(18,.va (.c1 (.fz (e.vs.map eC)))),(19,iS .i64 e.vs.length),(20,iS .i64 i)]) (fun _=>[])
  (fun i=>i<=e.vs.length/\(e.vs.drop i).any (fun x=>x == n)=e.vs.any fun x=>x == n) (fun i=>e.vs.length - i) 0 0 ⟨Nat.zero_le _,rfl⟩ ?_ ?_ ?_
 · simp -dsimp only [go_sem]<;>simp
 · simp -dsimp only [go_sem]<;>simp
 rintro i ⟨hi,ho⟩
 rcases bD i e.vs.length with hlt | hge
 · have hg:decide ((i:Int) < (e.vs.length:Int))=true:=by simp; omega
   have hx:e.vs[i]? = some e.vs[i]:=aT hlt
   have q2:=bB (row:=eC) hx
   rw [List.drop_eq_getElem_cons hlt,List.any_cons] at ho
   generalize e.vs[i]=y at *
   cases hc:y == n with
   | true=>
    rw [hc,Bool.true_or] at ho
    simp (maxSteps:=1000000) -dsimp only [go_sem,hg,↓q2,hc]
    exact ⟨by omega,fin _ _ ho.symm⟩
   | false=>
    rw [hc,Bool.false_or] at ho
    simp (maxSteps:=1000000) -dsimp only [go_sem,hg,↓q2,hc]
    refine ⟨by omega,by omega,aF (i + 1) 0 ⟨by omega,ho⟩ (by omega) ?_ ?_⟩
    · simp -dsimp only [go_sem]<;>simp
    · simp -dsimp only [go_sem]<;>simp
 · have hg:decide ((i:Int) < (e.vs.length:Int))=false:=by simp; omega
   have:e.vs.drop i=[]:=List.drop_eq_nil_iff.2 (by omega)
   rw [this] at ho
   simp (maxSteps:=1000000) -dsimp only [go_sem,hg]
   exact fin _ _ ho.symm
def V7:W.Spec:=fun av H K=>∃ (s:Sc) (t:Ty) (b:List UInt8),av=[.va (.gs (aI s)),.va (.gs (aU t)),tS (mk b)]/\H=[]/\Dg s/\s.fit/\TyOk t/\valF s.ss s.es t=true/\(t.k == 2 || (t.k == 3 || t.k == 7))=true/\b.length<=9223372036854775807/\K (.tu [.gs (aN (oK s t b).1),iA .i64 (oK s t b).2]) []
theorem WQ {s:Sc} {t:Ty} {b:List UInt8} {K:S->Hp->Prop} (hd:Dg s) (hs:s.fit) (ht:TyOk t) (hv:valF s.ss s.es t=true) (hk:(t.k == 2 || (t.k == 3 || t.k == 7))=true) (hb:b.length<=9223372036854775807)
 (hK:K (.tu [.gs (aN (oK s t b).1),iA .i64 (oK s t b).2]) []) :
 V7 [.va (.gs [.vl (.int .i64 s.ver),.fz (s.es.map aY),.fz (s.ss.map aJ)]),.va (.gs [.vl (.int .i64 t.k),.vl (.int .i64 t.s),.vl (.string t.n),.fz (t.e.map aU)]),tS (mk b)] [] K:=⟨s,t,b,by rw [aP]; rfl,rfl,hd,hs,ht,hv,hk,hb,hK⟩
theorem aJO (n:Nat):IntKind.u64.wrap ((BitVec.ofInt IntKind.u64.bits (n:Int) &&& BitVec.ofInt IntKind.u64.bits 4294967295).toNat:Int)=((n % 4294967296:Nat):Int):=by
 have hb:IntKind.u64.bits=64:=rfl
 have e:(BitVec.ofInt 64 (n:Int) &&& BitVec.ofInt 64 4294967295).toNat=n % 4294967296:=by
  rw [BitVec.toNat_and,BitVec.ofInt_natCast,BitVec.toNat_ofNat,show (BitVec.ofInt 64 4294967295).toNat=2 ^ 32 - 1 from rfl,Nat.and_two_pow_sub_one_eq_mod]
  omega
 rw [hb,e,nR (by omega)]
noncomputable def rF:b9:=[(133,.s H8),(138,.s AU),(134,.s H0),(135,.s AW),(136,.s AT),(139,.f n3Fn)]
theorem VS:sp rF 133=H8:=rfl
theorem XE:sp rF 138=AU:=rfl
theorem aA8:sp rF 134=H0:=rfl
theorem J6:sp rF 135=AW:=rfl
theorem ZL:sp rF 136=AT:=rfl
theorem I1:iL rF 139=some n3Fn:=rfl
theorem AC:Meets Tryz.prog 98 V7:=by
 refine aD (Γ:=rF) Tryz.func98 aJL 3 (by rw [Tryz.ntmps98]; decide) (aC vC (aC aDK (aC CJ (aC aAQ (aC OO (aH JA (aB _))))))) (fun av H K h=>by obtain ⟨_,_,_,rfl,_⟩:=h; rfl) ?_
 rintro av H K ⟨s,t,b,rfl,rfl,hd,hs,ht,hv,hk,hb,hK⟩
 have fin:∀ (v:Vl) (e:Int) (R:Hp),oK s t b=(v,e)->W.Fin 0 K (.tu [.gs (aN v),iA .i64 e]) R:=fun v e R h=>by
  rw [h] at hK; exact .sel [] (by simp) (by simp) rfl (.done (by rw [aK] at hK ⊢; simpa [go_sem] using hK))
 clear hK
 unfold oK at fin
 have hvr:=qB b
 have hnr:(vr b).2.2=0->fX s t (gA t.k (vr b).1)=true->bM (gA t.k (vr b).1)/\((t.k == 2)=false->gA t.k (vr b).1=(vr b).1/\(vr b).1 < 4294967296):=fun _=>O4 hd hv hk (HL b)
 have hlt:=HL b
 have tail:∀ (n:Int) (ok:Bool),((vr b).2.2=0->(ok=fX s t (gA t.k (vr b).1)/\(ok=true->n=gA t.k (vr b).1)))->
  vc rF 0 pc98_13.ungh (fC [(4,.va (.c1 (.pt 1 0))),(6,.va (.c1 (.pt 2 0))),(8,.va (.c1 (.pt 3 0))),(9,iS .i64 n),(10,bS ok)])
   [.cells [.vl (.int .i64 s.ver),.fz (s.es.map aY),.fz (s.ss.map aJ)] 25,.cells [.vl (.int .i64 t.k),.vl (.int .i64 t.s),.vl (.string t.n),.fz (t.e.map aU)] 42,.cells [.vl (.int .i64 0),.vl (.int .i64 0),.vl (.string (mk [])),.vl (.slice none 0 0),.vl (.slice none 0 0)] 29,fG b (vr b).2.1 (vr b).2.2]
   (fun e fr' H'=>match e with
     | .e j=>if j=0 then vc rF 0 mH fr' H' (m4 0 pA K) else m4 0 pA K (.e j) fr' H'
     | e=>match e with
      | .n=>vc rF 0 mH fr' H' (m4 0 pA K)
      | e=>m4 0 pA K e fr' H'):=by
  intro n ok hnk
  simp (maxSteps:=1000000) -dsimp only [go_sem,pc98_13,pA,J6,cS]
  refine wR ?_
  cases c1:(vr b).2.2 != 0 with
  | true=>
   rw [c1,cond_true] at fin
   simp (maxSteps:=1000000) -dsimp only [go_sem,J6,cS,c1]
   refine wR ?_
   simp (maxSteps:=1000000) -dsimp only [go_sem,cS]
   exact fin v0 _ _ rfl
  | false=>
   rw [c1,cond_false] at fin
   obtain ⟨h0,hle⟩:(vr b).2.2=0/\(vr b).2.1<=b.length:=by
    rcases hvr with ⟨h,_⟩ | ⟨a,_,_,d,_⟩
    · exact absurd (mS c1) h
    · exact ⟨a,d⟩
   obtain ⟨hok,hn⟩:=hnk h0
   simp (maxSteps:=1000000) -dsimp only [go_sem,cS,c1]
   refine aA rfl (.done ?_)
   simp (maxSteps:=1000000) -dsimp only [go_sem,wX,ZL,cS]
   refine GT hle hb ?_
   have e1:decide ((0:Int) < (b.length:Int) - ((vr b).2.1:Int))=decide ((vr b).2.1 < b.length):=by rw [Bool.eq_iff_iff,decide_eq_true_iff,decide_eq_true_iff]; omega
   cases c2:decide ((vr b).2.1 < b.length) with
   | true=>
    rw [c2,cond_true] at fin
    simp (maxSteps:=1000000) -dsimp only [go_sem,cS,e1,c2]
    exact fin v0 _ _ rfl
   | false=>
    rw [c2,cond_false] at fin
    simp (maxSteps:=1000000) -dsimp only [go_sem,cS,e1,c2]
    refine aA rfl (.done ?_)
    rw [<-hok] at fin
    cases ok with
    | false=>
     simp (maxSteps:=1000000) -dsimp only [go_sem,qD,Bool.not_false]
     exact fin v0 _ _ rfl
    | true=>
     rw [hn rfl]
     simp (maxSteps:=1000000) -dsimp only [go_sem,qD,Bool.not_true]
     refine aA rfl (.done ?_)
     simp (maxSteps:=1000000) -dsimp only [go_sem,mH,pA]
     exact fin (.mk t.k (gA t.k (vr b).1) (mk []) [] []) 0 _ rfl
 simp (maxSteps:=1000000) -dsimp only [go_sem,aI,aP t,XL,pA,VS]
 refine LH ?_
 simp (maxSteps:=1000000) -dsimp only [go_sem,cS]
 refine aA rfl (.done ?_)
 simp (maxSteps:=1000000) -dsimp only [go_sem,B4]
 refine aA rfl (.done ?_)
 simp (maxSteps:=1000000) -dsimp only [go_sem,C2]
 refine aA rfl (.done ?_)
 cases c2:t.k == 2 with
 | true=>
  simp (maxSteps:=1000000) -dsimp only [go_sem,tT,c2,XE]
  refine UJ hb ?_
  simp (maxSteps:=1000000) -dsimp only [go_sem,cS]
  refine aA rfl (.done ?_)
  have hnu:gA t.k (vr b).1=oV (vr b).1:=by unfold gA; rw [c2,cond_true]
  have hrg:∀ n:Int,fX s t n=(t.s == 64 || (decide (-(2 ^ (t.s.toNat - 1):Int)<=n) && decide (n < (2 ^ (t.s.toNat - 1):Int)))):=fun n=>by
   unfold fX; rw [cM c2 (b:=1) (by decide),c2]; rfl
  generalize hN:oV (vr b).1=n at *
  cases h64:t.s == 64 with
  | true=>
   simp (maxSteps:=1000000) -dsimp only [go_sem,t6,h64,Bool.false_and]
   refine j7 4 (tail n true fun h0=>⟨by rw [hrg,h64]; rfl,fun _=>hnu.symm⟩) ?_ ?_
   · simp -dsimp only [go_sem,fT]<;>simp
   · simp -dsimp only [go_sem,cS]<;>simp [cS]
  | false=>
   obtain ⟨b1,b2,e1,e2⟩:8<=t.s/\t.s<=32/\IntKind.i64.wrap (-1 * 2 ^ min (t.s - 1).toNat 64)=-(2 ^ (t.s.toNat - 1):Int)/\IntKind.i64.wrap (1 * 2 ^ min (t.s - 1).toNat 64)=(2 ^ (t.s.toNat - 1):Int):=by
    rcases X7 hv c2 with hz | hz | hz | hz
    · rw [hz]; decide
    · rw [hz]; decide
    · rw [hz]; decide
    · rw [hz] at h64; simp at h64
   have f1:(0<=t.s - 1)=True:=eq_true (by omega)
   have f2:(-9223372036854775808<=t.s - 1)=True:=eq_true (by omega)
   have f3:(t.s - 1<=9223372036854775807)=True:=eq_true (by omega)
   have hrg':=hrg n
   rw [h64,Bool.false_or] at hrg'
   generalize (2 ^ (t.s.toNat - 1):Int)=hi at *
   cases h4:decide (-hi<=n)<;>cases h5:decide (n < hi) <;>
   · rw [h4,h5] at hrg'
     simp (maxSteps:=1000000) -dsimp only [go_sem,t6,h64,h4,h5,f1,f2,f3,e1,e2,Bool.and_self,Bool.and_true,Bool.and_false,Bool.true_and,Bool.false_and]
     rw [<-hnu] at hrg'
     refine j7 4 (tail n _ fun h0=>⟨hrg'.symm,fun _=>hnu.symm⟩) ?_ ?_
     · simp -dsimp only [go_sem,fT]<;>simp
     · simp -dsimp only [go_sem,cS]<;>simp [cS]
 | false=>
  simp (maxSteps:=1000000) -dsimp only [go_sem,tT,c2,aA8]
  refine DN hb ?_
  simp (maxSteps:=1000000) -dsimp only [go_sem,cS]
  refine aA rfl (.done ?_)
  simp (maxSteps:=1000000) -dsimp only [go_sem,BY]
  refine aA rfl (.done ?_)
  simp (maxSteps:=1000000) -dsimp only [go_sem,CW,aJO]
  refine aA rfl (.done ?_)
  generalize hU:(vr b).1=U at *
  have hnu:gA t.k U=U:=by unfold gA; rw [c2,cond_false]
  have hw:IntKind.i64.wrap ((U % 4294967296:Nat):Int)=((U % 4294967296:Nat):Int):=x8 ⟨by omega,by omega⟩
  have e0:decide ((U:Int) < 4294967296)=decide (U < 4294967296):=by rw [Bool.eq_iff_iff,decide_eq_true_iff,decide_eq_true_iff]; omega
  rw [hnu] at hnr
  have hbig:(vr b).2.2=0->decide (U < 4294967296)=false->fX s t U=false:=fun h0 h1=>by
   cases h:fX s t U with
   | false=>rfl
   | true=>have:=((hnr h0 h).2 c2).2; have:=of_decide_eq_false h1; omega
  cases c3:t.k == 3 with
  | true=>
   obtain ⟨b1,b2,e1⟩:8<=t.s/\t.s<=32/\IntKind.i64.wrap (1 * 2 ^ min t.s.toNat 64)=(2 ^ t.s.toNat:Int):=by
    rcases L7 hv c3 with hz | hz | hz<;>rw [hz]<;>decide
   have f1:(0<=t.s)=True:=eq_true (by omega)
   have hrg:=YX (s:=s) (n:=(U:Int)) c3
   rw [decide_eq_true (show (0:Int)<=(U:Int) by omega),Bool.true_and] at hrg
   generalize (2 ^ t.s.toNat:Int)=hi at *
   cases h4:decide (U < 4294967296) with
   | true=>
    have hm:U % 4294967296=U:=Nat.mod_eq_of_lt (of_decide_eq_true h4)
    rw [hm] at hw ⊢
    cases h5:decide ((U:Int) < hi) <;>
    · rw [h5] at hrg
      simp (maxSteps:=1000000) -dsimp only [go_sem,j3,c3,hw,e0,h4]
      refine aA rfl (.done ?_)
      simp (maxSteps:=1000000) -dsimp only [go_sem,qK,f1,e1,h5]
      have hx:=hrg
      rw [<-hnu] at hx
      refine j7 4 (tail U _ fun h0=>⟨hx.symm,fun _=>hnu.symm⟩) ?_ ?_
      · simp -dsimp only [go_sem,fT]<;>simp
      · simp -dsimp only [go_sem,cS]<;>simp [cS,hU]
   | false=>
    simp (maxSteps:=1000000) -dsimp only [go_sem,j3,c3,hw,e0,h4]
    refine aA rfl (.done ?_)
    simp (maxSteps:=1000000) -dsimp only [go_sem,qK,f1,e1]
    refine j7 4 (tail ((U % 4294967296:Nat):Int) false fun h0=>⟨by rw [hnu]; exact (hbig h0 h4).symm,fun h=>(by cases h)⟩) ?_ ?_
    · simp -dsimp only [go_sem,fT]<;>simp
    · simp -dsimp only [go_sem,cS]<;>simp [cS,hU]
  | false=>
   have c7:(t.k == 7)=true:=by rw [c2,c3] at hk; simpa using hk
   have hrg:=W9 (s:=s) (n:=(U:Int)) c7
   have k6:=eT hs
   have k7:=jL s
   have heo:(eH s.es t.n).getD default=enOf s t:=rfl
   cases h4:decide (U < 4294967296) with
   | true=>
    have hm:U % 4294967296=U:=Nat.mod_eq_of_lt (of_decide_eq_true h4)
    rw [hm] at hw ⊢
    simp (maxSteps:=1000000) -dsimp only [go_sem,j3,c3,hw,e0,h4]
    refine aA rfl (.done ?_)
    simp (maxSteps:=1000000) -dsimp only [go_sem,qF,I1,k6,k7,heo]
    have hx:fX s t (gA t.k U)=(enOf s t).vs.any (fun x=>x == (U:Int)):=by rw [hnu]; exact hrg
    refine j7 4 (tail U _ fun h0=>⟨hx.symm,fun _=>hnu.symm⟩) ?_ ?_
    · simp -dsimp only [go_sem,fT]<;>simp
    · simp -dsimp only [go_sem,cS]<;>simp [cS,hU]
   | false=>
    simp (maxSteps:=1000000) -dsimp only [go_sem,j3,c3,hw,e0,h4]
    refine aA rfl (.done ?_)
    simp (maxSteps:=1000000) -dsimp only [go_sem,qF,I1,k6,k7,heo]
    refine j7 4 (tail ((U % 4294967296:Nat):Int) false fun h0=>⟨by rw [hnu]; exact (hbig h0 h4).symm,fun h=>(by cases h)⟩) ?_ ?_
    · simp -dsimp only [go_sem,fT]<;>simp
    · simp -dsimp only [go_sem,cS]<;>simp [cS,hU]
theorem mG {n:Nat} (h:n < 18446744073709551616):gO (n:Int)=vi n:=by
 unfold gO
 have h2:IntKind.u64.wrap (n:Int)=(n:Int) % 18446744073709551616:=by simp [IntKind.wrap,IntKind.signed,IntKind.bits]
 rw [h2,show ((n:Int) % 18446744073709551616).toNat=n by omega]
theorem ET {x:Int} (h0:0<=x) (h:x < 18446744073709551616):gO x=vi x.toNat:=by
 have:=mG (n:=x.toNat) (by omega)
 rwa [Int.toNat_of_nonneg h0] at this
theorem JZ {l:List UInt8} (h:l.length < 18446744073709551616):lK l=vi l.length ++ l:=by unfold lK; rw [mG h]
theorem aCE {n:Int} (h:bM n):oM n < 18446744073709551616/\oV (oM n)=n:=by
 unfold bM at h
 unfold oM oV
 split
 · have e:(2 * (-(n + 1)) + 1).toNat % 2=1:=by omega
   rw [if_pos e]
   omega
 · have e:¬ (2 * n).toNat % 2=1:=by omega
   rw [if_neg e]
   omega
theorem FE {t:Ty} {v:Vl} (h1:v.k=t.k) (h2:bl v.s=[]) (h3:v.l=[]) (h4:v.f=[]):v=.mk t.k v.n (mk []) [] []:=by
 obtain ⟨k,n,s,l,f⟩:=v
 have h1:k=t.k:=h1
 have h3:l=[]:=h3
 have h4:f=[]:=h4
 have h2:bl s=bl (mk []):=h2
 rw [h1,h3,h4,hJ h2]; rfl
theorem CA:vi 0=[0]/\vi 1=[1]:=by
 unfold vi
 exact ⟨by rw [iG (by decide) (by decide)]; rfl,by rw [iG (by decide) (by decide)]; rfl⟩
theorem EA {R:List UInt8->Vl × Int} {f:Vl->List UInt8} (r:List UInt8):∀ (l:List Vl),(∀ x ∈ l,R (f x)=(x,0)/\(f x).length < 18446744073709551616)->dR R l.length ((l.flatMap fun x=>lK (f x)) ++ r)=((l,r),0)
 | [],_=>rfl
 | x :: l,h=>by
  obtain ⟨h1,h2⟩:=h x (List.mem_cons_self ..)
  have ih:=EA r l fun y hy=>h y (List.mem_cons_of_mem _ hy)
  rw [List.length_cons,nX,List.flatMap_cons,JZ h2,List.append_assoc,QO h2,h1,ih]
  rfl
def oP (F:List (Int × Vl)) (g:Fl):List (Int × Vl):=match cH F g.num with
 | some x=>[(g.num,x.2)]
 | none=>[]
theorem kQ (y:Int × Vl) (F:List (Int × Vl)) (k:Int):cH (y :: F) k=if y.1=k then some y else cH F k:=by
 unfold cH
 rw [List.find?_cons]
 by_cases h:y.1=k
 · rw [decide_eq_true h,if_pos h]
 · rw [decide_eq_false h,if_neg h]
theorem B6 {F:List (Int × Vl)} {k:Int} (h:∀ x ∈ F,x.1 ≠ k):cH F k=none:=by
 unfold cH
 rw [List.find?_eq_none]
 intro x hx
 have:=h x hx
 simpa using this
theorem xG:∀ {fs:List Fl} {F:List (Int × Vl)},fs.Pairwise (fun f g=>f.num < g.num)->F.Pairwise (fun x y=>x.1 < y.1)->(∀ x ∈ F,∃ f ∈ fs,f.num=x.1)->fs.flatMap (oP F)=F
 | [],F,_,_,h=>by
  cases F with
  | nil=>rfl
  | cons x F=>obtain ⟨f,hf,_⟩:=h x (List.mem_cons_self ..); cases hf
 | g :: fs,[],hp,_,_=>by
  have e:∀ g':Fl,oP [] g'=[]:=fun g'=>rfl
  simp [e]
 | g :: fs,y :: F,hp,hF,h=>by
  obtain ⟨p1,p2⟩:=List.pairwise_cons.1 hp
  obtain ⟨q1,q2⟩:=List.pairwise_cons.1 hF
  rw [List.flatMap_cons]
  by_cases he:y.1=g.num
  · have e1:oP (y :: F) g=[y]:=by
     unfold oP; rw [kQ,if_pos he]; simp only; rw [<-he]
    have e2:fs.flatMap (oP (y :: F))=fs.flatMap (oP F):=by
     rw [List.flatMap_def,List.flatMap_def]
     congr 1
     refine List.map_congr_left fun g' hg'=>?_
     have:=p1 g' hg'
     unfold oP
     rw [kQ,if_neg (by omega)]
    rw [e1,e2,xG p2 q2 fun x hx=>?_]
    · rfl
    · obtain ⟨f,hf,hfe⟩:=h x (List.mem_cons_of_mem _ hx)
      have:=q1 x hx
      rcases List.mem_cons.1 hf with rfl | hf
      · omega
      · exact ⟨f,hf,hfe⟩
  · have hy:∃ f ∈ fs,f.num=y.1:=by
     obtain ⟨f,hf,hfe⟩:=h y (List.mem_cons_self ..)
     rcases List.mem_cons.1 hf with rfl | hf
     · exact absurd hfe.symm he
     · exact ⟨f,hf,hfe⟩
    obtain ⟨f0,hf0,hfe0⟩:=hy
    have hlt:=p1 f0 hf0
    have e1:oP (y :: F) g=[]:=by
     unfold oP
     rw [B6 fun x hx=>?_]
     rcases List.mem_cons.1 hx with rfl | hx
     · exact he
     · have:=q1 x hx; omega
    rw [e1,List.nil_append]
    exact xG p2 hF fun x hx=>by
     obtain ⟨f,hf,hfe⟩:=h x hx
     rcases List.mem_cons.1 hf with rfl | hf
     · rcases List.mem_cons.1 hx with rfl | hx
       · exact absurd hfe.symm he
       · have:=q1 x hx; omega
     · exact ⟨f,hf,hfe⟩
theorem FA {fs:List Fl}:∀ {l:List (Int × Vl)} {p:Option Int},ftA fs p l=true->∀ x ∈ l,(fF fs x.1).isSome=true
 | y :: l,p,h,x,hx=>by
  rw [sB,Bool.and_eq_true,Bool.and_eq_true] at h
  rcases List.mem_cons.1 hx with rfl | hx
  · exact h.1.1
  · exact FA h.2 x hx
theorem vM {α β:Type} {f h:α->List β}:∀ {l:List α},(∀ x ∈ l,f x=h x)->l.flatMap f=l.flatMap h
 | [],_=>rfl
 | x :: l,e=>by rw [List.flatMap_cons,List.flatMap_cons,e x (List.mem_cons_self ..),vM fun y hy=>e y (List.mem_cons_of_mem _ hy)]
theorem D3 {fs:List Fl}:∀ {F:List (Int × Vl)} {p:Option Int},ftA fs p F=true->(∀ q,p=some q->∀ x ∈ F,q < x.1)/\F.Pairwise (fun x y=>x.1 < y.1)
 | [],_,_=>⟨fun _ _ x h=>(by cases h),.nil⟩
 | y :: F,p,h=>by
  rw [sB,Bool.and_eq_true,Bool.and_eq_true] at h
  obtain ⟨i1,i2⟩:=D3 h.2
  have h1:=i1 y.1 rfl
  refine ⟨fun q hq x hx=>?_,List.pairwise_cons.2 ⟨h1,i2⟩⟩
  have h2:q < y.1:=by rw [hq] at h; exact of_decide_eq_true h.1.2
  rcases List.mem_cons.1 hx with rfl | hx
  · exact h2
  · exact Int.lt_trans h2 (h1 x hx)
theorem FZ {fs:List Fl} {k:Int} {f:Fl} (h:fF fs k=some f):f ∈ fs/\f.num=k:=by
 exact ⟨List.mem_of_find?_eq_some h,by have:=List.find?_some h; simpa using this⟩
structure Fits (s:Sc) (u:St) (F:List (Int × Vl)):Prop where
 p:F.Pairwise (fun x y=>x.1 < y.1)
 m:∀ x ∈ F,∃ f ∈ u.fs,f.num=x.1
 r:∀ f ∈ u.fs,f.opt=false->∃ x ∈ F,x.1=f.num
theorem FO {s:Sc} {u:St} {F:List (Int × Vl)} (h:dT u.fs F=true):Fits s u F:=by
 have h':=h
 unfold dT at h'
 rw [Bool.and_eq_true,List.all_eq_true] at h'
 refine ⟨(D3 h'.1).2,fun x hx=>?_,fun f hf ho=>?_⟩
 · have:=FA h'.1 x hx
   obtain ⟨f,hf⟩:=Option.isSome_iff_exists.1 this
   obtain ⟨h1,h2⟩:=FZ hf
   exact ⟨f,h1,h2⟩
 · have:=h'.2 f hf
   rw [ho,Bool.false_or] at this
   unfold m0 at this
   rw [List.any_eq_true] at this
   obtain ⟨x,hx,he⟩:=this
   exact ⟨x,hx,eq_of_beq he⟩
def lD (s:Sc) (F:List (Int × Vl)) (g:Fl):Bool:=!(cH F g.num).isSome || (!g.opt && cU (((cH F g.num).map (·.2)).getD default) (zF s 23 g.ty))
def jT (s:Sc) (F:List (Int × Vl)) (g:Fl):List (Int × Vl):=bif lD s F g then [] else [(g.num,((cH F g.num).map (·.2)).getD default)]
theorem CN (R:Ty->Vl->List UInt8) (s:Sc) (F:List (Int × Vl)) (g:Fl):oX R s F g=bif lD s F g then [] else gO g.num ++ lK (R g.ty (((cH F g.num).map (·.2)).getD default)):=rfl
theorem xM {s:Sc} {R:Ty->Vl->List UInt8} {D:Ty->List UInt8->Vl × Int} {fs:List Fl} {F:List (Int × Vl)} (hp:fs.Pairwise fun f g=>f.num < g.num)
 (hn:∀ f ∈ fs,1<=f.num/\f.num<=127) (hR:∀ g ∈ fs,∀ x ∈ F,x.1=g.num->D g.ty (R g.ty x.2)=(x.2,0)/\(R g.ty x.2).length < 18446744073709551616) :
 ∀ (gs:List Fl) (g:Nat) (last:Int),(∀ f ∈ gs,f ∈ fs/\last < f.num)->gs.Pairwise (fun f g=>f.num < g.num)->(gs.flatMap (oX R s F)).length<=g->eI D s fs g last (gs.flatMap (oX R s F))=(gs.flatMap (jT s F),0)
 | [],g,last,_,_,_=>by rw [List.flatMap_nil,List.flatMap_nil,wP]
 | q :: gs,g,last,h,hq,hl=>by
  obtain ⟨p1,p2⟩:=List.pairwise_cons.1 hq
  obtain ⟨hqf,hql⟩:=h q (List.mem_cons_self ..)
  rw [List.flatMap_cons,List.flatMap_cons]
  rw [List.flatMap_cons] at hl
  cases ho:lD s F q with
  | true=>
   have e1:oX R s F q=[]:=by rw [CN,ho]; rfl
   have e2:jT s F q=[]:=by unfold jT; rw [ho]; rfl
   rw [e1,List.nil_append] at hl ⊢
   rw [e2,List.nil_append]
   exact xM hp hn hR gs g last (fun f hf=>⟨(h f (List.mem_cons_of_mem _ hf)).1,(h f (List.mem_cons_of_mem _ hf)).2⟩) p2 hl
  | false=>
   cases hv:cH F q.num with
   | none=>unfold lD at ho; rw [hv] at ho; cases ho
   | some x=>
    obtain ⟨hm,he⟩:=qT hv
    obtain ⟨r1,r2⟩:=hR q hqf x hm he
    obtain ⟨n1,n2⟩:=hn q hqf
    have e1:oX R s F q=vi q.num.toNat ++ (vi (R q.ty x.2).length ++ R q.ty x.2):=by
     rw [CN,ho,hv]
     show gO q.num ++ lK (R q.ty x.2)=_
     rw [ET (by omega) (by omega),JZ r2]
    have e2:jT s F q=[(q.num,x.2)]:=by unfold jT; rw [ho,hv]; rfl
    rw [e1] at hl ⊢
    rw [e2]
    have hpos:=EF q.num.toNat
    rw [List.length_append,List.length_append] at hl
    obtain ⟨g,rfl⟩:∃ k,g=k + 1:=⟨g - 1,by omega⟩
    have hne:vi q.num.toNat ++ (vi (R q.ty x.2).length ++ R q.ty x.2) ++ gs.flatMap (oX R s F) ≠ []:=fun e=>by
     have:=congrArg List.length e
     rw [List.length_append,List.length_append,List.length_nil] at this
     omega
    have hfs:=aBY (n:=q.num.toNat) (x:=R q.ty x.2) (last:=last) (by omega) (by omega) r2 (gs.flatMap (oX R s F))
    rw [Int.toNat_of_nonneg (show (0:Int)<=q.num by omega)] at hfs
    have hff:fF fs q.num=some q:=HS hp hqf
    have hde:tN D s q (R q.ty x.2)=0:=by
     unfold tN
     rw [r1]
     unfold lD at ho
     rw [hv] at ho
     have ho:(!q.opt && cU x.2 (zF s 23 q.ty))=false:=ho
     show (bif !q.opt && (cU x.2 (zF s 23 q.ty) && _) then (2:Int) else 0)=0
     rw [<-Bool.and_assoc,ho]; rfl
    rw [m1 hne,hfs]
    simp only
    rw [hff]
    simp only [Option.getD_some,Option.isSome_some]
    rw [hde,r1,xM hp hn hR gs g q.num (fun f hf=>⟨(h f (List.mem_cons_of_mem _ hf)).1,p1 f hf⟩) p2 (by omega)]
    rfl
theorem F4 {s:Sc} {F:List (Int × Vl)}:∀ {fs:List Fl} {q:Fl},fs.Pairwise (fun f g=>f.num < g.num)->q ∈ fs->cH (fs.flatMap (jT s F)) q.num=bif lD s F q then none else some (q.num,((cH F q.num).map (·.2)).getD default)
 | g :: fs,q,hp,hq=>by
  obtain ⟨p1,p2⟩:=List.pairwise_cons.1 hp
  have hrest:∀ k,k<=g.num->cH (fs.flatMap (jT s F)) k=none:=fun k hk=>B6 fun x hx=>by
   obtain ⟨f,hf,hx⟩:=List.mem_flatMap.1 hx
   have:=p1 f hf
   unfold jT at hx
   cases ho:lD s F f with
   | true=>rw [ho] at hx; cases hx
   | false=>rw [ho] at hx; obtain rfl:=List.mem_singleton.1 hx; simp only; omega
  rw [List.flatMap_cons]
  rcases List.mem_cons.1 hq with rfl | hq
  · cases ho:lD s F q with
    | true=>unfold jT at hrest ⊢; rw [ho]; exact hrest q.num (Int.le_refl _)
    | false=>
     have e:jT s F q=[(q.num,((cH F q.num).map (·.2)).getD default)]:=by unfold jT; rw [ho]; rfl
     rw [e,List.singleton_append,kQ,if_pos rfl]; rfl
  · have:=p1 q hq
    rw [<-F4 p2 hq]
    unfold jT
    cases ho:lD s F g with
    | true=>rfl
    | false=>rw [cond_false,List.singleton_append,kQ,if_neg (by simp only; omega)]
theorem aC2 {s:Sc} {u:St} {F:List (Int × Vl)} (hp:u.fs.Pairwise fun f g=>f.num < g.num) (hf:Fits s u F):jC s u.fs (u.fs.flatMap (jT s F))=F:=by
 have:jC s u.fs (u.fs.flatMap (jT s F))=u.fs.flatMap (oP F):=by
  refine vM fun g hg=>?_
  unfold D5 oP
  rw [F4 hp hg]
  cases hv:cH F g.num with
  | none=>
   have ho:lD s F g=true:=by unfold lD; rw [hv]; rfl
   rw [ho]
   show (bif g.opt then [] else [(g.num,zF s 23 g.ty)])=[]
   cases hopt:g.opt with
   | true=>rfl
   | false=>
    obtain ⟨x,hx,he⟩:=hf.r g hg hopt
    have:cH F g.num ≠ none:=by
     unfold cH
     rw [Ne,List.find?_eq_none]
     intro h
     exact h x hx (by simpa using he)
    exact absurd hv this
  | some x=>
   cases ho:lD s F g with
   | false=>rfl
   | true=>
    unfold lD at ho
    rw [hv] at ho
    have ho:(!g.opt && cU x.2 (zF s 23 g.ty))=true:=ho
    rw [Bool.and_eq_true] at ho
    show (bif g.opt then [] else [(g.num,zF s 23 g.ty)])=[(g.num,x.2)]
    have h1:g.opt=false:=by simpa using ho.1
    rw [h1,qN.1 ho.2]; rfl
 have h2:=xG hp hf.p hf.m
 rw [this,h2]
theorem G0 {s:Sc} {R:Ty->Vl->List UInt8} {D:Ty->List UInt8->Vl × Int} {u:St} {F:List (Int × Vl)} (hn:NSt s.ss s.es u) (hf:Fits s u F)
 (hR:∀ g ∈ u.fs,∀ x ∈ F,x.1=g.num->D g.ty (R g.ty x.2)=(x.2,0)/\(R g.ty x.2).length < 18446744073709551616):jQ D s u.fs (eD R s u.fs F)=(.mk 6 0 (mk []) [] F,0):=by
 have hp:=OP hn
 have h:=xM (s:=s) (R:=R) (D:=D) (F:=F) hp hn.n hR u.fs (eD R s u.fs F).length 0 (fun f hf=>⟨hf,by have:=hn.n f hf; omega⟩) hp (Nat.le_refl _)
 unfold jQ
 rw [show eI D s u.fs (eD R s u.fs F).length 0 (eD R s u.fs F)=(u.fs.flatMap (jT s F),0) from h]
 show ((Vl.mk 6 0 (mk []) [] (jC s u.fs (u.fs.flatMap (jT s F))),(0:Int)))=_
 rw [aC2 hp hf]
theorem HU {s:Sc} {t:Ty} (hv:valF s.ss s.es t=true) (c1:(t.k == 1)=false) (c2:(t.k == 2 || (t.k == 3 || t.k == 7))=false) (c4:(t.k == 4)=false) (c5:(t.k == 5)=false):(t.k == 6)=true:=by
 rw [Bool.or_eq_false_iff,Bool.or_eq_false_iff] at c2
 rcases FN hv with h | h | h | h | h | h | h
 · rw [h] at c1; cases c1
 · rw [h] at c2; cases c2.1
 · rw [h] at c2; cases c2.2.1
 · rw [h] at c4; cases c4
 · rw [h] at c5; cases c5
 · exact h
 · rw [h] at c2; cases c2.2.2
theorem HH {s:Sc} (hs:s.fit) (hd:Dg s):∀ (M N:Nat) (t:Ty) (v:Vl),TyOk t->VlOk v->cT s t v=0->v.h<=N->N<=8->jS s t < M->bW s M t (cG s N t v)=(v,0)
 | 0,_,t,_,_,_,_,_,_,h=>by have:=yK s t; omega
 | _ + 1,0,_,v,_,_,_,h,_,_=>by have:=v.h_pos; omega
 | M + 1,N + 1,t,v,ht,hvo,h0,hh,hN,hM=>by
  have hc:=j6 h0
  have hB:∀ (u:Ty) (x:Vl),x.h<=N->cT s u x=0->(cG s N u x).length < 18446744073709551616:=fun u x h1 h2=>by
   have:=gR hd N u x h1 h2
   have:=l7 (N:=N) (by omega)
   omega
  rw [sM,r8]
  cases c1:t.k == 1 with
  | true=>
   rw [Bool.true_or,cond_true,cond_true]
   obtain ⟨e1,e2,e3,e4⟩:=hc.nu (cM c1 (by decide)) (cM c1 (by decide)) (cM c1 (by decide))
   have e5:=FE hc.kk e1 e2 e3
   have hk:t.k=1:=eq_of_beq c1
   have e6:v.n=0\/v.n=1:=by unfold fX at e4; rw [c1] at e4; simpa using e4
   rw [hk] at e5
   rcases e6 with e6 | e6<;>rw [e5,e6]
   · show oD (gO 0)=_
     rw [show gO 0=[0] from (mG (n:=0) (by decide)).trans CA.1]; rfl
   · show oD (gO 1)=_
     rw [show gO 1=[1] from (mG (n:=1) (by decide)).trans CA.2]; rfl
  | false=>
  rw [Bool.false_or,cond_false]
  cases c2:t.k == 2 || (t.k == 3 || t.k == 7) with
  | true=>
   rw [cond_true]
   have n4:(t.k == 4)=false/\(t.k == 5)=false/\(t.k == 6)=false:=by
    rw [Bool.or_eq_true,Bool.or_eq_true] at c2
    rcases c2 with h | h | h<;>exact ⟨cM h (by decide),cM h (by decide),cM h (by decide)⟩
   obtain ⟨e1,e2,e3,e4⟩:=hc.nu n4.1 n4.2.1 n4.2.2
   have e5:=FE hc.kk e1 e2 e3
   have key:∀ z:Nat,z < 18446744073709551616->gA t.k z=v.n->oK s t (vi z)=(v,0):=fun z hz hn=>by
    have hvr:=RJ hz []
    rw [List.append_nil] at hvr
    unfold oK
    rw [hvr]
    simp only
    rw [decide_eq_false (Nat.lt_irrefl _),hn,e4]
    show (Vl.mk t.k v.n (mk []) [] [],(0:Int))=_
    rw [<-e5]
   cases c3:t.k == 3 || t.k == 7 with
   | true=>
    rw [cond_true]
    have hne2:(t.k == 2)=false:=by
     rw [Bool.or_eq_true] at c3
     rcases c3 with h | h<;>exact cM h (by decide)
    have h0n:0<=v.n:=by
     rw [Bool.or_eq_true] at c3
     rcases c3 with h | h
     · rw [YX h,Bool.and_eq_true] at e4; exact of_decide_eq_true e4.1
     · rw [W9 h,List.any_eq_true] at e4
       obtain ⟨x,hx,he⟩:=e4
       have:=(hd.ni.enOf t).n x hx
       have he:=eq_of_beq he
       omega
    have hlt:=hvo.n.2
    rw [ET h0n (by omega)]
    exact key _ (by omega) (by unfold gA; rw [hne2,cond_false]; omega)
   | false=>
    have h2:(t.k == 2)=true:=by rw [c3,Bool.or_false] at c2; exact c2
    rw [cond_false,h2,cond_true]
    obtain ⟨z1,z2⟩:=aCE hvo.n
    exact key _ z1 (by unfold gA; rw [h2]; exact z2)
  | false=>
  have c2':=c2
  rw [Bool.or_eq_false_iff] at c2'
  rw [cond_false,c2'.2,cond_false,c2'.1,cond_false]
  cases c4:t.k == 4 with
  | true=>
   rw [cond_true,cond_true]
   obtain ⟨e1,e2,e3,e4⟩:=hc.tx c4
   unfold J0
   rw [decide_eq_false (by omega)]
   have hk:t.k=4:=eq_of_beq c4
   have hkk:=hc.kk
   rw [hk] at hkk
   obtain ⟨k,n,str,l,f⟩:=v
   have h1:k=4:=hkk
   have h2:n=0:=e1
   have h3:l=[]:=e2
   have h4:f=[]:=e3
   subst h1 h2 h3 h4
   show (Vl.mk 4 0 (mk (bl str)) [] [],(0:Int))=_
   rw [fQ]
  | false=>
  rw [cond_false,cond_false]
  cases c5:t.k == 5 with
  | true=>
   rw [cond_true,cond_true]
   obtain ⟨u,he,hu⟩:=DG hc.va c5
   have hto:=ht.e u (by rw [he]; exact List.mem_singleton.2 rfl)
   have hfd:=GC (s:=s) c5 he
   obtain ⟨e1,e2,e3,e4,e5⟩:=hc.ls c5
   have h32:=(mV hc.va).2 c5
   rw [he] at e5 ⊢
   simp only [List.headD_cons] at e5 ⊢
   have hl:=EA (R:=bW s M u) (f:=cG s N u) [] v.l fun x hx=>⟨HH hs hd M N u x hto (hvo.l x hx) (e5 x hx) (by have:=Vl.h_l hx; omega) (by omega) (by omega),hB u x (by have:=Vl.h_l hx; omega) (e5 x hx)⟩
   rw [List.append_nil] at hl
   have hn:v.l.length < 18446744073709551616:=by omega
   unfold jB i6
   rw [mG hn,IL hn]
   simp only
   rw [decide_eq_false (by omega),hl]
   have hk:t.k=5:=eq_of_beq c5
   have hkk:=hc.kk
   rw [hk] at hkk
   obtain ⟨k,n,str,l,f⟩:=v
   have h1:k=5:=hkk
   have h2:n=0:=e1
   have h4:f=[]:=e3
   have h6:bl str=bl (mk []):=e2
   rw [h1,h2,h4,hJ h6]; rfl
  | false=>
   rw [cond_false,cond_false]
   have c6:=HU hc.va c1 c2 c4 c5
   obtain ⟨e1,e2,e3,e4,e5⟩:=hc.st c6
   have hfd:=CL (s:=s) c6
   have hst:=tZ hd hc.va c6
   have hn:=hd.ni.stOf t
   rw [G0 hn (FO e4) fun g hg x hx he=>?_]
   · have hk:t.k=6:=eq_of_beq c6
     have hkk:=hc.kk
     rw [hk] at hkk
     obtain ⟨k,n,str,l,f⟩:=v
     have h1:k=6:=hkk
     have h2:n=0:=e1
     have h3:l=[]:=e3
     have h6:bl str=bl (mk []):=e2
     rw [h1,h2,h3,hJ h6]; rfl
   · have h5:=e5 x hx
     rw [he,qM hd hg] at h5
     have h6:x.2.h<=N:=by have:=Vl.h_f hx; omega
     have h7:=hst.2.2 g hg
     exact ⟨HH hs hd M N g.ty x.2 ((fR hs t).fs g hg).ty (hvo.f x hx) h5 h6 (by omega) (by omega),hB g.ty x.2 h6 h5⟩
theorem aCI {s:Sc} (hs:s.fit) {nm:ByteArray} {v:Vl} (hvo:VlOk v) (h:(gB s nm v).2=0):kY s nm (gB s nm v).1=(v,0)/\(gB s nm v).1.length<=2000:=by
 unfold gB at h ⊢
 cases c1:bP s != 0 with
 | true=>rw [c1] at h; exact absurd h (zM c1)
 | false=>
 rw [c1,cond_false] at h
 rw [cond_false]
 have hd:=HG hs (mS c1)
 cases c2:!(cB s.ss nm) with
 | true=>rw [c2] at h; cases h
 | false=>
 rw [c2,cond_false] at h
 rw [cond_false]
 cases c3:jR s (.mk 6 0 nm []) v != 0 with
 | true=>rw [c3] at h; exact absurd h (zM c3)
 | false=>
 rw [c3,cond_false] at h
 rw [cond_false]
 cases c4:decide (2000 < ((eD (cG s 8) s (stOf s (.mk 6 0 nm [])).fs v.f).length:Int)) with
 | true=>rw [c4] at h; cases h
 | false=>
  rw [cond_false]
  have hck:=mS c3
  have h0:=(sG hck).1
  have hh:=XI hck
  have hc:=j6 h0
  obtain ⟨e1,e2,e3,e4,e5⟩:=hc.st rfl
  have hn:=hd.ni.stOf (.mk 6 0 nm [])
  have hst:=tZ hd hc.va rfl
  have hlen:=of_decide_eq_false c4
  refine ⟨?_,by simp only; omega⟩
  unfold kY
  rw [c1,c2,c4,cond_false,cond_false,cond_false,G0 hn (FO e4) fun g hg x hx he=>?_]
  · have hkk:=hc.kk
    obtain ⟨k,n,str,l,f⟩:=v
    have h1:k=6:=hkk
    have h2:n=0:=e1
    have h3:l=[]:=e3
    have h6:bl str=bl (mk []):=e2
    rw [h1,h2,h3,hJ h6]; rfl
  · have h5:=e5 x hx
    rw [he,qM hd hg] at h5
    have h6:x.2.h<=8:=by have:=Vl.h_f hx; omega
    have h7:=hst.2.2 g hg
    have hB:=gR hd 8 g.ty x.2 h6 h5
    have:=l7 (N:=8) (by omega)
    exact ⟨HH hs hd 8 8 g.ty x.2 ((fR hs (.mk 6 0 nm [])).fs g hg).ty (hvo.f x hx) h5 h6 (by omega) (by omega),by omega⟩
def leS (a b:List UInt8):Prop:=a.length<=b.length/\(a.length=b.length->a=b)
structure Can (s:Sc) (t:Ty) (v:Vl) (b:List UInt8):Prop where
 ck:cT s t v=0
 rl:dQ v<=jS s t
 le:∀ N,v.h<=N->N<=8->leS (cG s N t v) b
theorem Y4 {s:Sc} (hd:Dg s) {nm:ByteArray} (h:cB s.ss nm=true):jS s (.mk 6 0 nm [])<=6/\valF s.ss s.es (.mk 6 0 nm [])=true:=by
 have hv:valF s.ss s.es (.mk 6 0 nm [])=true:=by rw [valF.eq_def]; simp [h]
 have:=(tZ hd hv rfl).2.1
 rw [CL rfl]
 exact ⟨this,hv⟩
def xF (N:Nat):W.Spec:=fun av H K=>∃ (s:Sc) (t:Ty) (b:List UInt8),av=[.va (.gs (aI s)),.va (.gs (aU t)),tS (mk b)]/\H=[]/\Dg s/\s.fit/\TyOk t/\valF s.ss s.es t=true/\jS s t < N/\b.length<=1000000000/\K (.tu [.gs (aN (bW s N t b).1),iA .i64 (bW s N t b).2]) []
theorem KU {N:Nat} {s:Sc} {t:Ty} {b:List UInt8} {K:S->Hp->Prop} (hd:Dg s) (hs:s.fit) (ht:TyOk t) (hv:valF s.ss s.es t=true) (hf:jS s t < N) (hb:b.length<=1000000000)
 (hK:K (.tu [.gs [.vl (.int .i64 (bW s N t b).1.k),.vl (.int .i64 (bW s N t b).1.n),.vl (.string (bW s N t b).1.s),.fz ((bW s N t b).1.l.map aN),.fz ((bW s N t b).1.f.map bC)],iA .i64 (bW s N t b).2]) []) :
 xF N [.va (.gs [.vl (.int .i64 s.ver),.fz (s.es.map aY),.fz (s.ss.map aJ)]),.va (.gs [.vl (.int .i64 t.k),.vl (.int .i64 t.s),.vl (.string t.n),.fz (t.e.map aU)]),tS (mk b)] [] K:=⟨s,t,b,by rw [aP]; rfl,rfl,hd,hs,ht,hv,hf,hb,by rw [aK]; exact hK⟩
def rL (acc:List Vl) (q:(List Vl × List UInt8) × Int):(List Vl × List UInt8) × Int:=bif q.2 != 0 then (([],[]),q.2) else ((acc ++ q.1.1,q.1.2),0)
theorem VF (a b:List Vl) (q:(List Vl × List UInt8) × Int):rL a (rL b q)=rL (a ++ b) q:=by
 unfold rL
 cases hq:q.2 != 0 with
 | true=>simp only [cond_true,hq]
 | false=>simp only [cond_false]; rw [show ((0:Int) != 0)=false from rfl,cond_false,List.append_assoc]
theorem G2 (a:List Vl) {e:Int} (h:(e != 0)=true) (x:List Vl × List UInt8):rL a (x,e)=(([],[]),e):=by unfold rL; rw [h]; rfl
theorem aDU {R:List UInt8->Vl × Int}:∀ (n:Nat) (b:List UInt8),(dR R n b).2 ≠ 0->(dR R n b).1=([],[])
 | 0,_,h=>absurd rfl h
 | n + 1,b,h=>by
  rw [nX] at h ⊢
  cases c1:(bG b).2.2 != 0 with
  | true=>rfl
  | false=>
  rw [c1,cond_false] at h
  rw [cond_false]
  cases c2:(R (bG b).1).2 != 0 with
  | true=>rfl
  | false=>
  rw [c2,cond_false] at h
  rw [cond_false]
  cases c:(dR R n (bG b).2.1).2 != 0 with
  | true=>rfl
  | false=>rw [c] at h; exact absurd rfl h
theorem MZ (R:List UInt8->Vl × Int) (n:Nat) (b:List UInt8):dR R (n + 1) b=bif (bG b).2.2 != 0 then (([],[]),(bG b).2.2) else bif (R (bG b).1).2 != 0 then (([],[]),(R (bG b).1).2) else rL [(R (bG b).1).1] (dR R n (bG b).2.1):=by
 rw [nX]; rfl
theorem S4 {R:List UInt8->Vl × Int} (n:Nat) (b:List UInt8):rL [] (dR R n b)=dR R n b:=by
 have h:=aDU (R:=R) n b
 unfold rL
 generalize dR R n b=q at *
 obtain ⟨⟨x,y⟩,e⟩:=q
 cases hq:e != 0 with
 | true=>
  have h2:(x,y)=([],[]):=h (zM hq)
  rw [cond_true,h2]
 | false=>
  have:=mS hq
  subst this; rfl
def X9 (N:Nat):W.Spec:=fun av H K=>∃ (s:Sc) (t:Ty) (b:List UInt8),av=[.va (.gs (aI s)),.va (.gs (aU t)),tS (mk b)]/\H=[]/\Dg s/\s.fit/\TyOk t/\valF s.ss s.es t=true/\(t.k == 5)=true/\jS s t < N + 1/\b.length<=1000000000/\
 K (.tu [.gs (aN (jB (bW s N (t.e.headD default)) t.s b).1),iA .i64 (jB (bW s N (t.e.headD default)) t.s b).2]) []
theorem aBL {N:Nat} {s:Sc} {t:Ty} {b:List UInt8} {K:S->Hp->Prop} (hd:Dg s) (hs:s.fit) (ht:TyOk t) (hv:valF s.ss s.es t=true) (h5:(t.k == 5)=true) (hf:jS s t < N + 1) (hb:b.length<=1000000000)
 (hK:K (.tu [.gs (aN (jB (bW s N (t.e.headD default)) t.s b).1),iA .i64 (jB (bW s N (t.e.headD default)) t.s b).2]) []) :
 X9 N [.va (.gs [.vl (.int .i64 s.ver),.fz (s.es.map aY),.fz (s.ss.map aJ)]),.va (.gs [.vl (.int .i64 t.k),.vl (.int .i64 t.s),.vl (.string t.n),.fz (t.e.map aU)]),tS (mk b)] [] K:=⟨s,t,b,by rw [aP]; rfl,rfl,hd,hs,ht,hv,h5,hf,hb,hK⟩
theorem EN {N:Nat} (hD:Meets Tryz.prog 55 (xF N)):Meets Tryz.prog 99 (X9 N):=by
 refine aD Tryz.func99 aI8 3 (by rw [Tryz.ntmps99]; decide) (aC sD (aC JD (aC hD (aB _)))) (fun av H K h=>by obtain ⟨_,_,_,rfl,_⟩:=h; rfl) ?_
 rintro av H K ⟨s,t,b,rfl,rfl,hd,hs,ht,hv,h5,hf,hb,hK⟩
 obtain ⟨u,he,hu⟩:=DG hv h5
 have hto:=ht.e u (by rw [he]; exact List.mem_singleton.2 rfl)
 have hfd:=GC (s:=s) h5 he
 have h32:=(mV hv).2 h5
 have h45:=aHQ hv (.inr h5)
 rw [he] at hK
 have fin:∀ (v:Vl) (e:Int) (R:Hp),jB (bW s N u) t.s b=(v,e)->W.Fin 0 K (.tu [.gs (aN v),iA .i64 e]) R:=fun v e R h=>by
  have hK:K (.tu [.gs (aN (jB (bW s N u) t.s b).1),iA .i64 (jB (bW s N u) t.s b).2]) []:=hK
  rw [h] at hK; exact .sel [] (by simp) (by simp) rfl (.done (by rw [aK] at hK ⊢; simpa [go_sem] using hK))
 have fin2:∀ (l:List Vl),jB (bW s N u) t.s b=(.mk 5 0 (mk []) l [],0)->K (.tu [.gs (aN (.mk 5 0 (mk []) l [])),iA .i64 0]) []:=fun l h=>by
  have hK:K (.tu [.gs (aN (jB (bW s N u) t.s b).1),iA .i64 (jB (bW s N u) t.s b).2]) []:=hK
  rw [h] at hK; exact hK
 clear hK
 unfold jB at fin fin2
 have hcl:=pO b
 have hcn:=aDT b
 simp (maxSteps:=1000000) -dsimp only [go_sem,aI,aP t,aBJ,YN]
 refine vU (by omega) ?_
 generalize aX b=z at *
 obtain ⟨n,r,e⟩:=z
 simp only at fin fin2 hcl hcn ⊢
 simp (maxSteps:=1000000) -dsimp only [go_sem]
 refine aA rfl (.done ?_)
 cases c1:e != 0 with
 | true=>
  rw [c1,cond_true] at fin
  simp (maxSteps:=1000000) -dsimp only [go_sem,uC,c1]
  exact fin v0 _ _ rfl
 | false=>
 rw [c1,cond_false] at fin fin2
 simp (maxSteps:=1000000) -dsimp only [go_sem,uC,c1]
 refine aA rfl (.done ?_)
 have hw:IntKind.u64.wrap t.s=t.s:=by
  have:=nR (n:=t.s.toNat) (by omega)
  rwa [Int.toNat_of_nonneg (by omega)] at this
 cases c2:decide (t.s < (n:Int)) with
 | true=>
  rw [c2,cond_true] at fin
  simp (maxSteps:=1000000) -dsimp only [go_sem,uG,hw,c2]
  exact fin v0 _ _ rfl
 | false=>
 rw [c2,cond_false] at fin fin2
 have c2':=of_decide_eq_false c2
 simp (maxSteps:=1000000) -dsimp only [go_sem,uG,hw,c2]
 refine aA rfl (.done ?_)
 simp (maxSteps:=1000000) -dsimp only [go_sem,BU]
 refine aA rfl (.done ?_)
 simp (maxSteps:=1000000) -dsimp only [go_sem,DT]
 refine dW (α:=Nat × List UInt8 × List Vl) (fun z=>[(2,tS (mk z.2.1)),(3,.va (.c1 (.pt 0 0))),(4,.va (.c1 (.pt 1 0))),(6,.va (.c1 (.pt 2 0))),(10,.va (.c1 (.pt 3 0))),(32,iS .u64 n),(33,iS .u64 z.1)])
  (fun z=>[.cells [.vl (.int .i64 s.ver),.fz (s.es.map aY),.fz (s.ss.map aJ)] 25,.cells [.vl (.int .i64 t.k),.vl (.int .i64 t.s),.vl (.string t.n),.fz (t.e.map aU)] 42,.cells [.vl (.int .i64 0),.vl (.int .i64 0),.vl (.string (mk [])),.vl (.slice none 0 0),.vl (.slice none 0 0)] 29,
    .cells [.vl (.int .i64 5),.vl (.int .i64 0),.vl (.string (mk [])),.sl 4 z.2.2.length,.vl (.slice none 0 0)] 29,.row (z.2.2.map aN) 29 5])
  (fun z=>z.1<=n/\z.2.2.length=z.1/\z.2.1.length<=b.length/\rL z.2.2 (dR (bW s N u) (n - z.1) z.2.1)=dR (bW s N u) n r) (fun z=>n - z.1)
  (.nilc 3 3 29 5 [.vl (.int .i64 5),.vl (.int .i64 0),.vl (.string (mk [])),.vl (.slice none 0 0),.vl (.slice none 0 0)] 29 rfl rfl (nQ (0,r,[]) 5 ⟨Nat.zero_le _,rfl,hcl.1,by rw [Nat.sub_zero]; exact S4 _ _⟩ ?_ ?_)) ?_
 · simp -dsimp only [go_sem]<;>simp
 · simp -dsimp only [go_sem]<;>simp
 rintro ⟨i,x,acc⟩ ⟨hi,hal,hxl,ho⟩
 simp only at hi hal hxl ho ⊢
 rcases bD i n with hlt | hge
 · have hg:decide ((i:Int) < (n:Int))=true:=by simp; omega
   obtain ⟨m,hm⟩:∃ m,n - i=m + 1:=⟨n - i - 1,by omega⟩
   have hm':m=n - (i + 1):=by omega
   rw [hm,MZ] at ho
   have htl:=CM x
   simp (maxSteps:=1000000) -dsimp only [go_sem,hg]
   refine aA rfl (.done ?_)
   simp (maxSteps:=1000000) -dsimp only [go_sem,DP]
   refine FT (by omega) ?_
   generalize bG x=z at *
   obtain ⟨c,q,e2⟩:=z
   simp only at ho htl ⊢
   simp (maxSteps:=1000000) -dsimp only [go_sem]
   refine aA rfl (.done ?_)
   cases d1:e2 != 0 with
   | true=>
    rw [d1,cond_true,G2 acc d1] at ho
    rw [<-ho] at fin
    simp only [d1,cond_true] at fin
    simp (maxSteps:=1000000) -dsimp only [go_sem,rA,d1]
    exact fin v0 _ _ rfl
   | false=>
    rw [d1,cond_false] at ho
    simp (maxSteps:=1000000) -dsimp only [go_sem,rA,d1]
    refine aA rfl (.done ?_)
    have z0:(0:Int) < ((1:Nat):Int):=by decide
    have z1:(0:Int)<=0:=by decide
    have hvo:=qC hs hd N u c hto hu (by omega)
    simp (maxSteps:=1000000) -dsimp only [go_sem,xR,he,aP u,forall_eq',z0,z1,List.length_cons,List.length_nil,List.take_succ_cons,List.take_zero]
    refine KU hd hs hto hu (by omega) (by omega) ?_
    generalize bW s N u c=w at *
    obtain ⟨y,e3⟩:=w
    simp only at ho hvo ⊢
    simp (maxSteps:=1000000) -dsimp only [go_sem]
    refine aA rfl (.done ?_)
    cases d2:e3 != 0 with
    | true=>
     rw [d2,cond_true,G2 acc d2] at ho
     rw [<-ho] at fin
     simp only [d2,cond_true] at fin
     simp (maxSteps:=1000000) -dsimp only [go_sem,qV,d2]
     exact fin v0 _ _ rfl
    | false=>
     rw [d2,cond_false,VF,hm'] at ho
     simp (maxSteps:=1000000) -dsimp only [go_sem,qV,d2]
     refine aA rfl (.done ?_)
     simp (maxSteps:=1000000) -dsimp only [go_sem,v8,List.take_succ_cons,List.take_zero,List.length_cons,List.length_nil]
     refine ⟨by omega,by omega,aF (i + 1,q,acc ++ [y]) 5 ⟨by simp only; omega,by simp only [List.length_append,List.length_singleton]; omega,by simp only; omega,ho⟩ (by simp only; omega) ?_ ?_⟩
     · simp -dsimp only [go_sem]<;>simp
     · simp -dsimp only [go_sem,he,aP u]<;>simp [he,aP u,aK y]
 · have hg:decide ((i:Int) < (n:Int))=false:=by simp; omega
   obtain rfl:i=n:=by omega
   rw [Nat.sub_self] at ho
   have ho:((acc ++ [],x),(0:Int))=dR (bW s N u) i r:=ho
   rw [List.append_nil] at ho
   rw [<-ho] at fin fin2
   simp only [bne_self_eq_false,cond_false] at fin fin2
   simp (maxSteps:=1000000) -dsimp only [go_sem,hg]
   refine aA rfl (.done ?_)
   cases d1:x == [] with
   | false=>
    rw [d1] at fin
    simp (maxSteps:=1000000) -dsimp only [go_sem,qY,d1,Bool.not_false]
    exact fin v0 _ _ rfl
   | true=>
    rw [d1] at fin2
    simp (maxSteps:=1000000) -dsimp only [go_sem,qY,d1,Bool.not_true]
    refine .pub 4 _ _ _ rfl (.sel [] (by simp) (by simp [cQ]) rfl (.done ?_))
    have:=fin2 acc rfl
    rw [aK] at this
    simp -dsimp only [go_sem,cQ]
    simpa [Vl.k,Vl.n,Vl.s,Vl.l,Vl.f,hal] using this
def jO (L:List (Int × Vl)):List Value:=L.map fun y=>.int .i64 y.1
def lA (L:List (Int × Vl)):List A:=L.map fun y=>.gs (aN y.2)
theorem I4 (k:Int):∀ (L:List (Int × Vl)),dV (jO L) (lA L) (.int .i64 k)=(cH L k).map fun y=>.gs (aN y.2)
 | []=>rfl
 | y :: L=>by
  have ih:=I4 k L
  unfold dV at ih ⊢
  show ((eX (.int .i64 y.1 :: jO L) (.int .i64 k)).bind fun i=>(A.gs (aN y.2) :: lA L)[i]?)=_
  rw [eX,kQ]
  show ((bif k == y.1 then some 0 else (eX (jO L) (.int .i64 k)).map (· + 1)).bind fun i=>(A.gs (aN y.2) :: lA L)[i]?)=_
  by_cases h:y.1=k
  · rw [if_pos h,show (k == y.1)=true by simp [h]]; rfl
  · rw [if_neg h,show (k == y.1)=false by simp; omega,cond_false,<-ih]
    cases eX (jO L) (.int .i64 k)<;>rfl
theorem K8 {L:List (Int × Vl)} {k:Int} (h:∀ x ∈ L,x.1 < k):eX (jO L) (.int .i64 k)=none:=by
 induction L with
 | nil=>rfl
 | cons y L ih=>
  show eX (.int .i64 y.1 :: jO L) (.int .i64 k)=none
  rw [eX]
  show (bif k == y.1 then some 0 else (eX (jO L) (.int .i64 k)).map (· + 1))=none
  have:=h y (List.mem_cons_self ..)
  rw [show (k == y.1)=false by simp; omega,cond_false,ih fun x hx=>h x (List.mem_cons_of_mem _ hx)]; rfl
theorem T8 {L:List (Int × Vl)} {k:Int} (h:∀ x ∈ L,x.1 < k) (v:Vl):fA (jO L) (.int .i64 k)=jO (L ++ [(k,v)]):=by
 unfold fA
 rw [K8 h]
 unfold jO
 rw [List.map_append]; rfl
theorem U4 {L:List (Int × Vl)} {k:Int} (h:∀ x ∈ L,x.1 < k) (v:Vl):fO (jO L) (lA L) (.int .i64 k) (.gs (aN v))=lA (L ++ [(k,v)]):=by
 unfold fO
 rw [K8 h]
 unfold lA
 rw [List.map_append]; rfl
theorem U6 {s:Sc} {t:Ty} {z:Vl} {K:S->Hp->Prop} (h1:s.fit) (h2:TyOk t) (hz:z=zF s 23 t) (hK:K (.va (.gs [.vl (.int .i64 z.k),.vl (.int .i64 z.n),.vl (.string z.s),.fz (z.l.map aN),.fz (z.f.map bC)])) []) :
 C6 [.va (.gs [.vl (.int .i64 s.ver),.fz (s.es.map aY),.fz (s.ss.map aJ)]),.va (.gs [.vl (.int .i64 t.k),.vl (.int .i64 t.s),.vl (.string t.n),.fz (t.e.map aU)])] [] K:=by
 subst hz
 exact wB h1 h2 (by rw [aK]; exact hK)
theorem UP (f:Nat->Option Nat) (v:Vl):(aN v).map (C.ren f)=aN v:=by rw [aK]; rfl
theorem gN (f:Nat->Option Nat) (L:List (Int × Vl)):(lA L).map (A.ren f)=lA L:=by
 unfold lA
 rw [List.map_map]
 refine List.map_congr_left fun y _=>?_
 show A.gs ((aN y.2).map (C.ren f))=_
 rw [UP]
theorem MP {s:Sc} {fs:List Fl} {L:List (Int × Vl)} {i:Nat} {f:Fl} (h:fs[i]? = some f):jC s (fs.take (i + 1)) L=jC s (fs.take i) L ++ D5 s L f:=by
 unfold jC; rw [eJ h,List.flatMap_append]; simp
structure DsP (N:Nat) (s:Sc) (u:St):Prop where
 d:Dg s
 f:s.fit
 t:∃ t:Ty,stOf s t=u
 n:∀ f ∈ u.fs,jS s f.ty < N
def QQ (N:Nat):W.Spec:=fun av H K=>∃ (s:Sc) (u:St) (b:List UInt8),av=[.va (.gs (aI s)),.va (.gs (aJ u)),tS (mk b)]/\H=[]/\DsP N s u/\b.length<=1000000000/\K (.tu [.gs (aN (jQ (bW s N) s u.fs b).1),iA .i64 (jQ (bW s N) s u.fs b).2]) []
theorem EV {N:Nat} {s:Sc} {u:St} {b:List UInt8} {K:S->Hp->Prop} (hp:DsP N s u) (hb:b.length<=1000000000) (hK:K (.tu [.gs (aN (jQ (bW s N) s u.fs b).1),iA .i64 (jQ (bW s N) s u.fs b).2]) []) :
 QQ N [.va (.gs [.vl (.int .i64 s.ver),.fz (s.es.map aY),.fz (s.ss.map aJ)]),.va (.gs [.vl (.string u.nm),.fz (u.fs.map aR)]),tS (mk b)] [] K:=⟨s,u,b,rfl,rfl,hp,hb,hK⟩
noncomputable def F9 (N:Nat):b9:=[(53,.s AR),(54,.s A2),(55,.s (xF N)),(45,.s C6),(44,.f eqFn2)]
theorem ZC (N:Nat):sp (F9 N) 53=AR:=rfl
theorem XP (N:Nat):sp (F9 N) 54=A2:=rfl
theorem YY (N:Nat):sp (F9 N) 55=xF N:=rfl
theorem I2 (N:Nat):sp (F9 N) 45=C6:=rfl
theorem vK (N:Nat):iL (F9 N) 44=some eqFn2:=rfl
abbrev zvC:List C:=[.vl (.int .i64 0),.vl (.int .i64 0),.vl (.string (mk [])),.vl (.slice none 0 0),.vl (.slice none 0 0)]
theorem oG {N:Nat} (hD:Meets Tryz.prog 55 (xF N)):Meets Tryz.prog 30 (QQ N):=by
 refine aD (Γ:=F9 N) Tryz.func30 aGS 3 (by rw [Tryz.ntmps30]; decide) (aC TX (aC oR (aC hD (aC QK (aH EW (aB _)))))) (fun av H K h=>by obtain ⟨_,_,_,rfl,_⟩:=h; rfl) ?_
 rintro av H K ⟨s,u,b,rfl,rfl,⟨hd,hs,⟨t,htu⟩,hfd⟩,hb,hK⟩
 have hnst:=hd.ni.stOf t
 have huo:=fR hs t
 rw [htu] at hnst huo
 have hus:∀ f ∈ u.fs,TySm f.ty:=by
  rw [<-htu]
  unfold stOf
  cases hf:fS s.ss t.n with
  | none=>exact fun f hf=>(List.not_mem_nil hf).elim
  | some w=>exact (hs.sm w (fJ hf).1).2
 have hul:=hnst.l
 have fin:∀ (v:Vl) (e:Int) (R:Hp),jQ (bW s N) s u.fs b=(v,e)->W.Fin 0 K (.tu [.gs (aN v),iA .i64 e]) R:=fun v e R h=>by
  rw [h] at hK; exact .sel [] (by simp) (by simp) rfl (.done (by rw [aK] at hK ⊢; simpa [go_sem] using hK))
 have fin2:∀ (l:List (Int × Vl)),jQ (bW s N) s u.fs b=(.mk 6 0 (mk []) [] l,0)->K (.tu [.gs (aN (.mk 6 0 (mk []) [] l)),iA .i64 0]) []:=fun l h=>by rw [h] at hK; exact hK
 clear hK
 unfold jQ at fin fin2
 simp (maxSteps:=1000000) -dsimp only [go_sem,aI,aJ,YR,VL]
 refine aV (α:=Nat × Int × List UInt8 × List (Int × Vl)) (fun z=>[(2,tS (mk z.2.2.1)),(3,.va (.c1 (.pt 0 0))),(4,.va (.c1 (.pt 1 0))),(6,.va (.c1 (.pt 2 0))),(8,.va (.c1 (.mp 3))),(9,iS .i64 z.2.1)])
  (fun z=>[.cells [.vl (.int .i64 s.ver),.fz (s.es.map aY),.fz (s.ss.map aJ)] 25,.cells [.vl (.string u.nm),.fz (u.fs.map aR)] 48,.cells zvC 29,.map (.int .i64) (jO z.2.2.2) (lA z.2.2.2)])
  (fun z=>z.2.2.1.length<=z.1/\z.2.2.1.length<=b.length/\(∀ x ∈ z.2.2.2,x.1<=z.2.1/\VlOk x.2)/\lQ z.2.2.2 (eI (bW s N) s u.fs z.1 z.2.1 z.2.2.1)=eI (bW s N) s u.fs b.length 0 b) (fun z=>z.1) (b.length,0,b,[]) 4
  ⟨Nat.le_refl _,Nat.le_refl _,fun x h=>(by cases h),TC (RP _ _ _)⟩ ?_ ?_ ?_
 · simp -dsimp only [go_sem]<;>simp
 · simp -dsimp only [go_sem]<;>simp [jO,lA]
 rintro ⟨g,last,x,acc⟩ ⟨hg,hl,ha,ho⟩
 simp only at hg hl ha ho ⊢
 by_cases hb0:x=[]
 · subst hb0
   have e0:(([]:List UInt8) == [])=true:=rfl
   rw [wP,WZ,List.append_nil] at ho
   rw [<-ho] at fin2
   have fin2:=fin2 (jC s u.fs acc) rfl
   simp (maxSteps:=1000000) -dsimp only [go_sem,e0,Bool.not_true]
   refine aA rfl (.done ?_)
   simp (maxSteps:=1000000) -dsimp only [go_sem,wT]
   refine aA rfl (.done ?_)
   simp (maxSteps:=1000000) -dsimp only [go_sem,yC]
   clear ho hg hl e0
   refine dW (α:=Nat) (fun i=>[(3,.va (.c1 (.pt 0 0))),(6,.va (.c1 (.pt 2 0))),(8,.va (.c1 (.mp 3))),(16,.va (.c1 (.pt 4 0))),(92,.va (.c1 (.fz (u.fs.map aR)))),(93,iS .i64 u.fs.length),(94,iS .i64 i)])
    (fun i=>[.cells [.vl (.int .i64 s.ver),.fz (s.es.map aY),.fz (s.ss.map aJ)] 25,.cells [.vl (.string u.nm),.fz (u.fs.map aR)] 48,.cells zvC 29,.map (.int .i64) (jO acc) (lA acc),
      .cells [.vl (.int .i64 6),.vl (.int .i64 0),.vl (.string (mk [])),.vl (.slice none 0 0),.sl 5 (jC s (u.fs.take i) acc).length] 29,.row ((jC s (u.fs.take i) acc).map bC) 76 6])
    (fun i=>i<=u.fs.length) (fun i=>u.fs.length - i) (.nilc 4 4 76 6 _ _ rfl rfl (nQ 0 6 (Nat.zero_le _) ?_ ?_)) ?_
   · simp -dsimp only [go_sem]<;>simp
   · simp -dsimp only [go_sem]<;>simp [jC,gN]
   intro i hi
   have hli:=Nat.le_trans (FD s (u.fs.take i) acc) (List.length_take_le i u.fs)
   rcases bD i u.fs.length with hlt | hge
   · have hg:decide ((i:Int) < (u.fs.length:Int))=true:=by simp; omega
     have hx:u.fs[i]? = some u.fs[i]:=aT hlt
     have q2:=bB (row:=aR) hx
     have hfo:=(huo.fs _ (List.getElem_mem hlt)).ty
     have hnx:=MP (s:=s) (L:=acc) hx
     generalize u.fs[i]=f at *
     unfold D5 at hnx
     have hmi:=I4 f.num acc
     simp (maxSteps:=1000000) -dsimp only [go_sem,hg,↓q2,aR]
     refine ⟨by omega,aA rfl (.done ?_)⟩
     cases hv:cH acc f.num with
     | some y=>
      rw [hv] at hmi hnx
      have hmi:dV (jO acc) (lA acc) (.int .i64 f.num)=some (.gs [.vl (.int .i64 y.2.k),.vl (.int .i64 y.2.n),.vl (.string y.2.s),.fz (y.2.l.map aN),.fz (y.2.f.map bC)]):=by rw [hmi,<-aK]; rfl
      have hnx:jC s (u.fs.take (i + 1)) acc=jC s (u.fs.take i) acc ++ [(f.num,y.2)]:=hnx
      simp (maxSteps:=1000000) -dsimp only [go_sem,rC,hmi,R4]
      refine aA rfl (.done ?_)
      simp (maxSteps:=1000000) -dsimp only [go_sem,mY,Bool.not_true,Bool.false_and]
      refine aA rfl (.done ?_)
      simp (maxSteps:=1000000) -dsimp only [go_sem,qA,Bool.not_true]
      refine aA rfl (.done ?_)
      simp (maxSteps:=1000000) -dsimp only [go_sem,q9,List.take_succ_cons,List.take_zero,List.length_cons,List.length_nil]
      refine ⟨by omega,by omega,aF (i + 1) 6 (by omega) (by omega) ?_ ?_⟩
      · simp -dsimp only [go_sem]<;>simp
      · simp -dsimp only [go_sem,hnx]<;>simp [gN,hO]
     | none=>
      rw [hv] at hmi hnx
      have hmi:dV (jO acc) (lA acc) (.int .i64 f.num)=none:=hmi
      have hnx:jC s (u.fs.take (i + 1)) acc=jC s (u.fs.take i) acc ++ (bif f.opt then [] else [(f.num,zF s 23 f.ty)]):=hnx
      simp (maxSteps:=1000000) -dsimp only [go_sem,rC,hmi,R4]
      refine aA rfl (.done ?_)
      cases hopt:f.opt with
      | true=>
       rw [hopt,cond_true,List.append_nil] at hnx
       simp (maxSteps:=1000000) -dsimp only [go_sem,mY,Bool.not_false,Bool.true_and,hopt]
       refine ⟨by omega,aF (i + 1) 6 (by omega) (by omega) ?_ ?_⟩
       · simp -dsimp only [go_sem]<;>simp
       · simp -dsimp only [go_sem,hnx]<;>simp [gN]
      | false=>
       rw [hopt,cond_false] at hnx
       simp (maxSteps:=1000000) -dsimp only [go_sem,mY,Bool.not_false,Bool.true_and,hopt]
       refine aA rfl (.done ?_)
       simp (maxSteps:=1000000) -dsimp only [go_sem,qA,Bool.not_false]
       refine aA rfl (.done ?_)
       simp (maxSteps:=1000000) -dsimp only [go_sem,w7,I2,List.take_succ_cons,List.take_zero,List.drop_succ_cons,List.drop_zero,List.length_cons,List.length_nil]
       refine wB hs hfo ?_
       generalize zF s 23 f.ty=w at *
       simp (maxSteps:=1000000) -dsimp only [go_sem,aK w]
       refine aA rfl (.done ?_)
       simp (maxSteps:=1000000) -dsimp only [go_sem,q9,List.take_succ_cons,List.take_zero,List.length_cons,List.length_nil]
       refine ⟨by omega,by omega,aF (i + 1) 6 (by omega) (by omega) ?_ ?_⟩
       · simp -dsimp only [go_sem]<;>simp
       · simp -dsimp only [go_sem,hnx]<;>simp [gN,hO]
   · have hg:decide ((i:Int) < (u.fs.length:Int))=false:=by simp; omega
     rw [List.take_of_length_le hge] at *
     simp (maxSteps:=1000000) -dsimp only [go_sem,hg]
     refine .pub 5 _ _ _ rfl (.sel [] (by simp) (by simp [cQ]) rfl (.done ?_))
     rw [aK] at fin2
     simp -dsimp only [go_sem,cQ]
     simpa [Vl.k,Vl.n,Vl.s,Vl.l,Vl.f] using fin2
 · have e0:(x == [])=false:=by simpa using hb0
   obtain ⟨g,rfl⟩:∃ k,g=k + 1:=⟨g - 1,by have:=List.length_pos_iff.2 hb0; omega⟩
   rw [m1 hb0] at ho
   have hfl:=IP x last
   have hfo:=aD1 x last
   simp (maxSteps:=1000000) -dsimp only [go_sem,e0,Bool.not_false]
   refine aA rfl (.done ?_)
   simp (maxSteps:=1000000) -dsimp only [go_sem,EE,ZC]
   refine UZ (by omega) ?_
   generalize a7 x last=z at *
   obtain ⟨⟨a,c⟩,r,e⟩:=z
   simp only at ho hfl hfo ⊢
   simp (maxSteps:=1000000) -dsimp only [go_sem]
   refine aA rfl (.done ?_)
   cases c1:e != 0 with
   | true=>
    rw [c1,cond_true,vT acc c1] at ho
    rw [<-ho] at fin
    simp only [c1,cond_true] at fin
    simp (maxSteps:=1000000) -dsimp only [go_sem,uT,c1]
    exact fin v0 _ _ rfl
   | false=>
   rw [c1,cond_false] at ho
   have hlt:=hfl.2.2 (mS c1)
   obtain ⟨ha1,ha2,ha3⟩:last < a/\0<=a/\a<=2147483647:=by
    rcases hfo with h | ⟨_,h1,h2,h3,_⟩
    · exact absurd (mS c1) h
    · exact ⟨h1,h2,h3⟩
   simp (maxSteps:=1000000) -dsimp only [go_sem,uT,c1]
   refine aA rfl (.done ?_)
   simp (maxSteps:=1000000) -dsimp only [go_sem,B5]
   refine aA rfl (.done ?_)
   simp (maxSteps:=1000000) -dsimp only [go_sem,EJ,XP]
   refine wV (t:=u) huo hus ?_
   cases hf:fF u.fs a with
   | none=>
    rw [hf] at ho
    simp only [Option.isSome_none,Bool.not_false,cond_true] at ho
    simp (maxSteps:=1000000) -dsimp only [go_sem,Option.getD_none,Option.isSome_none,wJ]
    refine aA rfl (.done ?_)
    simp (maxSteps:=1000000) -dsimp only [go_sem,tC,Bool.not_false]
    refine aF (g,a,r,acc) 4 ⟨by simp only; omega,by simp only; omega,fun y hy=>⟨by have:=(ha y hy).1; simp only; omega,(ha y hy).2⟩,ho⟩ (by simp only; omega) ?_ ?_
    · simp -dsimp only [go_sem]<;>simp
    · simp -dsimp only [go_sem]<;>simp [gN]
   | some f=>
    obtain ⟨hfm,hfe⟩:=FZ hf
    have hfo:=(huo.fs f hfm).ty
    have hfv:=hnst.v f hfm
    have hfN:=hfd f hfm
    have hvo:=qC hs hd N f.ty c hfo hfv (by omega)
    have hnew:∀ y ∈ acc,y.1 < a:=fun y hy=>by have:=(ha y hy).1; omega
    rw [hf] at ho
    simp only [Option.isSome_some,Bool.not_true,cond_false,Option.getD_some] at ho
    unfold tN at ho
    simp (maxSteps:=1000000) -dsimp only [go_sem,Option.getD_some,Option.isSome_some,aR]
    refine aA rfl (.done ?_)
    simp (maxSteps:=1000000) -dsimp only [go_sem,tC,Bool.not_true]
    refine aA rfl (.done ?_)
    simp (maxSteps:=1000000) -dsimp only [go_sem,xC,YY]
    refine KU hd hs hfo hfv hfN (by omega) ?_
    generalize bW s N f.ty c=w at *
    obtain ⟨v,e2⟩:=w
    simp only at ho hvo ⊢
    simp (maxSteps:=1000000) -dsimp only [go_sem]
    refine aA rfl (.done ?_)
    cases d1:e2 != 0 with
    | true=>
     have d0:(e2 == 0)=false:=by simpa using zM d1
     rw [d1,cond_true,d1,cond_true,vT acc d1] at ho
     rw [<-ho] at fin
     simp only [d1,cond_true] at fin
     simp (maxSteps:=1000000) -dsimp only [go_sem,mZ,gK,d0,Bool.false_and]
     refine aA rfl (.done ?_)
     simp (maxSteps:=1000000) -dsimp only [go_sem,gP,d1]
     exact fin v0 _ _ rfl
    | false=>
     have d0:=mS d1
     subst d0
     have e00:((0:Int) == 0)=true:=rfl
     have e20:((2:Int) != 0)=true:=rfl
     rw [d1,cond_false] at ho
     have hpk:=T8 hnew v
     have hpv:=U4 hnew v
     rw [aK v] at hpv
     have bad:(!f.opt && (cU v (zF s 23 f.ty) && (f.ty.k != 6 || c == [])))=true->∀ R:Hp,W.Fin 0 K (.tu [.gs (aN v0),iA .i64 2]) R:=fun h R=>by
      rw [h,cond_true,e20,cond_true,vT acc e20] at ho
      rw [<-ho] at fin
      exact fin v0 2 R rfl
     have good:(!f.opt && (cU v (zF s 23 f.ty) && (f.ty.k != 6 || c == [])))=false->lQ (acc ++ [(a,v)]) (eI (bW s N) s u.fs g a r)=eI (bW s N) s u.fs b.length 0 b:=fun h=>by
      rw [h,cond_false,d1,cond_false,Z7] at ho
      exact ho
     have hacc:∀ y ∈ acc ++ [(a,v)],y.1<=a/\VlOk y.2:=fun y hy=>by
      rcases List.mem_append.1 hy with hy | hy
      · exact ⟨by have:=hnew y hy; omega,(ha y hy).2⟩
      · obtain rfl:=List.mem_singleton.1 hy; exact ⟨Int.le_refl _,hvo⟩
     clear ho fin fin2
     cases hopt:f.opt with
     | true=>
      rw [hopt] at good
      have good:=good rfl
      simp (maxSteps:=1000000) -dsimp only [go_sem,mZ,gK,e00,hopt,Bool.not_true,Bool.true_and,Bool.false_and]
      refine aA rfl (.done ?_)
      simp (maxSteps:=1000000) -dsimp only [go_sem,gP,d1]
      refine aA rfl (.done ?_)
      simp (maxSteps:=1000000) -dsimp only [go_sem,mO,hpk,hpv]
      refine aF (g,a,r,acc ++ [(a,v)]) 4 ⟨by simp only; omega,by simp only; omega,hacc,good⟩ (by simp only; omega) ?_ ?_
      · simp -dsimp only [go_sem]<;>simp
      · simp -dsimp only [go_sem]<;>simp [gN]
     | false=>
      rw [hopt] at good bad
      simp only [Bool.not_false,Bool.true_and] at good bad
      have hzo:=AJ hs 23 f.ty hfo
      obtain ⟨z,hz⟩:∃ z,z=zF s 23 f.ty:=⟨_,rfl⟩
      rw [<-hz] at good bad hzo
      simp (maxSteps:=1000000) -dsimp only [go_sem,mZ,e00,hopt,Bool.not_false,Bool.not_true,Bool.true_and,Bool.false_and,I2]
      refine U6 hs hfo hz ?_
      clear hz
      have k1:=c9 hvo
      have k2:=f7 v
      have kz1:=c9 hzo
      have kz2:=f7 z
      cases heq:cU v z with
      | false=>
       rw [heq] at good
       have good:=good rfl
       simp (maxSteps:=1000000) -dsimp only [go_sem,gK,vK,k1,k2,kz1,kz2,heq,Bool.true_and,Bool.false_and]
       refine aA rfl (.done ?_)
       simp (maxSteps:=1000000) -dsimp only [go_sem,gP,d1]
       refine aA rfl (.done ?_)
       simp (maxSteps:=1000000) -dsimp only [go_sem,mO,hpk,hpv]
       refine aF (g,a,r,acc ++ [(a,v)]) 4 ⟨by simp only; omega,by simp only; omega,hacc,good⟩ (by simp only; omega) ?_ ?_
       · simp -dsimp only [go_sem]<;>simp
       · simp -dsimp only [go_sem]<;>simp [gN]
      | true=>
       rw [heq] at good bad
       simp only [Bool.true_and] at good bad
       cases h6:f.ty.k != 6 with
       | true=>
        rw [h6] at bad
        have bad:=bad rfl
        simp (maxSteps:=1000000) -dsimp only [go_sem,gK,vK,k1,k2,kz1,kz2,heq,h6,Bool.true_and,Bool.true_or]
        refine aA rfl (.done ?_)
        simp (maxSteps:=1000000) -dsimp only [go_sem,gP,e20]
        exact bad _
       | false=>
        rw [h6] at good bad
        simp only [Bool.false_or] at good bad
        cases hc:c == [] with
        | true=>
         have bad:=bad hc
         simp (maxSteps:=1000000) -dsimp only [go_sem,gK,vK,k1,k2,kz1,kz2,heq,h6,hc,Bool.true_and,Bool.false_or]
         refine aA rfl (.done ?_)
         simp (maxSteps:=1000000) -dsimp only [go_sem,gP,e20]
         exact bad _
        | false=>
         have good:=good hc
         simp (maxSteps:=1000000) -dsimp only [go_sem,gK,vK,k1,k2,kz1,kz2,heq,h6,hc,Bool.true_and,Bool.false_or]
         refine aA rfl (.done ?_)
         simp (maxSteps:=1000000) -dsimp only [go_sem,gP,d1]
         refine aA rfl (.done ?_)
         simp (maxSteps:=1000000) -dsimp only [go_sem,mO,hpk,hpv]
         refine aF (g,a,r,acc ++ [(a,v)]) 4 ⟨by simp only; omega,by simp only; omega,hacc,good⟩ (by simp only; omega) ?_ ?_
         · simp -dsimp only [go_sem]<;>simp
         · simp -dsimp only [go_sem]<;>simp [gN]
def aAD (N:Nat):W.Spec:=fun av H K=>∃ v:Vl,av=[.va (.gs (aN v))]/\H=[]/\VlOk v/\v.h<=N/\K (.va (.gs (aN v))) []
theorem BE {N:Nat} {v:Vl} {K:S->Hp->Prop} (h1:VlOk v) (h2:v.h<=N) (hK:K (.va (.gs [.vl (.int .i64 v.k),.vl (.int .i64 v.n),.vl (.string v.s),.fz (v.l.map aN),.fz (v.f.map bC)])) []) :
 aAD N [.va (.gs [.vl (.int .i64 v.k),.vl (.int .i64 v.n),.vl (.string v.s),.fz (v.l.map aN),.fz (v.f.map bC)])] [] K:=⟨v,by rw [aK],rfl,h1,h2,by rw [aK]; exact hK⟩
theorem GM:∀ N,Meets Tryz.prog 81 (aAD N)
 | 0=>⟨by kernel_rfl,by rintro xs vs E ro w K _ _ _ ⟨v,_,_,_,h,_⟩; have:=v.h_pos; omega⟩
 | N + 1=>by
  refine aD Tryz.func81 aHE 1 (by rw [Tryz.ntmps81]; decide) (aC (GM N) (aB _)) (fun av H K h=>by obtain ⟨_,rfl,_⟩:=h; rfl) ?_
  rintro av H K ⟨v,rfl,rfl,hv,hh,hK⟩
  have hll:=hv.ll
  have hlf:=hv.lf
  rw [aK] at hK
  simp (maxSteps:=1000000) -dsimp only [go_sem,aK v,aAB,ZM]
  refine dW (α:=Nat) (fun i=>[(1,.va (.c1 (.pt 0 0))),(2,.va (.c1 (.pt 1 0))),(4,.va (.c1 (.fz (v.f.map bC)))),(15,.va (.c1 (.fz (v.l.map aN)))),(16,iS .i64 v.l.length),(17,iS .i64 i)])
   (fun i=>[.cells [.vl (.int .i64 v.k),.vl (.int .i64 v.n),.vl (.string v.s),.sl 2 i,.vl (.slice none 0 0)] 29,.cells [.vl (.int .i64 0),.vl (.int .i64 0),.vl (.string (mk [])),.vl (.slice none 0 0),.vl (.slice none 0 0)] 29,.row ((v.l.take i).map aN) 29 5])
   (fun i=>i<=v.l.length) (fun i=>v.l.length - i) (.nilc 0 3 29 5 [.vl (.int .i64 v.k),.vl (.int .i64 v.n),.vl (.string v.s),.vl (.slice none 0 0),.vl (.slice none 0 0)] 29 rfl rfl (nQ 0 3 (Nat.zero_le _) ?_ ?_)) ?_
  · simp -dsimp only [go_sem]<;>simp
  · simp -dsimp only [go_sem]<;>simp
  intro i hi
  have hz:(v.l.take i).length=i:=by rw [List.length_take]; omega
  rcases bD i v.l.length with hlt | hge
  · have hg:decide ((i:Int) < (v.l.length:Int))=true:=by simp; omega
    have hx:v.l[i]? = some v.l[i]:=aT hlt
    have q1:=lP hx
    have hxm:=List.getElem_mem hlt
    have hxo:=hv.l _ hxm
    have hxh:v.l[i].h<=N:=by have:=Vl.h_l hxm; omega
    have htk:=eJ hx
    generalize v.l[i]=x at *
    simp (maxSteps:=1000000) -dsimp only [go_sem,hg,↓q1]
    refine ⟨by omega,BE hxo hxh ?_⟩
    simp (maxSteps:=1000000) -dsimp only [go_sem]
    refine ⟨hz,by omega,by omega,aF (i + 1) 3 (by omega) (by omega) ?_ ?_⟩
    · simp -dsimp only [go_sem]<;>simp
    · simp -dsimp only [go_sem,htk]<;>simp [aK x]
  · have hg:decide ((i:Int) < (v.l.length:Int))=false:=by simp; omega
    obtain rfl:i=v.l.length:=by omega
    rw [List.take_length]
    simp (maxSteps:=1000000) -dsimp only [go_sem,hg]
    clear hi hge hg hz
    refine dW (α:=Nat) (fun i=>[(1,.va (.c1 (.pt 0 0))),(2,.va (.c1 (.pt 1 0))),(29,.va (.c1 (.fz (v.f.map bC)))),(30,iS .i64 v.f.length),(31,iS .i64 i)])
     (fun i=>[.cells [.vl (.int .i64 v.k),.vl (.int .i64 v.n),.vl (.string v.s),.sl 2 v.l.length,.sl 3 i] 29,.cells [.vl (.int .i64 0),.vl (.int .i64 0),.vl (.string (mk [])),.vl (.slice none 0 0),.vl (.slice none 0 0)] 29,.row (v.l.map aN) 29 5,.row ((v.f.take i).map bC) 76 6])
     (fun i=>i<=v.f.length) (fun i=>v.f.length - i) (.nilc 0 4 76 6 [.vl (.int .i64 v.k),.vl (.int .i64 v.n),.vl (.string v.s),.sl 2 v.l.length,.vl (.slice none 0 0)] 29 rfl rfl (nQ 0 4 (Nat.zero_le _) ?_ ?_)) ?_
    · simp -dsimp only [go_sem]<;>simp
    · simp -dsimp only [go_sem]<;>simp
    intro i hi
    have hz:(v.f.take i).length=i:=by rw [List.length_take]; omega
    rcases bD i v.f.length with hlt | hge
    · have hg:decide ((i:Int) < (v.f.length:Int))=true:=by simp; omega
      have hx:v.f[i]? = some v.f[i]:=aT hlt
      have q1:=g4 hx
      have hxm:=List.getElem_mem hlt
      have hxo:=hv.f _ hxm
      have hxh:v.f[i].2.h<=N:=by have:=Vl.h_f hxm; omega
      have htk:=eJ hx
      generalize v.f[i]=x at *
      simp (maxSteps:=1000000) -dsimp only [go_sem,hg,↓q1,List.take_succ_cons,List.take_zero,List.length_cons,List.length_nil]
      refine ⟨by omega,BE hxo hxh ?_⟩
      simp (maxSteps:=1000000) -dsimp only [go_sem]
      refine ⟨hz,by omega,by omega,aF (i + 1) 4 (by omega) (by omega) ?_ ?_⟩
      · simp -dsimp only [go_sem]<;>simp
      · simp -dsimp only [go_sem,htk]<;>simp [hO x]
    · have hg:decide ((i:Int) < (v.f.length:Int))=false:=by simp; omega
      obtain rfl:i=v.f.length:=by omega
      rw [List.take_length]
      simp (maxSteps:=1000000) -dsimp only [go_sem,hg]
      refine .pub 2 _ _ _ rfl (.pub 3 _ _ _ rfl (.sel [] (by simp) (by simp [cQ]) rfl (.done ?_)))
      simp -dsimp only [go_sem,cQ]
      simpa using hK
abbrev W6:S:=.va (.c1 (.fn 118 [(false,[.pt 0 0])]))
abbrev nN (k:Int):B:=.cells [.vl (.int .i64 k)] 3
def OF:W.Spec:=fun av H K=>∃ (x:Int × Vl) (k:Int),av=[.va (.gs (GS x)),.va (.c1 (.pt 0 0))]/\H=[nN k]/\K (bS (x.1 == k)) [nN k]
theorem TF {x:Int × Vl} {k:Int} {K:S->Hp->Prop} (hK:K (bS (x.1 == k)) [nN k]):OF [.va (.gs (GS x)),.va (.c1 (.pt 0 0))] [nN k] K:=⟨x,k,rfl,rfl,hK⟩
theorem UE:Meets Tryz.prog 118 OF:=by
 refine aD Tryz.func118 aC6 2 (by rw [Tryz.ntmps118]; decide) (aB _) (fun av H K h=>by obtain ⟨_,_,rfl,_⟩:=h; rfl) ?_
 rintro av H K ⟨x,k,rfl,rfl,hK⟩
 simp -dsimp only [go_sem,GS,O7,RB]
 exact .sel [0] (by simp) (by simp) rfl (.done (by simpa [go_sem] using hK))
def XT:W.Spec:=fun av H K=>∃ (l:List (Int × Vl)) (k:Int),av=[.va (.c1 (.fz (l.map bC))),W6]/\H=[nN k]/\l.length<=9223372036854775807/\K (iS .i64 (gS k l 0)) [nN k]
theorem ZB {l:List (Int × Vl)} {k:Int} {K:S->Hp->Prop} (h:l.length<=9223372036854775807) (hK:K (iS .i64 (gS k l 0)) [nN k]):XT [.va (.c1 (.fz (l.map bC))),W6] [nN k] K:=⟨l,k,rfl,rfl,h,hK⟩
theorem TL:Meets Tryz.prog 117 XT:=by
 refine aD Tryz.func117 QL 2 (by rw [Tryz.ntmps117]; decide) (aC UE (aB _)) (fun av H K h=>by obtain ⟨_,_,rfl,_⟩:=h; rfl) ?_
 rintro av H K ⟨l,k,rfl,rfl,hl,hK⟩
 simp -dsimp only [go_sem,H4,HJ]
 refine aV (α:=Nat) (fun i=>[(0,.va (.c1 (.fz (l.map bC)))),(1,W6),(7,iS .i64 l.length),(8,iS .i64 i)]) (fun _=>[nN k])
  (fun i=>i<=l.length/\gS k (l.drop i) i=gS k l 0) (fun i=>l.length - i) 0 1 ⟨Nat.zero_le _,rfl⟩ ?_ ?_ ?_
 · simp -dsimp only [go_sem]<;>simp
 · simp -dsimp only [go_sem]<;>simp
 rintro i ⟨hi,ho⟩
 rcases bD i l.length with hlt | hge
 · have hg:decide ((i:Int) < (l.length:Int))=true:=by simp; omega
   have hx:l[i]? = some l[i]:=aT hlt
   have q2:=g4 hx
   rw [List.drop_eq_getElem_cons hlt,gS] at ho
   generalize l[i]=y at *
   simp -dsimp only [go_sem,hg,↓q2]
   refine ⟨by omega,TF ?_⟩
   cases hc:y.1 == k with
   | true=>
    rw [hc,bL] at ho
    simp -dsimp only [go_sem]
    exact .sel [0] (by simp) (by simp) rfl (.done (by simpa [go_sem,ho] using hK))
   | false=>
    rw [hc,aW] at ho
    simp -dsimp only [go_sem]
    refine ⟨by omega,aF (i + 1) 1 ⟨by omega,ho⟩ (by omega) ?_ ?_⟩
    · simp -dsimp only [go_sem]<;>simp
    · simp -dsimp only [go_sem]<;>simp
 · have hg:decide ((i:Int) < (l.length:Int))=false:=by simp; omega
   have:l.drop i=[]:=List.drop_eq_nil_iff.2 (by omega)
   rw [this] at ho
   simp -dsimp only [go_sem,hg]
   exact .sel [0] (by simp) (by simp) rfl (.done (by rw [show gS k l 0=-1 from ho.symm] at hK; simpa [go_sem] using hK))
theorem BV (k:Int):∀ (l:List (Int × Vl)) (i:Nat),(cH l k=none/\gS k l i=-1)\/(∃ j x,l[j]? = some x/\cH l k=some x/\gS k l i=((i + j:Nat):Int))
 | [],_=>.inl ⟨rfl,rfl⟩
 | y :: l,i=>by
  rw [gS]
  unfold cH
  rw [List.find?_cons]
  by_cases h:y.1=k
  · rw [show (y.1 == k)=true by simpa using h,decide_eq_true h]
    exact .inr ⟨0,y,rfl,rfl,rfl⟩
  · rw [show (y.1 == k)=false by simpa using h,decide_eq_false h,cond_false]
    rcases BV k l (i + 1) with ⟨h1,h2⟩ | ⟨j,x,h1,h2,h3⟩
    · exact .inl ⟨h1,h2⟩
    · exact .inr ⟨j + 1,x,by simpa using h1,h2,by rw [h3]; congr 1; omega⟩
def AO:List S->Prop:=fun av=>match av with
 | [.va (.gs r),.va (.c1 (.vl (.int .i64 _)))]=>kV r/\(C.vv r).k=6
 | _=>False
theorem nL {av:List S} (h:AO av):∃ (v:Vl) (k:Int),av=[.va (.gs (aN v)),iS .i64 k]/\VlOk v/\v.k=6:=by
 unfold AO at h
 split at h
 · obtain ⟨⟨v,rfl,h1⟩,h2⟩:=h; rw [fK] at h2; exact ⟨v,_,rfl,h1,h2⟩
 · exact h.elim
noncomputable def RE:List S->A:=fun av=>match av with
 | [.va (.gs r),.va (.c1 (.vl (.int .i64 k)))]=>iA .i64 (gS k (C.vv r).f 0)
 | _=>.gs []
noncomputable def vxFn:Fun:=⟨AO,RE,fun av h=>by obtain ⟨v,k,rfl,_⟩:=nL h; trivial⟩
theorem L1:∀ av H K,vxFn.sp av H K->av.length=2:=fun av H K h=>by obtain ⟨v,k,rfl,_⟩:=nL h.1.1; rfl
attribute [go_sem] vxFn AO RE
theorem UX:Meets Tryz.prog 80 vxFn.sp:=by
 refine aD Tryz.func80 aHS 2 (by rw [Tryz.ntmps80]; decide) (aC TL (aB _)) L1 ?_
 rintro av H K ⟨⟨h,rfl⟩,hK⟩
 obtain ⟨v,k,rfl,hv,h6⟩:=nL h
 have hK:K (iS .i64 (gS k (C.vv (aN v)).f 0)) []:=hK
 rw [fK] at hK
 clear h
 have g6:(v.k != 6)=false:=by rw [h6]; rfl
 have hl:=hv.lf
 simp (maxSteps:=1000000) -dsimp only [go_sem,aK v,X6,W4,g6]
 refine ZB (by omega) ?_
 simp (maxSteps:=1000000) -dsimp only [go_sem]
 exact .sel [] (by simp) (by simp) rfl (.done (by simpa [go_sem] using hK))
theorem NW (N:Nat):Meets Tryz.prog 43 (fun av H K=>∃ (v:Vl) (k:Int),av=[.va (.gs (aN v)),iS .i64 k]/\H=[]/\VlOk v/\v.k=6/\v.h<=N/\K (.tu [.gs (aN (((cH v.f k).map (·.2)).getD default)),bA (cH v.f k).isSome]) []):=by
 refine aD Tryz.func43 aJ7 2 (by rw [Tryz.ntmps43]; decide) (aH UX (aC (GM N) (aB _))) (fun av H K h=>by obtain ⟨_,_,rfl,_⟩:=h; rfl) ?_
 rintro av H K ⟨v,k,rfl,rfl,hv,h6,hh,hK⟩
 have k1:=c9 hv
 have k2:=f7 v
 have k3:(v.k=6)=True:=eq_true h6
 have hl:=hv.lf
 rcases BV k v.f 0 with ⟨e1,e2⟩ | ⟨j,x,e0,e1,e2⟩
 · rw [e1] at hK
   have g0:decide ((-1:Int) < 0)=true:=rfl
   simp (maxSteps:=1000000) -dsimp only [go_sem,aK v,MT,MW,k1,k2,k3,e2]
   refine aA rfl (.done ?_)
   simp (maxSteps:=1000000) -dsimp only [go_sem,uP,g0]
   exact .sel [] (by simp) (by simp) rfl (.done (by simpa [go_sem,GB] using hK))
 · rw [e1] at hK
   rw [Nat.zero_add] at e2
   have hj:=(a8.1 e0).1
   have g0:decide (((j:Nat):Int) < 0)=false:=by simp
   have q2:=g4 e0
   have hxm:=bX e0
   simp (maxSteps:=1000000) -dsimp only [go_sem,aK v,MT,MW,k1,k2,k3,e2]
   refine aA rfl (.done ?_)
   simp (maxSteps:=1000000) -dsimp only [go_sem,uP,g0,↓q2,List.take_succ_cons,List.take_zero,List.length_cons,List.length_nil]
   refine ⟨by omega,BE (hv.f x hxm) (by have:=Vl.h_f hxm; omega) ?_⟩
   simp (maxSteps:=1000000) -dsimp only [go_sem]
   exact .sel [] (by simp) (by simp) rfl (.done (by simpa [go_sem,aK x.2] using hK))
theorem TK:Meets Tryz.prog 43 VO:=dH (0:Nat) NW fun av H K h=>by
 obtain ⟨v,k,rfl,e,hv,h6,hK⟩:=h
 exact ⟨v.h,v,k,rfl,e,hv,h6,Nat.le_refl _,hK⟩
def AZ (P:Sc->St->Vl->Prop):List S->Prop:=fun av=>match av with
 | [.va (.gs r),.va (.gs q),.va (.gs p)]=>iV r/\N7 q/\kV p/\P (C.sc r) (C.st q) (C.vv p)
 | _=>False
theorem n9 {P:Sc->St->Vl->Prop} {av:List S} (h:AZ P av):∃ s t v,av=[.va (.gs (aI s)),.va (.gs (aJ t)),.va (.gs (aN v))]/\s.fit/\t.ok/\VlOk v/\P s t v:=by
 unfold AZ at h
 split at h
 · obtain ⟨⟨s,rfl,hs⟩,⟨t,rfl,ht⟩,⟨v,rfl,hv⟩,h⟩:=h
   rw [jD,B8,fK] at h
   exact ⟨s,t,v,rfl,hs,ht,hv,h⟩
 · exact h.elim
noncomputable def ON (f:Sc->St->Vl->Value):List S->A:=fun av=>match av with
 | [.va (.gs r),.va (.gs q),.va (.gs p)]=>.c1 (.vl (f (C.sc r) (C.st q) (C.vv p)))
 | _=>.gs []
noncomputable def BI (P:Sc->St->Vl->Prop) (f:Sc->St->Vl->Value):Fun:=⟨AZ P,ON f,fun av h=>by obtain ⟨_,_,_,rfl,_⟩:=n9 h; trivial⟩
theorem ML {P:Sc->St->Vl->Prop} {f:Sc->St->Vl->Value}:∀ av H K,(BI P f).sp av H K->av.length=3:=fun av H K h=>by obtain ⟨_,_,_,rfl,_⟩:=n9 h.1.1; rfl
attribute [go_sem] BI AZ ON
theorem T3 {P:Sc->St->Vl->Prop} {f:Sc->St->Vl->Value} {av:List S} {H:Hp} {K:S->Hp->Prop} (h:(BI P f).sp av H K) :
 ∃ s t v,av=[.va (.gs (aI s)),.va (.gs (aJ t)),.va (.gs (aN v))]/\H=[]/\s.fit/\t.ok/\VlOk v/\P s t v/\K (.va (.c1 (.vl (f s t v)))) []:=by
 obtain ⟨⟨h,rfl⟩,hK⟩:=h
 obtain ⟨s,t,v,rfl,hs,ht,hv,hp⟩:=n9 h
 have:(BI P f).val [.va (.gs (aI s)),.va (.gs (aJ t)),.va (.gs (aN v))]=.c1 (.vl (f s t v)):=by simp -dsimp only [go_sem]
 rw [this] at hK
 exact ⟨s,t,v,rfl,rfl,hs,ht,hv,hp,hK⟩
theorem Y9 (t:St):C.st [.vl (.string t.nm),.fz (t.fs.map aR)]=t:=B8 t
theorem KW {t:St} (h:t.ok):N7 [.vl (.string t.nm),.fz (t.fs.map aR)]:=S8 h
def A6:List S->Prop:=fun xs=>match xs with
 | [.va (.c1 (.vl (.string s)))]=>(bl s).length<=9223372036854775797
 | _=>False
theorem nD {xs:List S} (h:A6 xs):∃ s,xs=[tS s]/\(bl s).length<=9223372036854775797:=by
 unfold A6 at h
 split at h
 · exact ⟨_,rfl,h⟩
 · exact h.elim
def OA (f:List UInt8->Value):Fun:=⟨A6,B9 f,fun xs h=>by obtain ⟨s,rfl,_⟩:=nD h; trivial⟩
theorem LW {f:List UInt8->Value}:∀ xs H K,(OA f).sp xs H K->xs.length=1:=fun xs H K h=>by obtain ⟨s,rfl,_⟩:=nD h.1.1; rfl
attribute [go_sem] OA A6
theorem GU:Meets Tryz.prog 47 (OA fun l=>.string (mk (lK l))).sp:=by
 refine aD Tryz.func47 aG1 1 (by rw [Tryz.ntmps47]; decide) (aH u1 (aB _)) LW ?_
 rintro av H K ⟨⟨h,rfl⟩,hK⟩
 obtain ⟨s,rfl,hs⟩:=nD h
 have hK:K (tS (mk (gO (bl s).length ++ bl s))) []:=hK
 have hl:=iN (bl s).length
 simp (maxSteps:=1000000) -dsimp only [go_sem,YF,aAZ,oU,pL,iE]
 exact ⟨by omega,.done hK⟩
structure EsP (N:Nat) (s:Sc) (u:St) (v:Vl):Prop where
 d:Dg s
 n:N<=8
 h:∀ x ∈ v.f,x.2.h<=N
 t:∃ t:Ty,TyOk t/\(t.k == 6)=true/\stOf s t=u/\cT s t v=0
def K9 (N:Nat) (s:Sc) (t:Ty) (v:Vl):Prop:=Dg s/\N<=8/\v.h<=N/\cT s t v=0
noncomputable def yH (N:Nat):Fun:=gZ (K9 N) fun s t v=>.string (mk (cG s N t v))
noncomputable def G6 (N:Nat):Fun:=BI (EsP N) fun s u v=>.string (mk (eD (cG s N) s u.fs v.f))
theorem N1 (R:Ty->Vl->List UInt8) (s:Sc) (fs:List Fl) (F:List (Int × Vl)) (i:Nat):(eD R s (fs.take i) F).length<=(eD R s fs F).length:=by
 have h:eD R s fs F=eD R s (fs.take i) F ++ eD R s (fs.drop i) F:=by unfold eD; rw [<-List.flatMap_append,List.take_append_drop]
 rw [h,List.length_append]; omega
theorem MK {R:Ty->Vl->List UInt8} {s:Sc} {fs:List Fl} {F:List (Int × Vl)} {i:Nat} {g:Fl} (h:fs[i]? = some g):eD R s (fs.take (i + 1)) F=eD R s (fs.take i) F ++ oX R s F g:=by
 unfold eD; rw [eJ h,List.flatMap_append]; simp
theorem UL {s:Sc} (hd:Dg s) {N:Nat} (hN:N<=8) {t:Ty} {v:Vl} (h6:(t.k == 6)=true) (h0:cT s t v=0) (hh:∀ x ∈ v.f,x.2.h<=N):(eD (cG s N) s (stOf s t).fs v.f).length<=4000000000000000000:=by
 obtain ⟨_,_,_,_,h2⟩:=(j6 h0).st h6
 have hl:=(hd.ni.stOf t).l
 have hB:=l7 hN
 have h5:(eD (cG s N) s (stOf s t).fs v.f).length<=(stOf s t).fs.length * (20 + eB N):=mQ fun g hg=>GP hd hg fun x hx=>gR hd N _ x.2 (hh x hx) (h2 x hx)
 have h6:(stOf s t).fs.length * (20 + eB N)<=16 * (20 + eB N):=Nat.mul_le_mul_right _ hl
 omega
theorem oN {N:Nat} (hE:Meets Tryz.prog 48 (yH N).sp):Meets Tryz.prog 26 (G6 N).sp:=by
 refine aD Tryz.func26 aKJ 3 (by rw [Tryz.ntmps26]; decide) (aC TK (aC QK (aH EW (aH u1 (aH hE (aH GU (aB _))))))) ML ?_
 intro av H K h
 obtain ⟨s,u,v,rfl,rfl,hs,hu,hv,⟨hd,hN,hh,t,hto,h6,htu,h0⟩,hK⟩:=T3 h
 clear h
 have hlen:=UL hd hN h6 h0 hh
 have hc:=j6 h0
 obtain ⟨_,_,_,_,hck⟩:=hc.st h6
 have hkk:v.k=6:=by rw [hc.kk]; exact eq_of_beq h6
 have hnst:=hd.ni.stOf t
 have hul:=hnst.l
 have hfl:∀ g ∈ u.fs,kW (stOf s t) g.num=g:=fun g hg=>qM hd (by rw [htu]; exact hg)
 rw [htu] at hlen hck hnst hfl hul
 have k6:=eT hs
 have k7:=jL s
 simp (maxSteps:=1000000) -dsimp only [go_sem,aI,aJ,aK v,YO,aAE]
 refine aV (α:=Nat) (fun i=>[(3,.va (.c1 (.pt 0 0))),(5,.va (.c1 (.pt 2 0))),(7,tS (mk (eD (cG s N) s (u.fs.take i) v.f))),(13,.va (.c1 (.fz (u.fs.map aR)))),(14,iS .i64 u.fs.length),(15,iS .i64 i)])
  (fun _=>[.cells [.vl (.int .i64 s.ver),.fz (s.es.map aY),.fz (s.ss.map aJ)] 25,.cells [.vl (.string u.nm),.fz (u.fs.map aR)] 48,.cells [.vl (.int .i64 v.k),.vl (.int .i64 v.n),.vl (.string v.s),.fz (v.l.map aN),.fz (v.f.map bC)] 29])
  (fun i=>i<=u.fs.length) (fun i=>u.fs.length - i) 0 3 (Nat.zero_le _) ?_ ?_ ?_
 · simp -dsimp only [go_sem]<;>simp [eD]
 · simp -dsimp only [go_sem]<;>simp
 intro i hi
 rcases bD i u.fs.length with hlt | hge
 · have hg:decide ((i:Int) < (u.fs.length:Int))=true:=by simp; omega
   have hx:u.fs[i]? = some u.fs[i]:=aT hlt
   have q2:=bB (row:=aR) hx
   have hgm:=List.getElem_mem hlt
   have hgo:=(hu.fs _ hgm).ty
   have hnx:=MK (R:=cG s N) (s:=s) (F:=v.f) hx
   have hl1:=N1 (cG s N) s u.fs v.f (i + 1)
   have hgf:=hfl _ hgm
   generalize u.fs[i]=g at *
   rw [hnx] at hl1
   rw [CN] at hnx hl1
   unfold lD at hnx hl1
   simp (maxSteps:=1000000) -dsimp only [go_sem,hg,↓q2,aR]
   refine ⟨by omega,WF hv hkk ?_⟩
   cases hvf:cH v.f g.num with
   | none=>
    rw [hvf] at hnx
    have hnx:eD (cG s N) s (u.fs.take (i + 1)) v.f=eD (cG s N) s (u.fs.take i) v.f:=by rw [hnx]; exact List.append_nil _
    simp (maxSteps:=1000000) -dsimp only [go_sem,Option.map_none,Option.getD_none,Option.isSome_none,GB]
    refine aA rfl (.done ?_)
    simp (maxSteps:=1000000) -dsimp only [go_sem,oY,Bool.false_and,Bool.not_false,Bool.not_true,Bool.true_or]
    refine ⟨by omega,aF (i + 1) 3 (by omega) (by omega) ?_ ?_⟩
    · simp -dsimp only [go_sem,hnx]<;>simp
    · simp -dsimp only [go_sem]<;>simp
   | some x=>
    obtain ⟨hxm,hxe⟩:=qT hvf
    have hxo:=hv.f x hxm
    have hxc:=hck x hxm
    rw [hxe,hgf] at hxc
    have hxh:=hh x hxm
    rw [hvf] at hnx hl1
    simp only [Option.isSome_some,Bool.not_true,Bool.false_or,Option.map_some,Option.getD_some] at hnx hl1 ⊢
    have k1:=c9 hxo
    have k2:=f7 x.2
    have k4:=iY hgo
    have k5:=pF g.ty
    have k8:K9 N s g.ty x.2=True:=eq_true ⟨hd,hN,hxh,hxc⟩
    have hvl:=iN g.num
    have k9:=gR hd N g.ty x.2 hxh hxc
    have k10:=l7 hN
    have k11:=mJ (cG s N g.ty x.2)
    have k12:((cG s N g.ty x.2).length<=9223372036854775797)=True:=eq_true (by omega)
    simp (maxSteps:=1000000) -dsimp only [go_sem,aK x.2]
    refine aA rfl (.done ?_)
    cases ho:g.opt with
    | true=>
     simp (maxSteps:=1000000) -dsimp only [go_sem,oY,Bool.true_and,Bool.false_and,Bool.not_false,Bool.not_true,Bool.or_false,Bool.false_or]
     rw [ho] at hnx hl1
     simp only [Bool.not_true,Bool.false_and,cond_false,List.length_append] at hnx hl1
     refine aA rfl (.done ?_)
     simp (maxSteps:=1000000) -dsimp only [go_sem,vH,yH,oU,pL,iE,k1,k2,k4,k5,k6,k7,k8,k12,List.take_succ_cons,List.take_zero,List.length_cons,List.length_nil]
     refine ⟨by omega,by omega,by omega,aF (i + 1) 3 (by omega) (by omega) ?_ ?_⟩
     · simp -dsimp only [go_sem,hnx,k2,k5,k7,iE]<;>simp
     · simp -dsimp only [go_sem]<;>simp
    | false=>
     rw [ho] at hnx hl1
     simp only [Bool.not_false,Bool.true_and] at hnx hl1
     simp (maxSteps:=1000000) -dsimp only [go_sem,oY,Bool.true_and,Bool.false_and,Bool.not_false,Bool.not_true,Bool.or_false,Bool.false_or]
     refine wB hs hgo ?_
     have hzo:=AJ hs 23 g.ty hgo
     generalize zF s 23 g.ty=z at *
     have kz1:=c9 hzo
     have kz2:=f7 z
     cases he:cU x.2 z with
     | true=>
      rw [he,cond_true,List.append_nil] at hnx
      simp (maxSteps:=1000000) -dsimp only [go_sem,aK z,k1,k2,kz1,kz2,he,List.take_succ_cons,List.take_zero,List.length_cons,List.length_nil]
      refine ⟨by omega,aF (i + 1) 3 (by omega) (by omega) ?_ ?_⟩
      · simp -dsimp only [go_sem,hnx]<;>simp
      · simp -dsimp only [go_sem]<;>simp
     | false=>
      rw [he] at hnx hl1
      simp only [cond_false,List.length_append] at hnx hl1
      simp (maxSteps:=1000000) -dsimp only [go_sem,aK z,k1,k2,kz1,kz2,he,List.take_succ_cons,List.take_zero,List.length_cons,List.length_nil]
      refine aA rfl (.done ?_)
      simp (maxSteps:=1000000) -dsimp only [go_sem,vH,yH,oU,pL,iE,k1,k2,k4,k5,k6,k7,k8,k12,List.take_succ_cons,List.take_zero,List.length_cons,List.length_nil]
      refine ⟨by omega,by omega,by omega,aF (i + 1) 3 (by omega) (by omega) ?_ ?_⟩
      · simp -dsimp only [go_sem,hnx,k2,k5,k7,iE]<;>simp
      · simp -dsimp only [go_sem]<;>simp
 · have hg:decide ((i:Int) < (u.fs.length:Int))=false:=by simp; omega
   rw [List.take_of_length_le hge] at *
   simp (maxSteps:=1000000) -dsimp only [go_sem,hg]
   refine .sel [] (by simp) (by simp) rfl (.done ?_)
   simp -dsimp only [go_sem]
   exact hK
abbrev I5 (o:List UInt8):B:=.cells [.vl (.string (mk o))] 9
def ZT (N:Nat):W.Spec:=fun av H K=>∃ (s:Sc) (t u:Ty) (v:Vl) (o:List UInt8),av=[.va (.gs (aN v)),.va (.c1 (.pt 0 0)),.va (.c1 (.pt 1 0)),.va (.c1 (.pt 2 0))]/\H=[I5 o,.cells (aI s) 25,.cells (aU t) 42]/\
 t.e=[u]/\s.fit/\TyOk u/\VlOk v/\K9 N s u v/\o.length<=4000000000000000000/\K (.tu []) [I5 (o ++ lK (cG s N u v)),.cells (aI s) 25,.cells (aU t) 42]
theorem WD {N:Nat} {s:Sc} {t u:Ty} {v:Vl} {o:List UInt8} {K:S->Hp->Prop} (h1:t.e=[u]) (h2:s.fit) (h3:TyOk u) (h4:VlOk v) (h5:K9 N s u v) (h6:o.length<=4000000000000000000)
 (hK:K (.tu []) [I5 (o ++ lK (cG s N u v)),.cells (aI s) 25,.cells [.vl (.int .i64 t.k),.vl (.int .i64 t.s),.vl (.string t.n),.fz (t.e.map aU)] 42]) :
 ZT N [.va (.gs [.vl (.int .i64 v.k),.vl (.int .i64 v.n),.vl (.string v.s),.fz (v.l.map aN),.fz (v.f.map bC)]),.va (.c1 (.pt 0 0)),.va (.c1 (.pt 1 0)),.va (.c1 (.pt 2 0))]
  [I5 o,.cells [.vl (.int .i64 s.ver),.fz (s.es.map aY),.fz (s.ss.map aJ)] 25,.cells [.vl (.int .i64 t.k),.vl (.int .i64 t.s),.vl (.string t.n),.fz (t.e.map aU)] 42] K:=
 ⟨s,t,u,v,o,by rw [aK],by rw [aP]; rfl,h1,h2,h3,h4,h5,h6,by rw [aP]; exact hK⟩
theorem L6 {N:Nat} (hE:Meets Tryz.prog 48 (yH N).sp):Meets Tryz.prog 85 (ZT N):=by
 refine aD Tryz.func85 aHD 4 (by rw [Tryz.ntmps85]; decide) (aH hE (aH GU (aB _))) (fun av H K h=>by obtain ⟨_,_,_,_,_,rfl,_⟩:=h; rfl) ?_
 rintro av H K ⟨s,t,u,v,o,rfl,rfl,he,hs,hu,hv,hp,ho,hK⟩
 have hd:=hp.1
 have k1:=c9 hv
 have k2:=f7 v
 have k4:=iY hu
 have k5:=pF u
 have k6:=eT hs
 have k7:=jL s
 have k8:K9 N s u v=True:=eq_true hp
 have k9:=gR hd N u v hp.2.2.1 hp.2.2.2
 have k10:=l7 hp.2.1
 have k11:=mJ (cG s N u v)
 have k12:((cG s N u v).length<=9223372036854775797)=True:=eq_true (by omega)
 have z0:(0:Int) < ((1:Nat):Int):=by decide
 have z1:(0:Int)<=0:=by decide
 simp (maxSteps:=1000000) -dsimp only [go_sem,aI,aP t,aK v,he,aP u,aAO,Y7,yH,k1,k2,k4,k5,k6,k7,k8,k12,forall_eq',z0,z1,List.length_cons,List.length_nil,List.take_succ_cons,List.take_zero]
 refine ⟨by omega,.sel [0,1,2] (by simp) (by simp) rfl (.done ?_)⟩
 simp -dsimp only [aI,aP t,he,List.map_cons,List.map_nil,aP u] at hK
 simp -dsimp only [go_sem]
 exact hK
abbrev e1V:S:=.va (.c1 (.fn 85 [(false,[.pt 3 0]),(false,[.pt 0 0]),(false,[.pt 1 0])]))
theorem NQ (R:Ty->Vl->List UInt8) (t:Ty) (l:List Vl) (i:Nat):(i6 R t (l.take i)).length<=(i6 R t l).length:=by
 have h:i6 R t l=i6 R t (l.take i) ++ i6 R t (l.drop i):=by unfold i6; rw [<-List.flatMap_append,List.take_append_drop]
 rw [h,List.length_append]; omega
theorem L3 {R:Ty->Vl->List UInt8} {t:Ty} {l:List Vl} {i:Nat} {x:Vl} (h:l[i]? = some x):i6 R t (l.take (i + 1))=i6 R t (l.take i) ++ lK (R t x):=by
 unfold i6; rw [eJ h,List.flatMap_append]; simp
theorem TH {s:Sc} (hd:Dg s) {N:Nat} (hN:N<=8) {u:Ty} {l:List Vl} (h:∀ x ∈ l,x.h<=N/\cT s u x=0) (hl:l.length<=32):(i6 (cG s N) u l).length<=3000000000000000000:=by
 have hB:=l7 hN
 have h5:(i6 (cG s N) u l).length<=l.length * (10 + eB N):=mQ fun x hx=>by
  have:=gR hd N u x (h x hx).1 (h x hx).2
  have:=mJ (cG s N u x)
  omega
 have h6:l.length * (10 + eB N)<=32 * (10 + eB N):=Nat.mul_le_mul_right _ hl
 omega
theorem sC:∀ N,Meets Tryz.prog 48 (yH N).sp
 | 0=>⟨by kernel_rfl,by rintro xs vs E ro w K _ _ _ h; obtain ⟨_,_,v,_,_,_,_,_,h,_⟩:=eV h; have:=v.h_pos; have h2:=h.2.2.1; omega⟩
 | N + 1=>by
  refine aD Tryz.func48 aKD 3 (by rw [Tryz.ntmps48]; decide) (aH u1 (aH aCZ (aC (L6 (sC N)) (aC iH (aH (oN (sC N)) (aB _)))))) gL ?_
  intro av H K h
  obtain ⟨s,t,v,rfl,rfl,hs,ht,hv,⟨hd,hN,hh,h0⟩,hK⟩:=eV h
  clear h
  have fin:∀ (x:List UInt8) (R:Hp),cG s (N + 1) t v=x->W.Fin 0 K (tS (mk x)) R:=fun x R h=>by
   rw [h] at hK; exact .sel [] (by simp) (by simp) rfl (.done (by simpa [go_sem] using hK))
  clear hK
  have hc:=j6 h0
  have hvn:=hv.n
  have k1:=c9 hv
  have k2:=f7 v
  have k6:=eT hs
  have k7:=jL s
  rw [r8] at fin
  simp (maxSteps:=1000000) -dsimp only [go_sem,aI,aP t,aK v,WT,aBC]
  refine aA rfl (.done ?_)
  cases c1:t.k == 1 || (t.k == 3 || t.k == 7) with
  | true=>
   rw [c1,cond_true] at fin
   have go:∀ b1 b3 b7:Bool,(t.k == 1)=b1->(t.k == 3)=b3->(t.k == 7)=b7->(b1 || (b3 || b7))=true:=fun b1 b3 b7 h1 h3 h7=>by rw [<-h1,<-h3,<-h7]; exact c1
   cases q1:t.k == 1<;>cases q3:t.k == 3<;>cases q7:t.k == 7<;>first
    | exact absurd (go _ _ _ q1 q3 q7) (by decide)
    | (simp (maxSteps:=1000000) -dsimp only [go_sem,kJ,q1,q3,q7,oU,pL,iE]
       exact fin _ _ rfl)
  | false=>
  have c1':=c1
  rw [Bool.or_eq_false_iff,Bool.or_eq_false_iff] at c1'
  rw [c1,cond_false] at fin
  cases c2:t.k == 2 with
  | true=>
   rw [c2,cond_true] at fin
   simp (maxSteps:=1000000) -dsimp only [go_sem,kJ,c1'.1,c1'.2.1,c1'.2.2,c2,hvn]
   exact fin _ _ rfl
  | false=>
  rw [c2,cond_false] at fin
  cases c4:t.k == 4 with
  | true=>
   rw [c4,cond_true] at fin
   simp (maxSteps:=1000000) -dsimp only [go_sem,kJ,c1'.1,c1'.2.1,c1'.2.2,c2,c4]
   have:=fin (bl v.s)
   rw [fQ] at this
   exact this _ rfl
  | false=>
  rw [c4,cond_false] at fin
  cases c5:t.k == 5 with
  | true=>
   rw [c5,cond_true] at fin
   obtain ⟨u,he,hu⟩:=DG hc.va c5
   have hto:=ht.e u (by rw [he]; exact List.mem_singleton.2 rfl)
   obtain ⟨_,_,_,e4,e5⟩:=hc.ls c5
   have h32:=(mV hc.va).2 c5
   rw [he] at fin e5
   simp only [List.headD_cons] at fin e5
   have hxs:∀ x ∈ v.l,x.h<=N/\cT s u x=0:=fun x hx=>⟨by have:=Vl.h_l hx; omega,e5 x hx⟩
   have hlen:=TH hd (N:=N) (by omega) hxs (by omega)
   have hvl:=iN v.l.length
   simp (maxSteps:=1000000) -dsimp only [go_sem,kJ,c1'.1,c1'.2.1,c1'.2.2,c2,c4,c5]
   refine aA rfl (.done ?_)
   simp (maxSteps:=1000000) -dsimp only [go_sem,wS,oU,pL,iE]
   refine aV (α:=Nat) (fun i=>[(3,.va (.c1 (.pt 0 0))),(4,.va (.c1 (.pt 1 0))),(7,.va (.c1 (.pt 3 0))),(8,e1V),(41,.va (.c1 (.fz (v.l.map aN)))),(42,iS .i64 v.l.length),(43,iS .i64 i)])
    (fun i=>[.cells [.vl (.int .i64 s.ver),.fz (s.es.map aY),.fz (s.ss.map aJ)] 25,.cells [.vl (.int .i64 t.k),.vl (.int .i64 t.s),.vl (.string t.n),.fz (t.e.map aU)] 42,.cells [.vl (.int .i64 v.k),.vl (.int .i64 v.n),.vl (.string v.s),.fz (v.l.map aN),.fz (v.f.map bC)] 29,I5 (gO v.l.length ++ i6 (cG s N) u (v.l.take i))])
    (fun i=>i<=v.l.length) (fun i=>v.l.length - i) 0 4 (Nat.zero_le _) ?_ ?_ ?_
   · simp -dsimp only [go_sem]<;>simp
   · simp -dsimp only [go_sem]<;>simp [i6]
   intro i hi
   have hlt1:=NQ (cG s N) u v.l i
   rcases bD i v.l.length with hlt | hge
   · have hg:decide ((i:Int) < (v.l.length:Int))=true:=by simp; omega
     have hx:v.l[i]? = some v.l[i]:=aT hlt
     have q1:=lP hx
     have hxm:=List.getElem_mem hlt
     have hxo:=hv.l _ hxm
     have hxp:=hxs _ hxm
     have hnx:=L3 (R:=cG s N) (t:=u) hx
     generalize v.l[i]=x at *
     simp (maxSteps:=1000000) -dsimp only [go_sem,hg,↓q1]
     refine ⟨by omega,aA rfl (.done ?_)⟩
     simp (maxSteps:=1000000) -dsimp only [go_sem,xB]
     refine WD he hs hto hxo ⟨hd,by omega,hxp.1,hxp.2⟩ (by rw [List.length_append]; omega) ?_
     simp (maxSteps:=1000000) -dsimp only [go_sem,aI]
     refine ⟨by omega,aF (i + 1) 4 (by omega) (by omega) ?_ ?_⟩
     · simp -dsimp only [go_sem]<;>simp
     · simp -dsimp only [go_sem,hnx]<;>simp
   · have hg:decide ((i:Int) < (v.l.length:Int))=false:=by simp; omega
     rw [List.take_of_length_le hge] at *
     simp (maxSteps:=1000000) -dsimp only [go_sem,hg]
     refine aA rfl (.done ?_)
     simp (maxSteps:=1000000) -dsimp only [go_sem,xZ]
     exact fin _ _ rfl
  | false=>
   rw [c5,cond_false] at fin
   have c6:(t.k == 6)=true:=HU hc.va c1'.1 (by rw [c2,c1'.2.1,c1'.2.2]; rfl) c4 c5
   obtain ⟨_,_,_,_,e5⟩:=hc.st c6
   have hst:=fR hs t
   have k4:=KW hst
   have k5:=Y9 (stOf s t)
   have k8:EsP N s (stOf s t) v=True:=eq_true ⟨hd,by omega,fun x hx=>by have:=Vl.h_f hx; omega,t,ht,c6,rfl,h0⟩
   simp (maxSteps:=1000000) -dsimp only [go_sem,kJ,c1'.1,c1'.2.1,c1'.2.2,c2,c4,c5]
   refine aA rfl (.done ?_)
   simp (maxSteps:=1000000) -dsimp only [go_sem,vY]
   refine j8 hs ?_
   rw [show (fS s.ss t.n).getD default=stOf s t from rfl]
   generalize stOf s t=w at *
   simp (maxSteps:=1000000) -dsimp only [go_sem,aJ]
   refine aA rfl (.done ?_)
   simp (maxSteps:=1000000) -dsimp only [go_sem,wL,G6,k1,k2,k4,k5,k6,k7,k8]
   exact fin _ _ rfl
abbrev fY (nm:ByteArray):Ty:=.mk 6 0 nm []
theorem aAM {nm:ByteArray} (h:nm.size<=9223372036854775807):TyOk (fY nm):=.mk ⟨by decide,by decide⟩ ⟨by decide,by decide⟩ h (Nat.zero_le _) fun t h=>(by cases h)
def zY (s:Sc) (nm:ByteArray):St × Int:=bif bP s != 0 then (default,bP s) else bif !(cB s.ss nm) then (default,6) else (stOf s (fY nm),0)
def V3:W.Spec:=fun av H K=>∃ (s:Sc) (nm:ByteArray),av=[.va (.gs (aI s)),tS nm]/\H=[]/\s.fit/\K (.tu [.gs (aJ (zY s nm).1),iA .i64 (zY s nm).2]) []
theorem KT {s:Sc} {nm:ByteArray} {K:S->Hp->Prop} (h:s.fit) (hK:K (.tu [.gs (aJ (zY s nm).1),iA .i64 (zY s nm).2]) []):V3 [.va (.gs [.vl (.int .i64 s.ver),.fz (s.es.map aY),.fz (s.ss.map aJ)]),tS nm] [] K:=⟨s,nm,rfl,rfl,h,hK⟩
theorem nT:aJ default=[.vl (.string (mk [])),.fz []]:=rfl
theorem GD:Meets Tryz.prog 23 V3:=by
 refine aD Tryz.func23 aKF 2 (by rw [Tryz.ntmps23]; decide) (aH YL (aC iH (aB _))) (fun av H K h=>by obtain ⟨_,_,rfl,_⟩:=h; rfl) ?_
 rintro av H K ⟨s,nm,rfl,rfl,hs,hK⟩
 have fin:∀ (u:St) (e:Int) (R:Hp),zY s nm=(u,e)->W.Fin 0 K (.tu [.gs (aJ u),iA .i64 e]) R:=fun u e R h=>by
  rw [h] at hK; exact .sel [] (by simp) (by simp) rfl (.done (by simpa [go_sem,aJ] using hK))
 clear hK
 unfold zY at fin
 have k6:=eT hs
 have k7:=jL s
 simp (maxSteps:=1000000) -dsimp only [go_sem,aI,YZ,Y0,k6,k7]
 refine aA rfl (.done ?_)
 cases c1:bP s != 0 with
 | true=>
  rw [c1,cond_true] at fin
  simp (maxSteps:=1000000) -dsimp only [go_sem,tK,c1]
  exact fin _ _ _ rfl
 | false=>
 rw [c1,cond_false] at fin
 simp (maxSteps:=1000000) -dsimp only [go_sem,tK,c1]
 refine aA rfl (.done ?_)
 simp (maxSteps:=1000000) -dsimp only [go_sem,B0]
 refine j8 hs ?_
 rw [show (fS s.ss nm).getD default=stOf s (fY nm) from rfl]
 generalize stOf s (fY nm)=u at *
 simp (maxSteps:=1000000) -dsimp only [go_sem,aJ]
 refine aA rfl (.done ?_)
 cases c2:cB s.ss nm with
 | false=>
  rw [c2,Bool.not_false,cond_true] at fin
  simp (maxSteps:=1000000) -dsimp only [go_sem,tF,Bool.not_false]
  exact fin _ _ _ rfl
 | true=>
  rw [c2,Bool.not_true,cond_false] at fin
  simp (maxSteps:=1000000) -dsimp only [go_sem,tF,Bool.not_true]
  exact fin _ _ _ rfl
def W1:W.Spec:=fun av H K=>∃ nm:ByteArray,av=[tS nm]/\H=[]/\K (.va (.gs (aU (fY nm)))) []
theorem LC {nm:ByteArray} {K:S->Hp->Prop} (hK:K (.va (.gs (aU (fY nm)))) []):W1 [tS nm] [] K:=⟨nm,rfl,rfl,hK⟩
theorem EP:Meets Tryz.prog 25 W1:=by
 refine aD Tryz.func25 aJ9 1 (by rw [Tryz.ntmps25]; decide) (aB _) (fun av H K h=>by obtain ⟨_,rfl,_⟩:=h; rfl) ?_
 rintro av H K ⟨nm,rfl,rfl,hK⟩
 simp (maxSteps:=1000000) -dsimp only [go_sem,aA7,WC]
 exact .sel [] (by simp) (by simp) rfl (.done (by simpa [go_sem,aP,Ty.k,Ty.s,Ty.n,Ty.e] using hK))
def sW:W.Spec:=fun av H K=>∃ (s:Sc) (nm:ByteArray) (v:Vl),av=[.va (.gs (aI s)),tS nm,.va (.gs (aN v))]/\H=[]/\s.fit/\nm.size<=9223372036854775807/\VlOk v/\K (.tu [tA (mk (gB s nm v).1),iA .i64 (gB s nm v).2]) []
theorem C4 {s:Sc} {nm:ByteArray} {v:Vl} {K:S->Hp->Prop} (h1:s.fit) (h2:nm.size<=9223372036854775807) (h3:VlOk v) (hK:K (.tu [tA (mk (gB s nm v).1),iA .i64 (gB s nm v).2]) []) :
 sW [.va (.gs [.vl (.int .i64 s.ver),.fz (s.es.map aY),.fz (s.ss.map aJ)]),tS nm,.va (.gs [.vl (.int .i64 v.k),.vl (.int .i64 v.n),.vl (.string v.s),.fz (v.l.map aN),.fz (v.f.map bC)])] [] K:=⟨s,nm,v,by rw [aK]; rfl,rfl,h1,h2,h3,hK⟩
theorem yA:Meets Tryz.prog 9 sW:=by
 refine aD Tryz.func9 ok9 3 (by rw [Tryz.ntmps9]; decide) (aC GD (aC EP (aH TN (aH (oN (sC 8)) (aB _))))) (fun av H K h=>by obtain ⟨_,_,_,rfl,_⟩:=h; rfl) ?_
 rintro av H K ⟨s,nm,v,rfl,rfl,hs,hnm,hv,hK⟩
 have fin:∀ (x:List UInt8) (e:Int) (R:Hp),gB s nm v=(x,e)->W.Fin 0 K (.tu [tA (mk x),iA .i64 e]) R:=fun x e R h=>by
  rw [h] at hK; exact .sel [] (by simp) (by simp) rfl (.done (by simpa [go_sem] using hK))
 clear hK
 unfold gB at fin
 have hty:=aAM hnm
 have k1:=c9 hv
 have k2:=f7 v
 have k4:=iY hty
 have k5:=pF (fY nm)
 have k6:=eT hs
 have k7:=jL s
 simp (maxSteps:=1000000) -dsimp only [go_sem,aI,aK v,pc9,rs9]
 refine KT hs ?_
 have hch:zY s nm=bif bP s != 0 then (default,bP s) else bif !(cB s.ss nm) then (default,6) else (stOf s (fY nm),0):=rfl
 have hst:=fR hs (fY nm)
 cases c1:bP s != 0 with
 | true=>
  rw [c1,cond_true] at fin hch
  rw [hch]
  simp (maxSteps:=1000000) -dsimp only [go_sem,nT]
  refine aA rfl (.done ?_)
  simp (maxSteps:=1000000) -dsimp only [go_sem,pU,c1]
  exact fin _ _ _ rfl
 | false=>
 have hd:=HG hs (mS c1)
 rw [c1,cond_false] at fin hch
 cases c2:cB s.ss nm with
 | false=>
  rw [c2,Bool.not_false,cond_true] at fin hch
  rw [hch]
  simp (maxSteps:=1000000) -dsimp only [go_sem,nT]
  refine aA rfl (.done ?_)
  have g:((6:Int) != 0)=true:=rfl
  simp (maxSteps:=1000000) -dsimp only [go_sem,pU,g]
  exact fin _ _ _ rfl
 | true=>
 rw [c2,Bool.not_true,cond_false] at fin hch
 rw [hch]
 cases c3:jR s (fY nm) v != 0 with
 | true=>
  rw [c3,cond_true] at fin
  generalize stOf s (fY nm)=w at *
  simp (maxSteps:=1000000) -dsimp only [go_sem,aJ]
  refine aA rfl (.done ?_)
  simp (maxSteps:=1000000) -dsimp only [go_sem,pU,bne_self_eq_false]
  refine aA rfl (.done ?_)
  simp (maxSteps:=1000000) -dsimp only [go_sem,A9]
  refine LC ?_
  simp (maxSteps:=1000000) -dsimp only [go_sem,aP (fY nm),k1,k2,k4,k5,k6,k7,c3]
  exact fin _ _ _ rfl
 | false=>
  rw [c3,cond_false] at fin
  have hck:=mS c3
  have h0:=(sG hck).1
  have hh:=XI hck
  have q4:=KW hst
  have q5:=Y9 (stOf s (fY nm))
  have q8:EsP 8 s (stOf s (fY nm)) v=True:=eq_true ⟨hd,Nat.le_refl _,fun x hx=>by have:=Vl.h_f hx; omega,fY nm,hty,rfl,rfl,h0⟩
  generalize stOf s (fY nm)=w at *
  simp (maxSteps:=1000000) -dsimp only [go_sem,aJ]
  refine aA rfl (.done ?_)
  simp (maxSteps:=1000000) -dsimp only [go_sem,pU,bne_self_eq_false]
  refine aA rfl (.done ?_)
  simp (maxSteps:=1000000) -dsimp only [go_sem,A9]
  refine LC ?_
  simp (maxSteps:=1000000) -dsimp only [go_sem,aP (fY nm),k1,k2,k4,k5,k6,k7,c3]
  refine aA rfl (.done ?_)
  cases c4:decide (2000 < ((eD (cG s 8) s w.fs v.f).length:Int)) with
  | true=>
   rw [c4,cond_true] at fin
   simp (maxSteps:=1000000) -dsimp only [go_sem,AE,G6,k1,k2,q4,q5,k6,k7,q8,c4]
   exact fin _ _ _ rfl
  | false=>
   rw [c4,cond_false] at fin
   simp (maxSteps:=1000000) -dsimp only [go_sem,AE,G6,k1,k2,q4,q5,k6,k7,q8,c4]
   exact fin _ _ _ rfl
def aGX:W.Spec:=fun av H K=>∃ (s:Sc) (nm:ByteArray) (v:Vl),av=[.va (.gs (aI s)),tS nm,.va (.gs (aN v))]/\H=[]/\s.fit/\nm.size<=9223372036854775807/\VlOk v/\K (iS .i64 ((gB s nm v).1.length)) []
theorem VT:Meets Tryz.prog 16 aGX:=by
 refine aD Tryz.func16 aKL 3 (by rw [Tryz.ntmps16]; decide) (aC yA (aB _)) (fun av H K h=>by obtain ⟨_,_,_,rfl,_⟩:=h; rfl) ?_
 rintro av H K ⟨s,nm,v,rfl,rfl,hs,hnm,hv,hK⟩
 simp (maxSteps:=1000000) -dsimp only [go_sem,aI,aK v,aAU,VM]
 refine C4 hs hnm hv ?_
 simp (maxSteps:=1000000) -dsimp only [go_sem]
 refine aA rfl (.done ?_)
 simp (maxSteps:=1000000) -dsimp only [go_sem,CK]
 exact .sel [] (by simp) (by simp) rfl (.done (by simpa [go_sem] using hK))
theorem sF:∀ N,Meets Tryz.prog 55 (xF N)
 | 0=>⟨by kernel_rfl,by rintro xs vs E ro w K _ _ _ ⟨s,t,_,_,_,_,_,_,_,h,_⟩; have:=yK s t; omega⟩
 | N + 1=>by
  refine aD Tryz.func55 aJW 3 (by rw [Tryz.ntmps55]; decide) (aC EO (aC AC (aC (EN (sF N)) (aC iH (aC (oG (sF N)) (aB _)))))) (fun av H K h=>by obtain ⟨_,_,_,rfl,_⟩:=h; rfl) ?_
  rintro av H K ⟨s,t,b,rfl,rfl,hd,hs,ht,hv,hf,hb,hK⟩
  have fin:∀ (v:Vl) (e:Int) (R:Hp),bW s (N + 1) t b=(v,e)->W.Fin 0 K (.tu [.gs [.vl (.int .i64 v.k),.vl (.int .i64 v.n),.vl (.string v.s),.fz (v.l.map aN),.fz (v.f.map bC)],iA .i64 e]) R:=fun v e R h=>by
   rw [h] at hK; exact .sel [] (by simp) (by simp) rfl (.done (by rw [aK] at hK; simpa [go_sem] using hK))
  clear hK
  rw [sM] at fin
  simp (maxSteps:=1000000) -dsimp only [go_sem,aI,aP t,aAG,VX]
  refine aA rfl (.done ?_)
  cases c1:t.k == 1 with
  | true=>
   rw [c1,cond_true] at fin
   simp (maxSteps:=1000000) -dsimp only [go_sem,i7,c1]
   refine aBG (by omega) ?_
   generalize oD b=w at *
   obtain ⟨v,e⟩:=w
   simp (maxSteps:=1000000) -dsimp only [go_sem,aK v]
   exact fin _ _ _ rfl
  | false=>
  rw [c1,cond_false] at fin
  cases c2:t.k == 2 || (t.k == 3 || t.k == 7) with
  | true=>
   rw [c2,cond_true] at fin
   have go:∀ b2 b3 b7:Bool,(t.k == 2)=b2->(t.k == 3)=b3->(t.k == 7)=b7->(b2 || (b3 || b7))=true:=fun b2 b3 b7 h1 h3 h7=>by rw [<-h1,<-h3,<-h7]; exact c2
   cases q2:t.k == 2<;>cases q3:t.k == 3<;>cases q7:t.k == 7<;>first
    | exact absurd (go _ _ _ q2 q3 q7) (by decide)
    | (simp (maxSteps:=1000000) -dsimp only [go_sem,i7,c1,q2,q3,q7]
       refine WQ hd hs ht hv c2 (by omega) ?_
       generalize oK s t b=w at *
       obtain ⟨v,e⟩:=w
       simp (maxSteps:=1000000) -dsimp only [go_sem,aK v]
       exact fin _ _ _ rfl)
  | false=>
  have c2':=c2
  rw [Bool.or_eq_false_iff,Bool.or_eq_false_iff] at c2'
  rw [c2,cond_false] at fin
  cases c4:t.k == 4 with
  | true=>
   rw [c4,cond_true] at fin
   unfold J0 at fin
   cases d:decide (t.s < (b.length:Int)) with
   | true=>
    rw [d,cond_true] at fin
    simp (maxSteps:=1000000) -dsimp only [go_sem,i7,c1,c2'.1,c2'.2.1,c2'.2.2,c4,d]
    exact fin v0 _ _ rfl
   | false=>
    rw [d,cond_false] at fin
    simp (maxSteps:=1000000) -dsimp only [go_sem,i7,c1,c2'.1,c2'.2.1,c2'.2.2,c4,d]
    exact fin (.mk 4 0 (mk b) [] []) _ _ rfl
  | false=>
  rw [c4,cond_false] at fin
  cases c5:t.k == 5 with
  | true=>
   rw [c5,cond_true] at fin
   simp (maxSteps:=1000000) -dsimp only [go_sem,i7,c1,c2'.1,c2'.2.1,c2'.2.2,c4,c5]
   refine aBL hd hs ht hv c5 hf hb ?_
   generalize jB (bW s N (t.e.headD default)) t.s b=w at *
   obtain ⟨v,e⟩:=w
   simp (maxSteps:=1000000) -dsimp only [go_sem,aK v]
   exact fin _ _ _ rfl
  | false=>
   rw [c5,cond_false] at fin
   have c6:=HU hv c1 c2 c4 c5
   have hst:=tZ hd hv c6
   have hfd:=CL (s:=s) c6
   have hp:DsP N s (stOf s t):=⟨hd,hs,⟨t,rfl⟩,fun f hf=>by have:=hst.2.2 f hf; omega⟩
   simp (maxSteps:=1000000) -dsimp only [go_sem,i7,c1,c2'.1,c2'.2.1,c2'.2.2,c4,c5]
   refine aA rfl (.done ?_)
   simp (maxSteps:=1000000) -dsimp only [go_sem,xD]
   refine j8 hs ?_
   rw [show (fS s.ss t.n).getD default=stOf s t from rfl]
   generalize stOf s t=u at *
   simp (maxSteps:=1000000) -dsimp only [go_sem,aJ]
   refine aA rfl (.done ?_)
   simp (maxSteps:=1000000) -dsimp only [go_sem,yB]
   refine EV hp hb ?_
   generalize jQ (bW s N) s u.fs b=w at *
   obtain ⟨v,e⟩:=w
   simp (maxSteps:=1000000) -dsimp only [go_sem,aK v]
   exact fin _ _ _ rfl
def sV:W.Spec:=fun av H K=>∃ (s:Sc) (nm:ByteArray) (b:List UInt8),av=[.va (.gs (aI s)),tS nm,tS (mk b)]/\H=[]/\s.fit/\b.length<=9223372036854775807/\K (.tu [.gs (aN (kY s nm b).1),iA .i64 (kY s nm b).2]) []
theorem JN {s:Sc} {nm:ByteArray} {b:List UInt8} {K:S->Hp->Prop} (h1:s.fit) (h2:b.length<=9223372036854775807)
 (hK:K (.tu [.gs [.vl (.int .i64 (kY s nm b).1.k),.vl (.int .i64 (kY s nm b).1.n),.vl (.string (kY s nm b).1.s),.fz ((kY s nm b).1.l.map aN),.fz ((kY s nm b).1.f.map bC)],iA .i64 (kY s nm b).2]) []) :
 sV [.va (.gs [.vl (.int .i64 s.ver),.fz (s.es.map aY),.fz (s.ss.map aJ)]),tS nm,tS (mk b)] [] K:=⟨s,nm,b,rfl,rfl,h1,h2,by rw [aK]; exact hK⟩
theorem GG:Meets Tryz.prog 12 sV:=by
 refine aD Tryz.func12 aJ6 3 (by rw [Tryz.ntmps12]; decide) (aC GD (aC (oG (sF 8)) (aB _))) (fun av H K h=>by obtain ⟨_,_,_,rfl,_⟩:=h; rfl) ?_
 rintro av H K ⟨s,nm,b,rfl,rfl,hs,hb,hK⟩
 have fin:∀ (v:Vl) (e:Int) (R:Hp),kY s nm b=(v,e)->W.Fin 0 K (.tu [.gs [.vl (.int .i64 v.k),.vl (.int .i64 v.n),.vl (.string v.s),.fz (v.l.map aN),.fz (v.f.map bC)],iA .i64 e]) R:=fun v e R h=>by
  rw [h] at hK; exact .sel [] (by simp) (by simp) rfl (.done (by rw [aK] at hK; simpa [go_sem] using hK))
 clear hK
 unfold kY at fin
 simp (maxSteps:=1000000) -dsimp only [go_sem,aI,aAF,XZ]
 refine KT hs ?_
 have hch:zY s nm=bif bP s != 0 then (default,bP s) else bif !(cB s.ss nm) then (default,6) else (stOf s (fY nm),0):=rfl
 cases c1:bP s != 0 with
 | true=>
  rw [c1,cond_true] at fin hch
  rw [hch]
  simp (maxSteps:=1000000) -dsimp only [go_sem,nT]
  refine aA rfl (.done ?_)
  simp (maxSteps:=1000000) -dsimp only [go_sem,mT,c1]
  exact fin v0 _ _ rfl
 | false=>
 have hd:=HG hs (mS c1)
 rw [c1,cond_false] at fin hch
 cases c2:cB s.ss nm with
 | false=>
  rw [c2,Bool.not_false,cond_true] at fin hch
  rw [hch]
  simp (maxSteps:=1000000) -dsimp only [go_sem,nT]
  refine aA rfl (.done ?_)
  have g:((6:Int) != 0)=true:=rfl
  simp (maxSteps:=1000000) -dsimp only [go_sem,mT,g]
  exact fin v0 _ _ rfl
 | true=>
 rw [c2,Bool.not_true,cond_false] at fin hch
 rw [hch]
 obtain ⟨hfd,hv⟩:=Y4 hd c2
 have hst:=tZ hd hv rfl
 have hp:DsP 8 s (stOf s (fY nm)):=⟨hd,hs,⟨fY nm,rfl⟩,fun f hf=>by have:=hst.2.2 f hf; have:=hst.2.1; omega⟩
 cases c3:decide (2000 < (b.length:Int)) with
 | true=>
  rw [c3,cond_true] at fin
  generalize stOf s (fY nm)=w at *
  simp (maxSteps:=1000000) -dsimp only [go_sem,aJ]
  refine aA rfl (.done ?_)
  simp (maxSteps:=1000000) -dsimp only [go_sem,mT,bne_self_eq_false,c3]
  exact fin v0 _ _ rfl
 | false=>
  rw [c3,cond_false] at fin
  have hb2:=of_decide_eq_false c3
  generalize stOf s (fY nm)=w at *
  simp (maxSteps:=1000000) -dsimp only [go_sem,aJ]
  refine aA rfl (.done ?_)
  simp (maxSteps:=1000000) -dsimp only [go_sem,mT,bne_self_eq_false,c3]
  refine aA rfl (.done ?_)
  simp (maxSteps:=1000000) -dsimp only [go_sem,CE]
  refine EV hp (by omega) ?_
  generalize jQ (bW s 8) s w.fs b=z at *
  obtain ⟨v,e⟩:=z
  simp (maxSteps:=1000000) -dsimp only [go_sem,aK v]
  exact fin _ _ _ rfl
def G8:PC:=.seq (.gh (.reg [.v 39 10,.q 40 (.bin .eql true (.t 39) (.i 0)),.v 41 40,⟨some 42,(some (41,true)),.l (.ldn 5 (.t 9))⟩,⟨some 43,(some (41,true)),.l (.ldn 5 (.t 5))⟩,⟨some 44,(some (41,true)),.cq 14 [(.t 42),(.t 43)]⟩,.a 45 (.pick (.t 41) (.t 44) (.k (.bool false))),.v 46 45,⟨some 47,(some (46,true)),.q (.mv (.t 7))⟩,⟨some 48,(some (46,true)),.q (.lnS (.t 47))⟩,⟨some 49,(some (46,true)),.q (.bin .leq true (.t 48) (.i 2000))⟩,.a 50 (.pick (.t 46) (.t 49) (.k (.bool false))),.v 51 50,⟨some 52,(some (51,true)),.l (.ldn 3 (.t 3))⟩,⟨some 53,(some (51,true)),.q (.mv (.t 1))⟩,⟨some 54,(some (51,true)),.l (.ldn 5 (.t 5))⟩,⟨some 55,(some (51,true)),.cq 16 [(.t 52),(.t 53),(.t 54)]⟩,⟨some 56,(some (51,true)),.q (.mv (.t 7))⟩,⟨some 57,(some (51,true)),.q (.lnS (.t 56))⟩,⟨some 58,(some (51,true)),.q (.bin .eql true (.t 55) (.t 57))⟩,.a 59 (.pick (.t 51) (.t 58) (.k (.bool false))),.v 60 59,⟨some 61,(some (60,true)),.cq 11 []⟩,.a 62 (.pick (.t 60) (.t 61) (.k (.bool false))),.v 6 62])) .ret
@[go_sem ↓] theorem aLR:aO G8:=aQ _
def HN:PC:=.seq (.gh (.reg [.l 33 (.ldn 3 (.t 3)),.v 34 1,.v 35 7,.a 36 (.cl 12 [(.t 33),(.t 34),(.t 35)] []),.v 32 36,.q 37 (.ex (.t 32) 0),.q 38 (.ex (.t 32) 1),.e 9 (.al (.agg #[(.int .i64 0),(.int .i64 0),(.string (mk [])),(.slice none 0 0),(.slice none 0 0)]) 29),.s (.st 5 (.t 9) (.t 37)),.v 10 38])) (G8)
@[go_sem ↓] theorem aL1:aO HN:=aQ _
def AS:PC:=.seq (.seq (.gh (.reg [.v 18 8,.q 19 (.bin .neq true (.t 18) (.i 0))])) (.cond (.t 19) (.seq (.reg [.v 20 7,.q 21 (.bin .eql true (.t 20) (.k (.string (mk [])))),.v 22 21,⟨some 23,(some (22,true)),.l (.ldn 3 (.t 3))⟩,⟨some 24,(some (22,true)),.q (.mv (.t 1))⟩,⟨some 25,(some (22,true)),.l (.ldn 5 (.t 5))⟩,⟨some 26,(some (22,true)),.cq 16 [(.t 23),(.t 24),(.t 25)]⟩,⟨some 27,(some (22,true)),.q (.bin .eql true (.t 26) (.i 0))⟩,.a 28 (.pick (.t 22) (.t 27) (.k (.bool false))),.v 29 28,⟨some 30,(some (29,true)),.cq 11 []⟩,.a 31 (.pick (.t 29) (.t 30) (.k (.bool false))),.v 6 31]) .ret) .skip)) (HN)
@[go_sem ↓] theorem aL3:aO AS:=aQ _
def pc6:PC:=.seq (.reg [.e 3 (.bx 25 (.t 0)),.e 5 (.bx 29 (.t 2)),.q 6 (.mv (.k (.bool false)))]) (.seq (.reg [.l 12 (.ldn 3 (.t 3)),.v 13 1,.l 14 (.ldn 5 (.t 5)),.a 15 (.cl 9 [(.t 12),(.t 13),(.t 14)] []),.v 11 15,.q 16 (.ex (.t 11) 0),.q 17 (.ex (.t 11) 1),.v 7 16,.v 8 17]) (AS))
def rs6:List RV:=[.mv (.t 6)]
theorem ok6:aS Tryz.prog true ⟨fun r k=>if r=3/\k=6 then .q else if r=3/\k=10 then .q else if r=5/\k=5 then .q else if r=5/\k=16 then .q else if r=5/\k=22 then .q else .own [],fun r=>[2,4,5].contains r⟩ Tryz.f6=some (pc6,rs6):=by kernel_rfl
def DL:PC:=.seq (.gh (.reg [.v 32 3,.q 33 (.bin .eql true (.t 32) (.k (.string (mk [1,1,3,2,1,1])))),.v 34 33,⟨some 35,(some (34,true)),.q (.mv (.t 4))⟩,⟨some 36,(some (34,true)),.q (.bin .eql true (.t 35) (.i 0))⟩,.a 37 (.pick (.t 34) (.t 36) (.k (.bool false))),.v 38 37,⟨some 39,(some (38,true)),.l (.ldn 5 (.t 5))⟩,⟨some 40,(some (38,true)),.l (.ldn 5 (.t 2))⟩,⟨some 41,(some (38,true)),.cq 14 [(.t 39),(.t 40)]⟩,.a 42 (.pick (.t 38) (.t 41) (.k (.bool false))),.v 43 42,⟨some 44,(some (43,true)),.q (.mv (.t 6))⟩,⟨some 45,(some (43,true)),.q (.bin .eql true (.t 44) (.i 0))⟩,.a 46 (.pick (.t 43) (.t 45) (.k (.bool false))),.v 47 46,⟨some 48,(some (47,true)),.q (.mv (.t 8))⟩,⟨some 49,(some (47,true)),.q (.bin .eql true (.t 48) (.i 2))⟩,.a 50 (.pick (.t 47) (.t 49) (.k (.bool false))),.v 0 50])) .ret
@[go_sem ↓] theorem aIG:aO DL:=aQ _
def C7:PC:=.seq (.gh (.reg [.l 28 (.ldn 3 (.t 1)),.a 29 (.cl 12 [(.t 28),(.k (.string (mk [80]))),(.k (.string (mk [1,1,0])))] []),.v 27 29,.q 30 (.ex (.t 27) 0),.q 31 (.ex (.t 27) 1),.e 7 (.al (.agg #[(.int .i64 0),(.int .i64 0),(.string (mk [])),(.slice none 0 0),(.slice none 0 0)]) 29),.s (.st 5 (.t 7) (.t 30)),.v 8 31])) (DL)
@[go_sem ↓] theorem aKI:aO C7:=aQ _
def D1:PC:=.seq (.gh (.reg [.l 23 (.ldn 3 (.t 1)),.a 24 (.cl 12 [(.t 23),(.k (.string (mk [80]))),(.k (.string (mk [1,1,3,2,1,1])))] []),.v 22 24,.q 25 (.ex (.t 22) 0),.q 26 (.ex (.t 22) 1),.e 5 (.al (.agg #[(.int .i64 0),(.int .i64 0),(.string (mk [])),(.slice none 0 0),(.slice none 0 0)]) 29),.s (.st 5 (.t 5) (.t 25)),.v 6 26])) (C7)
@[go_sem ↓] theorem aID:aO D1:=aQ _
def DQ:PC:=.seq (.gh (.reg [.l 17 (.ldn 3 (.t 1)),.l 18 (.ldn 5 (.t 2)),.a 19 (.cl 9 [(.t 17),(.k (.string (mk [80]))),(.t 18)] []),.v 16 19,.q 20 (.ex (.t 16) 0),.q 21 (.ex (.t 16) 1),.v 3 20,.v 4 21])) (D1)
@[go_sem ↓] theorem aIQ:aO DQ:=aQ _
def YQ:PC:=.seq (.reg [.q 0 (.mv (.k (.bool false)))]) (.seq (.reg [.a 9 (.cl 29 [] []),.e 1 (.al (.agg #[(.int .i64 0),(.slice none 0 0),(.slice none 0 0)]) 25),.s (.st 3 (.t 1) (.t 9))]) (.seq (.reg [.q 10 (.bd [(.int .i64 0),(.int .i64 0),(.string (mk [])),(.slice none 0 0),(.slice none 0 0)] [(0,1,(.i 2)),(1,1,(.i (-2)))]),.q 11 (.bd [(.int .i64 0),(.int .i64 0),(.int .i64 0),(.string (mk [])),(.slice none 0 0),(.slice none 0 0)] [(0,1,(.i 1)),(1,5,(.t 10))]),.q 12 (.bd [(.int .i64 0),(.int .i64 0),(.string (mk [])),(.slice none 0 0),(.slice none 0 0)] [(0,1,(.i 1)),(1,1,(.i 1))]),.q 13 (.bd [(.int .i64 0),(.int .i64 0),(.int .i64 0),(.string (mk [])),(.slice none 0 0),(.slice none 0 0)] [(0,1,(.i 2)),(1,5,(.t 12))]),.e 14 (.bsl 76 6 [(.t 11),(.t 13)]),.q 15 (.bd [(.int .i64 0),(.int .i64 0),(.string (mk [])),(.slice none 0 0),(.slice none 0 0)] [(0,1,(.i 6)),(4,1,(.t 14))]),.e 2 (.al (.agg #[(.int .i64 0),(.int .i64 0),(.string (mk [])),(.slice none 0 0),(.slice none 0 0)]) 29),.s (.st 5 (.t 2) (.t 15))]) (DQ)))
def VH:List RV:=[.mv (.t 0)]
theorem aJP:aS Tryz.prog true ⟨fun r k=>if r=6/\k=9 then .q else .own [],fun r=>[3,4,5,6].contains r⟩ Tryz.f11=some (YQ,VH):=by kernel_rfl
def aAL:PC:=.seq (.reg [.e 0 (.al (.agg #[(.int .i64 0),(.slice none 0 0),(.slice none 0 0)]) 25)]) (.seq (.reg [.q 1 (.bd [(.int .i64 0),(.int .i64 0),(.string (mk [])),(.slice none 0 0)] [(0,1,(.i 2)),(1,1,(.i 32))]),.q 2 (.bd [(.int .i64 0),(.string (mk [])),(.int .i64 0),(.int .i64 0),(.string (mk [])),(.slice none 0 0),(.bool false)] [(0,1,(.i 1)),(1,1,(.k (.string (mk [120])))),(2,4,(.t 1))]),.q 3 (.bd [(.int .i64 0),(.int .i64 0),(.string (mk [])),(.slice none 0 0)] [(0,1,(.i 1))]),.q 4 (.bd [(.int .i64 0),(.string (mk [])),(.int .i64 0),(.int .i64 0),(.string (mk [])),(.slice none 0 0),(.bool false)] [(0,1,(.i 2)),(1,1,(.k (.string (mk [111,110])))),(2,4,(.t 3))]),.e 5 (.bsl 52 7 [(.t 2),(.t 4)]),.q 6 (.bd [(.string (mk [])),(.slice none 0 0)] [(0,1,(.k (.string (mk [80])))),(1,1,(.t 5))]),.e 7 (.bslx 48 2 [(.t 6)]),.q 8 (.bd [(.int .i64 0),(.slice none 0 0),(.slice none 0 0)] [(0,1,(.i 1)),(2,1,(.t 7))]),.s (.st 3 (.t 0) (.t 8))]) .ret)
def YD:List RV:=[.ld (.ldn 3 (.t 0))]
theorem aIC:aS Tryz.prog true ⟨fun r k=>if r=1/\k=6 then .q else .own [],fun _=>false⟩ Tryz.f29=some (aAL,YD):=by kernel_rfl
def tR:List S->Prop:=fun av=>match av with
 | [.va (.gs r),.va (.c1 (.vl (.string nm))),.va (.gs p)]=>iV r/\nm.size<=9223372036854775807/\kV p
 | _=>False
theorem lZ {av:List S} (h:tR av):∃ (s:Sc) (nm:ByteArray) (v:Vl),av=[.va (.gs (aI s)),tS nm,.va (.gs (aN v))]/\s.fit/\nm.size<=9223372036854775807/\VlOk v:=by
 unfold tR at h
 split at h
 · obtain ⟨⟨s,rfl,hs⟩,hn,⟨v,rfl,hv⟩⟩:=h; exact ⟨s,_,v,rfl,hs,hn,hv⟩
 · exact h.elim
noncomputable def K0 (f:Sc->ByteArray->Vl->Value):List S->A:=fun av=>match av with
 | [.va (.gs r),.va (.c1 (.vl (.string nm))),.va (.gs p)]=>.c1 (.vl (f (C.sc r) nm (C.vv p)))
 | _=>.gs []
noncomputable def A7 (f:Sc->ByteArray->Vl->Value):Fun:=⟨tR,K0 f,fun av h=>by obtain ⟨_,_,_,rfl,_⟩:=lZ h; trivial⟩
attribute [go_sem] A7 tR K0
theorem YG:Meets Tryz.prog 16 (A7 fun s nm v=>.int .i64 ((gB s nm v).1.length)).sp:=dH (0:Nat) (fun (_:Nat)=>VT) fun av H K h=>by
 obtain ⟨⟨h,e⟩,hK⟩:=h
 obtain ⟨s,nm,v,rfl,hs,hn,hv⟩:=lZ h
 have hK:K (iS .i64 ((gB (C.sc (aI s)) nm (C.vv (aN v))).1.length)) []:=hK
 rw [jD,fK] at hK
 exact ⟨0,s,nm,v,rfl,e,hs,hn,hv,hK⟩
def yF1:Fl:=⟨1,mk [120],.mk 2 32 (mk []) [],false⟩
def yF2:Fl:=⟨2,mk [111,110],.mk 1 0 (mk []) [],false⟩
def ySt:St:=⟨mk [80],[yF1,yF2]⟩
def yS:Sc:=⟨1,[],[ySt]⟩
def ySp:W.Spec:=fun av H K=>av=[]/\H=[]/\K (.va (.gs (aI yS))) []
theorem HB:Meets Tryz.prog 29 ySp:=by
 refine aD Tryz.func29 aIC 0 (by rw [Tryz.ntmps29]; decide) (aB _) (fun av H K h=>by obtain ⟨rfl,_⟩:=h; rfl) ?_
 rintro av H K ⟨rfl,rfl,hK⟩
 simp (maxSteps:=1000000) -dsimp only [go_sem,aAL,YD]
 refine .opn 1 _ _ _ rfl (.nfr 1 _ _ _ rfl (.shu 1 _ _ _ rfl ?_ (.pub 1 _ _ _ rfl ?_)))
 · simp [C.nf,C.shut]
 simp -dsimp only [go_sem,cQ,C.nf,C.pub]
 refine .shu 2 _ _ _ rfl ?_ (.pub 2 _ _ _ rfl ?_)
 · simp [C.shut]
 simp -dsimp only [go_sem,cQ,C.pub]
 refine .sel [] (by simp) (by simp) rfl (.done ?_)
 simp -dsimp only [go_sem]
 exact hK
def yV:Vl:=.mk 6 0 (mk []) [] [(1,.mk 2 (-2) (mk []) [] []),(2,.mk 1 1 (mk []) [] [])]
abbrev yN:ByteArray:=mk [80]
theorem ye1:gB yS yN yV=([1,1,3,2,1,1],0):=by kernel_rfl
theorem ye2:kY yS yN [1,1,3,2,1,1]=(yV,0):=by kernel_rfl
theorem ye3:kY yS yN [1,1,0]=(v0,2):=by kernel_rfl
theorem aDD:yS.ok:=by
 refine ⟨⟨by decide,by decide⟩,by decide,by decide,fun e he=>(by cases he),fun u hu=>?_⟩
 rw [List.mem_singleton.1 hu]
 refine ⟨by decide,by decide,fun f hf=>?_⟩
 have:f=yF1\/f=yF2:=by simpa [ySt] using hf
 rcases this with rfl | rfl
 · exact ⟨⟨by decide,by decide⟩,by decide,ty0 _ _ _ ⟨by decide,by decide⟩ ⟨by decide,by decide⟩ (by decide)⟩
 · exact ⟨⟨by decide,by decide⟩,by decide,ty0 _ _ _ ⟨by decide,by decide⟩ ⟨by decide,by decide⟩ (by decide)⟩
theorem aBK:M6 yS=true:=by kernel_rfl
theorem KD:yS.fit:=TP aDD aBK
theorem OM:VlOk yV:=by
 have hf:∀ k n:Int,bM k->bM n->VlOk (.mk k n (mk []) [] []):=fun k n h1 h2=>CR h1 h2 (by decide)
 refine .mk ⟨by decide,by decide⟩ ⟨by decide,by decide⟩ (by decide) (by decide) (by decide) (fun x h=>by cases h) (fun x hx=>?_) (fun x hx=>?_)
 · have:x=(1,.mk 2 (-2) (mk []) [] [])\/x=(2,.mk 1 1 (mk []) [] []):=by simpa using hx
   rcases this with rfl | rfl<;>exact ⟨by decide,by decide⟩
 · have:x=(1,.mk 2 (-2) (mk []) [] [])\/x=(2,.mk 1 1 (mk []) [] []):=by simpa using hx
   rcases this with rfl | rfl
   · exact hf _ _ ⟨by decide,by decide⟩ ⟨by decide,by decide⟩
   · exact hf _ _ ⟨by decide,by decide⟩ ⟨by decide,by decide⟩
noncomputable def yE:b9:=[(29,.s ySp),(9,.s sW),(12,.s sV),(14,.f eqFn2)]
theorem aCY:sp yE 29=ySp:=rfl
theorem aEE:sp yE 9=sW:=rfl
theorem PA:sp yE 12=sV:=rfl
theorem aCW:iL yE 14=some eqFn2:=rfl
theorem aJT {K:S->Hp->Prop} (hK:K (.tu [tA (mk [1,1,3,2,1,1]),iA .i64 0]) []) :
 sW [.va (.gs [.vl (.int .i64 yS.ver),.fz (yS.es.map aY),.fz (yS.ss.map aJ)]),tS yN,.va (.gs [.vl (.int .i64 yV.k),.vl (.int .i64 yV.n),.vl (.string yV.s),.fz (yV.l.map aN),.fz (yV.f.map bC)])] [] K:=
 C4 KD (by decide) OM (by rw [ye1]; exact hK)
theorem ZZ {b:List UInt8} {v:Vl} {e:Int} {K:S->Hp->Prop} (h:kY yS yN b=(v,e)) (hb:b.length<=9223372036854775807) (hK:K (.tu [.gs [.vl (.int .i64 v.k),.vl (.int .i64 v.n),.vl (.string v.s),.fz (v.l.map aN),.fz (v.f.map bC)],iA .i64 e]) []) :
 sV [.va (.gs [.vl (.int .i64 yS.ver),.fz (yS.es.map aY),.fz (yS.ss.map aJ)]),tS yN,tS (mk b)] [] K:=JN KD hb (by rw [h]; exact hK)
theorem NS:Meets Tryz.prog 11 qTrue.sp:=by
 refine aD (Γ:=yE) Tryz.func11 aJP 0 (by rw [Tryz.ntmps11]; decide) (aC HB (aC yA (aC GG (aH F6 (aB _))))) KF ?_
 rintro av H K ⟨⟨h,rfl⟩,hK⟩
 obtain rfl:av=[]:=h
 have hK:K (bS true) []:=hK
 have fin:∀ R:Hp,W.Fin 0 K (bS true) R:=fun R=>.sel [] (by simp) (by simp) rfl (.done (by simpa [go_sem] using hK))
 clear hK
 simp (maxSteps:=1000000) -dsimp only [go_sem,YQ,VH,aCY]
 refine ⟨rfl,rfl,?_⟩
 simp (maxSteps:=1000000) -dsimp only [go_sem,aI]
 refine aA rfl (.opn 1 _ _ _ rfl (.nfr 1 _ _ _ rfl (.shu 1 _ _ _ rfl ?_ (.pub 1 _ _ _ rfl (.done ?_)))))
 · simp [C.nf,C.shut]
 have g0:(0:Int)=0:=rfl
 simp (maxSteps:=1000000) -dsimp only [go_sem,cQ,C.nf,C.pub,DQ,aEE]
 refine aJT ?_
 simp (maxSteps:=1000000) -dsimp only [go_sem]
 refine aA rfl (.done ?_)
 simp (maxSteps:=1000000) -dsimp only [go_sem,D1,PA]
 refine ZZ ye2 (by decide) ?_
 simp (maxSteps:=1000000) -dsimp only [go_sem]
 refine aA rfl (.done ?_)
 simp (maxSteps:=1000000) -dsimp only [go_sem,C7,PA]
 refine ZZ ye3 (by decide) ?_
 simp (maxSteps:=1000000) -dsimp only [go_sem]
 refine aA rfl (.done ?_)
 have k1:=c9 OM
 have k2:=f7 yV
 have kx1:kV [.vl (.int .i64 6),.vl (.int .i64 0),.vl (.string (mk [])),.fz [],.fz [[.vl (.int .i64 1),.vl (.int .i64 2),.vl (.int .i64 (-2)),.vl (.string (mk [])),.fz [],.fz []],[.vl (.int .i64 2),.vl (.int .i64 1),.vl (.int .i64 1),.vl (.string (mk [])),.fz [],.fz []]]]:=k1
 have kx2:C.vv [.vl (.int .i64 6),.vl (.int .i64 0),.vl (.string (mk [])),.fz [],.fz [[.vl (.int .i64 1),.vl (.int .i64 2),.vl (.int .i64 (-2)),.vl (.string (mk [])),.fz [],.fz []],[.vl (.int .i64 2),.vl (.int .i64 1),.vl (.int .i64 1),.vl (.string (mk [])),.fz [],.fz []]]]=yV:=k2
 have g0:(([1,1,3,2,1,1]:List UInt8) == [1,1,3,2,1,1])=true:=by decide
 have g1:((0:Int) == 0)=true:=rfl
 have g2:((2:Int) == 2)=true:=rfl
 have g3:=BS yV
 simp (maxSteps:=1000000) -dsimp only [go_sem,DL,aCW,k1,k2,kx1,kx2,g0,g1,g2,g3,Bool.true_and]
 exact fin _
def HM:List S->Prop:=fun av=>match av with
 | [.va (.gs r),.va (.c1 (.vl (.string nm))),.va (.gs p)]=>iV r/\nm.size<=9223372036854775807/\kV p
 | _=>False
theorem uS {av:List S} (h:HM av):∃ (s:Sc) (nm:ByteArray) (v:Vl),av=[.va (.gs (aI s)),tS nm,.va (.gs (aN v))]/\s.fit/\nm.size<=9223372036854775807/\VlOk v:=lZ h
def lwFn:Fun:=⟨HM,fun _=>bA true,fun _ _=>trivial⟩
attribute [go_sem] lwFn HM
noncomputable def GZ:b9:=[(9,.s sW),(12,.s sV),(16,.f (A7 fun s nm v=>.int .i64 ((gB s nm v).1.length))),(14,.f eqFn2),(11,.f qTrue)]
theorem VK:sp GZ 9=sW:=rfl
theorem aAX:sp GZ 12=sV:=rfl
theorem KR:iL GZ 16=some (A7 fun s nm v=>.int .i64 ((gB s nm v).1.length)):=rfl
theorem WM:iL GZ 14=some eqFn2:=rfl
theorem KB:iL GZ 11=some qTrue:=rfl
theorem aCH (s:Sc) (nm:ByteArray) (v:Vl):(gB s nm v).2 ≠ 0->(gB s nm v).1=[]:=by
 unfold gB
 cases bP s != 0 with
 | true=>exact fun _=>rfl
 | false=>
 cases !(cB s.ss nm) with
 | true=>exact fun _=>rfl
 | false=>
 cases jR s (.mk 6 0 nm []) v != 0 with
 | true=>exact fun _=>rfl
 | false=>
 cases decide (2000 < ((eD (cG s 8) s (stOf s (.mk 6 0 nm [])).fs v.f).length:Int)) with
 | true=>exact fun _=>rfl
 | false=>exact fun h=>absurd rfl h
theorem J3:Meets Tryz.prog 6 lwFn.sp:=by
 refine aD (Γ:=GZ) Tryz.func6 ok6 3 (by rw [Tryz.ntmps6]; decide) (aC yA (aC GG (aH YG (aH F6 (aH NS (aB _)))))) (fun av H K h=>by obtain ⟨_,_,_,rfl,_⟩:=uS h.1.1; rfl) ?_
 rintro av H K ⟨⟨h,rfl⟩,hK⟩
 obtain ⟨s,nm,v,rfl,hs,hnm,hv⟩:=uS h
 have hK:K (bS true) []:=hK
 clear h
 have fin:∀ R:Hp,W.Fin 0 K (bS true) R:=fun R=>.sel [] (by simp) (by simp) rfl (.done (by simpa [go_sem] using hK))
 clear hK
 have k1:=c9 hv
 have k2:=f7 v
 have k6:=eT hs
 have k7:=jL s
 have k8:(nm.size<=9223372036854775807)=True:=eq_true hnm
 have g0:(([]:List UInt8) == [])=true:=rfl
 have g1:((0:Int) == 0)=true:=rfl
 have gl:((([]:List UInt8).length:Int) == 0)=true:=rfl
 simp (maxSteps:=1000000) -dsimp only [go_sem,aI,aK v,pc6,rs6,VK]
 refine C4 hs hnm hv ?_
 simp (maxSteps:=1000000) -dsimp only [go_sem]
 refine aA rfl (.done ?_)
 cases c1:(gB s nm v).2 != 0 with
 | true=>
  have he:=aCH s nm v (zM c1)
  rw [he]
  simp (maxSteps:=1000000) -dsimp only [go_sem,AS,c1,g0,g1,gl,KR,KB,k1,k2,k6,k7,k8,he,Bool.true_and]
  exact fin _
 | false=>
  have h0:=mS c1
  obtain ⟨h1,h2⟩:=aCI hs hv h0
  simp (maxSteps:=1000000) -dsimp only [go_sem,AS,c1]
  refine aA rfl (.done ?_)
  simp (maxSteps:=1000000) -dsimp only [go_sem,HN,aAX]
  refine JN hs (by omega) ?_
  rw [h1]
  have g2:decide (((gB s nm v).1.length:Int)<=2000)=true:=by simp; omega
  have g3:=BS v
  simp (maxSteps:=1000000) -dsimp only [go_sem]
  refine aA rfl (.done ?_)
  simp (maxSteps:=1000000) -dsimp only [go_sem,G8,g1,g2,g3,KR,KB,WM,k1,k2,k6,k7,k8,beq_self_eq_true,Bool.true_and]
  exact fin _
end Go.Proofs.YthpbnmebjocbeaaGreat
namespace Go.W
open Go.RowKit
structure Stay (w w':World):Prop where
 os:w'.os=w.os
 out:w'.output=w.output
 size:w.heap.size<=w'.heap.size
 keep:∀ b:Nat,b < w.heap.size->w'.heap[b]? = w.heap[b]?
theorem Stay.kept {w w':World} (h:Stay w w') (may:MemPlace->Prop):w.keptBut w' may:=by
 refine ⟨h.os,h.out,fun i hi=>?_⟩
 rw [h.keep i hi]
 split
 · rename_i h1 h2; rw [h1] at h2; cases h2; exact ⟨rfl,rfl,rfl,fun _ _=>rfl⟩
 · rename_i h1 h2; rw [h1] at h2; cases h2; exact Or.inr ⟨rfl,rfl⟩
 · rfl
theorem Stay.frozen {w w':World} (h:Stay w w') {a:Addr} (ha:a.block < w.heap.size):w'.frozen? a=w.frozen? a:=by
 unfold World.frozen?; rw [h.keep _ ha]
theorem Stay.cell {w w':World} (h:Stay w w') {a:Addr} (ha:a.block < w.heap.size):w'.cell? a=w.cell? a:=by
 unfold World.cell?; rw [h.keep _ ha]
theorem UU {w:World} {ro:RO} (h:∀ (b off:Nat) (v:Value),ro b off=some v->w.cell? ⟨b,off,none⟩=some v):Rel ⟨w,cE [],ro,gm []⟩ [] ro w where
 own:=fun n g blk h=>by simp at h
 inj:=fun n m gn gm bn bm b h=>by simp at h
 apart:=fun b off v _ n g blk h=>by simp at h
 rd:=h
 ro0:=fun _ _ _ h=>h
 rob:=fun b off v h=>.inl h
 par:=fun n b g blk h=>by simp at h
 gx:=.refl _
 sz:=Nat.le_refl _
 keep:=fun b _ _=>rfl
 os:=rfl
 tape:=rfl
 output:=rfl
theorem Meets.run {P:Program} {f:FuncId} {s:Fun} (hm:Meets P f s.sp) {av:List S} {vs:List Value} {ro:RO} {w:World} {x:A} (hpre:s.pre av) (hval:s.val av=x) (hl:av.length=vs.length)
 (hrel:∀ (i:Nat) (x:S) (v:Value),av[i]? = some x->vs[i]? = some v->x.rel (gm []) ro v) (hro:∀ (b off:Nat) (v:Value),ro b off=some v->w.cell? ⟨b,off,none⟩=some v) (hG:GR P ro w) :
 Calls P f vs.toArray w fun e w'=>∃ v γ ro',e=.returned v/\S.rel γ ro' (.va x) v/\Stay w w':=by
 subst hval
 refine (hm.2 av vs [] ro w (fun r H=>r=.va (s.val av)/\H=[]) hl hrel (UU hro) ⟨⟨hpre,rfl⟩,rfl,rfl⟩ hG).mono ?_
 rintro e w' ⟨r,v,E',ro',rfl,h1,⟨rfl,h2⟩,h3⟩
 exact ⟨v,_,ro',rfl,h1,h3.os,h3.output,h3.sz,fun b hb=>h3.keep b hb (by simp [cE])⟩
theorem Meets.yes {P:Program} {f:FuncId} {s:Fun} (hm:Meets P f s.sp) {av:List S} {vs:List Value} {ro:RO} {w:World} (hpre:s.pre av) (hval:s.val av=.c1 (.vl (.bool true))) (hl:av.length=vs.length)
 (hrel:∀ (i:Nat) (x:S) (v:Value),av[i]? = some x->vs[i]? = some v->x.rel (gm []) ro v) (hro:∀ (b off:Nat) (v:Value),ro b off=some v->w.cell? ⟨b,off,none⟩=some v) (hG:GR P ro w) :
 Calls P f vs.toArray w fun e w'=>e=.returned (.bool true)/\Stay w w':=by
 refine (hm.run hpre hval hl hrel hro hG).mono ?_
 rintro e w' ⟨v,γ,ro',rfl,h1,h2⟩
 have:v=.bool true:=h1
 exact ⟨by rw [this],h2⟩
section
variable {H:Type} {enc:TypeId × Value->H} {P:Program}
theorem CC {f:Func} {s:ChangeSpec} {apart fresh handsOn again:Bool} {W W':World} {args:Array Value} {v:Value} {ds gs:List (DataW H)} {before pa pv:List MemPlace}
 (hW:DataW.Whole enc P f.params.toList s.vars apart W args.toList ds gs before)
 (hres:∀ (b:Nat) (sp:Nat->Bool) (hd:Bool),DataW.TrodAll enc P W' b sp hd f.resultTypes.toList (v.resultList f.resultTypes.size) (s.fn H (ds ++ gs)).results [])
 (hargs:∀ sp:Nat->Bool,(∀ p ∈ before,sp p.block=true)->DataW.TrodAll enc P W' 0 sp true f.params.toList args.toList (s.fn H (ds ++ gs)).args pa)
 (hvars:∀ sp:Nat->Bool,(∀ p ∈ before,sp p.block=true)->DataW.TrodVars enc P W' sp s.vars (s.fn H (ds ++ gs)).vars pv)
 (hps:before=pa ++ pv) (hs:Stay W W')
 (hok:∀ (j:Nat) (t:TypeId) (r:Value),f.resultTypes[j]? = some t->(v.resultList f.resultTypes.size)[j]? = some r->Value.okWide P W' .any 0 t r) :
 s.post enc P f apart fresh handsOn again W args v W':=by
 have hlt:∀ p ∈ before,p.block < W.heap.size:=fun p hp=>hW.lt p hp
 have hsp:∀ p ∈ before,(fun b=>decide (b < W.heap.size)) p.block=true:=fun p hp=>by simpa using hlt p hp
 have hall:∀ p ∈ before,(fun _:Nat=>true) p.block=true:=fun _ _=>rfl
 obtain ⟨_,_,_,_,_,hz,hn⟩:=id hW
 refine ⟨ds,gs,before,[],pa,pv,hW,hres _ _ _,hargs _ hsp,hvars _ hsp,World.keptBut_mono (fun p hp=>⟨hp,.inr ?_⟩) (hs.kept (· ∈ before)),fun _=>⟨hok,_,_,([] ++ pa) ++ pv,
  ⟨[] ++ pa,pv,ChangeShapes.trodAll_append (hargs _ hall) (hres _ _ _),hvars _ hall,rfl,fun b off hp=>?_,fun ha=>?_⟩,fun p hp _=>?_⟩⟩
 · rw [hps,List.mem_append] at hp; exact hp
 · have hb:MemPlace.cell b off ∈ before:=by rw [hps]; simpa using hp
   rw [hs.frozen (hlt _ hb)]
   exact hz b off hb
 · have:=hn ha
   rw [hps] at this
   simpa using this
 · rw [hps]
   simpa using hp
end
open Go.RowKit
def f8 (W:World):RO:=fun b off=>W.cell? ⟨b,off,none⟩
theorem W3 (W:World):∀ (b off:Nat) (v:Value),f8 W b off=some v->W.cell? ⟨b,off,none⟩=some v:=fun _ _ _ h=>h
theorem JM (ro:RO):FzR ro [] (.slice none 0 0):=
 FzR.mk [] 1 none none (fun h=>absurd rfl h) 0 (fun _=>.bool true) (by simp) (by simp) (by simp) (by simp) (by simp) (by simp) (by simp)
def nK (P:Program):Bool:=(List.range P.types.size).all fun t=>match P.underlying t with | some (.slice e)=>decide (0 < P.cellsOf e) | _=>true
section
variable {H:Type} {enc:TypeId × Value->H} {P:Program}
theorem LB {W W':World} (h:Stay W W') {p:MemPlace} (hp:p.block < W.heap.size):W.sameAt W' p:=by
 cases p with
 | cell b off=>exact h.cell (a:=⟨b,off,none⟩) hp
 | map b=>exact h.keep b hp
theorem pJ {W W':World} {sp:Nat->Bool} (hl:laidOutB P=true) (hm:mapsRowed P=true) (hs:nK P=true) (hst:Stay W W') :
 ∀ {ts:List TypeId} {vs:List Value} {ds:List (DataW H)} {ps:List MemPlace},(∀ t ∈ ts,t < P.types.size)->DataW.TrodAll enc P W 0 (fun _=>true) true ts vs ds ps->(∀ p ∈ ps,p.block < W.heap.size)->(∀ p ∈ ps,sp p.block=true)->
  DataW.TrodAll enc P W' 0 sp true ts vs ds ps
 | [],[],[],ps,_,h,_,_=>h
 | t :: ts,v :: vs,d :: ds,ps,ht,h,hb,hp=>by
  obtain ⟨p,q,⟨n,h1⟩,h2,rfl⟩:=h
  have hsz:∀ {t e:TypeId},t < P.types.size->P.underlying t=some (.slice e)->0 < P.cellsOf e:=fun {t e} ht hu=>by
   have:=List.all_eq_true.1 hs t (List.mem_range.2 ht)
   rw [hu] at this
   simpa using this
  exact ⟨p,q,⟨n,DataW.trod_stays (T:=(· < P.types.size)) (kids_rows hl hm) hsz (fun h=>by cases h) (ht t (by simp)) h1 (fun x hx=>LB hst (hb x (by simp [hx]))) (fun x hx=>hp x (by simp [hx]))⟩,
   pJ hl hm hs hst (fun u hu=>ht u (by simp [hu])) h2 (fun x hx=>hb x (by simp [hx])) (fun x hx=>hp x (by simp [hx])),rfl⟩
 | [],_ :: _,_,_,_,h,_,_=>h.elim
 | [],[],_ :: _,_,_,h,_,_=>h.elim
 | _ :: _,[],_,_,_,h,_,_=>h.elim
 | _ :: _,_ :: _,[],_,_,h,_,_=>h.elim
theorem NP {f:Func} {s:ChangeSpec} {apart fresh handsOn again:Bool} {W W':World} {args:Array Value} {ds gs:List (DataW H)} {before:List MemPlace} {tb:TypeId}
 (hl:laidOutB P=true) (hm:mapsRowed P=true) (hsr:nK P=true) (hps:∀ t ∈ f.params.toList,t < P.types.size) (hrt:f.resultTypes=#[tb]) (htb:P.underlying tb=some .bool)
 (hvars:s.vars=[]) (hW:DataW.Whole enc P f.params.toList s.vars apart W args.toList ds gs before) (hfn:s.fn H (ds ++ gs)={ results:=[.lit (.bool true)],args:=ds,vars:=[] }) (hst:Stay W W') :
 s.post enc P f apart fresh handsOn again W args (.bool true) W':=by
 have hlt:∀ p ∈ before,p.block < W.heap.size:=fun p hp=>hW.lt p hp
 obtain ⟨p,q,hA,hV,hb,_,_⟩:=id hW
 have hq:q=[]:=by
  rw [hvars] at hV
  cases gs with
  | nil=>exact hV
  | cons g gs=>exact hV.elim
 subst hq
 have hbp:before=p:=by rw [hb]; simp
 refine CC (pa:=p) (pv:=[]) hW (fun b sp hd=>?_) (fun sp hsp=>?_) (fun sp hsp=>?_) hb hst ?_
 · rw [hrt,hfn]
   exact ⟨[],[],⟨1,by simp [DataW.trod,Value.cells,htb]⟩,rfl,rfl⟩
 · rw [hfn]
   rw [hbp] at hlt hsp
   exact pJ hl hm hsr hst hps hA hlt hsp
 · rw [hfn,hvars]; rfl
 · intro j t r h1 h2
   rw [hrt] at h1 h2
   match j with
   | 0=>
    cases h1
    cases h2
    simp [Value.okWide,Cell.okWide,Cell.ok,htb]
   | j + 1=>cases h1
end
open Go.RowKit
inductive Fit (P:Program):TypeId->List C->Prop
 | int {t:TypeId} {k:IntKind} {n:Int}:P.underlying t=some (.int k)->(Lit.int k n).wf=true->Fit P t [.vl (.int k n)]
 | bool {t:TypeId} {b:Bool}:P.underlying t=some .bool->Fit P t [.vl (.bool b)]
 | str {t:TypeId} {s:ByteArray}:P.underlying t=some .string->s.size<=maxLen->Fit P t [.vl (.string s)]
 | sl {t e:TypeId} {xs:List (List C)}:P.underlying t=some (.slice e)->xs.length<=maxLen->(∀ r ∈ xs,Fit P e r)->Fit P t [.fz xs]
 | st {t:TypeId} {fs:Array Field} {parts:List (List C)}:P.underlying t=some (.struct fs)->parts.length=fs.size->(∀ (i:Nat) (f:Field) (p:List C),fs[i]? = some f->parts[i]? = some p->Fit P f.type p)->Fit P t parts.flatten
section
variable {P:Program} {t e:TypeId} {xs:List C}
theorem Fit.inv_int {k:IntKind} (ht:P.underlying t=some (.int k)) (h:Fit P t xs):∃ n:Int,xs=[.vl (.int k n)]/\(Lit.int k n).wf=true:=by
 cases h with
 | int h1 h2=>rw [ht] at h1; cases h1; exact ⟨_,rfl,h2⟩
 | bool h1=>rw [ht] at h1; cases h1
 | str h1=>rw [ht] at h1; cases h1
 | sl h1=>rw [ht] at h1; cases h1
 | st h1=>rw [ht] at h1; cases h1
theorem Fit.inv_bool (ht:P.underlying t=some .bool) (h:Fit P t xs):∃ b:Bool,xs=[.vl (.bool b)]:=by
 cases h with
 | int h1 h2=>rw [ht] at h1; cases h1
 | bool h1=>exact ⟨_,rfl⟩
 | str h1=>rw [ht] at h1; cases h1
 | sl h1=>rw [ht] at h1; cases h1
 | st h1=>rw [ht] at h1; cases h1
theorem Fit.inv_str (ht:P.underlying t=some .string) (h:Fit P t xs):∃ s:ByteArray,xs=[.vl (.string s)]/\s.size<=maxLen:=by
 cases h with
 | int h1 h2=>rw [ht] at h1; cases h1
 | bool h1=>rw [ht] at h1; cases h1
 | str h1 h2=>exact ⟨_,rfl,h2⟩
 | sl h1=>rw [ht] at h1; cases h1
 | st h1=>rw [ht] at h1; cases h1
theorem Fit.inv_sl (ht:P.underlying t=some (.slice e)) (h:Fit P t xs):∃ ys:List (List C),xs=[.fz ys]/\ys.length<=maxLen/\∀ r ∈ ys,Fit P e r:=by
 cases h with
 | int h1 h2=>rw [ht] at h1; cases h1
 | bool h1=>rw [ht] at h1; cases h1
 | str h1=>rw [ht] at h1; cases h1
 | sl h1 h2 h3=>rw [ht] at h1; cases h1; exact ⟨_,rfl,h2,h3⟩
 | st h1=>rw [ht] at h1; cases h1
theorem Fit.inv_st {fs:Array Field} (ht:P.underlying t=some (.struct fs)) (h:Fit P t xs):∃ parts:List (List C),xs=parts.flatten/\parts.length=fs.size/\∀ (i:Nat) (f:Field) (p:List C),fs[i]? = some f->parts[i]? = some p->Fit P f.type p:=by
 cases h with
 | int h1 h2=>rw [ht] at h1; cases h1
 | bool h1=>rw [ht] at h1; cases h1
 | str h1=>rw [ht] at h1; cases h1
 | sl h1=>rw [ht] at h1; cases h1
 | st h1 h2 h3=>rw [ht] at h1; cases h1; exact ⟨_,rfl,h2,h3⟩
end
theorem Fit.rows {P:Program} {e:TypeId} {α:Type} {row:α->List C} {Q:α->Prop} {ys:List (List C)} (hi:∀ r,Fit P e r->∃ a,r=row a/\Q a) (h:∀ r ∈ ys,Fit P e r):∃ l:List α,ys=l.map row/\∀ a ∈ l,Q a:=by
 induction ys with
 | nil=>exact ⟨[],rfl,fun a h=>by cases h⟩
 | cons r ys ih=>
  obtain ⟨l,h1,h2⟩:=ih fun r hr=>h r (List.mem_cons_of_mem _ hr)
  obtain ⟨a,h3,h4⟩:=hi r (h r (by simp))
  refine ⟨a :: l,by rw [h1,h3]; rfl,fun x hx=>?_⟩
  rcases List.mem_cons.1 hx with rfl | hx
  · exact h4
  · exact h2 x hx
def EK (P:Program):Nat->List Field->Option Nat
 | o,[]=>some o
 | o,f :: r=>if f.offset=o then EK P (o + P.cellsOf f.type) r else none
def vB (P:Program) (ts:List TypeId):Bool:=ts.all fun t=>match P.underlying t with
 | some (.int _) | some .bool | some .string=>true
 | some (.slice e)=>ts.contains e && decide (0 < P.cellsOf e)
 | some (.struct fs)=>fs.toList.all (fun f=>ts.contains f.type) && EK P 0 fs.toList == some (P.cellsOf t)
 | _=>false
theorem MV {P:Program} {R:C->Value->Prop} {Q:Field->List C->Prop} {cs:List Value}:∀ (fs:List Field) (o:Nat),EK P o fs=some cs.length->
 (∀ (i:Nat) (f:Field),fs[i]? = some f->∃ p,Q f p/\All2 R p ((cs.drop f.offset).take (P.cellsOf f.type)))->
 ∃ parts:List (List C),parts.length=fs.length/\(∀ (i:Nat) (f:Field) (p:List C),fs[i]? = some f->parts[i]? = some p->Q f p)/\All2 R parts.flatten (cs.drop o)
 | [],o,ho,_=>by
  simp only [EK,aE] at ho
  subst ho
  exact ⟨[],rfl,fun i f p h=>by simp at h,by simpa using All2.nil⟩
 | f :: fs,o,ho,h=>by
  simp only [EK] at ho
  split at ho
  · rename_i hf
    obtain ⟨parts,h1,h2,h3⟩:=MV fs _ ho fun i f hf=>h (i + 1) f (by simpa using hf)
    obtain ⟨p,h4,h5⟩:=h 0 f rfl
    refine ⟨p :: parts,by simp [h1],fun i g q hg hq=>?_,?_⟩
    · cases i with
      | zero=>simp at hg hq; subst hg hq; exact h4
      | succ i=>exact h2 i g q (by simpa using hg) (by simpa using hq)
    · have:cs.drop o=(cs.drop f.offset).take (P.cellsOf f.type) ++ cs.drop (o + P.cellsOf f.type):=by
       rw [hf,<-List.drop_drop,List.take_append_drop]
      rw [List.flatten_cons,this]
      exact h5.app h3
  · cases ho
section
variable {H:Type} {enc:TypeId × Value->H} {P:Program} {W:World} {ts:List TypeId}
theorem tM {b off len cap sz:Nat} {oa:Option Addr} (hoa:len ≠ 0->oa=some ⟨b,off,none⟩) (hsz:0 < sz) (X:Nat->List C) (hl:∀ i,i < len->(X i).length=sz) (hc:len<=cap)
 (h:∀ i,i < len->∀ j c,(X i)[j]? = some c->∃ v,W.cell? ⟨b,off + (i * sz + j),none⟩=some v/\c.fv (f8 W) v/\c.shut=true) :
 FzR (f8 W) ((List.range len).map X) (.slice oa len cap):=by
 have hz:∀ x ∈ (List.range len).map X,x.length=sz:=fun x hx=>by
  obtain ⟨i,hi,rfl⟩:=List.mem_map.1 hx
  exact hl i (List.mem_range.1 hi)
 have hfl:∀ k c,((List.range len).map X).flatten[k]? = some c->∃ v,W.cell? ⟨b,off + k,none⟩=some v/\c.fv (f8 W) v/\c.shut=true:=fun k c hk=>by
  have hkl:k < len * sz:=by
   have h1:=(a8.1 hk).1
   rw [r9 _ hz] at h1
   simpa using h1
  have hi:k / sz < len:=(Nat.div_lt_iff_lt_mul hsz).2 hkl
  have hj:=Nat.mod_lt k hsz
  have hg:=kU hz (i:=k / sz) (j:=k % sz) (by simpa using hi) hj
  rw [Nat.mul_comm,Nat.div_add_mod,hk] at hg
  have hxi:((List.range len).map X)[k / sz]? = some (X (k / sz)):=by simp [hi]
  rw [hxi,Option.bind_some] at hg
  have:=h (k / sz) hi (k % sz) c hg.symm
  rwa [Nat.mul_comm,Nat.div_add_mod] at this
 have hr:=FzR.mk (ro:=f8 W) ((List.range len).map X) sz (some (b,off)) oa (fun hne=>hoa (fun e=>by subst e; simp at hne)) cap (fun k=>(W.cell? ⟨b,off + k,none⟩).getD undef) hz (by simpa using hc) (fun _=>rfl)
  (fun k c hk=>by
    obtain ⟨v,h2,_⟩:=hfl k c hk
    simp [f8,h2])
  (fun k v hk=>by
    obtain ⟨u,h1,h2,_⟩:=hfl k _ hk
    have:u=v:=h2
    simp [h1,this])
  (fun k ys hk=>by
    obtain ⟨u,h1,h2,_⟩:=hfl k _ hk
    have:FzR (f8 W) ys u:=h2
    simpa [h1] using this)
  (fun c hc=>by
    obtain ⟨k,hk⟩:=List.mem_iff_getElem?.1 hc
    obtain ⟨u,_,_,h3⟩:=hfl k c hk
    exact h3)
 simpa using hr
theorem lX (hok:vB P ts=true):∀ (n:Nat) (t:TypeId) (cs:List Value) (y:DataW H × List MemPlace),t ∈ ts->DataW.trod enc P W 0 (fun _=>true) true n t cs=some y->
 ∃ xs,Fit P t xs/\All2 (C.fv (f8 W)) xs cs/\∀ c ∈ xs,c.shut=true
 | 0,t,cs,y,_,h=>by simp [DataW.trod] at h
 | n + 1,t,cs,y,ht,h=>by
  have h1:=List.all_eq_true.1 hok t ht
  split at h1
  · rename_i k hu
    obtain ⟨m,rfl,_,hw⟩:=DataW.trod_int hu h
    exact ⟨_,.int hu hw,.cons rfl .nil,fun c hc=>by simp at hc; subst hc; rfl⟩
  · rename_i hu
    obtain ⟨b,rfl,_⟩:=DataW.trod_bool hu h
    exact ⟨_,.bool hu,.cons rfl .nil,fun c hc=>by simp at hc; subst hc; rfl⟩
  · rename_i hu
    obtain ⟨s,rfl,_,hs⟩:=DataW.trod_string hu h
    exact ⟨_,.str hu hs,.cons rfl .nil,fun c hc=>by simp at hc; subst hc; rfl⟩
  · rename_i e hu
    simp only [Bool.and_eq_true,List.contains_iff_mem,decide_eq_true_eq] at h1
    obtain ⟨he,hpos⟩:=h1
    rcases DataW.trod_slice hu h with ⟨rfl,_⟩ | ⟨a,len,cap,elems,rest,n',hn',rfl,_,_,hl,hm,hel,hi,_⟩
    · exact ⟨_,.sl hu (Nat.zero_le _) (fun r hr=>by cases hr),.cons (JM _) .nil,fun c hc=>by simp at hc; subst hc; rfl⟩
    · obtain rfl:n=n':=by omega
      have hall:∀ i,i < len->∃ x:List C,Fit P e x/\x.length=P.cellsOf e/\(∀ j c,x[j]? = some c->∃ v,W.cell? ((a.add (i * P.cellsOf e)).add j)=some v/\c.fv (f8 W) v/\c.shut=true):=fun i hil=>by
       have h1:=hi i hil
       rw [aT (by omega)] at h1
       obtain ⟨cs',h2,h3⟩:=Option.bind_eq_some_iff.1 h1
       obtain ⟨x,h4,h5,h6⟩:=lX hok n e cs' _ he h3
       obtain ⟨_,h7,h8⟩:=World.cells?_some h2
       refine ⟨x,h4,h5.1.trans h7,fun j c hj=>?_⟩
       obtain ⟨v,h9,h10⟩:=h5.get hj
       have hjl:j < P.cellsOf e:=by rw [<-h7,<-h5.1]; exact (a8.1 hj).1
       refine ⟨v,?_,h10,h6 c (bX hj)⟩
       have:=h8 j hjl
       rwa [h9] at this
      by_cases h0:len=0
      · subst h0
        refine ⟨[.fz []],.sl hu (Nat.zero_le _) (fun r hr=>by cases hr),.cons ?_ .nil,fun c hc=>by simp at hc; subst hc; rfl⟩
        exact tM (b:=0) (off:=0) (fun h=>absurd rfl h) hpos (fun _=>[]) (fun i hi=>by omega) (Nat.zero_le _) (fun i hi=>by omega)
      · obtain ⟨x0,_,hx0l,hx0⟩:=hall 0 (by omega)
        have hsp:a.spot=none:=by
         have hx:∃ c,x0[0]? = some c:=⟨_,aT (by omega)⟩
         obtain ⟨c,hc⟩:=hx
         obtain ⟨v,hv,_⟩:=hx0 0 c hc
         unfold World.cell? at hv
         split at hv
         · split at hv
           · cases hv
           · rename_i hs; simpa [Addr.add] using hs
         · cases hv
        obtain ⟨b,off,spot⟩:=a
        obtain rfl:spot=none:=hsp
        haveI:Inhabited (List C):=⟨[]⟩
        obtain ⟨X,hX⟩:=Go.Deep.choose_lt hall
        refine ⟨[.fz ((List.range len).map X)],.sl hu (by simp; omega) (fun r hr=>?_),.cons ?_ .nil,fun c hc=>by simp at hc; subst hc; rfl⟩
        · obtain ⟨i,hi,rfl⟩:=List.mem_map.1 hr
          exact (hX i (List.mem_range.1 hi)).1
        · exact tM (fun _=>rfl) hpos X (fun i hi=>(hX i hi).2.1) hl (fun i hi j c hj=>by
           obtain ⟨v,h2,h3⟩:=(hX i hi).2.2 j c hj
           exact ⟨v,by simpa [Go.WideShapes.add_plain,Nat.add_assoc] using h2,h3⟩)
  · rename_i fs hu
    simp only [Bool.and_eq_true,List.all_eq_true,List.contains_iff_mem,beq_iff_eq] at h1
    obtain ⟨hft,hof⟩:=h1
    obtain ⟨ys,n',hn,_,hcl,hyl,hf⟩:=DataW.trod_struct hu h
    obtain rfl:n=n':=by omega
    obtain ⟨parts,k1,k2,k3⟩:=MV (P:=P) (R:=fun c v=>C.fv (f8 W) c v/\c.shut=true) (Q:=fun f p=>Fit P f.type p) (cs:=cs) fs.toList 0 (by rw [hcl]; exact hof) (fun i f hfi=>by
     have hfi':fs[i]? = some f:=by simpa using hfi
     have h2:=hf i f hfi'
     have hil:i < fs.size:=(Array.getElem?_eq_some_iff.1 hfi').1
     rw [aT (by omega)] at h2
     obtain ⟨x,h4,h5,h6⟩:=lX hok n f.type _ _ (hft f (bX hfi)) h2
     exact ⟨x,h4,⟨h5.1,fun j c v hc hv=>⟨h5.2 j c v hc hv,h6 c (bX hc)⟩⟩⟩)
    refine ⟨parts.flatten,.st hu (by simpa using k1) (fun i f p hfi hp=>k2 i f p (by simpa using hfi) hp),?_,fun c hc=>?_⟩
    · simpa using k3.imp (fun _ _ h=>h.1)
    · obtain ⟨j,hj⟩:=List.mem_iff_getElem?.1 hc
      obtain ⟨v,_,_,h3⟩:=k3.get hj
      exact h3
  · cases h1
theorem H5 (hok:vB P ts=true) {t:TypeId} {v:Value} {d:DataW H} {ps:List MemPlace} (ht:t ∈ ts) (h:DataW.Trod enc P W 0 (fun _=>true) true t v d ps):∃ xs,Fit P t xs/\All2 (C.fv (f8 W)) xs v.cells.toList/\∀ c ∈ xs,c.shut=true:=by
 obtain ⟨n,h⟩:=h
 exact lX hok n t _ _ ht h
theorem aAV {c:C} {v:Value} (h:All2 (C.fv (f8 W)) [c] v.cells.toList) (hv:v.cells.toList=[v]) (hs:c.shut=true):(S.va (.c1 c)).rel (gm []) (f8 W) v:=by
 rw [hv] at h
 exact (C.rel_shut hs).2 (h.2 0 c v rfl rfl)
theorem KV {cs:List C} {vs:Array Value} (h:All2 (C.fv (f8 W)) cs (Value.agg vs).cells.toList) (hs:∀ c ∈ cs,c.shut=true):(S.va (.gs cs)).rel (gm []) (f8 W) (.agg vs):=
 ⟨vs.toList,by simp,⟨by simpa [Value.cells] using h.1,fun i c v hc hv=>(C.rel_shut (hs c (bX hc))).2 (h.2 i c v hc (by simpa [Value.cells] using hv))⟩⟩
end
end Go.W
namespace Go.Proofs.YthpbnmebjocbeaaGreat
open Go.W
theorem v3:Tryz.prog.underlying 3=some (.int .i64):=by kernel_rfl
theorem v4:Tryz.prog.underlying 4=some .bool:=by kernel_rfl
theorem v9:Tryz.prog.underlying 9=some .string:=by kernel_rfl
theorem v22:Tryz.prog.underlying 22=some (.slice 118):=by kernel_rfl
theorem v23:Tryz.prog.underlying 23=some (.slice 48):=by kernel_rfl
theorem v30:Tryz.prog.underlying 46=some (.slice 52):=by kernel_rfl
theorem v35:Tryz.prog.underlying 116=some (.slice 9):=by kernel_rfl
theorem KO:Tryz.prog.underlying 40=some (.slice 42):=by kernel_rfl
theorem v45:Tryz.prog.underlying 64=some (.slice 3):=by kernel_rfl
theorem LJ:Tryz.prog.underlying 42=some (.struct #[⟨"Kind",3,0,false,"","",0⟩,⟨"Size",3,1,false,"","",8⟩,⟨"Name",9,2,false,"","",16⟩,⟨"Elem",40,3,false,"","",32⟩]):=by kernel_rfl
theorem v53:Tryz.prog.underlying 52=some (.struct #[⟨"Number",3,0,false,"","",0⟩,⟨"Name",9,1,false,"","",8⟩,⟨"Type",42,2,false,"","",24⟩,⟨"Optional",4,6,false,"","",80⟩]):=by kernel_rfl
theorem v32:Tryz.prog.underlying 48=some (.struct #[⟨"Name",9,0,false,"","",0⟩,⟨"Fields",46,1,false,"","",16⟩]):=by kernel_rfl
theorem v47:Tryz.prog.underlying 118=some (.struct #[⟨"Name",9,0,false,"","",0⟩,⟨"Names",116,1,false,"","",16⟩,⟨"Numbers",64,2,false,"","",40⟩]):=by kernel_rfl
theorem v25:Tryz.prog.underlying 25=some (.struct #[⟨"Version",3,0,false,"","",0⟩,⟨"Enums",22,1,false,"","",8⟩,⟨"Structs",23,2,false,"","",32⟩]):=by kernel_rfl
theorem gV {α:Type} {row:α->List C} {Q:α->Prop} {ys:List (List C)} (h:∀ r ∈ ys,∃ a,r=row a/\Q a):∃ l:List α,ys=l.map row/\∀ a ∈ l,Q a:=by
 induction ys with
 | nil=>exact ⟨[],rfl,fun a h=>by cases h⟩
 | cons r ys ih=>
  obtain ⟨l,h1,h2⟩:=ih fun r hr=>h r (List.mem_cons_of_mem _ hr)
  obtain ⟨a,h3,h4⟩:=h r List.mem_cons_self
  refine ⟨a :: l,by rw [h1,h3]; rfl,fun x hx=>?_⟩
  rcases List.mem_cons.1 hx with rfl | hx
  · exact h4
  · exact h2 x hx
theorem oQ {n:Int} (h:(Lit.int .i64 n).wf=true):bM n:=by simpa [bM,Lit.wf,IntKind.min,IntKind.max,IntKind.signed,IntKind.bits] using h
theorem sR {n:Nat} (h:n<=maxLen):n<=9223372036854775807:=by unfold maxLen at h; exact h
theorem sN {H:Type} {d:DataW H}:∀ {l:List (DataW H)},d ∈ l->Rows.uptoBulk d<=Rows.uptoBulkAll l
 | x :: r,h=>by
  simp only [Rows.uptoBulkAll]
  rcases List.mem_cons.1 h with rfl | e
  · omega
  · have:=sN e; omega
theorem DE {H:Type} (d:DataW H):0 < Rows.uptoBulk d:=by
 cases d with
 | lit l=>cases l<;>simp [Rows.uptoBulk]
 | _=>simp [Rows.uptoBulk]
theorem zR {H:Type}:∀ l:List (DataW H),l.length<=Rows.uptoBulkAll l
 | []=>Nat.zero_le _
 | d :: l=>by have:=zR l; have:=DE d; simp only [Rows.uptoBulkAll,List.length_cons]; omega
inductive FitB (P:Program):TypeId->List C->Nat->Prop
 | int {t:TypeId} {k:IntKind} {n:Int} {m:Nat}:P.underlying t=some (.int k)->(Lit.int k n).wf=true->FitB P t [.vl (.int k n)] m
 | bool {t:TypeId} {b:Bool} {m:Nat}:P.underlying t=some .bool->FitB P t [.vl (.bool b)] m
 | str {t:TypeId} {s:ByteArray} {m:Nat}:P.underlying t=some .string->s.size<=maxLen->FitB P t [.vl (.string s)] m
 | sl {t e:TypeId} {xs:List (List C)} {m:Nat}:P.underlying t=some (.slice e)->xs.length<=maxLen->xs.length<=m->(∀ r ∈ xs,FitB P e r m)->FitB P t [.fz xs] (m + 1)
 | st {t:TypeId} {fs:Array Field} {parts:List (List C)} {m:Nat}:P.underlying t=some (.struct fs)->parts.length=fs.size->(∀ (i:Nat) (f:Field) (p:List C),fs[i]? = some f->parts[i]? = some p->FitB P f.type p m)->FitB P t parts.flatten (m + 1)
theorem FitB.fit {P:Program} {t:TypeId} {xs:List C} {m:Nat} (h:FitB P t xs m):Fit P t xs:=by
 induction h with
 | int h1 h2=>exact .int h1 h2
 | bool h1=>exact .bool h1
 | str h1 h2=>exact .str h1 h2
 | sl h1 h2 _ _ ih=>exact .sl h1 h2 ih
 | st h1 h2 _ ih=>exact .st h1 h2 ih
theorem FitB.mono {P:Program} {t:TypeId} {xs:List C} {m:Nat} (h:FitB P t xs m):∀ {n:Nat},m<=n->FitB P t xs n:=by
 induction h with
 | int h1 h2=>exact fun _=>.int h1 h2
 | bool h1=>exact fun _=>.bool h1
 | str h1 h2=>exact fun _=>.str h1 h2
 | @sl t e xs m h1 h2 h3 _ ih=>
  intro n hn
  obtain ⟨n,rfl⟩:∃ k,n=k + 1:=⟨n - 1,by omega⟩
  exact .sl h1 h2 (by omega) fun r hr=>ih r hr (by omega)
 | @st t fs parts m h1 h2 _ ih=>
  intro n hn
  obtain ⟨n,rfl⟩:∃ k,n=k + 1:=⟨n - 1,by omega⟩
  exact .st h1 h2 fun i f p hf hp=>ih i f p hf hp (by omega)
section
variable {P:Program} {t e:TypeId} {xs:List C} {m:Nat}
theorem FitB.inv_sl (ht:P.underlying t=some (.slice e)) (h:FitB P t xs (m + 1)):∃ ys:List (List C),xs=[.fz ys]/\ys.length<=m/\∀ r ∈ ys,FitB P e r m:=by
 generalize hm:m + 1=k at h
 cases h with
 | int h1 h2=>rw [ht] at h1; cases h1
 | bool h1=>rw [ht] at h1; cases h1
 | str h1=>rw [ht] at h1; cases h1
 | sl h1 h2 h3 h4=>rw [ht] at h1; cases h1; cases hm; exact ⟨_,rfl,h3,h4⟩
 | st h1 h2 h3=>rw [ht] at h1; cases h1
theorem FitB.inv_st {fs:Array Field} (ht:P.underlying t=some (.struct fs)) (h:FitB P t xs (m + 1)):∃ parts:List (List C),xs=parts.flatten/\parts.length=fs.size/\∀ (i:Nat) (f:Field) (p:List C),fs[i]? = some f->parts[i]? = some p->FitB P f.type p m:=by
 generalize hm:m + 1=k at h
 cases h with
 | int h1 h2=>rw [ht] at h1; cases h1
 | bool h1=>rw [ht] at h1; cases h1
 | str h1=>rw [ht] at h1; cases h1
 | sl h1=>rw [ht] at h1; cases h1
 | st h1 h2 h3=>rw [ht] at h1; cases h1; cases hm; exact ⟨_,rfl,h2,h3⟩
theorem FitB.inv_sl' (ht:P.underlying t=some (.slice e)) (h:FitB P t xs m):∃ ys:List (List C),xs=[.fz ys]/\ys.length<=m/\∀ r ∈ ys,FitB P e r m:=by
 obtain ⟨ys,h1,h2,h3⟩:=FitB.inv_sl ht (h.mono (Nat.le_succ m))
 exact ⟨ys,h1,h2,h3⟩
theorem FitB.inv_st' {fs:Array Field} (ht:P.underlying t=some (.struct fs)) (h:FitB P t xs m):∃ parts:List (List C),xs=parts.flatten/\parts.length=fs.size/\∀ (i:Nat) (f:Field) (p:List C),fs[i]? = some f->parts[i]? = some p->FitB P f.type p m:=
 FitB.inv_st ht (h.mono (Nat.le_succ m))
end
section
variable {H:Type} {enc:TypeId × Value->H} {P:Program} {W:World} {ts:List TypeId}
theorem kF (hok:vB P ts=true):∀ (n:Nat) (t:TypeId) (cs:List Value) (y:DataW H × List MemPlace),t ∈ ts->DataW.trod enc P W 0 (fun _=>true) true n t cs=some y->
 ∃ xs,FitB P t xs (Rows.uptoBulk y.1)/\All2 (C.fv (f8 W)) xs cs/\∀ c ∈ xs,c.shut=true
 | 0,t,cs,y,_,h=>by simp [DataW.trod] at h
 | n + 1,t,cs,y,ht,h=>by
  have h1:=List.all_eq_true.1 hok t ht
  split at h1
  · rename_i k hu
    obtain ⟨m,rfl,_,hw⟩:=DataW.trod_int hu h
    exact ⟨_,.int hu hw,.cons rfl .nil,fun c hc=>by simp at hc; subst hc; rfl⟩
  · rename_i hu
    obtain ⟨b,rfl,_⟩:=DataW.trod_bool hu h
    exact ⟨_,.bool hu,.cons rfl .nil,fun c hc=>by simp at hc; subst hc; rfl⟩
  · rename_i hu
    obtain ⟨s,rfl,_,hs⟩:=DataW.trod_string hu h
    exact ⟨_,.str hu hs,.cons rfl .nil,fun c hc=>by simp at hc; subst hc; rfl⟩
  · rename_i e hu
    simp only [Bool.and_eq_true,List.contains_iff_mem,decide_eq_true_eq] at h1
    obtain ⟨he,hpos⟩:=h1
    rcases DataW.trod_slice hu h with ⟨rfl,hy⟩ | ⟨a,len,cap,elems,rest,n',hn',rfl,hy,_,hl,hm,hel,hi,_⟩
    · refine ⟨_,(FitB.sl (m:=0) hu (Nat.zero_le _) (Nat.zero_le _) (fun r hr=>by cases hr)).mono (DE _),.cons (JM _) .nil,fun c hc=>by simp at hc; subst hc; rfl⟩
    · obtain rfl:n=n':=by omega
      subst hy
      have hbk:Rows.uptoBulk (DataW.slice (elems.map (·.1)) (rest.map (·.1)))=Rows.uptoBulkAll (elems.map (·.1)) + Rows.uptoBulkAll (rest.map (·.1)) + 1:=by simp only [Rows.uptoBulk]
      generalize hM:Rows.uptoBulkAll (elems.map (·.1)) + Rows.uptoBulkAll (rest.map (·.1))=M at hbk
      show ∃ xs,FitB P t xs (Rows.uptoBulk (DataW.slice (elems.map (·.1)) (rest.map (·.1))))/\_
      rw [hbk]
      have hlM:len<=M:=by
       have:=zR (elems.map (·.1))
       rw [List.length_map,hel] at this
       omega
      have hall:∀ i,i < len->∃ x:List C,FitB P e x M/\x.length=P.cellsOf e/\(∀ j c,x[j]? = some c->∃ v,W.cell? ((a.add (i * P.cellsOf e)).add j)=some v/\c.fv (f8 W) v/\c.shut=true):=fun i hil=>by
       have h1:=hi i hil
       rw [aT (by omega)] at h1
       obtain ⟨cs',h2,h3⟩:=Option.bind_eq_some_iff.1 h1
       obtain ⟨x,h4,h5,h6⟩:=kF hok n e cs' _ he h3
       obtain ⟨_,h7,h8⟩:=World.cells?_some h2
       refine ⟨x,h4.mono ?_,h5.1.trans h7,fun j c hj=>?_⟩
       · have:=sN (List.mem_map_of_mem (f:=(·.1)) (List.getElem_mem (show i < elems.length by omega)))
         omega
       obtain ⟨v,h9,h10⟩:=h5.get hj
       have hjl:j < P.cellsOf e:=by rw [<-h7,<-h5.1]; exact (a8.1 hj).1
       refine ⟨v,?_,h10,h6 c (bX hj)⟩
       have:=h8 j hjl
       rwa [h9] at this
      by_cases h0:len=0
      · subst h0
        refine ⟨[.fz []],.sl hu (Nat.zero_le _) (Nat.zero_le _) (fun r hr=>by cases hr),.cons ?_ .nil,fun c hc=>by simp at hc; subst hc; rfl⟩
        exact tM (b:=0) (off:=0) (fun h=>absurd rfl h) hpos (fun _=>[]) (fun i hi=>by omega) (Nat.zero_le _) (fun i hi=>by omega)
      · obtain ⟨x0,_,hx0l,hx0⟩:=hall 0 (by omega)
        have hsp:a.spot=none:=by
         have hx:∃ c,x0[0]? = some c:=⟨_,aT (by omega)⟩
         obtain ⟨c,hc⟩:=hx
         obtain ⟨v,hv,_⟩:=hx0 0 c hc
         unfold World.cell? at hv
         split at hv
         · split at hv
           · cases hv
           · rename_i hs; simpa [Addr.add] using hs
         · cases hv
        obtain ⟨b,off,spot⟩:=a
        obtain rfl:spot=none:=hsp
        haveI:Inhabited (List C):=⟨[]⟩
        obtain ⟨X,hX⟩:=Go.Deep.choose_lt hall
        refine ⟨[.fz ((List.range len).map X)],.sl hu (by simp; omega) (by simpa using hlM) (fun r hr=>?_),.cons ?_ .nil,fun c hc=>by simp at hc; subst hc; rfl⟩
        · obtain ⟨i,hi,rfl⟩:=List.mem_map.1 hr
          exact (hX i (List.mem_range.1 hi)).1
        · exact tM (fun _=>rfl) hpos X (fun i hi=>(hX i hi).2.1) hl (fun i hi j c hj=>by
           obtain ⟨v,h2,h3⟩:=(hX i hi).2.2 j c hj
           exact ⟨v,by simpa [Go.WideShapes.add_plain,Nat.add_assoc] using h2,h3⟩)
  · rename_i fs hu
    simp only [Bool.and_eq_true,List.all_eq_true,List.contains_iff_mem,beq_iff_eq] at h1
    obtain ⟨hft,hof⟩:=h1
    obtain ⟨ys,n',hn,hy,hcl,hyl,hf⟩:=DataW.trod_struct hu h
    obtain rfl:n=n':=by omega
    subst hy
    show ∃ xs,FitB P t xs (Rows.uptoBulk (DataW.agg (ys.map (·.1))))/\_
    rw [show Rows.uptoBulk (DataW.agg (ys.map (·.1)))=Rows.uptoBulkAll (ys.map (·.1)) + 1 by simp only [Rows.uptoBulk]]
    obtain ⟨parts,k1,k2,k3⟩:=MV (P:=P) (R:=fun c v=>C.fv (f8 W) c v/\c.shut=true) (Q:=fun f p=>FitB P f.type p (Rows.uptoBulkAll (ys.map (·.1)))) (cs:=cs) fs.toList 0 (by rw [hcl]; exact hof) (fun i f hfi=>by
     have hfi':fs[i]? = some f:=by simpa using hfi
     have h2:=hf i f hfi'
     have hil:i < fs.size:=(Array.getElem?_eq_some_iff.1 hfi').1
     rw [aT (by omega)] at h2
     obtain ⟨x,h4,h5,h6⟩:=kF hok n f.type _ _ (hft f (bX hfi)) h2
     exact ⟨x,h4.mono (sN (List.mem_map_of_mem (f:=(·.1)) (List.getElem_mem (show i < ys.length by omega)))),⟨h5.1,fun j c v hc hv=>⟨h5.2 j c v hc hv,h6 c (bX hc)⟩⟩⟩)
    refine ⟨parts.flatten,.st hu (by simpa using k1) (fun i f p hfi hp=>k2 i f p (by simpa using hfi) hp),?_,fun c hc=>?_⟩
    · simpa using k3.imp (fun _ _ h=>h.1)
    · obtain ⟨j,hj⟩:=List.mem_iff_getElem?.1 hc
      obtain ⟨v,_,_,h3⟩:=k3.get hj
      exact h3
  · cases h1
theorem rW (hok:vB P ts=true) {t:TypeId} {v:Value} {d:DataW H} {ps:List MemPlace} (ht:t ∈ ts) (h:DataW.Trod enc P W 0 (fun _=>true) true t v d ps):∃ xs,FitB P t xs (Rows.uptoBulk d)/\All2 (C.fv (f8 W)) xs v.cells.toList/\∀ c ∈ xs,c.shut=true:=by
 obtain ⟨n,h⟩:=h
 exact kF hok n t _ _ ht h
end
theorem aD0:∀ {t:TypeId} {cs:List C} {m:Nat},FitB Tryz.prog t cs m->m<=1048576->(t=42->∃ a,cs=aU a/\TyOk a/\TySm a/\(bK a).1<=m)/\(t=40->∃ l:List Ty,cs=[.fz (l.map aU)]/\l.length<=m/\∀ a ∈ l,TyOk a/\TySm a/\(bK a).1 + 1<=m):=by
 intro t cs m h
 induction h with
 | int h1 _=>exact fun _=>⟨fun e=>(by rw [e,LJ] at h1; cases h1),fun e=>(by rw [e,KO] at h1; cases h1)⟩
 | bool h1=>exact fun _=>⟨fun e=>(by rw [e,LJ] at h1; cases h1),fun e=>(by rw [e,KO] at h1; cases h1)⟩
 | str h1 _=>exact fun _=>⟨fun e=>(by rw [e,LJ] at h1; cases h1),fun e=>(by rw [e,KO] at h1; cases h1)⟩
 | @sl t e xs m h1 h2 h3 h4 ih=>
  intro hm
  refine ⟨fun e=>(by rw [e,LJ] at h1; cases h1),fun e=>?_⟩
  subst e
  rw [KO] at h1
  cases h1
  obtain ⟨l,rfl,hl⟩:=gV (row:=aU) (Q:=fun a=>TyOk a/\TySm a/\(bK a).1<=m) fun r hr=>(ih r hr (by omega)).1 rfl
  exact ⟨l,rfl,by simp at h3; omega,fun a ha=>⟨(hl a ha).1,(hl a ha).2.1,Nat.succ_le_succ (hl a ha).2.2⟩⟩
 | @st t fs parts m h1 h2 h3 ih=>
  intro hm
  refine ⟨fun e=>?_,fun e=>(by rw [e,KO] at h1; cases h1)⟩
  subst e
  rw [LJ] at h1
  cases h1
  match parts,h2 with
  | [p0,p1,p2,p3],_=>
   obtain ⟨k,rfl,hk⟩:=Fit.inv_int v3 (h3 0 _ p0 rfl rfl).fit
   obtain ⟨s,rfl,hs⟩:=Fit.inv_int v3 (h3 1 _ p1 rfl rfl).fit
   obtain ⟨n,rfl,hn⟩:=Fit.inv_str v9 (h3 2 _ p2 rfl rfl).fit
   obtain ⟨l,rfl,hl,ho⟩:=(ih 3 _ p3 rfl rfl (by omega)).2 rfl
   refine ⟨.mk k s n l,by rw [aU,bH]; rfl,.mk (oQ hk) (oQ hs) (sR hn) (by omega) fun a ha=>(ho a ha).1,.mk (by omega) fun a ha=>(ho a ha).2.1,?_⟩
   rw [bK]
   cases k == 5 with
   | false=>exact Nat.zero_le _
   | true=>
    show (zJ l _).1<=m + 1
    cases l with
    | nil=>rw [zJ]; exact Nat.zero_le _
    | cons u r=>rw [zJ]; have:=(ho u List.mem_cons_self).2.2; show (bK u).1 + 1<=m + 1; omega
theorem WJ (m:Nat) (hm:m<=1048576) (cs:List C) (h:FitB Tryz.prog 42 cs m):∃ a,cs=aU a/\TyOk a/\TySm a/\(bK a).1<=m:=(aD0 h hm).1 rfl
theorem VW {m:Nat} (hm:m<=1048576) {cs:List C} (h:FitB Tryz.prog 52 cs m):∃ a:Fl,cs=aR a/\a.ok/\TySm a.ty/\(bK a.ty).1<=1000000000:=by
 obtain ⟨parts,rfl,h2,h3⟩:=FitB.inv_st' v53 h
 match parts,h2 with
 | [p0,p1,p2,p3],_=>
  obtain ⟨k,rfl,hk⟩:=Fit.inv_int v3 (h3 0 _ p0 rfl rfl).fit
  obtain ⟨n,rfl,hn⟩:=Fit.inv_str v9 (h3 1 _ p1 rfl rfl).fit
  obtain ⟨t,rfl,ht,hs,hl⟩:=WJ _ hm _ (h3 2 _ p2 rfl rfl)
  obtain ⟨b,rfl⟩:=Fit.inv_bool v4 (h3 3 _ p3 rfl rfl).fit
  exact ⟨⟨k,n,t,b⟩,by rw [aP]; rfl,⟨oQ hk,sR hn,ht⟩,hs,by show (bK t).1<=_; omega⟩
theorem ZP {m:Nat} (hm:m<=1048576) {cs:List C} (h:FitB Tryz.prog 48 cs m):∃ a:St,cs=aJ a/\a.ok/\a.fs.length<=1000000000/\(∀ f ∈ a.fs,TySm f.ty)/\∀ f ∈ a.fs,(bK f.ty).1<=1000000000:=by
 obtain ⟨parts,rfl,h2,h3⟩:=FitB.inv_st' v32 h
 match parts,h2 with
 | [p0,p1],_=>
  obtain ⟨n,rfl,hn⟩:=Fit.inv_str v9 (h3 0 _ p0 rfl rfl).fit
  obtain ⟨ys,rfl,hl,hy⟩:=FitB.inv_sl' v30 (h3 1 _ p1 rfl rfl)
  obtain ⟨l,rfl,ho⟩:=gV (row:=aR) (Q:=fun f=>f.ok/\TySm f.ty/\(bK f.ty).1<=1000000000) fun r hr=>VW hm (hy r hr)
  rw [List.length_map] at hl
  exact ⟨⟨n,l⟩,rfl,⟨sR hn,by show l.length<=_; omega,fun f hf=>(ho f hf).1⟩,by show l.length<=_; omega,fun f hf=>(ho f hf).2.1,fun f hf=>(ho f hf).2.2⟩
theorem YT {m:Nat} (hm:m<=1048576) {cs:List C} (h:FitB Tryz.prog 118 cs m):∃ a:En,cs=aY a/\a.ok/\a.ns.length<=1000000000/\a.vs.length<=1000000000:=by
 obtain ⟨parts,rfl,h2,h3⟩:=FitB.inv_st' v47 h
 match parts,h2 with
 | [p0,p1,p2],_=>
  obtain ⟨n,rfl,hn⟩:=Fit.inv_str v9 (h3 0 _ p0 rfl rfl).fit
  obtain ⟨ys,rfl,hl,hy⟩:=FitB.inv_sl' v35 (h3 1 _ p1 rfl rfl)
  obtain ⟨zs,rfl,hl2,hz⟩:=FitB.inv_sl' v45 (h3 2 _ p2 rfl rfl)
  obtain ⟨l,rfl,ho⟩:=gV (row:=bZ) (Q:=fun b=>b.size<=9223372036854775807) fun r hr=>by
   obtain ⟨s,rfl,hs⟩:=Fit.inv_str v9 (hy r hr).fit; exact ⟨s,rfl,sR hs⟩
  obtain ⟨k,rfl,hk⟩:=gV (row:=eC) (Q:=bM) fun r hr=>by
   obtain ⟨s,rfl,hs⟩:=Fit.inv_int v3 (hz r hr).fit; exact ⟨s,rfl,oQ hs⟩
  rw [List.length_map] at hl hl2
  exact ⟨⟨n,l,k⟩,rfl,⟨sR hn,by show l.length<=_; omega,by show k.length<=_; omega,ho,hk⟩,by show l.length<=_; omega,by show k.length<=_; omega⟩
theorem Y1 (m:Nat) (hm:m<=1048576) (cs:List C) (h:FitB Tryz.prog 25 cs m):∃ a:Sc,cs=aI a/\a.fit:=by
 obtain ⟨parts,rfl,h2,h3⟩:=FitB.inv_st' v25 h
 match parts,h2 with
 | [p0,p1,p2],_=>
  obtain ⟨n,rfl,hn⟩:=Fit.inv_int v3 (h3 0 _ p0 rfl rfl).fit
  obtain ⟨ys,rfl,hl,hy⟩:=FitB.inv_sl' v22 (h3 1 _ p1 rfl rfl)
  obtain ⟨zs,rfl,hl2,hz⟩:=FitB.inv_sl' v23 (h3 2 _ p2 rfl rfl)
  obtain ⟨l,rfl,ho⟩:=gV (row:=aY) (Q:=fun e:En=>e.ok/\e.ns.length<=1000000000/\e.vs.length<=1000000000) fun r hr=>YT hm (hy r hr)
  obtain ⟨k,rfl,hk⟩:=gV (row:=aJ) (Q:=fun a:St=>a.ok/\a.fs.length<=1000000000/\(∀ f ∈ a.fs,TySm f.ty)/\∀ f ∈ a.fs,(bK f.ty).1<=1000000000) fun r hr=>ZP hm (hz r hr)
  rw [List.length_map] at hl hl2
  exact ⟨⟨n,l,k⟩,rfl,⟨⟨oQ hn,by show l.length<=_; omega,by show k.length<=_; omega,fun e he=>(ho e he).1,fun t ht=>(hk t ht).1⟩,fun t ht=>(hk t ht).2.2.2,fun t ht=>⟨(hk t ht).2.1,(hk t ht).2.2.1⟩,fun e he=>(ho e he).2⟩⟩
theorem IS:Tryz.prog.underlying 29=some (.struct #[⟨"Kind",3,0,false,"","",0⟩,⟨"N",2,1,false,"","",8⟩,⟨"S",9,2,false,"","",16⟩,⟨"L",26,3,false,"","",32⟩,⟨"F",27,4,false,"","",56⟩]):=by kernel_rfl
theorem IU:Tryz.prog.underlying 76=some (.struct #[⟨"Number",3,0,false,"","",0⟩,⟨"Value",29,1,false,"","",8⟩]):=by kernel_rfl
theorem CZ:Tryz.prog.underlying 26=some (.slice 29):=by kernel_rfl
theorem DX:Tryz.prog.underlying 27=some (.slice 76):=by kernel_rfl
theorem yIn:Tryz.prog.underlying 2=some (.int .i64):=by kernel_rfl
theorem J8 {m:Nat}:∀ {l:List Vl},(∀ v ∈ l,v.h<=m)->Vl.hl l<=m
 | [],_=>by rw [Vl.hl]; exact Nat.zero_le _
 | v :: l,h=>by rw [Vl.hl]; have:=h v List.mem_cons_self; have:=J8 fun x hx=>h x (List.mem_cons_of_mem _ hx); omega
theorem KA {m:Nat}:∀ {l:List (Int × Vl)},(∀ x ∈ l,x.2.h<=m)->Vl.hf l<=m
 | [],_=>by rw [Vl.hf]; exact Nat.zero_le _
 | (i,v) :: l,h=>by rw [Vl.hf]; have:=h (i,v) List.mem_cons_self; have:=KA fun x hx=>h x (List.mem_cons_of_mem _ hx); dsimp only at *; omega
theorem aD9:∀ {t:TypeId} {cs:List C} {m:Nat},FitB Tryz.prog t cs m->m<=1048576->(t=29->∃ a,cs=aN a/\VlOk a/\a.h<=m)/\(t=26->∃ l:List Vl,cs=[.fz (l.map aN)]/\l.length<=m/\∀ a ∈ l,VlOk a/\a.h + 1<=m)/\
 (t=76->∃ x:Int × Vl,cs=bC x/\(bM x.1/\VlOk x.2/\x.2.h + 1<=m))/\(t=27->∃ l:List (Int × Vl),cs=[.fz (l.map bC)]/\l.length<=m/\∀ x ∈ l,bM x.1/\VlOk x.2/\x.2.h + 1<=m):=by
 intro t cs m h
 induction h with
 | int h1 _=>exact fun _=>⟨fun e=>(by rw [e,IS] at h1; cases h1),fun e=>(by rw [e,CZ] at h1; cases h1),fun e=>(by rw [e,IU] at h1; cases h1),fun e=>(by rw [e,DX] at h1; cases h1)⟩
 | bool h1=>exact fun _=>⟨fun e=>(by rw [e,IS] at h1; cases h1),fun e=>(by rw [e,CZ] at h1; cases h1),fun e=>(by rw [e,IU] at h1; cases h1),fun e=>(by rw [e,DX] at h1; cases h1)⟩
 | str h1 _=>exact fun _=>⟨fun e=>(by rw [e,IS] at h1; cases h1),fun e=>(by rw [e,CZ] at h1; cases h1),fun e=>(by rw [e,IU] at h1; cases h1),fun e=>(by rw [e,DX] at h1; cases h1)⟩
 | @sl t e xs m h1 h2 h3 h4 ih=>
  intro hm
  refine ⟨fun e=>(by rw [e,IS] at h1; cases h1),fun e=>?_,fun e=>(by rw [e,IU] at h1; cases h1),fun e=>?_⟩
  · subst e
    rw [CZ] at h1
    cases h1
    obtain ⟨l,rfl,hl⟩:=gV (row:=aN) (Q:=fun a=>VlOk a/\a.h<=m) fun r hr=>(ih r hr (by omega)).1 rfl
    rw [List.length_map] at h3
    exact ⟨l,rfl,by omega,fun a ha=>⟨(hl a ha).1,Nat.succ_le_succ (hl a ha).2⟩⟩
  · subst e
    rw [DX] at h1
    cases h1
    obtain ⟨l,rfl,hl⟩:=gV (row:=bC) (Q:=fun x:Int × Vl=>bM x.1/\VlOk x.2/\x.2.h + 1<=m) fun r hr=>(ih r hr (by omega)).2.2.1 rfl
    rw [List.length_map] at h3
    exact ⟨l,rfl,by omega,fun a ha=>⟨(hl a ha).1,(hl a ha).2.1,Nat.le_succ_of_le (hl a ha).2.2⟩⟩
 | @st t fs parts m h1 h2 h3 ih=>
  intro hm
  refine ⟨fun e=>?_,fun e=>(by rw [e,CZ] at h1; cases h1),fun e=>?_,fun e=>(by rw [e,DX] at h1; cases h1)⟩
  · subst e
    rw [IS] at h1
    cases h1
    match parts,h2 with
    | [p0,p1,p2,p3,p4],_=>
     obtain ⟨k,rfl,hk⟩:=Fit.inv_int v3 (h3 0 _ p0 rfl rfl).fit
     obtain ⟨n,rfl,hn⟩:=Fit.inv_int yIn (h3 1 _ p1 rfl rfl).fit
     obtain ⟨s,rfl,hs⟩:=Fit.inv_str v9 (h3 2 _ p2 rfl rfl).fit
     obtain ⟨l,rfl,hl,ho⟩:=(ih 3 _ p3 rfl rfl (by omega)).2.1 rfl
     obtain ⟨f,rfl,hf,hp⟩:=(ih 4 _ p4 rfl rfl (by omega)).2.2.2 rfl
     refine ⟨.mk k n s l f,by rw [aN,sO,sE]; rfl,.mk (oQ hk) (oQ hn) (sR hs) (by omega) (by omega) (fun x hx=>(ho x hx).1) (fun x hx=>(hp x hx).1) (fun x hx=>(hp x hx).2.1),?_⟩
     rw [Vl.h]
     have a1:Vl.hl l<=m:=J8 fun x hx=>by have:=(ho x hx).2; omega
     have a2:Vl.hf f<=m:=KA fun x hx=>by have:=(hp x hx).2.2; omega
     omega
  · subst e
    rw [IU] at h1
    cases h1
    match parts,h2 with
    | [p0,p1],_=>
     obtain ⟨k,rfl,hk⟩:=Fit.inv_int v3 (h3 0 _ p0 rfl rfl).fit
     obtain ⟨v,rfl,hv,hh⟩:=(ih 1 _ p1 rfl rfl (by omega)).1 rfl
     exact ⟨(k,v),by simp [bC],oQ hk,hv,Nat.succ_le_succ hh⟩
theorem VQ (m:Nat) (hm:m<=1048576) (cs:List C) (h:FitB Tryz.prog 29 cs m):∃ a,cs=aN a/\VlOk a/\a.h<=m:=(aD9 h hm).1 rfl
end Go.Proofs.YthpbnmebjocbeaaGreat
