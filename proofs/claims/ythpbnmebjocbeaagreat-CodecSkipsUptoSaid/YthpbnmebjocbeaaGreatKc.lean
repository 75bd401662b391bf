/- Lemmas and walks for the proof. -/
import Derived.Test.YthpbnmebjocbeaaGreatKb
import Derived.Test.YthpbnmebjocbeaaGreatProg
import Derived.Shelf.Strings.Search1
import Derived.Shelf.Small.Strs
import Derived.Shelf.Sort.Plain
import Derived.Shelf.Slices.In.SortNone
import Derived.WalkKit
import Derived.Laws.IdiomStrings
set_option maxRecDepth 100000
set_option maxHeartbeats 8000000
namespace Go.Proofs.YthpbnmebjocbeaaGreat
open Go.W
def UR:PC:=.seq (.reg [.q 4 (.mv (.k (.bool false)))]) (.seq (.reg [.v 5 0,.v 6 1,.a 7 (.cq 142 [(.t 5),(.t 6)]),.q 8 (.bin .geq true (.t 7) (.i 0)),.v 4 8]) .ret)
def VA:List RV:=[.mv (.t 4)]
theorem aHE:aP Tryz.prog true ⟨fun r k=>if r=1/\k=2 then .q else .own [],fun _=>false⟩ Tryz.f109=some (UR,VA):=by kernel_rfl
def RX:PC:=.seq (.reg [.q 4 (.mv (.k (.bool false)))]) (.seq (.reg [.v 5 0,.v 6 1,.a 7 (.cl 149 [(.t 5),(.t 6)] [0]),.q 8 (.bin .geq true (.t 7) (.i 0)),.v 4 8]) .ret)
def SM:List RV:=[.mv (.t 4)]
theorem aHU:aP Tryz.prog true ⟨fun r k=>if r=1/\k=2 then .own [0] else .own [],fun _=>false⟩ Tryz.f114=some (RX,SM):=by kernel_rfl
def JY:PC:=.seq (.reg [.q 4 (.mv (.i 0))]) (.seq (.seq (.reg [.v 6 0,.q 7 (.lnL (.t 6)),.q 8 (.mv (.i 0))]) (.block 0 (.loop (.seq (.reg [.q 9 (.bin .lss true (.t 8) (.t 7))]) (.seq (.cond (.t 9) .skip (.exit 0)) (.seq (.block 1 (.seq (.reg [.v 10 8,.v 5 10]) (.seq (.reg [.v 11 1,.v 12 0,.v 13 5,.l 14 (.ia 6 (.t 12) (.t 13)),.l 15 (.ldn 6 (.t 14)),.a 16 (.ca (.t 11) [(.t 15)] [0])]) (.cond (.t 16) (.seq (.reg [.v 17 5,.v 4 17]) .ret) .skip)))) (.reg [.q 18 (.bin .add true (.t 8) (.i 1)),.v 8 18]))))))) (.seq (.reg [.q 4 (.mv (.i (-1)))]) .ret))
def JF:List RV:=[.mv (.t 4)]
theorem S9:aP Tryz.prog true ⟨fun r k=>if r=4/\k=5 then .own [0] else .own [],fun _=>false⟩ Tryz.f117=some (JY,JF):=by kernel_rfl
def VP:PC:=.seq (.reg [.q 4 (.mv (.i 0))]) (.seq (.seq (.reg [.v 6 0,.q 7 (.lnL (.t 6)),.q 8 (.mv (.i 0))]) (.block 0 (.loop (.seq (.reg [.q 9 (.bin .lss true (.t 8) (.t 7))]) (.seq (.cond (.t 9) .skip (.exit 0)) (.seq (.block 1 (.seq (.reg [.v 10 8,.v 5 10]) (.seq (.reg [.v 11 1,.v 12 0,.v 13 5,.l 14 (.ia 1 (.t 12) (.t 13)),.l 15 (.ld1 (.t 14)),.q 16 (.bin .eql true (.t 11) (.t 15))]) (.cond (.t 16) (.seq (.reg [.v 17 5,.v 4 17]) .ret) .skip)))) (.reg [.q 18 (.bin .add true (.t 8) (.i 1)),.v 8 18]))))))) (.seq (.reg [.q 4 (.mv (.i (-1)))]) .ret))
def UB:List RV:=[.mv (.t 4)]
theorem aF4:aP Tryz.prog true ⟨fun _ _=>.own [],fun _=>false⟩ Tryz.f142=some (VP,UB):=by kernel_rfl
def SO:PC:=.seq (.reg [.q 4 (.mv (.i 0))]) (.seq (.seq (.reg [.v 6 0,.q 7 (.lnL (.t 6)),.q 8 (.mv (.i 0))]) (.block 0 (.loop (.seq (.reg [.q 9 (.bin .lss true (.t 8) (.t 7))]) (.seq (.cond (.t 9) .skip (.exit 0)) (.seq (.block 1 (.seq (.reg [.v 10 8,.v 5 10]) (.seq (.reg [.v 11 1,.v 12 0,.v 13 5,.l 14 (.ia 1 (.t 12) (.t 13)),.l 15 (.ld1 (.t 14)),.a 16 (.ca (.t 11) [(.t 15)] [0])]) (.cond (.t 16) (.seq (.reg [.v 17 5,.v 4 17]) .ret) .skip)))) (.reg [.q 18 (.bin .add true (.t 8) (.i 1)),.v 8 18]))))))) (.seq (.reg [.q 4 (.mv (.i (-1)))]) .ret))
def TZ:List RV:=[.mv (.t 4)]
theorem aFY:aP Tryz.prog true ⟨fun r k=>if r=4/\k=5 then .own [0] else .own [],fun _=>false⟩ Tryz.f149=some (SO,TZ):=by kernel_rfl
def VH:PC:=.seq (.reg [.q 4 (.mv (.k (.bool false)))]) (.seq (.reg [.v 5 0,.v 6 1,.a 7 (.cl 117 [(.t 5),(.t 6)] [0]),.q 8 (.bin .geq true (.t 7) (.i 0)),.v 4 8]) .ret)
def VE:List RV:=[.mv (.t 4)]
theorem aIB:aP Tryz.prog true ⟨fun r k=>if r=1/\k=2 then .own [0] else .own [],fun _=>false⟩ Tryz.f150=some (VH,VE):=by kernel_rfl
def aEA:PC:=.seq (.reg [.e 1 (.bx 25 (.t 0)),.q 2 (.mv (.i 0))]) (.seq (.seq (.reg [.q 13 (.fa 0 (.t 1)),.l 14 (.ld1 (.t 13)),.q 15 (.bin .lss true (.t 14) (.i 1)),.v 16 15,⟨some 17,(some (16,false)),.q (.fa 0 (.t 1))⟩,⟨some 18,(some (16,false)),.l (.ld1 (.t 17))⟩,⟨some 19,(some (16,false)),.q (.bin .gtr true (.t 18) (.i 999))⟩,.a 20 (.pick (.t 16) (.k (.bool true)) (.t 19))]) (.cond (.t 20) (.seq (.reg [.q 2 (.mv (.i 4))]) .ret) .skip)) (.seq (.seq (.reg [.l 21 (.ldn 3 (.t 1)),.a 22 (.cq 67 [(.t 21)])]) (.cond (.t 22) (.seq (.reg [.q 2 (.mv (.i 3))]) .ret) .skip)) (.seq (.seq (.reg [.q 23 (.fa 1 (.t 1)),.l 24 (.ld1 (.t 23)),.q 25 (.lnL (.t 24)),.q 26 (.mv (.i 0))]) (.block 0 (.loop (.seq (.reg [.q 27 (.bin .lss true (.t 26) (.t 25))]) (.seq (.cond (.t 27) .skip (.exit 0)) (.seq (.block 1 (.seq (.reg [.v 28 26,.l 29 (.ia 3 (.t 24) (.t 26)),.l 30 (.ldn 3 (.t 29)),.e 4 (.al (.agg #[(.string (mk [])),(.slice none 0 0),(.slice none 0 0)]) 118),.v 3 28,.s (.st 3 (.t 4) (.t 30))]) (.seq (.seq (.reg [.q 31 (.fa 0 (.t 4)),.l 32 (.ld1 (.t 31)),.a 33 (.cq 68 [(.t 32)]),.q 34 (.not (.t 33))]) (.cond (.t 34) (.seq (.reg [.q 2 (.mv (.i 5))]) .ret) .skip)) (.seq (.seq (.reg [.q 35 (.fa 1 (.t 1)),.l 36 (.ld1 (.t 35)),.v 37 3,.q 38 (.sf 3 (.t 36) none (some (.t 37))),.q 39 (.lnL (.t 38)),.q 40 (.mv (.i 0))]) (.block 2 (.loop (.seq (.reg [.q 41 (.bin .lss true (.t 40) (.t 39))]) (.seq (.cond (.t 41) .skip (.exit 2)) (.seq (.block 3 (.seq (.reg [.l 42 (.ia 3 (.t 38) (.t 40)),.l 43 (.ldn 3 (.t 42)),.e 6 (.al (.agg #[(.string (mk [])),(.slice none 0 0),(.slice none 0 0)]) 118),.s (.st 3 (.t 6) (.t 43))]) (.seq (.reg [.q 44 (.fa 0 (.t 6)),.l 45 (.ld1 (.t 44)),.q 46 (.fa 0 (.t 4)),.l 47 (.ld1 (.t 46)),.q 48 (.bin .eql true (.t 45) (.t 47))]) (.cond (.t 48) (.seq (.reg [.q 2 (.mv (.i 7))]) .ret) .skip)))) (.reg [.q 49 (.bin .add true (.t 40) (.i 1)),.v 40 49]))))))) (.seq (.reg [.l 50 (.ldn 3 (.t 4)),.a 51 (.cq 69 [(.t 50)]),.v 7 51]) (.seq (.reg [.v 52 7,.q 53 (.bin .neq true (.t 52) (.i 0))]) (.cond (.t 53) (.seq (.reg [.v 54 7,.v 2 54]) .ret) .skip))))))) (.reg [.q 55 (.bin .add true (.t 26) (.i 1)),.v 26 55]))))))) (.seq (.reg [.l 56 (.ldn 3 (.t 1)),.a 57 (.cl 70 [(.t 56)] []),.e 8 (.al (.agg #[(.map none),(.map none)]) 124),.s (.st 2 (.t 8) (.t 57))]) (.seq (.seq (.reg [.q 58 (.fa 2 (.t 1)),.l 59 (.ld1 (.t 58)),.q 60 (.lnL (.t 59)),.q 61 (.mv (.i 0))]) (.block 4 (.loop (.seq (.reg [.q 62 (.bin .lss true (.t 61) (.t 60))]) (.seq (.cond (.t 62) .skip (.exit 4)) (.seq (.block 5 (.seq (.reg [.v 63 61,.l 64 (.ia 2 (.t 59) (.t 61)),.l 65 (.ldn 2 (.t 64)),.e 10 (.al (.agg #[(.string (mk [])),(.slice none 0 0)]) 48),.v 9 63,.s (.st 2 (.t 10) (.t 65))]) (.seq (.seq (.reg [.l 66 (.ldn 3 (.t 1)),.v 67 9,.q 68 (.fa 0 (.t 10)),.l 69 (.ld1 (.t 68)),.a 70 (.cq 71 [(.t 66),(.t 67),(.t 69)]),.v 11 70]) (.seq (.reg [.v 71 11,.q 72 (.bin .neq true (.t 71) (.i 0))]) (.cond (.t 72) (.seq (.reg [.v 73 11,.v 2 73]) .ret) .skip))) (.seq (.reg [.l 74 (.ldn 2 (.t 8)),.l 75 (.ldn 2 (.t 10)),.a 76 (.cl 72 [(.t 74),(.t 75)] [1,2]),.v 12 76]) (.seq (.reg [.v 77 12,.q 78 (.bin .neq true (.t 77) (.i 0))]) (.cond (.t 78) (.seq (.reg [.v 79 12,.v 2 79]) .ret) .skip)))))) (.reg [.q 80 (.bin .add true (.t 61) (.i 1)),.v 61 80]))))))) (.seq (.reg [.l 81 (.ldn 3 (.t 1)),.l 82 (.ldn 2 (.t 8)),.a 83 (.cl 73 [(.t 81),(.t 82)] [1,2]),.v 2 83]) .ret))))))
def aD6:List RV:=[.mv (.t 2)]
theorem aNU:aP Tryz.prog true ⟨fun r k=>if r=3/\k=1 then .q else if r=8/\k=2 then .q else if r=16/\k=1 then .q else if r=24/\k=4 then .q else if r=27/\k=2 then .own [1,2] else if r=31/\k=2 then .own [1,2] else .own [],fun _=>false⟩ Tryz.f39=some (aEA,aD6):=by kernel_rfl
def aD3:PC:=.seq (.reg [.e 2 (.bx 25 (.t 0)),.e 4 (.al (.agg #[(.string (mk [])),(.slice none 0 0)]) 48),.q 5 (.mv (.k (.bool false)))]) (.seq (.seq (.reg [.q 8 (.fa 2 (.t 2)),.l 9 (.ld1 (.t 8)),.q 10 (.lnL (.t 9)),.q 11 (.mv (.i 0))]) (.block 0 (.loop (.seq (.reg [.q 12 (.bin .lss true (.t 11) (.t 10))]) (.seq (.cond (.t 12) .skip (.exit 0)) (.seq (.block 1 (.seq (.reg [.l 13 (.ia 2 (.t 9) (.t 11)),.l 14 (.ldn 2 (.t 13)),.e 7 (.al (.agg #[(.string (mk [])),(.slice none 0 0)]) 48),.s (.st 2 (.t 7) (.t 14))]) (.seq (.reg [.q 15 (.fa 0 (.t 7)),.l 16 (.ld1 (.t 15)),.v 17 1,.q 18 (.bin .eql true (.t 16) (.t 17))]) (.cond (.t 18) (.seq (.reg [.l 19 (.ldn 2 (.t 7)),.a 20 (.cl 74 [(.t 19)] []),.s (.st 2 (.t 4) (.t 20)),.q 5 (.mv (.k (.bool true)))]) .ret) .skip)))) (.reg [.q 21 (.bin .add true (.t 11) (.i 1)),.v 11 21]))))))) (.seq (.reg [.q 22 (.bd [(.string (mk [])),(.slice none 0 0)] []),.s (.st 2 (.t 4) (.t 22)),.q 5 (.mv (.k (.bool false)))]) .ret))
def aEL:List RV:=[.ld (.ldn 2 (.t 4)),.mv (.t 5)]
theorem aKU:aP Tryz.prog true ⟨fun _ _=>.own [],fun _=>false⟩ Tryz.f40=some (aD3,aEL):=by kernel_rfl
def aE1:PC:=.seq (.reg [.e 2 (.bx 48 (.t 0)),.e 4 (.al (.agg #[(.int .i64 0),(.string (mk [])),(.int .i64 0),(.int .i64 0),(.string (mk [])),(.slice none 0 0),(.bool false)]) 52),.q 5 (.mv (.k (.bool false)))]) (.seq (.seq (.reg [.q 8 (.fa 1 (.t 2)),.l 9 (.ld1 (.t 8)),.q 10 (.lnL (.t 9)),.q 11 (.mv (.i 0))]) (.block 0 (.loop (.seq (.reg [.q 12 (.bin .lss true (.t 11) (.t 10))]) (.seq (.cond (.t 12) .skip (.exit 0)) (.seq (.block 1 (.seq (.reg [.l 13 (.ia 7 (.t 9) (.t 11)),.l 14 (.ldn 7 (.t 13)),.e 7 (.al (.agg #[(.int .i64 0),(.string (mk [])),(.int .i64 0),(.int .i64 0),(.string (mk [])),(.slice none 0 0),(.bool false)]) 52),.s (.st 7 (.t 7) (.t 14))]) (.seq (.reg [.q 15 (.fa 0 (.t 7)),.l 16 (.ld1 (.t 15)),.v 17 1,.q 18 (.bin .eql true (.t 16) (.t 17))]) (.cond (.t 18) (.seq (.reg [.l 19 (.ldn 7 (.t 7)),.a 20 (.cl 96 [(.t 19)] []),.s (.st 7 (.t 4) (.t 20)),.q 5 (.mv (.k (.bool true)))]) .ret) .skip)))) (.reg [.q 21 (.bin .add true (.t 11) (.i 1)),.v 11 21]))))))) (.seq (.reg [.q 22 (.bd [(.int .i64 0),(.string (mk [])),(.int .i64 0),(.int .i64 0),(.string (mk [])),(.slice none 0 0),(.bool false)] []),.s (.st 7 (.t 4) (.t 22)),.q 5 (.mv (.k (.bool false)))]) .ret))
def aAA:List RV:=[.ld (.ldn 7 (.t 4)),.mv (.t 5)]
theorem aMM:aP Tryz.prog true ⟨fun _ _=>.own [],fun _=>false⟩ Tryz.f54=some (aE1,aAA):=by kernel_rfl
def YV:PC:=.seq (.reg [.e 1 (.bx 25 (.t 0)),.q 2 (.mv (.k (.bool false)))]) (.seq (.seq (.reg [.q 7 (.fa 1 (.t 1)),.l 8 (.ld1 (.t 7)),.q 9 (.lnL (.t 8)),.q 10 (.bin .gtr true (.t 9) (.i 16)),.v 11 10,⟨some 12,(some (11,false)),.q (.fa 2 (.t 1))⟩,⟨some 13,(some (11,false)),.l (.ld1 (.t 12))⟩,⟨some 14,(some (11,false)),.q (.lnL (.t 13))⟩,⟨some 15,(some (11,false)),.q (.fa 1 (.t 1))⟩,⟨some 16,(some (11,false)),.l (.ld1 (.t 15))⟩,⟨some 17,(some (11,false)),.q (.lnL (.t 16))⟩,⟨some 18,(some (11,false)),.q (.bin .sub true (.i 16) (.t 17))⟩,⟨some 19,(some (11,false)),.q (.bin .gtr true (.t 14) (.t 18))⟩,.a 20 (.pick (.t 11) (.k (.bool true)) (.t 19))]) (.cond (.t 20) (.seq (.reg [.q 2 (.mv (.k (.bool true)))]) .ret) .skip)) (.seq (.seq (.reg [.q 21 (.fa 1 (.t 1)),.l 22 (.ld1 (.t 21)),.q 23 (.lnL (.t 22)),.q 24 (.mv (.i 0))]) (.block 0 (.loop (.seq (.reg [.q 25 (.bin .lss true (.t 24) (.t 23))]) (.seq (.cond (.t 25) .skip (.exit 0)) (.seq (.block 1 (.seq (.reg [.l 26 (.ia 3 (.t 22) (.t 24)),.l 27 (.ldn 3 (.t 26)),.e 4 (.al (.agg #[(.string (mk [])),(.slice none 0 0),(.slice none 0 0)]) 118),.s (.st 3 (.t 4) (.t 27))]) (.seq (.reg [.q 28 (.fa 1 (.t 4)),.l 29 (.ld1 (.t 28)),.q 30 (.lnL (.t 29)),.q 31 (.bin .gtr true (.t 30) (.i 16))]) (.cond (.t 31) (.seq (.reg [.q 2 (.mv (.k (.bool true)))]) .ret) .skip)))) (.reg [.q 32 (.bin .add true (.t 24) (.i 1)),.v 24 32]))))))) (.seq (.seq (.reg [.q 33 (.fa 2 (.t 1)),.l 34 (.ld1 (.t 33)),.q 35 (.lnL (.t 34)),.q 36 (.mv (.i 0))]) (.block 2 (.loop (.seq (.reg [.q 37 (.bin .lss true (.t 36) (.t 35))]) (.seq (.cond (.t 37) .skip (.exit 2)) (.seq (.block 3 (.seq (.reg [.l 38 (.ia 2 (.t 34) (.t 36)),.l 39 (.ldn 2 (.t 38)),.e 6 (.al (.agg #[(.string (mk [])),(.slice none 0 0)]) 48),.s (.st 2 (.t 6) (.t 39))]) (.seq (.reg [.q 40 (.fa 1 (.t 6)),.l 41 (.ld1 (.t 40)),.q 42 (.lnL (.t 41)),.q 43 (.bin .gtr true (.t 42) (.i 16))]) (.cond (.t 43) (.seq (.reg [.q 2 (.mv (.k (.bool true)))]) .ret) .skip)))) (.reg [.q 44 (.bin .add true (.t 36) (.i 1)),.v 36 44]))))))) (.seq (.reg [.q 2 (.mv (.k (.bool false)))]) .ret))))
def aCX:List RV:=[.mv (.t 2)]
theorem aOJ:aP Tryz.prog true ⟨fun _ _=>.own [],fun _=>false⟩ Tryz.f67=some (YV,aCX):=by kernel_rfl
def P9:PC:=.seq (.reg [.q 2 (.mv (.k (.bool false)))]) (.seq (.reg [.v 3 0,.a 4 (.cq 108 [(.t 3)]),.v 5 4,⟨some 6,(some (5,true)),.q (.mv (.t 0))⟩,⟨some 7,(some (5,true)),.ix (.t 6) (.i 0)⟩,⟨some 8,(some (5,true)),.q (.bin .geq true (.t 7) (.k (.int .u8 65)))⟩,.a 9 (.pick (.t 5) (.t 8) (.k (.bool false))),.v 10 9,⟨some 11,(some (10,true)),.q (.mv (.t 0))⟩,⟨some 12,(some (10,true)),.ix (.t 11) (.i 0)⟩,⟨some 13,(some (10,true)),.q (.bin .leq true (.t 12) (.k (.int .u8 90)))⟩,.a 14 (.pick (.t 10) (.t 13) (.k (.bool false))),.v 2 14]) .ret)
def PE:List RV:=[.mv (.t 2)]
theorem aN4:aP Tryz.prog true ⟨fun r k=>if r=1/\k=1 then .q else .own [],fun _=>false⟩ Tryz.f68=some (P9,PE):=by kernel_rfl
def aB1:PC:=.seq (.reg [.e 1 (.bx 118 (.t 0)),.q 2 (.mv (.i 0))]) (.seq (.seq (.reg [.q 6 (.fa 1 (.t 1)),.l 7 (.ld1 (.t 6)),.q 8 (.lnL (.t 7)),.q 9 (.bin .eql true (.t 8) (.i 0)),.v 10 9,⟨some 11,(some (10,false)),.q (.fa 1 (.t 1))⟩,⟨some 12,(some (10,false)),.l (.ld1 (.t 11))⟩,⟨some 13,(some (10,false)),.q (.lnL (.t 12))⟩,⟨some 14,(some (10,false)),.q (.fa 2 (.t 1))⟩,⟨some 15,(some (10,false)),.l (.ld1 (.t 14))⟩,⟨some 16,(some (10,false)),.q (.lnL (.t 15))⟩,⟨some 17,(some (10,false)),.q (.bin .neq true (.t 13) (.t 16))⟩,.a 18 (.pick (.t 10) (.k (.bool true)) (.t 17))]) (.cond (.t 18) (.seq (.reg [.q 2 (.mv (.i 2))]) .ret) .skip)) (.seq (.seq (.reg [.q 19 (.fa 1 (.t 1)),.l 20 (.ld1 (.t 19)),.q 21 (.lnL (.t 20)),.q 22 (.mv (.i 0))]) (.block 0 (.loop (.seq (.reg [.q 23 (.bin .lss true (.t 22) (.t 21))]) (.seq (.cond (.t 23) .skip (.exit 0)) (.seq (.block 1 (.seq (.reg [.v 24 22,.l 25 (.ia 1 (.t 20) (.t 22)),.l 26 (.ld1 (.t 25)),.v 3 24,.v 4 26]) (.seq (.reg [.q 27 (.fa 2 (.t 1)),.l 28 (.ld1 (.t 27)),.v 29 3,.l 30 (.ia 1 (.t 28) (.t 29)),.l 31 (.ld1 (.t 30)),.v 5 31]) (.block 2 (.seq (.reg [.v 33 4,.a 34 (.cq 108 [(.t 33)]),.q 35 (.not (.t 34)),.v 32 35]) (.cond (.t 32) (.seq (.reg [.q 2 (.mv (.i 5))]) .ret) (.seq (.reg [.q 37 (.fa 1 (.t 1)),.l 38 (.ld1 (.t 37)),.v 39 3,.q 40 (.sf 1 (.t 38) none (some (.t 39))),.v 41 4,.a 42 (.cq 109 [(.t 40),(.t 41)]),.v 36 42]) (.cond (.t 36) (.seq (.reg [.q 2 (.mv (.i 7))]) .ret) (.seq (.reg [.v 44 5,.q 45 (.bin .lss true (.t 44) (.i 0)),.v 46 45,⟨some 47,(some (46,false)),.q (.mv (.t 5))⟩,⟨some 48,(some (46,false)),.q (.bin .gtr true (.t 47) (.i 127))⟩,.a 49 (.pick (.t 46) (.k (.bool true)) (.t 48)),.v 43 49]) (.cond (.t 43) (.seq (.reg [.q 2 (.mv (.i 4))]) .ret) (.seq (.reg [.v 51 3,.q 52 (.bin .eql true (.t 51) (.i 0)),.v 53 52,⟨some 54,(some (53,true)),.q (.mv (.t 5))⟩,⟨some 55,(some (53,true)),.q (.bin .neq true (.t 54) (.i 0))⟩,.a 56 (.pick (.t 53) (.t 55) (.k (.bool false))),.v 57 56,⟨some 58,(some (57,false)),.q (.mv (.t 3))⟩,⟨some 59,(some (57,false)),.q (.bin .gtr true (.t 58) (.i 0))⟩,⟨some 60,(some (57,false)),.q (.mv (.t 59))⟩,⟨some 61,(some (60,true)),.q (.mv (.t 5))⟩,⟨some 62,(some (60,true)),.q (.fa 2 (.t 1))⟩,⟨some 63,(some (60,true)),.l (.ld1 (.t 62))⟩,⟨some 64,(some (60,true)),.q (.mv (.t 3))⟩,⟨some 65,(some (60,true)),.q (.bin .sub true (.t 64) (.i 1))⟩,⟨some 66,(some (60,true)),.l (.ia 1 (.t 63) (.t 65))⟩,⟨some 67,(some (60,true)),.l (.ld1 (.t 66))⟩,⟨some 68,(some (60,true)),.q (.bin .leq true (.t 61) (.t 67))⟩,⟨some 69,(some (57,false)),.pick (.t 60) (.t 68) (.k (.bool false))⟩,.a 70 (.pick (.t 57) (.k (.bool true)) (.t 69)),.v 50 70]) (.cond (.t 50) (.seq (.reg [.q 2 (.mv (.i 2))]) .ret) .skip)))))))))))) (.reg [.q 71 (.bin .add true (.t 22) (.i 1)),.v 22 71]))))))) (.seq (.reg [.q 2 (.mv (.i 0))]) .ret)))
def YA:List RV:=[.mv (.t 2)]
theorem aN8:aP Tryz.prog true ⟨fun r k=>if r=7/\k=1 then .q else if r=9/\k=5 then .q else .own [],fun _=>false⟩ Tryz.f69=some (aB1,YA):=by kernel_rfl
def aEW:PC:=.seq (.reg [.e 1 (.bx 25 (.t 0)),.e 2 (.al (.agg #[(.map none),(.map none)]) 124)]) (.seq (.reg [.e 6 (.mm .string),.e 7 (.mm .string),.q 8 (.bd [(.map none),(.map none)] [(0,1,(.t 6)),(1,1,(.t 7))]),.e 3 (.al (.agg #[(.map none),(.map none)]) 124),.s (.st 2 (.t 3) (.t 8))]) (.seq (.seq (.reg [.q 9 (.fa 2 (.t 1)),.l 10 (.ld1 (.t 9)),.q 11 (.lnL (.t 10)),.q 12 (.bin .sub true (.t 11) (.i 1)),.v 4 12]) (.block 0 (.loop (.seq (.seq (.reg [.v 13 4,.q 14 (.bin .geq true (.t 13) (.i 0))]) (.cond (.t 14) .skip (.exit 0))) (.seq (.block 1 (.reg [.q 17 (.fa 0 (.t 3)),.l 18 (.ld1 (.t 17)),.q 19 (.fa 2 (.t 1)),.l 20 (.ld1 (.t 19)),.v 21 4,.l 22 (.ia 2 (.t 20) (.t 21)),.q 23 (.fa 0 (.t 22)),.l 24 (.ld1 (.t 23)),.q 25 (.fa 2 (.t 1)),.l 26 (.ld1 (.t 25)),.v 27 4,.l 28 (.ia 2 (.t 26) (.t 27)),.l 29 (.ldn 2 (.t 28)),.s (.mu .string (.t 18) (.t 24) (.t 29))])) (.reg [.v 15 4,.q 16 (.bin .sub true (.t 15) (.i 1)),.v 4 16])))))) (.seq (.seq (.reg [.q 30 (.fa 1 (.t 1)),.l 31 (.ld1 (.t 30)),.q 32 (.lnL (.t 31)),.q 33 (.bin .sub true (.t 32) (.i 1)),.v 5 33]) (.block 2 (.loop (.seq (.seq (.reg [.v 34 5,.q 35 (.bin .geq true (.t 34) (.i 0))]) (.cond (.t 35) .skip (.exit 2))) (.seq (.block 3 (.reg [.q 38 (.fa 1 (.t 3)),.l 39 (.ld1 (.t 38)),.q 40 (.fa 1 (.t 1)),.l 41 (.ld1 (.t 40)),.v 42 5,.l 43 (.ia 3 (.t 41) (.t 42)),.q 44 (.fa 0 (.t 43)),.l 45 (.ld1 (.t 44)),.q 46 (.fa 1 (.t 1)),.l 47 (.ld1 (.t 46)),.v 48 5,.l 49 (.ia 3 (.t 47) (.t 48)),.l 50 (.ldn 3 (.t 49)),.s (.mu .string (.t 39) (.t 45) (.t 50))])) (.reg [.v 36 5,.q 37 (.bin .sub true (.t 36) (.i 1)),.v 5 37])))))) (.seq (.reg [.l 51 (.ldn 2 (.t 3)),.s (.st 2 (.t 2) (.t 51))]) .ret))))
def aDI:List RV:=[.ld (.ldn 2 (.t 2))]
theorem aL7:aP Tryz.prog true ⟨fun _ _=>.own [],fun _=>false⟩ Tryz.f70=some (aEW,aDI):=by kernel_rfl
def aDL:PC:=.seq (.reg [.e 3 (.bx 25 (.t 0)),.q 6 (.mv (.i 0))]) (.seq (.seq (.reg [.v 11 2,.a 12 (.cq 68 [(.t 11)]),.q 13 (.not (.t 12))]) (.cond (.t 13) (.seq (.reg [.q 6 (.mv (.i 5))]) .ret) .skip)) (.seq (.seq (.reg [.q 14 (.fa 1 (.t 3)),.l 15 (.ld1 (.t 14)),.q 16 (.lnL (.t 15)),.q 17 (.mv (.i 0))]) (.block 0 (.loop (.seq (.reg [.q 18 (.bin .lss true (.t 17) (.t 16))]) (.seq (.cond (.t 18) .skip (.exit 0)) (.seq (.block 1 (.seq (.reg [.l 19 (.ia 3 (.t 15) (.t 17)),.l 20 (.ldn 3 (.t 19)),.e 8 (.al (.agg #[(.string (mk [])),(.slice none 0 0),(.slice none 0 0)]) 118),.s (.st 3 (.t 8) (.t 20))]) (.seq (.reg [.q 21 (.fa 0 (.t 8)),.l 22 (.ld1 (.t 21)),.v 23 2,.q 24 (.bin .eql true (.t 22) (.t 23))]) (.cond (.t 24) (.seq (.reg [.q 6 (.mv (.i 7))]) .ret) .skip)))) (.reg [.q 25 (.bin .add true (.t 17) (.i 1)),.v 17 25]))))))) (.seq (.seq (.reg [.q 26 (.fa 2 (.t 3)),.l 27 (.ld1 (.t 26)),.v 28 1,.q 29 (.sf 2 (.t 27) none (some (.t 28))),.q 30 (.lnL (.t 29)),.q 31 (.mv (.i 0))]) (.block 2 (.loop (.seq (.reg [.q 32 (.bin .lss true (.t 31) (.t 30))]) (.seq (.cond (.t 32) .skip (.exit 2)) (.seq (.block 3 (.seq (.reg [.l 33 (.ia 2 (.t 29) (.t 31)),.l 34 (.ldn 2 (.t 33)),.e 10 (.al (.agg #[(.string (mk [])),(.slice none 0 0)]) 48),.s (.st 2 (.t 10) (.t 34))]) (.seq (.reg [.q 35 (.fa 0 (.t 10)),.l 36 (.ld1 (.t 35)),.v 37 2,.q 38 (.bin .eql true (.t 36) (.t 37))]) (.cond (.t 38) (.seq (.reg [.q 6 (.mv (.i 7))]) .ret) .skip)))) (.reg [.q 39 (.bin .add true (.t 31) (.i 1)),.v 31 39]))))))) (.seq (.reg [.q 6 (.mv (.i 0))]) .ret))))
def aCH:List RV:=[.mv (.t 6)]
theorem aO0:aP Tryz.prog true ⟨fun r k=>if r=1/\k=1 then .q else .own [],fun _=>false⟩ Tryz.f71=some (aDL,aCH):=by kernel_rfl
def YF:PC:=.seq (.reg [.e 2 (.bx 124 (.t 0)),.e 3 (.bx 48 (.t 1)),.q 4 (.mv (.i 0))]) (.seq (.seq (.reg [.q 9 (.fa 1 (.t 3)),.l 10 (.ld1 (.t 9)),.q 11 (.lnL (.t 10)),.q 12 (.mv (.i 0))]) (.block 0 (.loop (.seq (.reg [.q 13 (.bin .lss true (.t 12) (.t 11))]) (.seq (.cond (.t 13) .skip (.exit 0)) (.seq (.block 1 (.seq (.reg [.v 14 12,.l 15 (.ia 7 (.t 10) (.t 12)),.l 16 (.ldn 7 (.t 15)),.e 6 (.al (.agg #[(.int .i64 0),(.string (mk [])),(.int .i64 0),(.int .i64 0),(.string (mk [])),(.slice none 0 0),(.bool false)]) 52),.v 5 14,.s (.st 7 (.t 6) (.t 16))]) (.seq (.block 2 (.seq (.reg [.q 18 (.fa 0 (.t 6)),.l 19 (.ld1 (.t 18)),.q 20 (.bin .lss true (.t 19) (.i 1)),.v 21 20,⟨some 22,(some (21,false)),.q (.fa 0 (.t 6))⟩,⟨some 23,(some (21,false)),.l (.ld1 (.t 22))⟩,⟨some 24,(some (21,false)),.q (.bin .gtr true (.t 23) (.i 127))⟩,.a 25 (.pick (.t 21) (.k (.bool true)) (.t 24)),.v 17 25]) (.cond (.t 17) (.seq (.reg [.q 4 (.mv (.i 4))]) .ret) (.seq (.reg [.v 27 5,.q 28 (.bin .gtr true (.t 27) (.i 0)),.v 29 28,⟨some 30,(some (29,true)),.q (.fa 0 (.t 6))⟩,⟨some 31,(some (29,true)),.l (.ld1 (.t 30))⟩,⟨some 32,(some (29,true)),.q (.fa 1 (.t 3))⟩,⟨some 33,(some (29,true)),.l (.ld1 (.t 32))⟩,⟨some 34,(some (29,true)),.q (.mv (.t 5))⟩,⟨some 35,(some (29,true)),.q (.bin .sub true (.t 34) (.i 1))⟩,⟨some 36,(some (29,true)),.l (.ia 7 (.t 33) (.t 35))⟩,⟨some 37,(some (29,true)),.q (.fa 0 (.t 36))⟩,⟨some 38,(some (29,true)),.l (.ld1 (.t 37))⟩,⟨some 39,(some (29,true)),.q (.bin .leq true (.t 31) (.t 38))⟩,.a 40 (.pick (.t 29) (.t 39) (.k (.bool false))),.v 26 40]) (.cond (.t 26) (.seq (.reg [.q 4 (.mv (.i 2))]) .ret) (.seq (.reg [.q 42 (.fa 1 (.t 6)),.l 43 (.ld1 (.t 42)),.a 44 (.cq 108 [(.t 43)]),.q 45 (.not (.t 44)),.v 41 45]) (.cond (.t 41) (.seq (.reg [.q 4 (.mv (.i 5))]) .ret) .skip))))))) (.seq (.seq (.reg [.q 46 (.fa 1 (.t 3)),.l 47 (.ld1 (.t 46)),.v 48 5,.q 49 (.sf 7 (.t 47) none (some (.t 48))),.q 50 (.lnL (.t 49)),.q 51 (.mv (.i 0))]) (.block 3 (.loop (.seq (.reg [.q 52 (.bin .lss true (.t 51) (.t 50))]) (.seq (.cond (.t 52) .skip (.exit 3)) (.seq (.block 4 (.seq (.reg [.l 53 (.ia 7 (.t 49) (.t 51)),.l 54 (.ldn 7 (.t 53)),.e 8 (.al (.agg #[(.int .i64 0),(.string (mk [])),(.int .i64 0),(.int .i64 0),(.string (mk [])),(.slice none 0 0),(.bool false)]) 52),.s (.st 7 (.t 8) (.t 54))]) (.seq (.reg [.q 55 (.fa 1 (.t 8)),.l 56 (.ld1 (.t 55)),.q 57 (.fa 1 (.t 6)),.l 58 (.ld1 (.t 57)),.q 59 (.bin .eql true (.t 56) (.t 58))]) (.cond (.t 59) (.seq (.reg [.q 4 (.mv (.i 7))]) .ret) .skip)))) (.reg [.q 60 (.bin .add true (.t 51) (.i 1)),.v 51 60]))))))) (.seq (.reg [.l 61 (.ldn 2 (.t 2)),.q 62 (.fa 2 (.t 6)),.l 63 (.ldn 4 (.t 62)),.a 64 (.cl 110 [(.t 61),(.t 63)] [0,1]),.q 65 (.not (.t 64))]) (.cond (.t 65) (.seq (.reg [.q 4 (.mv (.i 13))]) .ret) .skip)))))) (.reg [.q 66 (.bin .add true (.t 12) (.i 1)),.v 12 66]))))))) (.seq (.reg [.q 4 (.mv (.i 0))]) .ret))
def aD2:List RV:=[.mv (.t 4)]
theorem aOO:aP Tryz.prog true ⟨fun r k=>if r=8/\k=2 then .q else if r=16/\k=3 then .own [0,1] else .own [],fun _=>false⟩ Tryz.f72=some (YF,aD2):=by kernel_rfl
def aA7:PC:=.seq (.reg [.e 2 (.bx 25 (.t 0)),.e 3 (.bx 124 (.t 1)),.q 4 (.mv (.i 0))]) (.seq (.seq (.reg [.q 9 (.fa 2 (.t 2)),.l 10 (.ld1 (.t 9)),.q 11 (.lnL (.t 10)),.q 12 (.mv (.i 0))]) (.block 0 (.loop (.seq (.reg [.q 13 (.bin .lss true (.t 12) (.t 11))]) (.seq (.cond (.t 13) .skip (.exit 0)) (.seq (.block 1 (.seq (.reg [.l 14 (.ia 2 (.t 10) (.t 12)),.l 15 (.ldn 2 (.t 14)),.e 6 (.al (.agg #[(.string (mk [])),(.slice none 0 0)]) 48),.s (.st 2 (.t 6) (.t 15))]) (.seq (.ord  [.q (.l 16 (.ldn 2 (.t 3))),.q (.q 17 (.fa 0 (.t 6))),.q (.l 18 (.ld1 (.t 17))),.q (.q 20 (.fa 0 (.t 6))),.q (.l 21 (.ld1 (.t 20))),.m (.a 19 (.cl 111 [(.t 16),(.t 18)] [0,1])),.rc (.q 20 (.fa 0 (.t 6))),.rc (.l 21 (.ld1 (.t 20))),.m (.a 22 (.cq 109 [(.t 19),(.t 21)]))]) (.cond (.t 22) (.seq (.reg [.q 4 (.mv (.i 19))]) .ret) .skip)))) (.reg [.q 23 (.bin .add true (.t 12) (.i 1)),.v 12 23]))))))) (.seq (.seq (.reg [.q 24 (.fa 2 (.t 2)),.l 25 (.ld1 (.t 24)),.q 26 (.lnL (.t 25)),.q 27 (.mv (.i 0))]) (.block 2 (.loop (.seq (.reg [.q 28 (.bin .lss true (.t 27) (.t 26))]) (.seq (.cond (.t 28) .skip (.exit 2)) (.seq (.block 3 (.seq (.reg [.l 29 (.ia 2 (.t 25) (.t 27)),.l 30 (.ldn 2 (.t 29)),.e 8 (.al (.agg #[(.string (mk [])),(.slice none 0 0)]) 48),.s (.st 2 (.t 8) (.t 30))]) (.seq (.reg [.l 31 (.ldn 2 (.t 3)),.l 32 (.ldn 2 (.t 8)),.a 33 (.cl 112 [(.t 31),(.t 32)] [0,1]),.q 34 (.bin .gtr true (.t 33) (.i 6))]) (.cond (.t 34) (.seq (.reg [.q 4 (.mv (.i 9))]) .ret) .skip)))) (.reg [.q 35 (.bin .add true (.t 27) (.i 1)),.v 27 35]))))))) (.seq (.reg [.q 4 (.mv (.i 0))]) .ret)))
def aE5:List RV:=[.mv (.t 4)]
theorem aMG:aP Tryz.prog true ⟨fun r k=>if r=4/\k=3 then .own [0,1] else if r=4/\k=6 then .q else if r=10/\k=2 then .own [0,1] else .own [],fun _=>false⟩ Tryz.f73=some (aA7,aE5):=by kernel_rfl
def YP:PC:=.seq (.reg [.e 1 (.bx 48 (.t 0)),.e 2 (.al (.agg #[(.string (mk [])),(.slice none 0 0)]) 48)]) (.seq (.reg [.q 6 (.fa 0 (.t 1)),.l 7 (.ld1 (.t 6)),.q 8 (.bd [(.string (mk [])),(.slice none 0 0)] [(0,1,(.t 7))]),.e 3 (.al (.agg #[(.string (mk [])),(.slice none 0 0)]) 48),.s (.st 2 (.t 3) (.t 8))]) (.seq (.seq (.reg [.q 9 (.fa 1 (.t 1)),.l 10 (.ld1 (.t 9)),.q 11 (.lnL (.t 10)),.q 12 (.mv (.i 0))]) (.block 0 (.loop (.seq (.reg [.q 13 (.bin .lss true (.t 12) (.t 11))]) (.seq (.cond (.t 13) .skip (.exit 0)) (.seq (.block 1 (.seq (.reg [.l 14 (.ia 7 (.t 10) (.t 12)),.l 15 (.ldn 7 (.t 14)),.e 5 (.al (.agg #[(.int .i64 0),(.string (mk [])),(.int .i64 0),(.int .i64 0),(.string (mk [])),(.slice none 0 0),(.bool false)]) 52),.s (.st 7 (.t 5) (.t 15))]) (.ord  [.q (.q 16 (.fa 1 (.t 3))),.q (.l 17 (.ld1 (.t 16))),.q (.l 18 (.ldn 7 (.t 5))),.m (.a 19 (.cl 96 [(.t 18)] [])),.rc (.q 16 (.fa 1 (.t 3))),.rc (.l 17 (.ld1 (.t 16))),.m (.e 20 (.bsl 52 7 [(.t 19)])),.rc (.q 16 (.fa 1 (.t 3))),.rc (.l 17 (.ld1 (.t 16))),.m (.e 21 (.ap 52 7 88 (.t 17) (.t 20))),.q (.q 22 (.fa 1 (.t 3))),.m (.s (.st 1 (.t 22) (.t 21)))]))) (.reg [.q 23 (.bin .add true (.t 12) (.i 1)),.v 12 23]))))))) (.seq (.reg [.l 24 (.ldn 2 (.t 3)),.s (.st 2 (.t 2) (.t 24))]) .ret)))
def aE8:List RV:=[.ld (.ldn 2 (.t 2))]
theorem aL3:aP Tryz.prog true ⟨fun _ _=>.own [],fun _=>false⟩ Tryz.f74=some (YP,aE8):=by kernel_rfl
def aCD:PC:=.seq (.reg [.e 1 (.bx 52 (.t 0)),.e 2 (.al (.agg #[(.int .i64 0),(.string (mk [])),(.int .i64 0),(.int .i64 0),(.string (mk [])),(.slice none 0 0),(.bool false)]) 52)]) (.seq (.reg [.q 3 (.fa 2 (.t 1)),.l 4 (.ldn 4 (.t 3)),.a 5 (.cl 137 [(.t 4)] []),.q 6 (.fa 2 (.t 1)),.s (.st 4 (.t 6) (.t 5))]) (.seq (.reg [.l 7 (.ldn 7 (.t 1)),.s (.st 7 (.t 2) (.t 7))]) .ret))
def aAY:List RV:=[.ld (.ldn 7 (.t 2))]
theorem aKZ:aP Tryz.prog true ⟨fun _ _=>.own [],fun _=>false⟩ Tryz.f96=some (aCD,aAY):=by kernel_rfl
def gN:PC:=.seq (.reg [.e 2 (.bx 124 (.t 0)),.e 3 (.bx 42 (.t 1)),.q 4 (.mv (.k (.bool false)))]) (.seq (.seq (.reg [.q 10 (.fa 0 (.t 3)),.l 11 (.ld1 (.t 10))]) (.block 0 (.seq (.reg [.q 13 (.bin .eql true (.t 11) (.i 1)),.v 12 13]) (.cond (.t 12) (.seq (.reg [.q 14 (.fa 1 (.t 3)),.l 15 (.ld1 (.t 14)),.q 16 (.bin .eql true (.t 15) (.i 0)),.v 17 16,⟨some 18,(some (17,true)),.q (.fa 2 (.t 3))⟩,⟨some 19,(some (17,true)),.l (.ld1 (.t 18))⟩,⟨some 20,(some (17,true)),.q (.bin .eql true (.t 19) (.k (.string (mk []))))⟩,.a 21 (.pick (.t 17) (.t 20) (.k (.bool false))),.v 22 21,⟨some 23,(some (22,true)),.q (.fa 3 (.t 3))⟩,⟨some 24,(some (22,true)),.l (.ld1 (.t 23))⟩,⟨some 25,(some (22,true)),.q (.lnL (.t 24))⟩,⟨some 26,(some (22,true)),.q (.bin .eql true (.t 25) (.i 0))⟩,.a 27 (.pick (.t 22) (.t 26) (.k (.bool false))),.v 4 27]) .ret) (.seq (.seq (.reg [.q 29 (.bin .eql true (.t 11) (.i 2)),.v 28 29]) (.cond (.t 28) .skip (.reg [.q 30 (.bin .eql true (.t 11) (.i 3)),.v 28 30]))) (.cond (.t 28) (.seq (.reg [.q 31 (.fa 1 (.t 3)),.l 32 (.ld1 (.t 31)),.q 33 (.bin .eql true (.t 32) (.i 64)),.v 34 33,⟨some 35,(some (34,true)),.q (.fa 0 (.t 3))⟩,⟨some 36,(some (34,true)),.l (.ld1 (.t 35))⟩,⟨some 37,(some (34,true)),.q (.bin .eql true (.t 36) (.i 2))⟩,.a 38 (.pick (.t 34) (.t 37) (.k (.bool false))),.v 5 38]) (.seq (.reg [.q 39 (.fa 1 (.t 3)),.l 40 (.ld1 (.t 39)),.q 41 (.bin .eql true (.t 40) (.i 8)),.v 42 41,⟨some 43,(some (42,false)),.q (.fa 1 (.t 3))⟩,⟨some 44,(some (42,false)),.l (.ld1 (.t 43))⟩,⟨some 45,(some (42,false)),.q (.bin .eql true (.t 44) (.i 16))⟩,.a 46 (.pick (.t 42) (.k (.bool true)) (.t 45)),.v 47 46,⟨some 48,(some (47,false)),.q (.fa 1 (.t 3))⟩,⟨some 49,(some (47,false)),.l (.ld1 (.t 48))⟩,⟨some 50,(some (47,false)),.q (.bin .eql true (.t 49) (.i 32))⟩,.a 51 (.pick (.t 47) (.k (.bool true)) (.t 50)),.v 52 51,⟨some 53,(some (52,false)),.q (.mv (.t 5))⟩,.a 54 (.pick (.t 52) (.k (.bool true)) (.t 53)),.v 55 54,⟨some 56,(some (55,true)),.q (.fa 2 (.t 3))⟩,⟨some 57,(some (55,true)),.l (.ld1 (.t 56))⟩,⟨some 58,(some (55,true)),.q (.bin .eql true (.t 57) (.k (.string (mk []))))⟩,.a 59 (.pick (.t 55) (.t 58) (.k (.bool false))),.v 60 59,⟨some 61,(some (60,true)),.q (.fa 3 (.t 3))⟩,⟨some 62,(some (60,true)),.l (.ld1 (.t 61))⟩,⟨some 63,(some (60,true)),.q (.lnL (.t 62))⟩,⟨some 64,(some (60,true)),.q (.bin .eql true (.t 63) (.i 0))⟩,.a 65 (.pick (.t 60) (.t 64) (.k (.bool false))),.v 4 65]) .ret)) (.seq (.reg [.q 67 (.bin .eql true (.t 11) (.i 4)),.v 66 67]) (.cond (.t 66) (.seq (.reg [.q 68 (.fa 1 (.t 3)),.l 69 (.ld1 (.t 68)),.q 70 (.bin .geq true (.t 69) (.i 1)),.v 71 70,⟨some 72,(some (71,true)),.q (.fa 1 (.t 3))⟩,⟨some 73,(some (71,true)),.l (.ld1 (.t 72))⟩,⟨some 74,(some (71,true)),.q (.bin .leq true (.t 73) (.i 2000))⟩,.a 75 (.pick (.t 71) (.t 74) (.k (.bool false))),.v 76 75,⟨some 77,(some (76,true)),.q (.fa 2 (.t 3))⟩,⟨some 78,(some (76,true)),.l (.ld1 (.t 77))⟩,⟨some 79,(some (76,true)),.q (.bin .eql true (.t 78) (.k (.string (mk []))))⟩,.a 80 (.pick (.t 76) (.t 79) (.k (.bool false))),.v 81 80,⟨some 82,(some (81,true)),.q (.fa 3 (.t 3))⟩,⟨some 83,(some (81,true)),.l (.ld1 (.t 82))⟩,⟨some 84,(some (81,true)),.q (.lnL (.t 83))⟩,⟨some 85,(some (81,true)),.q (.bin .eql true (.t 84) (.i 0))⟩,.a 86 (.pick (.t 81) (.t 85) (.k (.bool false))),.v 4 86]) .ret) (.seq (.reg [.q 88 (.bin .eql true (.t 11) (.i 5)),.v 87 88]) (.cond (.t 87) (.seq (.reg [.q 89 (.fa 1 (.t 3)),.l 90 (.ld1 (.t 89)),.q 91 (.bin .geq true (.t 90) (.i 1)),.v 92 91,⟨some 93,(some (92,true)),.q (.fa 1 (.t 3))⟩,⟨some 94,(some (92,true)),.l (.ld1 (.t 93))⟩,⟨some 95,(some (92,true)),.q (.bin .leq true (.t 94) (.i 32))⟩,.a 96 (.pick (.t 92) (.t 95) (.k (.bool false))),.v 97 96,⟨some 98,(some (97,true)),.q (.fa 2 (.t 3))⟩,⟨some 99,(some (97,true)),.l (.ld1 (.t 98))⟩,⟨some 100,(some (97,true)),.q (.bin .eql true (.t 99) (.k (.string (mk []))))⟩,.a 101 (.pick (.t 97) (.t 100) (.k (.bool false))),.v 102 101,⟨some 103,(some (102,true)),.q (.fa 3 (.t 3))⟩,⟨some 104,(some (102,true)),.l (.ld1 (.t 103))⟩,⟨some 105,(some (102,true)),.q (.lnL (.t 104))⟩,⟨some 106,(some (102,true)),.q (.bin .eql true (.t 105) (.i 1))⟩,.a 107 (.pick (.t 102) (.t 106) (.k (.bool false))),.v 108 107,⟨some 109,(some (108,true)),.l (.ldn 2 (.t 2))⟩,⟨some 110,(some (108,true)),.q (.fa 3 (.t 3))⟩,⟨some 111,(some (108,true)),.l (.ld1 (.t 110))⟩,⟨some 112,(some (108,true)),.l (.ia 4 (.t 111) (.i 0))⟩,⟨some 113,(some (108,true)),.l (.ldn 4 (.t 112))⟩,⟨some 114,(some (108,true)),.cl 110 [(.t 109),(.t 113)] [0,1]⟩,.a 115 (.pick (.t 108) (.t 114) (.k (.bool false))),.v 4 115]) .ret) (.seq (.reg [.q 117 (.bin .eql true (.t 11) (.i 6)),.v 116 117]) (.cond (.t 116) (.seq (.reg [.q 119 (.fa 0 (.t 2)),.l 120 (.ld1 (.t 119)),.q 121 (.fa 2 (.t 3)),.l 122 (.ld1 (.t 121)),.l 123 (.lk .string (.agg #[(.string (mk [])),(.slice none 0 0)]) true (.t 120) (.t 122)),.v 118 123,.q 124 (.ex (.t 118) 0),.q 125 (.ex (.t 118) 1),.e 6 (.al (.agg #[(.string (mk [])),(.slice none 0 0)]) 48),.s (.st 2 (.t 6) (.t 124)),.v 7 125]) (.seq (.reg [.v 126 7,.v 127 126,⟨some 128,(some (127,true)),.q (.fa 1 (.t 3))⟩,⟨some 129,(some (127,true)),.l (.ld1 (.t 128))⟩,⟨some 130,(some (127,true)),.q (.bin .eql true (.t 129) (.i 0))⟩,.a 131 (.pick (.t 127) (.t 130) (.k (.bool false))),.v 132 131,⟨some 133,(some (132,true)),.q (.fa 3 (.t 3))⟩,⟨some 134,(some (132,true)),.l (.ld1 (.t 133))⟩,⟨some 135,(some (132,true)),.q (.lnL (.t 134))⟩,⟨some 136,(some (132,true)),.q (.bin .eql true (.t 135) (.i 0))⟩,.a 137 (.pick (.t 132) (.t 136) (.k (.bool false))),.v 4 137]) .ret)) (.seq (.reg [.q 139 (.bin .eql true (.t 11) (.i 7)),.v 138 139]) (.cond (.t 138) (.seq (.reg [.q 141 (.fa 1 (.t 2)),.l 142 (.ld1 (.t 141)),.q 143 (.fa 2 (.t 3)),.l 144 (.ld1 (.t 143)),.l 145 (.lk .string (.agg #[(.string (mk [])),(.slice none 0 0),(.slice none 0 0)]) true (.t 142) (.t 144)),.v 140 145,.q 146 (.ex (.t 140) 0),.q 147 (.ex (.t 140) 1),.e 8 (.al (.agg #[(.string (mk [])),(.slice none 0 0),(.slice none 0 0)]) 118),.s (.st 3 (.t 8) (.t 146)),.v 9 147]) (.seq (.reg [.v 148 9,.v 149 148,⟨some 150,(some (149,true)),.q (.fa 1 (.t 3))⟩,⟨some 151,(some (149,true)),.l (.ld1 (.t 150))⟩,⟨some 152,(some (149,true)),.q (.bin .eql true (.t 151) (.i 0))⟩,.a 153 (.pick (.t 149) (.t 152) (.k (.bool false))),.v 154 153,⟨some 155,(some (154,true)),.q (.fa 3 (.t 3))⟩,⟨some 156,(some (154,true)),.l (.ld1 (.t 155))⟩,⟨some 157,(some (154,true)),.q (.lnL (.t 156))⟩,⟨some 158,(some (154,true)),.q (.bin .eql true (.t 157) (.i 0))⟩,.a 159 (.pick (.t 154) (.t 158) (.k (.bool false))),.v 4 159]) .ret)) .skip)))))))))))))) (.seq (.reg [.q 4 (.mv (.k (.bool false)))]) .ret))
def gQ:List RV:=[.mv (.t 4)]
theorem aFB:aP Tryz.prog true ⟨fun r k=>if r=11/\k=25 then .own [0,1] else .own [],fun _=>false⟩ Tryz.f110=some (gN,gQ):=by kernel_rfl
def SV:PC:=.seq (.reg [.e 2 (.bx 124 (.t 0)),.q 4 (.mv (.k (.slice none 0 0)))]) (.seq (.reg [.e 8 (.mm .string),.e 5 (.al (.map none) 187),.s (.st 1 (.t 5) (.t 8))]) (.seq (.reg [.e 6 (.al (.slice none 0 0) 116)]) (.seq (.reg [.e 7 (.al .nilFunc 188)]) (.seq (.reg [.q 9 (.mf 143 [(.t 5),(.t 6),(.t 2),(.t 7)]),.s (.st 1 (.t 7) (.t 9))]) (.seq (.gh (.reg [.l 10 (.ld1 (.t 7)),.q 11 (.fa 0 (.t 2)),.l 12 (.ld1 (.t 11)),.v 13 1,.l 14 (.lk .string (.agg #[(.string (mk [])),(.slice none 0 0)]) false (.t 12) (.t 13)),.a 15 (.ca (.t 10) [(.t 14)] [0,1,2,3,4,5,6,7])])) (.seq (.reg [.l 16 (.ld1 (.t 6)),.a 17 (.cl 145 [(.t 16)] [7])]) (.seq (.reg [.l 18 (.ld1 (.t 6)),.v 4 18]) .ret)))))))
def Q6:List RV:=[.mv (.t 4)]
theorem aIA:aP Tryz.prog true ⟨fun r k=>if r=5/\k=5 then .own [0,1,2,3,4,5,6,7] else if r=6/\k=1 then .own [7] else .own [],fun r=>[5].contains r⟩ Tryz.f111=some (SV,Q6):=by kernel_rfl
def SI:PC:=.seq (.reg [.e 2 (.bx 124 (.t 0)),.e 3 (.bx 48 (.t 1)),.q 4 (.mv (.i 0))]) (.seq (.reg [.e 7 (.mm .string),.e 5 (.al (.map none) 191),.s (.st 1 (.t 5) (.t 7))]) (.seq (.reg [.e 6 (.al .nilFunc 192)]) (.seq (.reg [.q 8 (.mf 146 [(.t 5),(.t 6),(.t 2)]),.s (.st 1 (.t 6) (.t 8))]) (.seq (.reg [.l 9 (.ld1 (.t 6)),.l 10 (.ldn 2 (.t 3)),.a 11 (.ca (.t 9) [(.t 10)] [0,1,2,4,5,6]),.v 4 11]) .ret))))
def U5:List RV:=[.mv (.t 4)]
theorem aG8:aP Tryz.prog true ⟨fun r k=>if r=4/\k=2 then .own [0,1,2,4,5,6] else .own [],fun _=>false⟩ Tryz.f112=some (SI,U5):=by kernel_rfl
def UL:PC:=.seq (.reg [.e 2 (.bx 25 (.t 0)),.e 4 (.al (.agg #[(.string (mk [])),(.slice none 0 0),(.slice none 0 0)]) 118),.q 5 (.mv (.k (.bool false)))]) (.seq (.seq (.reg [.q 8 (.fa 1 (.t 2)),.l 9 (.ld1 (.t 8)),.q 10 (.lnL (.t 9)),.q 11 (.mv (.i 0))]) (.block 0 (.loop (.seq (.reg [.q 12 (.bin .lss true (.t 11) (.t 10))]) (.seq (.cond (.t 12) .skip (.exit 0)) (.seq (.block 1 (.seq (.reg [.l 13 (.ia 3 (.t 9) (.t 11)),.l 14 (.ldn 3 (.t 13)),.e 7 (.al (.agg #[(.string (mk [])),(.slice none 0 0),(.slice none 0 0)]) 118),.s (.st 3 (.t 7) (.t 14))]) (.seq (.reg [.q 15 (.fa 0 (.t 7)),.l 16 (.ld1 (.t 15)),.v 17 1,.q 18 (.bin .eql true (.t 16) (.t 17))]) (.cond (.t 18) (.seq (.ord  [.q (.q 19 (.fa 0 (.t 7))),.q (.l 20 (.ld1 (.t 19))),.q (.q 21 (.fa 1 (.t 7))),.q (.l 22 (.ld1 (.t 21))),.q (.q 24 (.fa 2 (.t 7))),.q (.l 25 (.ld1 (.t 24))),.m (.a 23 (.cl 147 [(.t 22)] [])),.rc (.q 19 (.fa 0 (.t 7))),.rc (.l 20 (.ld1 (.t 19))),.rc (.q 24 (.fa 2 (.t 7))),.rc (.l 25 (.ld1 (.t 24))),.m (.a 26 (.cl 148 [(.t 25)] [])),.rc (.q 19 (.fa 0 (.t 7))),.rc (.l 20 (.ld1 (.t 19))),.q (.q 27 (.bd [(.string (mk [])),(.slice none 0 0),(.slice none 0 0)] [(0,1,(.t 20)),(1,1,(.t 23)),(2,1,(.t 26))])),.m (.s (.st 3 (.t 4) (.t 27))),.m (.q 5 (.mv (.k (.bool true))))]) .ret) .skip)))) (.reg [.q 28 (.bin .add true (.t 11) (.i 1)),.v 11 28]))))))) (.seq (.reg [.q 29 (.bd [(.string (mk [])),(.slice none 0 0),(.slice none 0 0)] []),.s (.st 3 (.t 4) (.t 29)),.q 5 (.mv (.k (.bool false)))]) .ret))
def UH:List RV:=[.ld (.ldn 3 (.t 4)),.mv (.t 5)]
theorem aF8:aP Tryz.prog true ⟨fun _ _=>.own [],fun _=>false⟩ Tryz.f113=some (UL,UH):=by kernel_rfl
def Q5:PC:=.seq (.reg [.e 1 (.bx 42 (.t 0)),.e 2 (.al (.agg #[(.int .i64 0),(.int .i64 0),(.string (mk [])),(.slice none 0 0)]) 42)]) (.seq (.reg [.q 6 (.fa 0 (.t 1)),.l 7 (.ld1 (.t 6)),.q 8 (.fa 1 (.t 1)),.l 9 (.ld1 (.t 8)),.q 10 (.fa 2 (.t 1)),.l 11 (.ld1 (.t 10)),.q 12 (.bd [(.int .i64 0),(.int .i64 0),(.string (mk [])),(.slice none 0 0)] [(0,1,(.t 7)),(1,1,(.t 9)),(2,1,(.t 11))]),.e 3 (.al (.agg #[(.int .i64 0),(.int .i64 0),(.string (mk [])),(.slice none 0 0)]) 42),.s (.st 4 (.t 3) (.t 12))]) (.seq (.seq (.reg [.q 13 (.fa 3 (.t 1)),.l 14 (.ld1 (.t 13)),.q 15 (.lnL (.t 14)),.q 16 (.mv (.i 0))]) (.block 0 (.loop (.seq (.reg [.q 17 (.bin .lss true (.t 16) (.t 15))]) (.seq (.cond (.t 17) .skip (.exit 0)) (.seq (.block 1 (.seq (.reg [.l 18 (.ia 4 (.t 14) (.t 16)),.l 19 (.ldn 4 (.t 18)),.e 5 (.al (.agg #[(.int .i64 0),(.int .i64 0),(.string (mk [])),(.slice none 0 0)]) 42),.s (.st 4 (.t 5) (.t 19))]) (.ord  [.q (.q 20 (.fa 3 (.t 3))),.q (.l 21 (.ld1 (.t 20))),.q (.l 22 (.ldn 4 (.t 5))),.m (.a 23 (.cl 137 [(.t 22)] [])),.rc (.q 20 (.fa 3 (.t 3))),.rc (.l 21 (.ld1 (.t 20))),.m (.e 24 (.bsl 42 4 [(.t 23)])),.rc (.q 20 (.fa 3 (.t 3))),.rc (.l 21 (.ld1 (.t 20))),.m (.e 25 (.ap 42 4 56 (.t 21) (.t 24))),.q (.q 26 (.fa 3 (.t 3))),.m (.s (.st 1 (.t 26) (.t 25)))]))) (.reg [.q 27 (.bin .add true (.t 16) (.i 1)),.v 16 27]))))))) (.seq (.reg [.l 28 (.ldn 4 (.t 3)),.s (.st 4 (.t 2) (.t 28))]) .ret)))
def SC:List RV:=[.ld (.ldn 4 (.t 2))]
theorem aHD:aP Tryz.prog true ⟨fun _ _=>.own [],fun _=>false⟩ Tryz.f137=some (Q5,SC):=by kernel_rfl
def RH:PC:=.seq (.reg [.e 5 (.bx 48 (.t 0))]) (.seq (.reg [.q 12 (.fa 1 (.t 5)),.l 13 (.ld1 (.t 12)),.q 14 (.lnL (.t 13)),.q 15 (.mv (.i 0))]) (.block 0 (.loop (.seq (.reg [.q 16 (.bin .lss true (.t 15) (.t 14))]) (.seq (.cond (.t 16) .skip (.exit 0)) (.seq (.block 1 (.seq (.reg [.l 17 (.ia 7 (.t 13) (.t 15)),.l 18 (.ldn 7 (.t 17)),.e 7 (.al (.agg #[(.int .i64 0),(.string (mk [])),(.int .i64 0),(.int .i64 0),(.string (mk [])),(.slice none 0 0),(.bool false)]) 52),.s (.st 7 (.t 7) (.t 18))]) (.seq (.reg [.q 20 (.fa 2 (.t 7)),.l 21 (.ldn 4 (.t 20)),.a 22 (.cl 144 [(.t 21)] []),.v 19 22,.q 23 (.ex (.t 19) 0),.q 24 (.ex (.t 19) 1),.v 8 23,.v 9 24]) (.seq (.seq (.reg [.v 25 9,.q 26 (.not (.t 25)),.v 27 26,⟨some 28,(some (27,false)),.l (.ld1 (.t 1))⟩,⟨some 29,(some (27,false)),.q (.mv (.t 8))⟩,⟨some 30,(some (27,false)),.l (.lk .string (.bool false) false (.t 28) (.t 29))⟩,.a 31 (.pick (.t 27) (.k (.bool true)) (.t 30))]) (.cond (.t 31) (.exit 1) .skip)) (.seq (.reg [.l 32 (.ld1 (.t 1)),.v 33 8,.s (.mu .string (.t 32) (.t 33) (.k (.bool true)))]) (.seq (.reg [.l 34 (.ld1 (.t 2)),.v 35 8,.e 36 (.bsl 9 1 [(.t 35)]),.e 37 (.ap 9 1 16 (.t 34) (.t 36)),.s (.st 1 (.t 2) (.t 37))]) (.seq (.reg [.q 39 (.fa 0 (.t 3)),.l 40 (.ld1 (.t 39)),.v 41 8,.l 42 (.lk .string (.agg #[(.string (mk [])),(.slice none 0 0)]) true (.t 40) (.t 41)),.v 38 42,.q 43 (.ex (.t 38) 0),.q 44 (.ex (.t 38) 1),.e 10 (.al (.agg #[(.string (mk [])),(.slice none 0 0)]) 48),.s (.st 2 (.t 10) (.t 43)),.v 11 44]) (.seq (.reg [.v 45 11]) (.cond (.t 45) (.reg [.l 46 (.ld1 (.t 4)),.l 47 (.ldn 2 (.t 10)),.a 48 (.ca (.t 46) [(.t 47)] [0,1,2,3,4,5,6,7])]) .skip))))))))) (.reg [.q 49 (.bin .add true (.t 15) (.i 1)),.v 15 49])))))))
def SF:List RV:=[]
theorem aFV:aP Tryz.prog true ⟨fun r k=>if r=10/\k=2 then .own [0,1,2,3,4,5,6,7] else .own [],fun _=>false⟩ Tryz.f143=some (RH,SF):=by kernel_rfl
def RR:PC:=.seq (.reg [.e 1 (.bx 42 (.t 0)),.q 2 (.mv (.k (.string (mk [])))),.q 3 (.mv (.k (.bool false)))]) (.seq (.block 0 (.loop (.seq (.seq (.reg [.q 4 (.fa 0 (.t 1)),.l 5 (.ld1 (.t 4)),.q 6 (.bin .eql true (.t 5) (.i 5)),.v 7 6,⟨some 8,(some (7,true)),.q (.fa 3 (.t 1))⟩,⟨some 9,(some (7,true)),.l (.ld1 (.t 8))⟩,⟨some 10,(some (7,true)),.q (.lnL (.t 9))⟩,⟨some 11,(some (7,true)),.q (.bin .eql true (.t 10) (.i 1))⟩,.a 12 (.pick (.t 7) (.t 11) (.k (.bool false)))]) (.cond (.t 12) .skip (.exit 0))) (.block 1 (.reg [.q 13 (.fa 3 (.t 1)),.l 14 (.ld1 (.t 13)),.l 15 (.ia 4 (.t 14) (.i 0)),.l 16 (.ldn 4 (.t 15)),.s (.st 4 (.t 1) (.t 16))]))))) (.seq (.reg [.q 17 (.fa 2 (.t 1)),.l 18 (.ld1 (.t 17)),.q 19 (.fa 0 (.t 1)),.l 20 (.ld1 (.t 19)),.q 21 (.bin .eql true (.t 20) (.i 6)),.v 22 21,⟨some 23,(some (22,false)),.q (.fa 0 (.t 1))⟩,⟨some 24,(some (22,false)),.l (.ld1 (.t 23))⟩,⟨some 25,(some (22,false)),.q (.bin .eql true (.t 24) (.i 7))⟩,.a 26 (.pick (.t 22) (.k (.bool true)) (.t 25)),.v 2 18,.v 3 26]) .ret))
def QS:List RV:=[.mv (.t 2),.mv (.t 3)]
theorem aFC:aP Tryz.prog true ⟨fun _ _=>.own [],fun _=>false⟩ Tryz.f144=some (RR,QS):=by kernel_rfl
def J9:PC:=.seq (.reg [.e 4 (.bx 48 (.t 0)),.q 5 (.mv (.i 0))]) (.seq (.seq (.reg [.l 14 (.ld1 (.t 1)),.q 15 (.fa 0 (.t 4)),.l 16 (.ld1 (.t 15)),.l 17 (.lk .string (.int .i64 0) true (.t 14) (.t 16)),.v 13 17,.q 18 (.ex (.t 13) 0),.q 19 (.ex (.t 13) 1),.v 6 18,.v 7 19]) (.seq (.reg [.v 20 7]) (.cond (.t 20) (.seq (.reg [.v 21 6,.v 5 21]) .ret) .skip))) (.seq (.reg [.q 8 (.mv (.i 0))]) (.seq (.seq (.reg [.q 22 (.fa 1 (.t 4)),.l 23 (.ld1 (.t 22)),.q 24 (.lnL (.t 23)),.q 25 (.mv (.i 0))]) (.block 0 (.loop (.seq (.reg [.q 26 (.bin .lss true (.t 25) (.t 24))]) (.seq (.cond (.t 26) .skip (.exit 0)) (.seq (.block 1 (.seq (.reg [.l 27 (.ia 7 (.t 23) (.t 25)),.l 28 (.ldn 7 (.t 27)),.e 10 (.al (.agg #[(.int .i64 0),(.string (mk [])),(.int .i64 0),(.int .i64 0),(.string (mk [])),(.slice none 0 0),(.bool false)]) 52),.s (.st 7 (.t 10) (.t 28))]) (.seq (.ord  [.q (.q 29 (.fa 2 (.t 10))),.q (.l 30 (.ldn 4 (.t 29))),.m (.e 12 (.al (.agg #[(.int .i64 0),(.int .i64 0),(.string (mk [])),(.slice none 0 0)]) 42)),.rc (.q 29 (.fa 2 (.t 10))),.rc (.l 30 (.ldn 4 (.t 29))),.m (.q 11 (.mv (.i 0))),.rc (.q 29 (.fa 2 (.t 10))),.rc (.l 30 (.ldn 4 (.t 29))),.m (.s (.st 4 (.t 12) (.t 30)))]) (.seq (.block 2 (.loop (.seq (.seq (.reg [.q 31 (.fa 0 (.t 12)),.l 32 (.ld1 (.t 31)),.q 33 (.bin .eql true (.t 32) (.i 5))]) (.cond (.t 33) .skip (.exit 2))) (.block 3 (.seq (.reg [.v 34 11,.q 35 (.bin .add true (.t 34) (.i 1)),.v 11 35]) (.reg [.q 36 (.fa 3 (.t 12)),.l 37 (.ld1 (.t 36)),.l 38 (.ia 4 (.t 37) (.i 0)),.l 39 (.ldn 4 (.t 38)),.s (.st 4 (.t 12) (.t 39))])))))) (.seq (.seq (.reg [.q 40 (.fa 0 (.t 12)),.l 41 (.ld1 (.t 40)),.q 42 (.bin .eql true (.t 41) (.i 6))]) (.cond (.t 42) (.reg [.v 43 11,.l 44 (.ld1 (.t 2)),.q 45 (.fa 0 (.t 3)),.l 46 (.ld1 (.t 45)),.q 47 (.fa 2 (.t 12)),.l 48 (.ld1 (.t 47)),.l 49 (.lk .string (.agg #[(.string (mk [])),(.slice none 0 0)]) false (.t 46) (.t 48)),.a 50 (.ca (.t 44) [(.t 49)] [0,1,2,3,4,5]),.q 51 (.bin .add true (.t 43) (.t 50)),.v 11 51]) .skip)) (.reg [.v 52 8,.v 53 11,.q 54 (.mx true (.t 52) (.t 53)),.v 8 54])))))) (.reg [.q 55 (.bin .add true (.t 25) (.i 1)),.v 25 55]))))))) (.seq (.reg [.l 56 (.ld1 (.t 1)),.q 57 (.fa 0 (.t 4)),.l 58 (.ld1 (.t 57)),.v 59 8,.q 60 (.bin .add true (.t 59) (.i 1)),.s (.mu .string (.t 56) (.t 58) (.t 60))]) (.seq (.reg [.v 61 8,.q 62 (.bin .add true (.t 61) (.i 1)),.v 5 62]) .ret)))))
def JE:List RV:=[.mv (.t 5)]
theorem aGR:aP Tryz.prog true ⟨fun r k=>if r=13/\k=7 then .own [0,1,2,3,4,5] else .own [],fun _=>false⟩ Tryz.f146=some (J9,JE):=by kernel_rfl
def aAE:PC:=.seq (.reg [.e 2 (.bx 25 (.t 0)),.e 4 (.al (.agg #[(.string (mk [])),(.slice none 0 0)]) 48),.q 5 (.mv (.k (.bool false)))]) (.seq (.seq (.reg [.q 6 (.mv (.i 0))]) (.block 0 (.loop (.seq (.seq (.reg [.v 7 6,.q 8 (.fa 2 (.t 2)),.l 9 (.ld1 (.t 8)),.q 10 (.lnL (.t 9)),.q 11 (.bin .lss true (.t 7) (.t 10))]) (.cond (.t 11) .skip (.exit 0))) (.seq (.block 1 (.seq (.reg [.q 14 (.fa 2 (.t 2)),.l 15 (.ld1 (.t 14)),.v 16 6,.l 17 (.ia 2 (.t 15) (.t 16)),.q 18 (.fa 0 (.t 17)),.l 19 (.ld1 (.t 18)),.v 20 1,.q 21 (.bin .eql true (.t 19) (.t 20))]) (.cond (.t 21) (.seq (.reg [.q 22 (.fa 2 (.t 2)),.l 23 (.ld1 (.t 22)),.v 24 6,.l 25 (.ia 2 (.t 23) (.t 24)),.l 26 (.ldn 2 (.t 25)),.s (.st 2 (.t 4) (.t 26)),.q 5 (.mv (.k (.bool true)))]) .ret) .skip))) (.reg [.v 12 6,.q 13 (.bin .add true (.t 12) (.i 1)),.v 6 13])))))) (.seq (.reg [.q 27 (.bd [(.string (mk [])),(.slice none 0 0)] []),.s (.st 2 (.t 4) (.t 27)),.q 5 (.mv (.k (.bool false)))]) .ret))
def Y4:List RV:=[.ld (.ldn 2 (.t 4)),.mv (.t 5)]
theorem aM0:aP Tryz.prog true ⟨fun _ _=>.own [],fun _=>false⟩ Tryz.f17=some (aAE,Y4):=by kernel_rfl
def aC7:PC:=.seq (.reg [.e 2 (.bx 48 (.t 0)),.e 4 (.al (.agg #[(.int .i64 0),(.string (mk [])),(.int .i64 0),(.int .i64 0),(.string (mk [])),(.slice none 0 0),(.bool false)]) 52),.q 5 (.mv (.k (.bool false)))]) (.seq (.seq (.reg [.q 6 (.mv (.i 0))]) (.block 0 (.loop (.seq (.seq (.reg [.v 7 6,.q 8 (.fa 1 (.t 2)),.l 9 (.ld1 (.t 8)),.q 10 (.lnL (.t 9)),.q 11 (.bin .lss true (.t 7) (.t 10))]) (.cond (.t 11) .skip (.exit 0))) (.seq (.block 1 (.seq (.reg [.q 14 (.fa 1 (.t 2)),.l 15 (.ld1 (.t 14)),.v 16 6,.l 17 (.ia 7 (.t 15) (.t 16)),.q 18 (.fa 0 (.t 17)),.l 19 (.ld1 (.t 18)),.v 20 1,.q 21 (.bin .eql true (.t 19) (.t 20))]) (.cond (.t 21) (.seq (.reg [.q 22 (.fa 1 (.t 2)),.l 23 (.ld1 (.t 22)),.v 24 6,.l 25 (.ia 7 (.t 23) (.t 24)),.l 26 (.ldn 7 (.t 25)),.s (.st 7 (.t 4) (.t 26)),.q 5 (.mv (.k (.bool true)))]) .ret) .skip))) (.reg [.v 12 6,.q 13 (.bin .add true (.t 12) (.i 1)),.v 6 13])))))) (.seq (.reg [.q 27 (.bd [(.int .i64 0),(.string (mk [])),(.int .i64 0),(.int .i64 0),(.string (mk [])),(.slice none 0 0),(.bool false)] []),.s (.st 7 (.t 4) (.t 27)),.q 5 (.mv (.k (.bool false)))]) .ret))
def YG:List RV:=[.ld (.ldn 7 (.t 4)),.mv (.t 5)]
theorem aON:aP Tryz.prog true ⟨fun _ _=>.own [],fun _=>false⟩ Tryz.f18=some (aC7,YG):=by kernel_rfl
def iI (c:Int):Bool:=(decide (97<=c) && decide (c<=122)) || (decide (65<=c) && decide (c<=90))
def CL (c:Int):Bool:=decide (48<=c) && decide (c<=57)
def Y6 (c:Int):Bool:=iI c || CL c || c == 95
def aD0:List UInt8:=[123,125,40,41,91,93,58,59,44,61,46,63,33,38,124,64]
def uX (c:Int):Bool:=decide (c.toNat.toUInt8 ∈ aD0)
def mD (c:Int):Int:=
 bif c == 32 || c == 9 || c == 10 then 1 else bif c == 35 then 2 else bif iI c then 3 else bif CL c then 4
 else bif c == 45 then 5 else bif c == 95 then 6 else bif c == 34 then 7 else bif uX c then 8 else 0
theorem BM (l:List UInt8) (c:UInt8):decide (0<=Lib.indexByte l c)=decide (c ∈ l):=by
 rw [decide_eq_decide]
 induction l with
 | nil=>simp [Lib.indexByte]
 | cons b l ih=>
  have hge:=Lib.indexByte_ge l c
  rw [Lib.indexByte]
  by_cases hb:b=c
  · simp [hb]
  · have hb2:(b == c)=false:=by simpa using hb
    have hb3:¬ c=b:=fun e=>hb e.symm
    simp only [hb2,Bool.false_eq_true,if_false,List.mem_cons,hb3,false_or,<-ih]
    by_cases h:Lib.indexByte l c=-1
    · simp [h]
    · have h2:(Lib.indexByte l c == -1)=false:=by simpa using h
      simp only [h2,Bool.false_eq_true,if_false]; omega
def U1:Bool->List UInt8->Nat
 | _,[]=>0
 | r,c :: l=>
  let r':=bif c == 35 then true else bif c == 10 then false else r
  bif !r' && !(c == 32 || c == 9 || c == 10) then 0 else U1 r' l + 1
def J3 (l:List UInt8) (a:Nat):Nat:=a + U1 false (l.drop a)
inductive R where
 | ok (k:Int) (t:List UInt8) (n:Int) (z:Nat)
 | bad (e t:Int)
def gM (c:UInt8):Bool:=Y6 c.toNat
def aBV (p:UInt8->Bool) (l:List UInt8) (a:Nat):Nat:=a + ((l.drop a).takeWhile p).length
theorem aA9 (c:UInt8):(mD c.toNat == 3 || mD c.toNat == 4 || mD c.toNat == 6)=gM c:=by
 have:=F8 (p:=fun c=>(mD c.toNat == 3 || mD c.toNat == 4 || mD c.toNat == 6) == gM c) (by decide +kernel) c
 simpa using this
def aGF (l:List UInt8) (a:Nat):R:=
 let z:=aBV gM l a
 bif decide (16 < z - a) then .bad 3 a else bif l[z]? == some 45 then .bad 2 z else .ok 1 ((l.take z).drop a) 0 z
def QR (c:UInt8):Bool:=CL c.toNat
def aAO (lim:Nat):Nat->List UInt8->Option Nat
 | n,[]=>some n
 | n,c :: l=>if (lim - (c.toNat - 48)) / 10 < n then none else aAO lim (10 * n + (c.toNat - 48)) l
def aGX (neg:Bool):Nat:=bif neg then 9223372036854775808 else 9223372036854775807
def signed (neg:Bool) (n:Nat):Int:=bif neg then -n else n
def aLN (l:List UInt8) (i:Nat):Bool:=match l[i]? with | some c=>gM c && !QR c || c == 45 | none=>false
def aNZ (l:List UInt8) (a:Nat):R:=
 let neg:=l[a]? == some 45
 let f:=bif neg then a + 1 else a
 let z:=aBV QR l f
 let s:=(l.take z).drop f
 bif s == [] || (s[0]? == some 48 && (decide (1 < s.length) || neg)) then .bad 2 a
 else match aAO (aGX neg) 0 s with
  | none=>.bad 4 a
  | some n=>bif aLN l z then .bad 2 z else .ok 2 [] (signed neg n) z
end Go.Proofs.YthpbnmebjocbeaaGreat
namespace Go.Proofs
open Go.Shelf
def Tryz.lays137_ren:Go.Shelf.Ren:=⟨fun | 137=>157 | 217=>161 | 266=>173 | n=>n,fun | 9=>9 | 5=>5 | 3=>3 | n=>n,fun | n=>n⟩
theorem Tryz.lays137:Go.Proofs.Lays.n137 Tryz.prog Tryz.lays137_ren:={
 mixed:=by kernel_rfl
 f137:=Tryz.func157.trans (congrArg some (by kernel_rfl))
 f217:=Tryz.func161.trans (congrArg some (by kernel_rfl))
 f266:=Tryz.func173.trans (congrArg some (by kernel_rfl))
 t3:=Tryz.underlying3
 a3:=Tryz.isAgg3
 z3:=Tryz.sizeOf3
 v3:=Tryz.zeroValue3
 t5:=Tryz.underlying5
 a5:=Tryz.isAgg5
 z5:=Tryz.sizeOf5
 v5:=Tryz.zeroValue5
 t9:=Tryz.underlying9
 a9:=Tryz.isAgg9
 z9:=Tryz.sizeOf9
 v9:=Tryz.zeroValue9 }
open Go.RowKit in
theorem Tryz.strings_IndexByte (s:ByteArray) (c:Int) (w:World) :
 Calls Tryz.prog 157 #[.string s,.int .u8 c] w fun e w'=>e=.returned (.int .i64 (Lib.indexByte s.data.toList c.toNat.toUInt8))/\w'=w:=Any.strings_IndexByte Tryz.lays137 s c w
end Go.Proofs
namespace Go.Proofs.YthpbnmebjocbeaaGreat
open Go.W
abbrev iA (k:IntKind) (n:Int):A:=.c1 (.vl (.int k n))
abbrev bA (b:Bool):A:=.c1 (.vl (.bool b))
abbrev tA (b:ByteArray):A:=.c1 (.vl (.string b))
def qY:List S->Prop:=fun xs=>match xs with
 | [.va (.c1 (.vl (.int .u8 c)))]=>0<=c/\c<=255
 | _=>False
theorem lM {xs:List S} (h:qY xs):∃ c:Int,xs=[iS .u8 c]/\0<=c/\c<=255:=by
 unfold qY at h
 split at h
 · exact ⟨_,rfl,h⟩
 · exact h.elim
def GV (f:Int->Value):List S->A:=fun xs=>match xs with
 | [.va (.c1 (.vl (.int .u8 c)))]=>.c1 (.vl (f c))
 | _=>.gs []
def FI (f:Int->Value):Fun:=⟨qY,GV f,fun xs h=>by obtain ⟨c,rfl,_⟩:=lM h; trivial⟩
theorem J7 {f:Int->Value}:∀ xs H K,(FI f).sp xs H K->xs.length=1:=fun xs H K h=>by obtain ⟨c,rfl,_⟩:=lM h.1.1; rfl
attribute [go_sem] FI qY GV
def BS:List S->Prop:=fun xs=>match xs with | [.va (.c1 (.vl (.string _))),.va (.c1 (.vl (.int .u8 _)))]=>True | _=>False
def TU:List S->A:=fun xs=>match xs with | [.va (.c1 (.vl (.string s))),.va (.c1 (.vl (.int .u8 c)))]=>iA .i64 (Lib.indexByte (bl s) c.toNat.toUInt8) | _=>.gs []
theorem wY {xs:List S} (h:BS xs):∃ s c,xs=[tS s,iS .u8 c]:=by
 unfold BS at h
 split at h
 · exact ⟨_,_,rfl⟩
 · exact h.elim
def fnIb:Fun:=⟨BS,TU,fun xs h=>by obtain ⟨s,c,rfl⟩:=wY h; trivial⟩
attribute [go_sem] fnIb BS TU
theorem mIb:Meets Tryz.prog 157 fnIb.sp:=by
 refine ⟨by kernel_rfl,?_⟩
 rintro xs vs E ro w K hl hrel hr ⟨⟨h,hE⟩,hK⟩ _
 obtain ⟨s,c,rfl⟩:=wY h
 obtain ⟨v0,v1,rfl⟩:∃ v0 v1,vs=[v0,v1]:=by
  match vs,hl with
  | [v0,v1],_=>exact ⟨v0,v1,rfl⟩
 have h0:v0=.string s:=hrel 0 _ _ rfl rfl
 have h1:v1=.int .u8 c:=hrel 1 _ _ rfl rfl
 subst h0 h1
 refine (Tryz.strings_IndexByte s c w).mono ?_
 rintro e w' ⟨rfl,rfl⟩
 exact ⟨iS .i64 _,_,E,ro,rfl,rfl,by rw [hE]; exact hK,hr⟩
theorem aDE:Meets Tryz.prog 141 (FI fun c=>.int .i64 (mD c)).sp:=by
 refine aD Tryz.func141 aFA 1 (by rw [Tryz.ntmps141]; decide) (aH mIb (aB _)) J7 ?_
 rintro xs H K ⟨⟨h,rfl⟩,hK⟩
 obtain ⟨c,rfl,hc⟩:=lM h
 simp -dsimp (maxSteps:=1000000) only [go_sem,TP,TQ] at hK ⊢
 have hw:IntKind.i32.wrap c=c:=tO (by simp [inr,IntKind.min,IntKind.max,IntKind.signed,IntKind.bits]; omega)
 rw [hw]
 have hm:decide (0<=Lib.indexByte [123,125,40,41,91,93,58,59,44,61,46,63,33,38,124,64] c.toNat.toUInt8)=uX c:=BM _ _
 rw [hm]
 clear hm hw
 refine ⟨fun h1=>eW hK ?_,fun h1=>⟨fun h2=>eW hK ?_,fun h2=>⟨by simp; omega,fun h3=>eW hK ?_,fun h3=>⟨fun h4=>eW hK ?_,fun h4=>⟨fun h5=>eW hK ?_,fun h5=>⟨fun h6=>eW hK ?_,fun h6=>⟨fun h7=>eW hK ?_,fun h7=>⟨fun h8=>eW hK ?_,fun h8=>eW hK ?_⟩⟩⟩⟩⟩⟩⟩⟩
 all_goals simp only [mD,iI,CL, *,bI,aX]
def PR:Nat->List UInt8->List UInt8->Nat × Option (List UInt8)
 | i,[],_=>(i,none)
 | i,c :: r,out=>
  bif decide (c < 32) || decide (126 < c) then (i,none)
  else bif c == 34 then (i + 1,some out)
  else bif c == 92 then match r with
   | d :: r'=>bif d == 34 || d == 92 then PR (i + 2) r' (out ++ [d]) else (i,none)
   | []=>(i,none)
  else PR (i + 1) r (out ++ [c])
def aIE (l:List UInt8) (a:Nat):R:=match PR (a + 1) (l.drop (a + 1)) [] with
 | (i,none)=>.bad 2 i
 | (z,some out)=>bif decide (200 < out.length) then .bad 3 a else .ok 3 out 0 z
def aL5 (l:List UInt8) (p:Nat):R:=match l[p]? with
 | none=>.ok 0 [] 0 p
 | some c=>bif iI c.toNat then aGF l p else bif QR c || c == 45 then aNZ l p else bif c == 34 then aIE l p
  else bif uX c.toNat then .ok 4 [c] 0 (p + 1) else .bad 2 p
theorem aO2 (c:UInt8):(mD c.toNat == 3)=iI c.toNat:=by
 have:=F8 (p:=fun c=>(mD c.toNat == 3) == iI c.toNat) (by decide +kernel) c
 simpa using this
structure Tk where
 k:Int
 x:List UInt8
 n:Int
 a:Nat
inductive SR where
 | ok (l:List Tk)
 | bad (e t:Int)
def SR.cons (t:Tk):SR->SR
 | .ok l=>.ok (t :: l)
 | .bad e t=>.bad e t
def SR.app (acc:List Tk):SR->SR
 | .ok l=>.ok (acc ++ l)
 | .bad e t=>.bad e t
def TF:Nat->List UInt8->Nat->SR
 | 0,_,_=>.ok []
 | f + 1,l,a=>match aL5 l (J3 l a) with
  | .bad e t=>.bad e t
  | .ok k x n z=>bif k == 0 then .ok [⟨k,x,n,J3 l a⟩] else SR.cons ⟨k,x,n,J3 l a⟩ (TF f l z)
def w9 (l:List UInt8):SR:=bif decide (4000 < l.length) then .bad 3 0 else TF (l.length + 1) l 0
def SR.toks:SR->List Tk
 | .ok l=>l
 | .bad _ _=>[]
def SR.err:SR->Int
 | .ok _=>0
 | .bad e _=>e
def SR.off:SR->Int
 | .ok _=>0
 | .bad _ t=>t
def cT (l:List UInt8):Bool:=match l with
 | []=>false
 | c :: _=>decide (l.length<=16) && iI c.toNat && l.all gM
def wT:List S->Prop:=fun xs=>match xs with
 | [.va (.c1 (.vl (.string _)))]=>True
 | _=>False
theorem jE {xs:List S} (h:wT xs):∃ s,xs=[tS s]:=by
 unfold wT at h
 split at h
 · exact ⟨_,rfl⟩
 · exact h.elim
def vC (f:List UInt8->Value):List S->A:=fun xs=>match xs with
 | [.va (.c1 (.vl (.string s)))]=>.c1 (.vl (f (bl s)))
 | _=>.gs []
def BQ (f:List UInt8->Value):Fun:=⟨wT,vC f,fun xs h=>by obtain ⟨s,rfl⟩:=jE h; trivial⟩
theorem BD {f:List UInt8->Value}:∀ xs H K,(BQ f).sp xs H K->xs.length=1:=fun xs H K h=>by obtain ⟨s,rfl⟩:=jE h.1.1; rfl
attribute [go_sem] BQ wT vC
theorem A1 {l:List UInt8} (h:16 < l.length):cT l=false:=by
 cases l with
 | nil=>rfl
 | cons c l=>
  simp only [cT]
  have:decide ((c :: l).length<=16)=false:=by simp at h ⊢; omega
  rw [this]; rfl
theorem JG {l:List UInt8} {c:UInt8} (h:l[0]? = some c) (hc:iI c.toNat=false):cT l=false:=by
 cases l with
 | nil=>rfl
 | cons d l=>simp at h; subst h; simp [cT,hc]
theorem XH {l:List UInt8} {i:Nat} {c:UInt8} (h:l[i]? = some c) (hc:gM c=false):cT l=false:=by
 cases l with
 | nil=>rfl
 | cons d l=>
  have:(d :: l).all gM=false:=by rw [List.all_eq_false]; exact ⟨c,b5 h,by simp [hc]⟩
  simp only [cT,this,Bool.and_false]
theorem NL {l:List UInt8} {c:UInt8} (h:l[0]? = some c) (hl:l.length<=16) (hc:iI c.toNat=true) (ha:∀ (j:Nat) (x:UInt8),l[j]? = some x->gM x=true):cT l=true:=by
 cases l with
 | nil=>simp at h
 | cons d l=>
  simp at h; subst h
  have h1:(d :: l).all gM=true:=by
   rw [List.all_eq_true]; intro x hx
   obtain ⟨j,hj⟩:=List.mem_iff_getElem?.1 hx
   exact ha j x hj
  simp only [cT,h1,hc,Bool.and_true,decide_eq_true_eq]; exact hl
theorem WE (c:UInt8):((mD c.toNat != 3) && (mD c.toNat != 4) && (mD c.toNat != 6))=!(gM c):=by
 rw [<-aA9]; simp [bne,Bool.not_or]
theorem xX:Meets Tryz.prog 108 (BQ fun l=>.bool (cT l)).sp:=by
 refine aD Tryz.func108 aGY 1 (by rw [Tryz.ntmps108]; decide) (aH aDE (aB _)) BD ?_
 rintro xs H K ⟨⟨h,rfl⟩,hK⟩
 obtain ⟨s,rfl⟩:=jE h
 have hn:∀ c:UInt8,(mD c.toNat != 3)=!(iI c.toNat):=fun c=>by rw [bne,aO2]
 simp -dsimp only [go_sem,R9,SJ,hn] at hK ⊢
 generalize hg:(bl s == [] || decide (16 < ((bl s).length:Int)))=g
 have hg1:g=false->0 < (bl s).length/\(bl s).length<=16:=fun h=>by
  subst hg; simp at h
  exact ⟨List.length_pos_iff.2 h.1,by omega⟩
 have hg2:g=true->cT (bl s)=false:=fun h=>by
  subst hg; simp at h
  rcases h with h | h
  · rw [h]; rfl
  · exact A1 (by omega)
 refine ⟨fun h=>⟨by omega,by have:=hg1 h; omega⟩,fun c hc=>⟨fun h=>?_,fun h=>?_,fun h=>?_⟩⟩
 · have:=c.toNat_lt; omega
 · refine eW hK ?_
   cases g with
   | true=>rw [hg2 rfl]
   | false=>simp at h; rw [JG (hc rfl) h]
 simp at h
 obtain ⟨rfl,h3⟩:=h
 have hc:=hc rfl
 obtain ⟨hl0,hl⟩:=hg1 rfl
 refine aU (α:=Nat) (fun i=>[(0,tS s),(19,iS .i64 (bl s).length),(20,iS .i64 i)]) (fun i=>[]) (fun i=>i<=(bl s).length/\∀ (j:Nat) (x:UInt8),j < i->(bl s)[j]? = some x->gM x=true) (fun i=>(bl s).length - i) 0 0 ⟨by omega,by omega⟩ ?_ ?_ ?_
 · simp -dsimp only [go_sem]; simp
 · simp [go_sem]
 rintro i ⟨hi,ha⟩
 simp -dsimp only [go_sem,WE]
 have hlt:(bl s).length < 2^64:=by omega
 refine ⟨fun h1=>⟨⟨by omega,by simpa using h1⟩,fun d hd=>⟨by have:=d.toNat_lt; omega,fun h2=>?_,fun h2=>⟨by omega,?_⟩⟩⟩,fun h1=>?_⟩
 · refine eW hK ?_
   rw [XH hd h2]
 · refine aE (i + 1) 0 ⟨by have:=(bB.1 hd).1; omega,fun j x hj hx=>?_⟩ (by have:=(bB.1 hd).1; omega) ?_ ?_
   · rcases a8 j i with h4 | h4
     · exact ha j x h4 hx
     · obtain rfl:j=i:=by omega
       rw [hd] at hx; obtain rfl:=bT hx
       simpa [gM] using h2
   · simp -dsimp only [go_sem]; simp
   · simp [go_sem]
 · refine eW hK ?_
   have:i=(bl s).length:=by simp at h1; omega
   subst this
   rw [NL hc hl h3 fun j x hx=>ha j x (bB.1 hx).1 hx]
def qTrue:Fun:=⟨fun xs=>xs=[],fun _=>bA true,fun xs h=>trivial⟩
theorem MI:∀ xs H K,qTrue.sp xs H K->xs.length=0:=fun xs H K h=>by rw [show xs=[] from h.1.1]; rfl
attribute [go_sem] qTrue
theorem kI (l:List UInt8):bl (mk l)=l:=by simp [bl,mk]
end Go.Proofs.YthpbnmebjocbeaaGreat
namespace Go.W
section
variable {P:Program} {f:FuncId} {s:Spec}
def pubB (n:Nat) (s:Spec):Spec:=fun ar H K=>match H[n]? with
 | some (.row xs _ _)=>s (ar.map (S.pub n xs)) (cG n xs H) K
 | _=>False
def dropB (s:Spec):Spec:=fun ar H K=>s (ar.map fun a=>a.nf.ren (cX [])) [] fun r H'=>K (r.ren (back [] H.length)) (lW [] H (H'.map (B.ren (back [] H.length))))
theorem Rel.rebase {X:Ctx} {E:Es} {ro:RO} {w:World} (h:Rel X E ro w):Rel ⟨w,cK E,ro,gm E⟩ E ro w:=
 ⟨h.own,h.inj,h.apart,h.rd,Ext.refl _,fun _ _ _ h=>.inl h,fun n b g blk hn en hl=>.inr (dA.2 ⟨n,g,blk,hn,en,hl⟩),.refl _,Nat.le_refl _,fun _ _ _=>rfl,rfl,rfl,rfl⟩
theorem Rel.over {X:Ctx} {E E':Es} {ro ro':RO} {w w':World} (h:Rel X E ro w) (k:Rel ⟨w,cK E,ro,gm E⟩ E' ro' w'):Rel X E' ro' w' where
 own:=k.own
 inj:=k.inj
 apart:=k.apart
 rd:=k.rd
 ro0:=h.ro0.trans k.ro0
 rob:=fun b off v hc=>by
  rcases k.rob b off v hc with q | q | q
  · exact h.rob b off v q
  · simp only at q; have:=h.sz; exact .inr (.inl (by omega))
  · obtain ⟨n,g,blk,hE,hgb,hl⟩:=dA.1 q
    exact .inr (h.par n b g blk hE hgb hl)
 par:=fun n b g blk hn en hl=>by
  rcases k.par n b g blk hn en hl with q | q
  · simp only at q; have:=h.sz; exact .inl (by omega)
  · obtain ⟨n',g',blk',hE,hgb,hl'⟩:=dA.1 q
    exact h.par n' b g' blk' hE hgb hl'
 gx:=h.gx.trans k.gx
 sz:=Nat.le_trans h.sz k.sz
 keep:=fun b hb hp=>by
  rw [k.keep b (by have:=h.sz; simp only; omega) (fun hb'=>?_)]
  · exact h.keep b hb hp
  · obtain ⟨n,g,blk,hE,hgb,hl⟩:=dA.1 hb'
    rcases h.par n b g blk hE hgb hl with q | q
    · omega
    · exact hp q
 os:=k.os.trans h.os
 tape:=k.tape.trans h.tape
 output:=k.output.trans h.output
theorem Meets.pubB (h:Meets P f s) (n:Nat):Meets P f (pubB n s):=by
 refine ⟨h.1,fun ar vs E ro w K hl hrel hr hs hG=>?_⟩
 unfold W.pubB at hs
 split at hs
 · rename_i xs T sz hn
   obtain ⟨g,hE⟩:∃ g,E[n]? = some (g,.row xs T sz):=by
    simp only [hp,List.getElem?_map] at hn
    cases hE:E[n]? with
    | none=>rw [hE] at hn; cases hn
    | some y=>rw [hE] at hn; simp at hn; exact ⟨y.1,by rw [<-hn]⟩
   obtain ⟨ro',hext,hfz,hglen,hr'⟩:=hr.pubR hE
   have hcall:=h.2 (ar.map (S.pub n xs)) vs (bJ (B.pub n xs) (E.set n (g,.dead))) ro' w K (by simpa using hl) (fun i x v hx hv=>by
    rw [List.getElem?_map] at hx
    cases hi:ar[i]? with
    | none=>rw [hi] at hx; cases hx
    | some y=>
     rw [hi] at hx
     simp only [Option.map_some,aF] at hx
     subst hx
     rw [dP,cQ hE]
     exact S.rel_pub hext (bQ hE) hglen hfz (hrel i y v hi hv)) hr'.rebase (by rw [eK,hp_kill]; exact hs) (hG.mono hext)
   refine hcall.mono ?_
   rintro e w' ⟨r,v,E',ro2,rfl,hrv,hR,hrel'⟩
   exact ⟨r,v,E',ro2,rfl,hrv,hR,hr'.over hrel'⟩
 · exact hs.elim
theorem Meets.dropB (h:Meets P f s):Meets P f (dropB s):=by
 refine ⟨h.1,fun ar vs E ro w K hl hrel hr hs hG=>?_⟩
 unfold W.dropB at hs
 have hnd:([]:List Nat).Nodup:=.nil
 have hlt:∀ n ∈ ([]:List Nat),n < E.length:=fun n hn=>by cases hn
 have gxl:∀ (n m:Nat) (g:Gb),cX [] n=some m->(gm E)[n]? = some g->(gm (bJ (B.ren (cX [])) (cE E [])))[m]? = some g:=fun n m g h1 h2=>by rw [dP]; exact qS n m g h1 h2
 have hloc:Rel ⟨w,cK (bJ (B.ren (cX [])) (cE E [])),ro,gm (bJ (B.ren (cX [])) (cE E []))⟩ (bJ (B.ren (cX [])) (cE E [])) ro w:=by
  have h0:Rel ⟨w,cK E,ro,[]⟩ E ro w:=⟨hr.own,hr.inj,hr.apart,hr.rd,Ext.refl _,fun _ _ _ h=>.inl h,fun n b g blk hn en hl=>.inr (dA.2 ⟨n,g,blk,hn,en,hl⟩),fun n g hn=>by simp at hn,Nat.le_refl _,fun _ _ _=>rfl,rfl,rfl,rfl⟩
  exact (h0.sel hnd hlt (fun n g hn=>by simp at hn)).here
 have hcall:=h.2 (ar.map fun s=>s.nf.ren (cX [])) vs (bJ (B.ren (cX [])) (cE E [])) ro w _ (by simpa using hl) (fun i x v hx hv=>by
  rw [List.getElem?_map] at hx
  cases hi:ar[i]? with
  | none=>rw [hi] at hx; cases hx
  | some y=>
   rw [hi] at hx
   simp only [Option.map_some,aF] at hx
   subst hx
   exact S.rel_ren gxl (S.rel_nf (hrel i y v hi hv))) hloc (by rw [eK,sM]; exact hs) hG
 refine hcall.mono ?_
 rintro e w' ⟨r,v,E',ro',rfl,hrv,hR,hrel'⟩
 obtain ⟨q1,q2,q3⟩:=hr.back hnd hlt rfl hrel'
 refine ⟨_,v,_,ro',rfl,S.rel_ren q3 hrv,?_,q1⟩
 rw [uI,eK]
 rw [cN] at hR
 exact hR
def lend1 (s:Spec):Spec:=pubB 0 (dropB s)
theorem Meets.lend1 (h:Meets P f s):Meets P f (lend1 s):=h.dropB.pubB 0
def lend2 (s:Spec):Spec:=pubB 0 (pubB 1 (dropB s))
theorem Meets.lend2 (h:Meets P f s):Meets P f (lend2 s):=(h.dropB.pubB 1).pubB 0
attribute [go_sem ↓] pubB dropB lend1 lend2
end
end Go.W
namespace Go.Proofs.YthpbnmebjocbeaaGreat
open Go.W
theorem K5 {α:Type} {row:α->List C} {l:List α} {n:Nat} {c:α} (h:l[n]? = some c) (p:List C->Prop):(∀ r,(l.map row)[n]? = some r->p r)=p (row c):=by
 rw [List.getElem?_map,h]; simp
theorem aY {α:Type} {row:α->List C} {l:List α} {n:Nat} {c:α} (h:l[n]? = some c) (p:List C->Prop):(∀ r,(l.map row)[((n:Nat):Int).toNat]? = some r->p r)=p (row c):=by
 rw [Int.toNat_natCast,List.getElem?_map,h]; simp
theorem eR {α:Type} {row:α->List C} {n:Nat} (h:∀ a,(row a).length=n) (l:List α):(∀ r:List C,r ∈ l.map row->r.length=n)=True:=eq_true fun r hr=>by obtain ⟨x,_,rfl⟩:=List.mem_map.1 hr; exact h x
inductive Ty where
 | mk (k s:Int) (n:ByteArray) (e:List Ty)
instance:Inhabited Ty:=⟨.mk 0 0 ByteArray.empty []⟩
def Ty.k:Ty->Int | .mk k _ _ _=>k
def Ty.s:Ty->Int | .mk _ s _ _=>s
def Ty.n:Ty->ByteArray | .mk _ _ n _=>n
def Ty.e:Ty->List Ty | .mk _ _ _ e=>e
mutual
def aW:Ty->List C
 | .mk k s n e=>[.vl (.int .i64 k),.vl (.int .i64 s),.vl (.string n),.fz (j0 e)]
def j0:List Ty->List (List C)
 | []=>[]
 | t :: r=>aW t :: j0 r
end
theorem bH:∀ l:List Ty,j0 l=l.map aW
 | []=>rfl
 | t :: r=>by rw [j0,bH r]; rfl
theorem aS (t:Ty):aW t=[.vl (.int .i64 t.k),.vl (.int .i64 t.s),.vl (.string t.n),.fz (t.e.map aW)]:=by
 cases t with
 | mk k s n e=>rw [aW,bH]; rfl
mutual
theorem rX:∀ {a b:Ty},aW a=aW b->a=b
 | .mk k s n e,.mk k' s' n' e',h=>by
  rw [aW,aW] at h
  simp only [List.cons.injEq,C.vl.injEq,Value.int.injEq,Value.string.injEq,C.fz.injEq,true_and,and_true] at h
  obtain ⟨rfl,rfl,rfl,h4⟩:=h
  rw [FW h4]
theorem FW:∀ {a b:List Ty},j0 a=j0 b->a=b
 | [],[],_=>rfl
 | [],_ :: _,h=>by rw [j0,j0] at h; cases h
 | _ :: _,[],h=>by rw [j0,j0] at h; cases h
 | x :: a,y :: b,h=>by
  rw [j0,j0] at h
  obtain ⟨h1,h2⟩:=List.cons.inj h
  rw [rX h1,FW h2]
end
mutual
def Ty.h:Ty->Nat
 | .mk _ _ _ e=>Ty.hs e + 1
def Ty.hs:List Ty->Nat
 | []=>0
 | t :: r=>max t.h (Ty.hs r)
end
theorem Ty.hs_mem:∀ {l:List Ty} {t:Ty},t ∈ l->t.h<=Ty.hs l
 | x :: l,t,h=>by
  rw [Ty.hs]
  rcases List.mem_cons.1 h with rfl | h
  · omega
  · have:=Ty.hs_mem h; omega
structure Fl where
 num:Int
 nm:ByteArray
 ty:Ty
 opt:Bool
instance:Inhabited Fl:=⟨⟨0,ByteArray.empty,default,false⟩⟩
def aR (f:Fl):List C:=[.vl (.int .i64 f.num),.vl (.string f.nm),.vl (.int .i64 f.ty.k),.vl (.int .i64 f.ty.s),.vl (.string f.ty.n),.fz (f.ty.e.map aW),.vl (.bool f.opt)]
structure St where
 nm:ByteArray
 fs:List Fl
instance:Inhabited St:=⟨⟨ByteArray.empty,[]⟩⟩
def aI (s:St):List C:=[.vl (.string s.nm),.fz (s.fs.map aR)]
abbrev eH (n:Int):List C:=[.vl (.int .i64 n)]
abbrev bZ (b:ByteArray):List C:=[.vl (.string b)]
structure En where
 nm:ByteArray
 ns:List ByteArray
 vs:List Int
instance:Inhabited En:=⟨⟨ByteArray.empty,[],[]⟩⟩
def a6 (e:En):List C:=[.vl (.string e.nm),.fz (e.ns.map bZ),.fz (e.vs.map eH)]
structure Sc where
 ver:Int
 es:List En
 ss:List St
instance:Inhabited Sc:=⟨⟨0,[],[]⟩⟩
def aJ (s:Sc):List C:=[.vl (.int .i64 s.ver),.fz (s.es.map a6),.fz (s.ss.map aI)]
theorem kP {α β:Type} {f:α->β} (hf:∀ {a b},f a=f b->a=b):∀ {l m:List α},l.map f=m.map f->l=m
 | [],[],_=>rfl
 | [],_ :: _,h=>by cases h
 | _ :: _,[],h=>by cases h
 | x :: l,y :: m,h=>by
  simp only [List.map_cons,List.cons.injEq] at h
  rw [hf h.1,kP hf h.2]
theorem yR {a b:Int} (h:eH a=eH b):a=b:=by simpa using h
theorem yO {a b:ByteArray} (h:bZ a=bZ b):a=b:=by simpa using h
theorem zA {a b:Fl} (h:aR a=aR b):a=b:=by
 obtain ⟨a1,a2,a3,a4⟩:=a
 obtain ⟨b1,b2,b3,b4⟩:=b
 simp only [aR,List.cons.injEq,C.vl.injEq,Value.int.injEq,Value.string.injEq,Value.bool.injEq,C.fz.injEq,true_and,and_true] at h
 obtain ⟨rfl,rfl,h3,h4,h5,h6,rfl⟩:=h
 have:a3=b3:=rX (by rw [aS,aS,h3,h4,h5,h6])
 rw [this]
theorem rV {a b:St} (h:aI a=aI b):a=b:=by
 obtain ⟨a1,a2⟩:=a
 obtain ⟨b1,b2⟩:=b
 simp only [aI,List.cons.injEq,C.vl.injEq,Value.string.injEq,C.fz.injEq,and_true] at h
 obtain ⟨rfl,h2⟩:=h
 rw [kP zA h2]
theorem y7 {a b:En} (h:a6 a=a6 b):a=b:=by
 obtain ⟨a1,a2,a3⟩:=a
 obtain ⟨b1,b2,b3⟩:=b
 simp only [a6,List.cons.injEq,C.vl.injEq,Value.string.injEq,C.fz.injEq,and_true] at h
 obtain ⟨rfl,h2,h3⟩:=h
 rw [kP yO h2,kP yR h3]
theorem WP {a b:Sc} (h:aJ a=aJ b):a=b:=by
 obtain ⟨a1,a2,a3⟩:=a
 obtain ⟨b1,b2,b3⟩:=b
 simp only [aJ,List.cons.injEq,C.vl.injEq,Value.int.injEq,C.fz.injEq,true_and,and_true] at h
 obtain ⟨rfl,h2,h3⟩:=h
 rw [kP y7 h2,kP rV h3]
noncomputable def pA {α β:Type} [Inhabited α] (f:α->β) (b:β):α:=Classical.epsilon fun a=>f a=b
theorem gL {α β:Type} [Inhabited α] {f:α->β} (hf:∀ {a b},f a=f b->a=b) (a:α):pA f (f a)=a:=hf (Classical.epsilon_spec (p:=fun x=>f x=f a) ⟨a,rfl⟩)
theorem jA {α β:Type} [Inhabited α] {f:α->β} (hf:∀ {a b},f a=f b->a=b) (l:List α):(l.map f).map (pA f)=l:=by
 rw [List.map_map,show (pA f ∘ f)=id from funext fun a=>gL hf a,List.map_id]
noncomputable def C.ty:=pA aW
noncomputable def C.fl:=pA aR
noncomputable def C.st:=pA aI
noncomputable def C.en:=pA a6
noncomputable def C.sc:=pA aJ
noncomputable def C.bs:=pA bZ
noncomputable def C.it:=pA eH
@[go_sem] theorem pU (t:Ty):C.ty (aW t)=t:=gL rX t
@[go_sem] theorem aQ7 (t:Fl):C.fl (aR t)=t:=gL zA t
@[go_sem] theorem DR (t:St):C.st (aI t)=t:=gL rV t
@[go_sem] theorem aAJ (t:En):C.en (a6 t)=t:=gL y7 t
@[go_sem] theorem lL (t:Sc):C.sc (aJ t)=t:=gL WP t
@[go_sem] theorem aRH (t:ByteArray):C.bs (bZ t)=t:=gL yO t
@[go_sem] theorem aS3 (t:Int):C.it (eH t)=t:=gL yR t
@[go_sem] theorem aRT (l:List Ty):(l.map aW).map C.ty=l:=jA rX l
@[go_sem] theorem aRM (l:List Fl):(l.map aR).map C.fl=l:=jA zA l
@[go_sem] theorem aR3 (l:List St):(l.map aI).map C.st=l:=jA rV l
@[go_sem] theorem aR0 (l:List En):(l.map a6).map C.en=l:=jA y7 l
@[go_sem] theorem aTG (l:List ByteArray):(l.map bZ).map C.bs=l:=jA yO l
@[go_sem] theorem aRV (l:List Int):(l.map eH).map C.it=l:=jA yR l
theorem dO (t:Ty):(aW t).length=4:=by rw [aS]; rfl
theorem IV (t:Fl):(aR t).length=7:=rfl
theorem WC (t:St):(aI t).length=2:=rfl
theorem XM (t:En):(a6 t).length=3:=rfl
theorem iL {a b:ByteArray} (h:bl a=bl b):a=b:=by rw [<-fJ a,<-fJ b,h]
theorem eL (a b:ByteArray):(bl a == bl b)=decide (a=b):=by
 rw [Bool.eq_iff_iff,beq_iff_eq,decide_eq_true_eq]
 exact ⟨iL,fun h=>by rw [h]⟩
def bM (n:Int):Prop:=-9223372036854775808<=n/\n<=9223372036854775807
inductive TyOk:Ty->Prop
 | mk {k s:Int} {n:ByteArray} {e:List Ty}:bM k->bM s->n.size<=9223372036854775807->e.length<=9223372036854775807->(∀ t ∈ e,TyOk t)->TyOk (.mk k s n e)
theorem TyOk.len {t:Ty} (h:TyOk t):t.e.length<=9223372036854775807:=by cases h; assumption
theorem TyOk.k {t:Ty} (h:TyOk t):bM t.k:=by cases h; assumption
theorem TyOk.s {t:Ty} (h:TyOk t):bM t.s:=by cases h; assumption
theorem TyOk.n {t:Ty} (h:TyOk t):t.n.size<=9223372036854775807:=by cases h; assumption
theorem TyOk.e {t:Ty} (h:TyOk t):∀ u ∈ t.e,TyOk u:=by cases h; assumption
structure Fl.ok (f:Fl):Prop where
 num:bM f.num
 nm:f.nm.size<=9223372036854775807
 ty:TyOk f.ty
structure St.ok (s:St):Prop where
 nm:s.nm.size<=9223372036854775807
 len:s.fs.length<=9223372036854775807
 fs:∀ f ∈ s.fs,f.ok
structure En.ok (e:En):Prop where
 nm:e.nm.size<=9223372036854775807
 ln:e.ns.length<=9223372036854775807
 lv:e.vs.length<=9223372036854775807
 ns:∀ n ∈ e.ns,n.size<=9223372036854775807
 vs:∀ n ∈ e.vs,bM n
structure Sc.ok (s:Sc):Prop where
 ver:bM s.ver
 le:s.es.length<=9223372036854775807
 ls:s.ss.length<=9223372036854775807
 es:∀ e ∈ s.es,e.ok
 ss:∀ t ∈ s.ss,t.ok
def p8 (r:List C):Prop:=∃ t,r=aW t/\TyOk t
def QL (r:List C):Prop:=∃ s:St,r=aI s/\s.ok
def J5 (r:List C):Prop:=∃ e:En,r=a6 e/\e.ok
def ED (r:List C):Prop:=∃ s:Sc,r=aJ s/\s.ok
theorem mZ {t:Ty} (h:TyOk t):p8 (aW t):=⟨t,rfl,h⟩
theorem V9 {t:St} (h:t.ok):QL (aI t):=⟨t,rfl,h⟩
theorem W3 {t:En} (h:t.ok):J5 (a6 t):=⟨t,rfl,h⟩
theorem WY {t:Sc} (h:t.ok):ED (aJ t):=⟨t,rfl,h⟩
def I9 (p:List C->Prop):List S->Prop:=fun av=>match av with
 | [.va (.gs r)]=>p r
 | _=>False
theorem hO {p:List C->Prop} {av:List S} (h:I9 p av):∃ r,av=[.va (.gs r)]/\p r:=by
 unfold I9 at h
 split at h
 · exact ⟨_,rfl,h⟩
 · exact h.elim
def aET {α:Type} (d:List C->α) (f:α->A):List S->A:=fun av=>match av with
 | [.va (.gs r)]=>f (d r)
 | _=>.gs []
attribute [go_sem] I9 aET
def s5 (l:List UInt8):Bool:=cT l && match l with | c :: _=>decide (65<=(c.toNat:Int)) && decide ((c.toNat:Int)<=90) | []=>false
theorem AX:Meets Tryz.prog 68 (BQ fun l=>.bool (s5 l)).sp:=by
 refine aD Tryz.func68 aN4 1 (by rw [Tryz.ntmps68]; decide) (aH xX (aB _)) BD ?_
 rintro xs H K ⟨⟨h,rfl⟩,hK⟩
 obtain ⟨s,rfl⟩:=jE h
 have hK':K (.va (.c1 (.vl (.bool (s5 (bl s)))))) []:=hK
 clear hK h
 unfold s5 at hK'
 cases hn:cT (bl s) with
 | false=>
  rw [hn] at hK'
  simp -dsimp only [go_sem,P9,PE,hn]
  exact .done hK'
 | true=>
  cases hl:bl s with
  | nil=>rw [hl] at hn; cases hn
  | cons c r=>
   rw [hl] at hn hK'
   rw [hn] at hK'
   simp -dsimp only [go_sem,P9,PE,hl,hn]
   refine ⟨by omega,fun d hd=>⟨fun _=>by omega,fun e he=>?_⟩⟩
   subst hd
   cases hc:decide (65<=(c.toNat:Int)) with
   | false=>simp only [hc,Bool.true_and,Bool.false_and] at hK'; exact .done hK'
   | true=>
    obtain rfl:=he hc
    simp only [hc,Bool.true_and] at hK'; exact .done hK'
def FH (rs:List (List C)):Prop:=∃ l:List ByteArray,rs=l.map bZ/\l.length<=9223372036854775807
theorem yW {l:List ByteArray} (h:l.length<=9223372036854775807):FH (l.map bZ):=⟨l,rfl,h⟩
def CE:List S->Prop:=fun av=>match av with
 | [.va (.c1 (.fz rs)),.va (.c1 (.vl (.string _)))]=>FH rs
 | _=>False
theorem kC {av:List S} (h:CE av):∃ (l:List ByteArray) (x:ByteArray),av=[.va (.c1 (.fz (l.map bZ))),tS x]/\l.length<=9223372036854775807:=by
 unfold CE at h
 split at h
 · obtain ⟨l,rfl,h⟩:=h; exact ⟨l,_,rfl,h⟩
 · exact h.elim
noncomputable def VL (f:List ByteArray->ByteArray->Value):List S->A:=fun av=>match av with
 | [.va (.c1 (.fz rs)),.va (.c1 (.vl (.string x)))]=>.c1 (.vl (f (rs.map C.bs) x))
 | _=>.gs []
noncomputable def yA (f:List ByteArray->ByteArray->Value):Fun:=⟨CE,VL f,fun av h=>by obtain ⟨l,x,rfl,_⟩:=kC h; trivial⟩
theorem FZ {f}:∀ av H K,(yA f).sp av H K->av.length=2:=fun av H K h=>by obtain ⟨l,x,rfl,_⟩:=kC h.1.1; rfl
attribute [go_sem] yA CE VL
def m9:List ByteArray->ByteArray->Nat->Int
 | [],_,_=>-1
 | y :: l,x,i=>bif decide (x=y) then (i:Int) else m9 l x (i + 1)
def bU (l:List ByteArray) (x:ByteArray):Bool:=l.any fun y=>decide (x=y)
theorem rD (l:List ByteArray) (x:ByteArray):bU l x=true ↔ x ∈ l:=by
 unfold bU; rw [List.any_eq_true]
 exact ⟨fun ⟨y,hy,h⟩=>by rw [of_decide_eq_true h]; exact hy,fun h=>⟨x,h,by simp⟩⟩
theorem H5:∀ (l:List ByteArray) (x:ByteArray) (i:Nat),decide (0<=m9 l x i)=bU l x
 | [],_,_=>by simp [m9,bU]
 | y :: l,x,i=>by
  simp only [m9]
  by_cases h:x=y
  · simp [h,bU]
  · have:=H5 l x (i + 1)
    simp [h,bU] at this ⊢; exact this
theorem X5:Meets Tryz.prog 142 (yA fun l x=>.int .i64 (m9 l x 0)).sp:=by
 refine aD Tryz.func142 aF4 2 (by rw [Tryz.ntmps142]; decide) (aB _) FZ ?_
 rintro av H K ⟨⟨h,rfl⟩,hK⟩
 obtain ⟨l,x,rfl,hl⟩:=kC h
 have hK:K (iS .i64 (m9 l x 0)) []:=by
  have:(yA fun l x=>.int .i64 (m9 l x 0)).val [.va (.c1 (.fz (l.map bZ))),tS x]=iA .i64 (m9 l x 0):=by simp -dsimp only [go_sem]
  rw [this] at hK; exact hK
 simp -dsimp only [go_sem,VP,UB]
 refine aU (α:=Nat) (fun i=>[(0,.va (.c1 (.fz (l.map bZ)))),(1,tS x),(7,iS .i64 l.length),(8,iS .i64 i)]) (fun _=>[])
  (fun i=>i<=l.length/\m9 (l.drop i) x i=m9 l x 0) (fun i=>l.length - i) 0 0 ⟨Nat.zero_le _,rfl⟩ ?_ ?_ ?_
 · simp [go_sem]
 · simp [go_sem]
 rintro i ⟨hi,ho⟩
 rcases a8 i l.length with hlt | hge
 · have hg:decide ((i:Int) < (l.length:Int))=true:=by simp; omega
   have hx:l[i]? = some l[i]:=aV hlt
   have q1:=K5 (row:=bZ) hx
   have q2:=aY (row:=bZ) hx
   rw [List.drop_eq_getElem_cons hlt] at ho
   simp only [m9] at ho
   generalize l[i]=y at *
   cases hc:decide (x=y) with
   | true=>
    rw [hc,bI] at ho
    simp -dsimp only [go_sem,hg,↓q2,hc,eL]
    and_intros
    all_goals first
     | omega
     | exact .done (by rw [ho]; exact hK)
   | false=>
    rw [hc,aX] at ho
    simp -dsimp only [go_sem,hg,↓q2,hc,eL]
    and_intros
    all_goals first
     | omega
     | skip
    refine aE (i + 1) 0 ⟨by omega,ho⟩ (by omega) ?_ ?_
    · simp [go_sem]
    · simp [go_sem]
 · have hg:decide ((i:Int) < (l.length:Int))=false:=by simp; omega
   have:l.drop i=[]:=List.drop_eq_nil_iff.2 (by omega)
   rw [this] at ho
   simp -dsimp only [go_sem,hg]
   exact .done (by rw [show (-1:Int)=m9 l x 0 from ho]; exact hK)
theorem wP:Meets Tryz.prog 109 (yA fun l x=>.bool (bU l x)).sp:=by
 refine aD Tryz.func109 aHE 2 (by rw [Tryz.ntmps109]; decide) (aH X5 (aB _)) FZ ?_
 rintro av H K ⟨⟨h,rfl⟩,hK⟩
 obtain ⟨l,x,rfl,hl⟩:=kC h
 have hK:K (bS (bU l x)) []:=by
  have:(yA fun l x=>.bool (bU l x)).val [.va (.c1 (.fz (l.map bZ))),tS x]=bA (bU l x):=by simp -dsimp only [go_sem]
  rw [this] at hK; exact hK
 simp -dsimp only [go_sem,UR,VA,yW hl,H5]
 exact .done hK
theorem d9 {α:Type} (row:α->List C) (l:List α) (n:Nat):(l.map row).take n=(l.take n).map row:=List.map_take.symm
theorem lI {α:Type} (l:List α) (n:Nat):(l.take n).length<=l.length:=by rw [List.length_take]; omega
theorem kM (b:ByteArray):(bZ b).length=1:=rfl
noncomputable def uW {α:Type} (p:List C->Prop) (d:List C->α) (f:α->Value):Fun:=⟨I9 p,aET d fun a=>.c1 (.vl (f a)),fun av h=>by obtain ⟨r,rfl,_⟩:=hO h; trivial⟩
theorem q9 {α:Type} {p:List C->Prop} {d:List C->α} {f:α->Value}:∀ av H K,(uW p d f).sp av H K->av.length=1:=fun av H K h=>by obtain ⟨r,rfl,_⟩:=hO h.1.1; rfl
attribute [go_sem] uW
theorem eS {α:Type} {l:List α} {i:Nat} {x:α} (hx:l[i]? = some x) (p:α->Bool):(l.drop i).any p=(p x || (l.drop (i + 1)).any p):=by
 obtain ⟨h,rfl⟩:=bB.1 hx
 rw [List.drop_eq_getElem_cons h,List.any_cons]
theorem fW {α:Type} {l:List α} (p:α->Bool):(l.drop l.length).any p=false:=by rw [List.drop_length]; rfl
def dS (s:Sc):Bool:=decide (16 < s.es.length) || decide (16 < s.es.length + s.ss.length) || s.es.any (fun e=>decide (16 < e.ns.length)) || s.ss.any (fun t=>decide (16 < t.fs.length))
theorem ZW:Meets Tryz.prog 67 (uW ED C.sc fun s=>.bool (dS s)).sp:=by
 refine aD Tryz.func67 aOJ 1 (by rw [Tryz.ntmps67]; decide) (aB _) q9 ?_
 rintro av H K ⟨⟨h,rfl⟩,hK⟩
 obtain ⟨_,rfl,s,rfl,hs⟩:=hO h
 have hK:K (bS (dS s)) []:=by
  have:(uW ED C.sc fun s=>.bool (dS s)).val [.va (.gs (aJ s))]=bA (dS s):=by simp -dsimp only [go_sem]
  rw [this] at hK; exact hK
 obtain ⟨hv,hle,hls,hes,hss⟩:=hs
 simp -dsimp only [go_sem,aJ,YV,aCX]
 refine ⟨fun _=>by omega,fun h1=>?_,fun h1=>?_⟩
 · have:dS s=true:=by
    simp only [Bool.or_eq_true,decide_eq_true_eq] at h1
    unfold dS
    rcases h1 with h1 | h1
    · simp [show 16 < s.es.length by omega]
    · simp [show 16 < s.es.length + s.ss.length by omega]
   rw [this] at hK
   exact .sel [] (by simp) (by simp) rfl (.done (by simpa [go_sem] using hK))
 simp only [Bool.or_eq_false_iff,decide_eq_false_iff_not] at h1
 have hL:dS s=(s.es.any (fun e=>decide (16 < e.ns.length)) || s.ss.any (fun t=>decide (16 < t.fs.length))):=by
  unfold dS; rw [decide_eq_false (by omega),decide_eq_false (by omega)]; rfl
 refine aU (α:=Nat) (fun i=>[(1,.va (.c1 (.pt 0 0))),(22,.va (.c1 (.fz (s.es.map a6)))),(23,iS .i64 s.es.length),(24,iS .i64 i)]) (fun _=>[.cells (aJ s) 25])
  (fun i=>i<=s.es.length/\(s.es.drop i).any (fun e=>decide (16 < e.ns.length))=s.es.any (fun e=>decide (16 < e.ns.length))) (fun i=>s.es.length - i) 0 1 ⟨Nat.zero_le _,rfl⟩ ?_ ?_ ?_
 · simp [go_sem]
 · simp [go_sem,aJ]
 rintro i ⟨hi,ho⟩
 rcases a8 i s.es.length with hlt | hge
 · have hg:decide ((i:Int) < (s.es.length:Int))=true:=by simp; omega
   obtain ⟨e,hx⟩:∃ e,s.es[i]? = some e:=⟨_,aV hlt⟩
   have q2:=aY (row:=a6) hx
   rw [eS hx] at ho
   simp -dsimp only [go_sem,hg,↓q2,a6,aJ]
   and_intros
   all_goals first
    | omega
    | skip
   · intro hc
     have hc':decide (16 < e.ns.length)=true:=by simp at hc; simp; omega
     have:dS s=true:=by simp only [hL,<-ho,hc',Bool.true_or]
     rw [this] at hK
     exact .sel [] (by simp) (by simp) rfl (.done (by simpa [go_sem] using hK))
   · intro hc
     refine ⟨by omega,aE (i + 1) 1 ⟨by omega,?_⟩ (by omega) ?_ ?_⟩
     · have hc':decide (16 < e.ns.length)=false:=by simp at hc; simp; omega
       rw [<-ho,hc',Bool.false_or]
     · simp [go_sem]
     · simp [go_sem,aJ]
 · have hg:decide ((i:Int) < (s.es.length:Int))=false:=by simp; omega
   obtain rfl:i=s.es.length:=by omega
   rw [fW] at ho
   rw [<-ho,Bool.false_or] at hL
   simp -dsimp only [go_sem,hg,aJ]
   refine aU (α:=Nat) (fun i=>[(1,.va (.c1 (.pt 0 0))),(34,.va (.c1 (.fz (s.ss.map aI)))),(35,iS .i64 s.ss.length),(36,iS .i64 i)]) (fun _=>[.cells (aJ s) 25])
    (fun i=>i<=s.ss.length/\(s.ss.drop i).any (fun e=>decide (16 < e.fs.length))=s.ss.any (fun e=>decide (16 < e.fs.length))) (fun i=>s.ss.length - i) 0 1 ⟨Nat.zero_le _,rfl⟩ ?_ ?_ ?_
   · simp [go_sem]
   · simp [go_sem,aJ]
   clear hi ho hge hg
   rintro i ⟨hi,ho⟩
   rcases a8 i s.ss.length with hlt | hge
   · have hg:decide ((i:Int) < (s.ss.length:Int))=true:=by simp; omega
     obtain ⟨e,hx⟩:∃ e,s.ss[i]? = some e:=⟨_,aV hlt⟩
     have q2:=aY (row:=aI) hx
     rw [eS hx] at ho
     simp -dsimp only [go_sem,hg,↓q2,aI,aJ]
     and_intros
     all_goals first
      | omega
      | skip
     · intro hc
       have hc':decide (16 < e.fs.length)=true:=by simp at hc; simp; omega
       have:dS s=true:=by simp only [hL,<-ho,hc',Bool.true_or]
       rw [this] at hK
       exact .sel [] (by simp) (by simp) rfl (.done (by simpa [go_sem] using hK))
     · intro hc
       refine ⟨by omega,aE (i + 1) 1 ⟨by omega,?_⟩ (by omega) ?_ ?_⟩
       · have hc':decide (16 < e.fs.length)=false:=by simp at hc; simp; omega
         rw [<-ho,hc',Bool.false_or]
       · simp [go_sem]
       · simp [go_sem,aJ]
   · have hg:decide ((i:Int) < (s.ss.length:Int))=false:=by simp; omega
     obtain rfl:i=s.ss.length:=by omega
     rw [fW] at ho
     simp -dsimp only [go_sem,hg,aJ]
     rw [hL,<-ho] at hK
     exact .sel [] (by simp) (by simp) rfl (.done (by simpa [go_sem] using hK))
def fE (f:Nat->Int):Nat->Nat->Int
 | 0,_=>0
 | n + 1,i=>bif f i == 0 then fE f n (i + 1) else f i
theorem HR {f:Nat->Int} {m i:Nat} (h:i < m):fE f (m - i) i=bif f i == 0 then fE f (m - (i + 1)) (i + 1) else f i:=by
 obtain ⟨k,rfl⟩:∃ k,m=i + k + 1:=⟨m - i - 1,by omega⟩
 rw [show i + k + 1 - i=k + 1 by omega,show i + k + 1 - (i + 1)=k by omega]; rfl
theorem uS {f:Nat->Int} {m i:Nat} (h:i < m) (h0:f i=0):fE f (m - i) i=fE f (m - (i + 1)) (i + 1):=by rw [HR h,h0]; rfl
theorem qH {f:Nat->Int} {m i:Nat} (h:i < m) (h0:f i ≠ 0):fE f (m - i) i=f i:=by
 rw [HR h,beq_eq_false_iff_ne.2 h0]; rfl
theorem v2 (f:Nat->Int) (m:Nat):fE f (m - m) m=0:=by rw [Nat.sub_self]; rfl
def i5 (e:En) (k:Nat):Int:=match e.ns[k]?,e.vs[k]? with
 | some nm,some n=>bif !(cT (bl nm)) then 5 else bif bU (e.ns.take k) nm then 7 else bif decide (n < 0) || decide (127 < n) then 4 else
  bif (decide ((k:Int)=0) && decide (n ≠ 0)) || (decide (0 < (k:Int)) && match e.vs[k - 1]? with | some m=>decide (n<=m) | none=>false) then 2 else 0
 | _,_=>0
def mY (e:En):Int:=bif decide (e.ns.length=0) || decide (e.ns.length ≠ e.vs.length) then 2 else fE (i5 e) e.ns.length 0
theorem JN:Meets Tryz.prog 69 (uW J5 C.en fun e=>.int .i64 (mY e)).sp:=by
 refine aD Tryz.func69 aN8 1 (by rw [Tryz.ntmps69]; decide) (aH xX (aH wP (aB _))) q9 ?_
 rintro av H K ⟨⟨h,rfl⟩,hK⟩
 obtain ⟨_,rfl,e,rfl,he⟩:=hO h
 have hK:K (iS .i64 (mY e)) []:=by
  have:(uW J5 C.en fun e=>.int .i64 (mY e)).val [.va (.gs (a6 e))]=iA .i64 (mY e):=by simp -dsimp only [go_sem]
  rw [this] at hK; exact hK
 clear h
 obtain ⟨_,hln,hlv,_,_⟩:=he
 simp -dsimp only [go_sem,a6,aB1,YA]
 refine ⟨fun h1=>?_,fun h1=>?_⟩
 · have:mY e=2:=by
    unfold mY
    have:(decide (e.ns.length=0) || decide (e.ns.length ≠ e.vs.length))=true:=by
     simp only [Bool.or_eq_true,beq_iff_eq,bne_iff_ne,decide_eq_true_eq] at h1 ⊢; omega
    rw [this]; rfl
   rw [this] at hK
   exact .sel [] (by simp) (by simp) rfl (.done (by simpa [go_sem] using hK))
 simp only [Bool.or_eq_false_iff,beq_eq_false_iff_ne,bne_eq_false_iff_eq,ne_eq] at h1
 have hl:e.ns.length=e.vs.length:=by omega
 have hF:mY e=fE (i5 e) (e.ns.length - 0) 0:=by
  unfold mY; rw [decide_eq_false (by omega),decide_eq_false (by omega)]; rfl
 refine aU (α:=Nat) (fun i=>[(1,.va (.c1 (.pt 0 0))),(20,.va (.c1 (.fz (e.ns.map bZ)))),(21,iS .i64 e.ns.length),(22,iS .i64 i)]) (fun _=>[.cells (a6 e) 118])
  (fun i=>i<=e.ns.length/\fE (i5 e) (e.ns.length - i) i=fE (i5 e) (e.ns.length - 0) 0) (fun i=>e.ns.length - i) 0 1 ⟨Nat.zero_le _,rfl⟩ ?_ ?_ ?_
 · simp [go_sem]
 · simp [go_sem,a6]
 rintro i ⟨hi,ho⟩
 rcases a8 i e.ns.length with hlt | hge
 · have hg:decide ((i:Int) < (e.ns.length:Int))=true:=by simp; omega
   obtain ⟨nm,hx⟩:∃ nm,e.ns[i]? = some nm:=⟨_,aV hlt⟩
   obtain ⟨n,hy⟩:∃ nm,e.vs[i]? = some nm:=⟨_,aV (by omega)⟩
   have q1:=aY (row:=bZ) hx
   have q2:=aY (row:=eH) hy
   have ht:FH ((e.ns.take i).map bZ):=yW (Nat.le_trans (lI _ _) hln)
   have hA:i5 e i=bif !(cT (bl nm)) then (5:Int) else bif bU (e.ns.take i) nm then 7 else bif decide (n < 0) || decide (127 < n) then 4 else
    bif (decide ((i:Int)=0) && decide (n ≠ 0)) || (decide (0 < (i:Int)) && match e.vs[i - 1]? with | some m=>decide (n<=m) | none=>false) then 2 else 0:=by
    unfold i5; rw [hx,hy]
   have fin:∀ x:Int,i5 e i=x->x ≠ 0->W.Fin 0 K (iS .i64 x) [.cells (a6 e) 118]:=fun x h1 h2=>by
    rw [hF,<-ho,qH hlt (by rw [h1]; exact h2),h1] at hK
    exact .sel [] (by simp) (by simp) rfl (.done (by simpa [go_sem] using hK))
   have gA:i5 e i=0->fE (i5 e) (e.ns.length - (i + 1)) (i + 1)=fE (i5 e) (e.ns.length - 0) 0:=fun h1=>by rw [<-ho,uS hlt h1]
   rcases Nat.eq_zero_or_pos i with h0 | h0
   · subst h0
     have g1:decide ((0:Int) < 0)=false:=rfl
     have g2:((0:Int) == 0)=true:=rfl
     have hb0:bU [] nm=false:=rfl
     have ht0:FH []:=⟨[],rfl,Nat.zero_le _⟩
     rw [Int.natCast_zero] at *
     cases hc1:cT (bl nm) with
     | false=>
      simp -dsimp only [go_sem,hg,↓q1,↓q2,a6,hc1]
      exact ⟨by omega,by omega,fin 5 (by rw [hA,hc1]; rfl) (by decide)⟩
     | true=>
      cases hc3:(decide (n < 0) || decide (127 < n)) with
      | true=>
       simp -dsimp only [go_sem,hg,↓q1,↓q2,a6,ht0,hb0,d9,eR kM,hc1,hc3]
       exact ⟨by omega,by omega,by omega,fin 4 (by rw [hA,hc1,hc3]; rfl) (by decide)⟩
      | false=>
       cases hn:(n != 0) with
       | true=>
        simp -dsimp only [go_sem,hg,↓q1,↓q2,a6,ht0,hb0,d9,eR kM,Bool.false_and,g1,g2,hc1,hc3,hn]
        exact ⟨by omega,by omega,by omega,fin 2 (by rw [hA,hc1,hc3]; simp at hn; simp [hn,bU]) (by decide)⟩
       | false=>
        simp -dsimp only [go_sem,hg,↓q1,↓q2,a6,ht0,hb0,d9,eR kM,Bool.true_and,g1,g2,hc1,hc3,hn]
        refine ⟨by omega,by omega,by omega,by omega,aE 1 1 ⟨by omega,gA ?_⟩ (by omega) ?_ ?_⟩
        · rw [hA,hc1,hc3]; simp at hn; simp [hn,bU]
        · simp [go_sem]
        · simp [go_sem,a6]
   · have g1:decide (0 < (i:Int))=true:=by simp; omega
     have g2:((i:Int) == 0)=false:=by simp; omega
     obtain ⟨m,hm⟩:∃ m,e.vs[i - 1]? = some m:=⟨_,aV (by omega)⟩
     have q4:((i:Int) - 1).toNat=i - 1:=by omega
     cases hc1:cT (bl nm) with
     | false=>
      simp -dsimp only [go_sem,hg,↓q1,↓q2,a6,hc1]
      exact ⟨by omega,by omega,fin 5 (by rw [hA,hc1]; rfl) (by decide)⟩
     | true=>
      cases hc2:bU (e.ns.take i) nm with
      | true=>
       simp -dsimp only [go_sem,hg,↓q1,↓q2,a6,ht,d9,eR kM,hc1,hc2]
       exact ⟨by omega,by omega,by omega,fin 7 (by rw [hA,hc1,hc2]; rfl) (by decide)⟩
      | false=>
       cases hc3:(decide (n < 0) || decide (127 < n)) with
       | true=>
        simp -dsimp only [go_sem,hg,↓q1,↓q2,a6,ht,d9,eR kM,hc1,hc2,hc3]
        exact ⟨by omega,by omega,by omega,fin 4 (by rw [hA,hc1,hc2,hc3]; rfl) (by decide)⟩
       | false=>
        simp -dsimp only [go_sem,hg,↓q1,↓q2,a6,ht,d9,eR kM,Bool.true_and,g1,g2,hc1,hc2,hc3,q4]
        refine ⟨by omega,by omega,by omega,by omega,by omega,fun x hx'=>?_⟩
        rw [hm] at hx'
        obtain rfl:=bT hx'
        refine ⟨fun hn=>fin 2 (by rw [hA,hc1,hc2,hc3,hm,g1]; simp at hn; simp [hn]) (by decide),fun hn=>⟨by omega,aE (i + 1) 1 ⟨by omega,gA ?_⟩ (by omega) ?_ ?_⟩⟩
        · have hi0:i ≠ 0:=by omega
          rw [hA,hc1,hc2,hc3,hm,g1]; simp at hn; simp [hi0,show ¬ n<=m by omega]
        · simp [go_sem]
        · simp [go_sem,a6]
 · have hg:decide ((i:Int) < (e.ns.length:Int))=false:=by simp; omega
   obtain rfl:i=e.ns.length:=by omega
   rw [v2] at ho
   simp -dsimp only [go_sem,hg,a6]
   rw [hF,<-ho] at hK
   exact .sel [] (by simp) (by simp) rfl (.done (by simpa [go_sem] using hK))
def cA (ss:List St) (n:ByteArray):Bool:=ss.any fun s=>decide (s.nm=n)
def dH (es:List En) (n:ByteArray):Bool:=es.any fun s=>decide (s.nm=n)
def hS (s:Sc) (i:Nat) (n:ByteArray):Int:=bif !(s5 (bl n)) then 5 else bif dH s.es n then 7 else bif cA (s.ss.take i) n then 7 else 0
def BY:List S->Prop:=fun av=>match av with
 | [.va (.gs r),.va (.c1 (.vl (.int .i64 i))),.va (.c1 (.vl (.string _)))]=>ED r/\0<=i/\i<=((C.sc r).ss.length:Int)
 | _=>False
theorem n9 {av:List S} (h:BY av):∃ (s:Sc) (i:Nat) (n:ByteArray),av=[.va (.gs (aJ s)),iS .i64 i,tS n]/\s.ok/\i<=s.ss.length:=by
 unfold BY at h
 split at h
 · obtain ⟨⟨s,rfl,hs⟩,h1,h2⟩:=h
   rename_i i n
   rw [lL] at h2
   exact ⟨s,i.toNat,n,by rw [Int.toNat_of_nonneg h1],hs,by omega⟩
 · exact h.elim
noncomputable def RD:List S->A:=fun av=>match av with
 | [.va (.gs r),.va (.c1 (.vl (.int .i64 i))),.va (.c1 (.vl (.string n)))]=>iA .i64 (hS (C.sc r) i.toNat n)
 | _=>.gs []
noncomputable def cnFn:Fun:=⟨BY,RD,fun av h=>by obtain ⟨s,i,n,rfl,_⟩:=n9 h; trivial⟩
theorem P2:∀ av H K,cnFn.sp av H K->av.length=3:=fun av H K h=>by obtain ⟨s,i,n,rfl,_⟩:=n9 h.1.1; rfl
attribute [go_sem] cnFn BY RD
theorem JC:Meets Tryz.prog 71 cnFn.sp:=by
 refine aD Tryz.func71 aO0 3 (by rw [Tryz.ntmps71]; decide) (aH AX (aB _)) P2 ?_
 rintro av H K ⟨⟨h,rfl⟩,hK⟩
 obtain ⟨s,j,n,rfl,hs,hj⟩:=n9 h
 have hK:K (iS .i64 (hS s j n)) []:=by
  have:cnFn.val [.va (.gs (aJ s)),iS .i64 j,tS n]=iA .i64 (hS s j n):=by simp -dsimp only [go_sem,Int.toNat_natCast]
  rw [this] at hK; exact hK
 clear h
 obtain ⟨hv,hle,hls,hes,hss⟩:=hs
 have fin:∀ x:Int,hS s j n=x->W.Fin 0 K (iS .i64 x) [.cells (aJ s) 25]:=fun x h1=>by
  rw [h1] at hK
  exact .sel [] (by simp) (by simp) rfl (.done (by simpa [go_sem] using hK))
 have fin2:∀ (x:Int) (b:B),hS s j n=x->W.Fin 0 K (iS .i64 x) [.cells (aJ s) 25,b]:=fun x b h1=>by
  rw [h1] at hK
  exact .sel [] (by simp) (by simp) rfl (.done (by simpa [go_sem] using hK))
 simp -dsimp only [go_sem,aJ,aDL,aCH]
 refine ⟨fun h1=>fin 5 (by unfold hS; rw [h1]; rfl),fun h1=>?_⟩
 simp only [Bool.not_eq_false'] at h1
 refine aU (α:=Nat) (fun i=>[(1,iS .i64 j),(2,tS n),(3,.va (.c1 (.pt 0 0))),(15,.va (.c1 (.fz (s.es.map a6)))),(16,iS .i64 s.es.length),(17,iS .i64 i)]) (fun _=>[.cells (aJ s) 25])
  (fun i=>i<=s.es.length/\dH (s.es.drop i) n=dH s.es n) (fun i=>s.es.length - i) 0 1 ⟨Nat.zero_le _,rfl⟩ ?_ ?_ ?_
 · simp [go_sem]
 · simp [go_sem,aJ]
 rintro i ⟨hi,ho⟩
 rcases a8 i s.es.length with hlt | hge
 · have hg:decide ((i:Int) < (s.es.length:Int))=true:=by simp; omega
   obtain ⟨e,hx⟩:∃ e,s.es[i]? = some e:=⟨_,aV hlt⟩
   have q2:=aY (row:=a6) hx
   rw [dH,eS hx] at ho
   simp -dsimp only [go_sem,hg,↓q2,a6,aJ,eL]
   and_intros
   all_goals first
    | omega
    | skip
   · intro hc
     rw [hc,Bool.true_or] at ho
     exact fin2 7 _ (by unfold hS; rw [h1,<-ho]; rfl)
   · intro hc
     rw [hc,Bool.false_or] at ho
     refine ⟨by omega,aE (i + 1) 1 ⟨by omega,ho⟩ (by omega) ?_ ?_⟩
     · simp [go_sem]
     · simp [go_sem,aJ]
 · have hg:decide ((i:Int) < (s.es.length:Int))=false:=by simp; omega
   obtain rfl:i=s.es.length:=by omega
   rw [dH,fW] at ho
   simp -dsimp only [go_sem,hg,aJ,d9,Int.toNat_natCast]
   refine ⟨?_,?_⟩
   · exact ⟨by omega,fun r hr=>by obtain ⟨x,_,rfl⟩:=List.mem_map.1 hr; exact WC x⟩
   refine aU (α:=Nat) (fun i=>[(2,tS n),(3,.va (.c1 (.pt 0 0))),(29,.va (.c1 (.fz ((s.ss.take j).map aI)))),(30,iS .i64 (s.ss.take j).length),(31,iS .i64 i)]) (fun _=>[.cells (aJ s) 25])
    (fun i=>i<=(s.ss.take j).length/\cA ((s.ss.take j).drop i) n=cA (s.ss.take j) n) (fun i=>(s.ss.take j).length - i) 0 1 ⟨Nat.zero_le _,rfl⟩ ?_ ?_ ?_
   · simp [go_sem]
   · simp [go_sem,aJ]
   have hlj:=lI s.ss j
   generalize hl:s.ss.take j=l at *
   clear hi hge hg
   rintro i ⟨hi,ho2⟩
   rcases a8 i l.length with hlt | hge
   · have hg:decide ((i:Int) < (l.length:Int))=true:=by simp; omega
     obtain ⟨e,hx⟩:∃ e,l[i]? = some e:=⟨_,aV hlt⟩
     have q2:=aY (row:=aI) hx
     rw [cA,eS hx] at ho2
     simp -dsimp only [go_sem,hg,↓q2,aI,aJ,eL]
     and_intros
     all_goals first
      | omega
      | skip
     · intro hc
       rw [hc,Bool.true_or] at ho2
       exact fin2 7 _ (by unfold hS; rw [h1,<-ho,hl,<-ho2]; rfl)
     · intro hc
       rw [hc,Bool.false_or] at ho2
       refine ⟨by omega,aE (i + 1) 1 ⟨by omega,ho2⟩ (by omega) ?_ ?_⟩
       · simp [go_sem]
       · simp [go_sem,aJ]
   · have hg:decide ((i:Int) < (l.length:Int))=false:=by simp; omega
     obtain rfl:i=l.length:=by omega
     rw [cA,fW] at ho2
     simp -dsimp only [go_sem,hg,aJ]
     exact fin 0 (by unfold hS; rw [h1,<-ho,hl,<-ho2]; rfl)
mutual
def valF (ss:List St) (es:List En):Ty->Bool
 | .mk k s n e=>bif k == 1 then s == 0 && bl n == [] && (e.length:Int) == 0
  else bif k == 2 then (s == 8 || s == 16 || s == 32 || s == 64) && bl n == [] && (e.length:Int) == 0
  else bif k == 3 then (s == 8 || s == 16 || s == 32 || (s == 64 && false)) && bl n == [] && (e.length:Int) == 0
  else bif k == 4 then decide (1<=s) && decide (s<=2000) && bl n == [] && (e.length:Int) == 0
  else bif k == 5 then decide (1<=s) && decide (s<=32) && bl n == [] && kD ss es e
  else bif k == 6 then cA ss n && s == 0 && (e.length:Int) == 0
  else bif k == 7 then dH es n && s == 0 && (e.length:Int) == 0 else false
def kD (ss:List St) (es:List En):List Ty->Bool
 | []=>false
 | u :: r=>valF ss es u && r.isEmpty
end
def fS (ss:List St) (n:ByteArray):Option St:=ss.find? fun s=>decide (s.nm=n)
def eN (es:List En) (n:ByteArray):Option En:=es.find? fun s=>decide (s.nm=n)
theorem p6 (ss:List St) (n:ByteArray):(fS ss n).isSome=cA ss n:=by unfold fS cA; rw [Bool.eq_iff_iff,List.find?_isSome,List.any_eq_true]
abbrev fL (s:St):A:=.gs (aI s)
abbrev fU (s:En):A:=.gs (a6 s)
def iK (ks:List Value) (vs:List St) (ss:List St):Prop:=∀ n,d3 ks (vs.map fL) (.string n)=(fS ss n).map fL
def z7 (ks:List Value) (vs:List En) (es:List En):Prop:=∀ n,d3 ks (vs.map fU) (.string n)=(eN es n).map fU
@[go_sem] theorem XC (f:Nat->Option Nat) (l:List St):(l.map fL).map (A.ren f)=l.map fL:=by rw [List.map_map]; rfl
@[go_sem] theorem XY (f:Nat->Option Nat) (l:List En):(l.map fU).map (A.ren f)=l.map fU:=by rw [List.map_map]; rfl
@[go_sem] theorem aQT (n:Nat) (xs:List (List C)) (l:List St):(l.map fL).map (A.pub n xs)=l.map fL:=by rw [List.map_map]; rfl
@[go_sem] theorem aQZ (n:Nat) (xs:List (List C)) (l:List En):(l.map fU).map (A.pub n xs)=l.map fU:=by rw [List.map_map]; rfl
abbrev j6:S:=.va (.gs [.mp 0,.mp 1])
abbrev dY (ks:List Value) (vs:List St) (ks':List Value) (vs':List En):Hp:=[.map .string ks (vs.map fL),.map .string ks' (vs'.map fU)]
def UQ (N:Nat):W.Spec:=fun av H K=>∃ (ss:List St) (es:List En) (t:Ty) (ks:List Value) (vs:List St) (ks':List Value) (vs':List En),av=[j6,.va (.gs (aW t))]/\H=dY ks vs ks' vs'/\
 iK ks vs ss/\z7 ks' vs' es/\TyOk t/\t.h<=N/\K (bS (valF ss es t)) (dY ks vs ks' vs')
theorem IE (es:List En) (n:ByteArray):(eN es n).isSome=dH es n:=by unfold eN dH; rw [Bool.eq_iff_iff,List.find?_isSome,List.any_eq_true]
theorem V1 {N:Nat} {ss:List St} {es:List En} {t:Ty} {ks:List Value} {vs:List St} {ks':List Value} {vs':List En} {K:S->Hp->Prop} (h1:iK ks vs ss) (h2:z7 ks' vs' es) (h3:TyOk t) (h4:t.h<=N) (hK:K (bS (valF ss es t)) (dY ks vs ks' vs')) :
 UQ N [j6,.va (.gs (aW t))] (dY ks vs ks' vs') K:=⟨ss,es,t,ks,vs,ks',vs',rfl,rfl,h1,h2,h3,h4,hK⟩
@[go_sem] theorem aMP (t:Ty):(aW t).take 4=aW t:=by rw [aS]; rfl
@[go_sem] theorem aS6 (t:Ty):(aW t).map C.nf=aW t:=by rw [aS]; rfl
@[go_sem] theorem aP5 (t:Ty) (f:Nat->Option Nat):(aW t).map (C.ren f)=aW t:=by rw [aS]; rfl
theorem Ty.h_pos (t:Ty):0 < t.h:=by cases t; rw [Ty.h]; omega
theorem MZ:∀ N,Meets Tryz.prog 110 (UQ N)
 | 0=>⟨by kernel_rfl,by rintro xs vs E ro w K _ _ _ ⟨_,_,t,_,_,_,_,_,_,_,_,_,h,_⟩; have:=t.h_pos; omega⟩
 | N + 1=>by
  refine aD Tryz.func110 aFB 2 (by rw [Tryz.ntmps110]; decide) (aC (MZ N) (aB _)) (fun av H K h=>by obtain ⟨_,_,_,_,_,_,_,rfl,_⟩:=h; rfl) ?_
  rintro av H K ⟨ss,es,t,ks,vs,ks',vs',rfl,rfl,h1,h2,h3,h4,hK⟩
  cases t with
  | mk k s n e=>
  have fin:∀ (b:Bool) (B1 B2:B),valF ss es (.mk k s n e)=b->W.Fin 2 K (bS b) [.map .string ks (vs.map fL),.map .string ks' (vs'.map fU),B1,B2]:=fun b B1 B2 h=>by
   rw [h] at hK
   exact .sel [0,1] (by simp) (by simp) rfl (.done (by simp -dsimp only [go_sem]; simpa using hK))
  by_cases k1:(k == 1)=true
  · have hF:=valF.eq_1 ss es k s n e
    rw [k1] at hF
    simp only [bI] at hF
    simp -dsimp only [go_sem,aW,bH,gN,gQ,k1]
    exact fin _ _ _ hF
  rw [Bool.not_eq_true] at k1
  by_cases k2:(k == 2)=true
  · have hF:=valF.eq_1 ss es k s n e
    rw [k1,k2] at hF
    simp only [bI,aX] at hF
    simp -dsimp only [go_sem,aW,bH,gN,gQ,k1,k2]
    exact fin _ _ _ hF
  rw [Bool.not_eq_true] at k2
  by_cases k3:(k == 3)=true
  · have hF:=valF.eq_1 ss es k s n e
    rw [k1,k2,k3] at hF
    simp only [bI,aX] at hF
    simp -dsimp only [go_sem,aW,bH,gN,gQ,k1,k2,k3]
    exact fin _ _ _ hF
  rw [Bool.not_eq_true] at k3
  by_cases k4:(k == 4)=true
  · have hF:=valF.eq_1 ss es k s n e
    rw [k1,k2,k3,k4] at hF
    simp only [bI,aX] at hF
    simp -dsimp only [go_sem,aW,bH,gN,gQ,k1,k2,k3,k4]
    exact fin _ _ _ hF
  rw [Bool.not_eq_true] at k4
  by_cases k5:(k == 5)=true
  · have hF:=valF.eq_1 ss es k s n e
    rw [k1,k2,k3,k4,k5] at hF
    simp only [bI,aX] at hF
    cases hc:(decide (1<=s) && decide (s<=32) && bl n == [] && (e.length:Int) == 1) with
    | false=>
     have hF':valF ss es (.mk k s n e)=false:=by
      rw [hF]
      cases h0:(decide (1<=s) && decide (s<=32) && bl n == []) with
      | false=>rfl
      | true=>
       rw [h0,Bool.true_and] at hc
       match e,hc with
       | [],_=>rfl
       | [u],hc=>simp at hc
       | u :: v :: r,_=>simp [kD]
     simp (maxSteps:=1000000) -dsimp only [go_sem,aW,bH,gN,gQ,k1,k2,k3,k4,k5,hc]
     exact fin _ _ _ hF'
    | true=>
     obtain ⟨u,rfl⟩:∃ u,e=[u]:=by
      simp only [Bool.and_eq_true,beq_iff_eq] at hc
      exact List.length_eq_one_iff.1 (by omega)
     have h0:(decide (1<=s) && decide (s<=32) && bl n == [])=true:=by
      simp only [Bool.and_eq_true] at hc ⊢; exact hc.1
     have hF':valF ss es (.mk k s n [u])=valF ss es u:=by rw [hF,h0]; simp [kD]
     have hh:u.h<=N:=by rw [Ty.h,Ty.hs,Ty.hs] at h4; omega
     have hu:TyOk u:=h3.e u (by simp [Ty.e])
     have hc':(decide (1<=s) && decide (s<=32) && bl n == [] && ((1:Nat):Int) == 1)=true:=hc
     simp (maxSteps:=1000000) -dsimp only [go_sem,aW,bH,gN,gQ,k1,k2,k3,k4,k5,hc']
     refine ⟨⟨by omega,fun r hr=>by subst hr; exact dO u⟩,fun r hr=>?_⟩
     subst hr
     refine ⟨by rw [dO]; exact Nat.le_refl _,?_⟩
     simp -dsimp only [go_sem]
     refine V1 h1 h2 hu hh ?_
     simp (maxSteps:=1000000) -dsimp only [go_sem]
     exact fin _ _ _ hF'
  rw [Bool.not_eq_true] at k5
  by_cases k6:(k == 6)=true
  · have hF:=valF.eq_1 ss es k s n e
    rw [k1,k2,k3,k4,k5,k6] at hF
    simp only [bI,aX] at hF
    have hm:=h1 n
    rw [<-p6] at hF
    cases hf:fS ss n with
    | none=>
     rw [hf] at hm hF
     simp only [Option.map_none] at hm
     simp (maxSteps:=1000000) -dsimp only [go_sem,aW,bH,gN,gQ,k1,k2,k3,k4,k5,k6,hm]
     refine .sel [0,1] (by simp) (by simp) rfl (.done ?_)
     rw [hF] at hK
     simp -dsimp only [go_sem]; simpa using hK
    | some d=>
     rw [hf] at hm hF
     simp only [Option.map_some] at hm
     simp (maxSteps:=1000000) -dsimp only [go_sem,aW,bH,gN,gQ,k1,k2,k3,k4,k5,k6,hm]
     refine ⟨by simp [aI,go_sem],by simp [aI],.sel [0,1] (by simp) (by simp) rfl (.done ?_)⟩
     rw [hF] at hK
     simp -dsimp only [go_sem]; simpa using hK
  rw [Bool.not_eq_true] at k6
  by_cases k7:(k == 7)=true
  · have hF:=valF.eq_1 ss es k s n e
    rw [k1,k2,k3,k4,k5,k6,k7] at hF
    simp only [bI,aX] at hF
    have hm:=h2 n
    rw [<-IE] at hF
    cases hf:eN es n with
    | none=>
     rw [hf] at hm hF
     simp only [Option.map_none] at hm
     simp (maxSteps:=1000000) -dsimp only [go_sem,aW,bH,gN,gQ,k1,k2,k3,k4,k5,k6,k7,hm]
     refine .sel [0,1] (by simp) (by simp) rfl (.done ?_)
     rw [hF] at hK
     simp -dsimp only [go_sem]; simpa using hK
    | some d=>
     rw [hf] at hm hF
     simp only [Option.map_some] at hm
     simp (maxSteps:=1000000) -dsimp only [go_sem,aW,bH,gN,gQ,k1,k2,k3,k4,k5,k6,k7,hm]
     refine ⟨by simp [a6,go_sem],by simp [a6],.sel [0,1] (by simp) (by simp) rfl (.done ?_)⟩
     rw [hF] at hK
     simp -dsimp only [go_sem]; simpa using hK
  rw [Bool.not_eq_true] at k7
  have hF:=valF.eq_1 ss es k s n e
  rw [k1,k2,k3,k4,k5,k6,k7] at hF
  simp only [aX] at hF
  simp -dsimp only [go_sem,aW,bH,gN,gQ,k1,k2,k3,k4,k5,k6,k7]
  exact fin _ _ _ hF
theorem d5 {P:Program} {f:FuncId} {s:W.Spec} {ι:Type} {t:ι->W.Spec} (i0:ι) (m:∀ i,Meets P f (t i)) (h:∀ av H K,s av H K->∃ i,t i av H K):Meets P f s:=⟨(m i0).1,by
 intro xs vl E ro w K h1 h2 h3 h4
 obtain ⟨i,hi⟩:=h _ _ _ h4
 exact (m i).2 xs vl E ro w K h1 h2 h3 hi⟩
def ML:W.Spec:=fun av H K=>∃ (ss:List St) (es:List En) (t:Ty) (ks:List Value) (vs:List St) (ks':List Value) (vs':List En),av=[j6,.va (.gs (aW t))]/\H=dY ks vs ks' vs'/\
 iK ks vs ss/\z7 ks' vs' es/\TyOk t/\K (bS (valF ss es t)) (dY ks vs ks' vs')
theorem WT:Meets Tryz.prog 110 ML:=d5 0 MZ fun _av _H _K ⟨ss,es,t,ks,vs,ks',vs',e1,e2,h4,h5,h6,hK⟩=>⟨t.h,ss,es,t,ks,vs,ks',vs',e1,e2,h4,h5,h6,Nat.le_refl _,hK⟩
theorem EW {ss:List St} {es:List En} {t:Ty} {ks:List Value} {vs:List St} {ks':List Value} {vs':List En} {K:S->Hp->Prop} (h1:iK ks vs ss) (h2:z7 ks' vs' es) (h3:TyOk t) (hK:K (bS (valF ss es t)) (dY ks vs ks' vs')) :
 ML [j6,.va (.gs (aW t))] (dY ks vs ks' vs') K:=⟨ss,es,t,ks,vs,ks',vs',rfl,rfl,h1,h2,h3,hK⟩
def mN (ss:List St) (es:List En) (t:St) (k:Nat):Int:=match t.fs[k]? with
 | some f=>bif decide (f.num < 1) || decide (127 < f.num) then 4 else bif decide (0 < (k:Int)) && (match t.fs[k - 1]? with | some g=>decide (f.num<=g.num) | none=>false) then 2 else
  bif !(cT (bl f.nm)) then 5 else bif (t.fs.take k).any (fun g=>decide (g.nm=f.nm)) then 7 else bif !(valF ss es f.ty) then 13 else 0
 | none=>0
def sQ (ss:List St) (es:List En) (t:St):Int:=fE (mN ss es t) (t.fs.length - 0) 0
def Z3:W.Spec:=fun av H K=>∃ (ss:List St) (es:List En) (t:St) (ks:List Value) (vs:List St) (ks':List Value) (vs':List En),av=[j6,.va (.gs (aI t))]/\H=dY ks vs ks' vs'/\
 iK ks vs ss/\z7 ks' vs' es/\t.ok/\K (iS .i64 (sQ ss es t)) (dY ks vs ks' vs')
theorem ZE {ss:List St} {es:List En} {t:St} {ks:List Value} {vs:List St} {ks':List Value} {vs':List En} {K:S->Hp->Prop} (h1:iK ks vs ss) (h2:z7 ks' vs' es) (h3:t.ok) (hK:K (iS .i64 (sQ ss es t)) (dY ks vs ks' vs')) :
 Z3 [j6,.va (.gs (aI t))] (dY ks vs ks' vs') K:=⟨ss,es,t,ks,vs,ks',vs',rfl,rfl,h1,h2,h3,hK⟩
theorem mF (f:Fl):[C.vl (.int .i64 f.ty.k),.vl (.int .i64 f.ty.s),.vl (.string f.ty.n),.fz (f.ty.e.map aW)]=aW f.ty:=(aS f.ty).symm
theorem C6:Meets Tryz.prog 72 Z3:=by
 refine aD Tryz.func72 aOO 2 (by rw [Tryz.ntmps72]; decide) (aC WT (aH xX (aB _))) (fun av H K h=>by obtain ⟨_,_,_,_,_,_,_,rfl,_⟩:=h; rfl) ?_
 rintro av H K ⟨ss,es,t,ks,vs,ks',vs',rfl,rfl,h1,h2,h3,hK⟩
 have fin:∀ (x:Int) (R:Hp),sQ ss es t=x->W.Fin 2 K (iS .i64 x) (.map .string ks (vs.map fL) :: .map .string ks' (vs'.map fU) :: R):=fun x R h=>by
  rw [h] at hK
  exact .sel [0,1] (by simp) (by simp) rfl (.done (by simp -dsimp only [go_sem]; simpa using hK))
 obtain ⟨_,hl,hfs⟩:=h3
 simp -dsimp only [go_sem,aI,YF,aD2]
 refine aU (α:=Nat) (fun i=>[(2,.va (.c1 (.pt 2 0))),(3,.va (.c1 (.pt 3 0))),(10,.va (.c1 (.fz (t.fs.map aR)))),(11,iS .i64 t.fs.length),(12,iS .i64 i)]) (fun _=>[.map .string ks (vs.map fL),.map .string ks' (vs'.map fU),.cells [.mp 0,.mp 1] 124,.cells (aI t) 48])
  (fun i=>i<=t.fs.length/\fE (mN ss es t) (t.fs.length - i) i=sQ ss es t) (fun i=>t.fs.length - i) 0 4 ⟨Nat.zero_le _,rfl⟩ ?_ ?_ ?_
 · simp -dsimp only [go_sem]<;>simp
 · simp -dsimp only [go_sem,aI]<;>simp
 rintro i ⟨hi,ho⟩
 rcases a8 i t.fs.length with hlt | hge
 · have hg:decide ((i:Int) < (t.fs.length:Int))=true:=by simp; omega
   obtain ⟨f,hx⟩:∃ nm,t.fs[i]? = some nm:=⟨_,aV hlt⟩
   have q1:=aY (row:=aR) hx
   have hf:f.ok:=hfs f (b5 hx)
   have hA:mN ss es t i=bif decide (f.num < 1) || decide (127 < f.num) then (4:Int) else bif decide (0 < (i:Int)) && (match t.fs[i - 1]? with | some g=>decide (f.num<=g.num) | none=>false) then 2 else
    bif !(cT (bl f.nm)) then 5 else bif (t.fs.take i).any (fun g=>decide (g.nm=f.nm)) then 7 else bif !(valF ss es f.ty) then 13 else 0:=by
    unfold mN; rw [hx]
   have fin':∀ (x:Int) (R:Hp),mN ss es t i=x->x ≠ 0->W.Fin 2 K (iS .i64 x) (.map .string ks (vs.map fL) :: .map .string ks' (vs'.map fU) :: R):=fun x R h1 h2=>fin x R (by
    rw [<-ho,qH hlt (by rw [h1]; exact h2),h1])
   have gA:mN ss es t i=0->fE (mN ss es t) (t.fs.length - (i + 1)) (i + 1)=sQ ss es t:=fun h1=>by rw [<-ho,uS hlt h1]
   cases c1:(decide (f.num < 1) || decide (127 < f.num)) with
   | true=>
    rw [c1] at hA
    simp (maxSteps:=1000000) -dsimp only [go_sem,hg,↓q1,aR,aI,c1]
    and_intros
    all_goals first
     | omega
     | exact fin' 4 _ hA (by decide)
   | false=>
    rw [c1] at hA
    simp only [aX] at hA
    rcases Nat.eq_zero_or_pos i with h0 | h0
    · have g1:decide (0 < (i:Int))=false:=by simp; omega
      rw [g1] at hA
      simp only [Bool.false_and,aX] at hA
      cases c3:cT (bl f.nm) with
      | false=>
       rw [c3] at hA
       simp (maxSteps:=1000000) -dsimp only [go_sem,hg,↓q1,aR,aI,c1,c3,g1]
       and_intros
       all_goals first
        | omega
        | exact fin' 5 _ hA (by decide)
        | trace_state
      | true=>
       rw [c3] at hA
       simp only [Bool.not_true,aX] at hA
       simp (maxSteps:=1000000) -dsimp only [go_sem,hg,↓q1,aR,aI,c1,c3,g1,d9,eR IV]
       and_intros
       all_goals first
        | omega
        | skip
       have hlj:=lI t.fs i
       generalize hm:t.fs.take i=m at *
       refine aU (α:=Nat) (fun j=>[(2,.va (.c1 (.pt 2 0))),(3,.va (.c1 (.pt 3 0))),(6,.va (.c1 (.pt 4 0))),(10,.va (.c1 (.fz (t.fs.map aR)))),(11,iS .i64 t.fs.length),(12,iS .i64 i),(49,.va (.c1 (.fz (m.map aR)))),(50,iS .i64 m.length),(51,iS .i64 j)])
        (fun _=>[.map .string ks (vs.map fL),.map .string ks' (vs'.map fU),.cells [.mp 0,.mp 1] 124,.cells (aI t) 48,.cells (aR f) 52])
        (fun j=>j<=m.length/\(m.drop j).any (fun g=>decide (g.nm=f.nm))=m.any (fun g=>decide (g.nm=f.nm))) (fun j=>m.length - j) 0 5 ⟨Nat.zero_le _,rfl⟩ ?_ ?_ ?_
       · simp -dsimp only [go_sem]<;>simp
       · simp -dsimp only [go_sem,aI,aR]<;>simp
       rintro j ⟨hj,ho2⟩
       rcases a8 j m.length with hjt | hjg
       · have hgj:decide ((j:Int) < (m.length:Int))=true:=by simp; omega
         obtain ⟨d,hd⟩:∃ e,m[j]? = some e:=⟨_,aV hjt⟩
         have q5:=aY (row:=aR) hd
         rw [eS hd] at ho2
         simp (maxSteps:=1000000) -dsimp only [go_sem,hgj,↓q5,aR,aI,eL]
         and_intros
         all_goals first
          | omega
          | skip
         · intro hc
           rw [hc,Bool.true_or] at ho2
           rw [<-ho2] at hA
           exact fin' 7 _ hA (by decide)
         · intro hc
           rw [hc,Bool.false_or] at ho2
           refine ⟨by omega,aE (j + 1) 5 ⟨by omega,ho2⟩ (by omega) ?_ ?_⟩
           · simp -dsimp only [go_sem]<;>simp
           · simp -dsimp only [go_sem,aI,aR]<;>simp
       · have hgj:decide ((j:Int) < (m.length:Int))=false:=by simp; omega
         obtain rfl:j=m.length:=by omega
         rw [fW] at ho2
         rw [<-ho2] at hA
         simp only [aX] at hA
         simp (maxSteps:=1000000) -dsimp only [go_sem,hgj,aR,aI,mF]
         refine EW h1 h2 hf.ty ?_
         cases c5:valF ss es f.ty with
         | true=>
          rw [c5] at hA
          simp (maxSteps:=1000000) -dsimp only [go_sem]
          refine ⟨by omega,aE (i + 1) 4 ⟨by omega,gA hA⟩ (by omega) ?_ ?_⟩
          · simp -dsimp only [go_sem]<;>simp
          · simp -dsimp only [go_sem,aI]<;>simp
         | false=>
          rw [c5] at hA
          simp (maxSteps:=1000000) -dsimp only [go_sem]
          exact fin' 13 _ hA (by decide)
    · have g1:decide (0 < (i:Int))=true:=by simp; omega
      obtain ⟨g,hy⟩:∃ m,t.fs[i - 1]? = some m:=⟨_,aV (by omega)⟩
      have q4:((i:Int) - 1).toNat=i - 1:=by omega
      rw [g1,hy,Bool.true_and] at hA
      simp only at hA
      cases c2:decide (f.num<=g.num) with
      | true=>
       rw [c2] at hA
       simp (maxSteps:=1000000) -dsimp only [go_sem,hg,↓q1,aR,aI,c1,g1,q4,hy,aF,forall_eq',c2]
       and_intros
       all_goals first
        | omega
        | exact fin' 2 _ hA (by decide)
        | trace_state
      | false=>
       rw [c2] at hA
       simp only [aX] at hA
       cases c3:cT (bl f.nm) with
       | false=>
        rw [c3] at hA
        simp (maxSteps:=1000000) -dsimp only [go_sem,hg,↓q1,aR,aI,c1,c3,g1,q4,hy,aF,forall_eq',c2]
        and_intros
        all_goals first
         | omega
         | exact fin' 5 _ hA (by decide)
         | trace_state
       | true=>
        rw [c3] at hA
        simp only [Bool.not_true,aX] at hA
        simp (maxSteps:=1000000) -dsimp only [go_sem,hg,↓q1,aR,aI,c1,c3,g1,q4,hy,aF,forall_eq',c2,d9,eR IV]
        and_intros
        all_goals first
         | omega
         | skip
        have hlj:=lI t.fs i
        generalize hm:t.fs.take i=m at *
        refine aU (α:=Nat) (fun j=>[(2,.va (.c1 (.pt 2 0))),(3,.va (.c1 (.pt 3 0))),(6,.va (.c1 (.pt 4 0))),(10,.va (.c1 (.fz (t.fs.map aR)))),(11,iS .i64 t.fs.length),(12,iS .i64 i),(49,.va (.c1 (.fz (m.map aR)))),(50,iS .i64 m.length),(51,iS .i64 j)])
         (fun _=>[.map .string ks (vs.map fL),.map .string ks' (vs'.map fU),.cells [.mp 0,.mp 1] 124,.cells (aI t) 48,.cells (aR f) 52])
         (fun j=>j<=m.length/\(m.drop j).any (fun g=>decide (g.nm=f.nm))=m.any (fun g=>decide (g.nm=f.nm))) (fun j=>m.length - j) 0 5 ⟨Nat.zero_le _,rfl⟩ ?_ ?_ ?_
        · simp -dsimp only [go_sem]<;>simp
        · simp -dsimp only [go_sem,aI,aR]<;>simp
        rintro j ⟨hj,ho2⟩
        rcases a8 j m.length with hjt | hjg
        · have hgj:decide ((j:Int) < (m.length:Int))=true:=by simp; omega
          obtain ⟨d,hd⟩:∃ e,m[j]? = some e:=⟨_,aV hjt⟩
          have q5:=aY (row:=aR) hd
          rw [eS hd] at ho2
          simp (maxSteps:=1000000) -dsimp only [go_sem,hgj,↓q5,aR,aI,eL]
          and_intros
          all_goals first
           | omega
           | skip
          · intro hc
            rw [hc,Bool.true_or] at ho2
            rw [<-ho2] at hA
            exact fin' 7 _ hA (by decide)
          · intro hc
            rw [hc,Bool.false_or] at ho2
            refine ⟨by omega,aE (j + 1) 5 ⟨by omega,ho2⟩ (by omega) ?_ ?_⟩
            · simp -dsimp only [go_sem]<;>simp
            · simp -dsimp only [go_sem,aI,aR]<;>simp
        · have hgj:decide ((j:Int) < (m.length:Int))=false:=by simp; omega
          obtain rfl:j=m.length:=by omega
          rw [fW] at ho2
          rw [<-ho2] at hA
          simp only [aX] at hA
          simp (maxSteps:=1000000) -dsimp only [go_sem,hgj,aR,aI,mF]
          refine EW h1 h2 hf.ty ?_
          cases c5:valF ss es f.ty with
          | true=>
           rw [c5] at hA
           simp (maxSteps:=1000000) -dsimp only [go_sem]
           refine ⟨by omega,aE (i + 1) 4 ⟨by omega,gA hA⟩ (by omega) ?_ ?_⟩
           · simp -dsimp only [go_sem]<;>simp
           · simp -dsimp only [go_sem,aI]<;>simp
          | false=>
           rw [c5] at hA
           simp (maxSteps:=1000000) -dsimp only [go_sem]
           exact fin' 13 _ hA (by decide)
 · have hg:decide ((i:Int) < (t.fs.length:Int))=false:=by simp; omega
   obtain rfl:i=t.fs.length:=by omega
   rw [v2] at ho
   simp -dsimp only [go_sem,hg,aI]
   exact fin 0 _ ho.symm
abbrev eG (ns:List ByteArray):List Value:=ns.map Value.string
def eV:List ByteArray->ByteArray->Option Nat
 | [],_=>none
 | k :: ks,q=>bif decide (q=k) then some 0 else (eV ks q).map (· + 1)
theorem NE (a b:ByteArray):vY (.string a) (.string b)=decide (a=b):=by
 rw [Bool.eq_iff_iff,AA (d:=.string) (by simp [MapKept.IsKey]) (by simp [MapKept.IsKey])]; simp
theorem gU (q:ByteArray):∀ ns:List ByteArray,fD (eG ns) (.string q)=eV ns q
 | []=>rfl
 | k :: ks=>by
  have:=gU q ks
  simp only [eG,List.map_cons,fD,eV,NE] at this ⊢
  rw [this]
theorem jN {q:ByteArray}:∀ {ns:List ByteArray} {i:Nat},eV ns q=some i->ns[i]? = some q/\i < ns.length
 | [],_,h=>by cases h
 | k :: ks,i,h=>by
  simp only [eV] at h
  by_cases hk:q=k
  · simp [hk] at h; subst h; simp [hk]
  · simp [hk] at h
    obtain ⟨j,h1,rfl⟩:=h
    have:=jN h1
    simpa using this
theorem NU (ns:List ByteArray) (q n:ByteArray):eV (ns ++ [q]) n=match eV ns n with | some i=>some i | none=>bif decide (n=q) then some ns.length else none:=by
 induction ns with
 | nil=>simp only [List.nil_append,eV,List.length_nil,Option.map_none]
 | cons k ks ih=>
  simp only [List.cons_append,eV,ih]
  by_cases hk:n=k
  · simp [hk]
  · simp only [hk,decide_false,cond_false]
    cases eV ks n with
    | some i=>rfl
    | none=>by_cases hq:n=q<;>simp [hq]
theorem m6 {α:Type} (row:α->A) (ns:List ByteArray) (l:List α) (n:ByteArray):d3 (eG ns) (l.map row) (.string n)=(eV ns n).bind fun i=>(l[i]?).map row:=by
 unfold d3; rw [gU]; simp only [List.getElem?_map]
theorem ET {α:Type} (row:α->A) {ns:List ByteArray} {l:List α} (h:ns.length=l.length) (q:ByteArray) (x:α):∃ (ns':List ByteArray) (l':List α),fK (eG ns) (.string q)=eG ns'/\fY (eG ns) (l.map row) (.string q) (row x)=l'.map row/\
 ns'.length=l'.length/\∀ n,d3 (eG ns') (l'.map row) (.string n)=bif decide (n=q) then some (row x) else d3 (eG ns) (l.map row) (.string n):=by
 cases hm:eV ns q with
 | none=>
  refine ⟨ns ++ [q],l ++ [x],?_,?_,by simp [h],fun n=>?_⟩
  · unfold fK; rw [gU,hm]; simp
  · unfold fY; rw [gU,hm]; simp
  · rw [m6,m6,NU]
    by_cases hn:n=q
    · subst hn; rw [hm]; simp [h]
    · simp only [hn,decide_false,cond_false]
      cases hs:eV ns n with
      | none=>rfl
      | some i=>have:=(jN hs).2; simp [List.getElem?_append_left (show i < l.length by omega)]
 | some i=>
  obtain ⟨h1,h2⟩:=jN hm
  refine ⟨ns,l.set i x,?_,?_,by simp [h],fun n=>?_⟩
  · unfold fK; rw [gU,hm]
  · unfold fY; rw [gU,hm]; simp only [List.map_set]
  · rw [m6,m6]
    by_cases hn:n=q
    · subst hn; rw [hm]; simp [show i < l.length by omega]
    · simp only [hn,decide_false,cond_false]
      cases hs:eV ns n with
      | none=>rfl
      | some j=>
       have hj:=jN hs
       have:i ≠ j:=fun e=>hn (by subst e; rw [h1] at hj; exact (bT hj.1).symm)
       simp [List.getElem?_set,this]
theorem XD {ss:List St} {k:Nat} {x:St} (hx:ss[k]? = some x) (n:ByteArray):fS (ss.drop k) n=bif decide (n=x.nm) then some x else fS (ss.drop (k + 1)) n:=by
 obtain ⟨h,rfl⟩:=bB.1 hx
 rw [List.drop_eq_getElem_cons h]
 unfold fS
 rw [List.find?_cons]
 by_cases hn:n=ss[k].nm
 · simp [hn]
 · simp [hn,show ¬ ss[k].nm=n from fun e=>hn e.symm]
theorem OY {ss:List En} {k:Nat} {x:En} (hx:ss[k]? = some x) (n:ByteArray):eN (ss.drop k) n=bif decide (n=x.nm) then some x else eN (ss.drop (k + 1)) n:=by
 obtain ⟨h,rfl⟩:=bB.1 hx
 rw [List.drop_eq_getElem_cons h]
 unfold eN
 rw [List.find?_cons]
 by_cases hn:n=ss[k].nm
 · simp [hn]
 · simp [hn,show ¬ ss[k].nm=n from fun e=>hn e.symm]
def aES:W.Spec:=fun av H K=>∃ s:Sc,av=[.va (.gs (aJ s))]/\H=[]/\s.ok/\∀ ks vs ks' vs',iK ks vs s.ss->z7 ks' vs' s.es->K j6 (dY ks vs ks' vs')
theorem aER {s:Sc} {K:S->Hp->Prop} (h:s.ok) (hK:∀ ks vs ks' vs',iK ks vs s.ss->z7 ks' vs' s.es->K j6 (dY ks vs ks' vs')):aES [.va (.gs (aJ s))] [] K:=⟨s,rfl,rfl,h,hK⟩
abbrev nm2:B:=.cells [.vl (.map none),.vl (.map none)] 124
theorem OE:Meets Tryz.prog 70 aES:=by
 refine aD Tryz.func70 aL7 1 (by rw [Tryz.ntmps70]; decide) (aB _) (fun av H K h=>by obtain ⟨_,rfl,_⟩:=h; rfl) ?_
 rintro av H K ⟨s,rfl,rfl,hs,hK⟩
 obtain ⟨_,hle,hls,_,_⟩:=hs
 simp -dsimp only [go_sem,aJ,aEW,aDI]
 refine ⟨by omega,aU (α:=Nat × List ByteArray × List St) (fun z=>[(1,.va (.c1 (.pt 0 0))),(2,.va (.c1 (.pt 1 0))),(3,.va (.c1 (.pt 4 0))),(4,iS .i64 ((z.1:Int) - 1))]) (fun z=>[.cells (aJ s) 25,nm2,.map .string (eG z.2.1) (z.2.2.map fL),.map .string [] [],.cells [.mp 2,.mp 3] 124])
  (fun z=>z.1<=s.ss.length/\z.2.1.length=z.2.2.length/\∀ n,d3 (eG z.2.1) (z.2.2.map fL) (.string n)=(fS (s.ss.drop z.1) n).map fL) (fun z=>z.1) (s.ss.length,[],[]) 5 ⟨Nat.le_refl _,rfl,fun n=>by rw [List.drop_length]; rfl⟩ ?_ ?_ ?_⟩
 · simp -dsimp only [go_sem]<;>simp
 · simp -dsimp only [go_sem,aJ]<;>simp
 rintro ⟨m,ns,l⟩ ⟨hm,hnl,hg⟩
 simp only at hm hnl hg ⊢
 cases m with
 | zero=>
  have e0:decide (0<=((0:Nat):Int) - 1)=false:=rfl
  rw [List.drop_zero] at hg
  simp -dsimp only [go_sem,aJ,e0]
  refine ⟨by omega,aU (α:=Nat × List ByteArray × List En) (fun z=>[(1,.va (.c1 (.pt 0 0))),(2,.va (.c1 (.pt 1 0))),(3,.va (.c1 (.pt 4 0))),(5,iS .i64 ((z.1:Int) - 1))]) (fun z=>[.cells (aJ s) 25,nm2,.map .string (eG ns) (l.map fL),.map .string (eG z.2.1) (z.2.2.map fU),.cells [.mp 2,.mp 3] 124])
   (fun z=>z.1<=s.es.length/\z.2.1.length=z.2.2.length/\∀ n,d3 (eG z.2.1) (z.2.2.map fU) (.string n)=(eN (s.es.drop z.1) n).map fU) (fun z=>z.1) (s.es.length,[],[]) 5 ⟨Nat.le_refl _,rfl,fun n=>by rw [List.drop_length]; rfl⟩ ?_ ?_ ?_⟩
  · simp -dsimp only [go_sem]<;>simp
  · simp -dsimp only [go_sem,aJ]<;>simp
  clear hnl hm
  rintro ⟨m,ms,j⟩ ⟨hm,hnl,hge⟩
  simp only at hm hnl hge ⊢
  cases m with
  | zero=>
   rw [List.drop_zero] at hge
   simp -dsimp only [go_sem,aJ,e0]
   exact .sel [2,3] (by simp) (by simp) rfl (.done (by simp -dsimp only [go_sem]; simpa [go_sem] using hK (eG ns) l (eG ms) j hg hge))
  | succ k=>
   obtain ⟨x,hx⟩:∃ x,s.es[k]? = some x:=⟨_,aV (by omega)⟩
   have q2:=aY (row:=a6) hx
   have e1:((k + 1:Nat):Int) - 1=(k:Int):=by omega
   have e2:decide (0<=(k:Int))=true:=by simp
   obtain ⟨ns',l',p1,p2,p3,p4⟩:=ET fU hnl x.nm x
   simp -dsimp only [go_sem,aJ,e1,e2,↓q2,a6]
   refine ⟨by omega,by omega,by omega,aE (k,ns',l') 5 ⟨by simp only; omega,p3,fun n=>?_⟩ (Nat.lt_succ_self _) ?_ ?_⟩
   · simp only; rw [p4,OY hx,hge]; cases decide (n=x.nm)<;>rfl
   · simp -dsimp only [go_sem]<;>simp
   · simp -dsimp only [go_sem,aJ,p1]<;>simp
     exact (congrArg (List.map (A.ren (iN 5))) p2).trans (XY _ _)
 | succ k=>
  obtain ⟨x,hx⟩:∃ x,s.ss[k]? = some x:=⟨_,aV (by omega)⟩
  have q2:=aY (row:=aI) hx
  have e1:((k + 1:Nat):Int) - 1=(k:Int):=by omega
  have e2:decide (0<=(k:Int))=true:=by simp
  obtain ⟨ns',l',p1,p2,p3,p4⟩:=ET fL hnl x.nm x
  simp -dsimp only [go_sem,aJ,e1,e2,↓q2,aI]
  refine ⟨by omega,by omega,by omega,aE (k,ns',l') 5 ⟨by simp only; omega,p3,fun n=>?_⟩ (Nat.lt_succ_self _) ?_ ?_⟩
  · simp only; rw [p4,XD hx,hg]; cases decide (n=x.nm)<;>rfl
  · simp -dsimp only [go_sem]<;>simp
  · simp -dsimp only [go_sem,aJ,p1]<;>simp
    exact (congrArg (List.map (A.ren (iN 5))) p2).trans (XC _ _)
mutual
def dB:Ty->Ty
 | .mk k s n e=>bif k == 5 then DU e (.mk k s n e) else .mk k s n e
def DU:List Ty->Ty->Ty
 | [],d=>d
 | u :: r,d=>bif r.isEmpty then dB u else d
end
def b9 (t:Ty):Bool:=(dB t).k == 6 || (dB t).k == 7
def bF (t:Ty):ByteArray:=(dB t).n
theorem A0 {s:Int} {n:ByteArray} {u:Ty}:dB (.mk 5 s n [u])=dB u:=by simp [dB,DU]
theorem uT {k s:Int} {n:ByteArray} {e:List Ty} (h:(k == 5 && (e.length:Int) == 1)=false):dB (.mk k s n e)=.mk k s n e:=by
 rw [dB]
 cases hk:k == 5 with
 | false=>rfl
 | true=>
  rw [hk,Bool.true_and] at h
  match e,h with
  | [],_=>rfl
  | [u],h=>simp at h
  | u :: v :: r,_=>simp [DU]
def JS:W.Spec:=fun av H K=>match av,H with
 | [.va (.gs r)],[]=>p8 r/\K (.tu [.c1 (.vl (.string (bF (C.ty r)))),bA (b9 (C.ty r))]) []
 | _,_=>False
theorem AS {av:List S} {H:Hp} {K:S->Hp->Prop} (h:JS av H K):∃ t:Ty,av=[.va (.gs (aW t))]/\H=[]/\TyOk t/\K (.tu [.c1 (.vl (.string (bF t))),bA (b9 t)]) []:=by
 unfold JS at h
 split at h
 · obtain ⟨⟨t,rfl,ht⟩,hK⟩:=h
   rw [pU] at hK
   exact ⟨t,rfl,rfl,ht,hK⟩
 · exact h.elim
attribute [go_sem ↓] JS
theorem qZ (t:Ty):∀ c ∈ aW t,c.one:=by rw [aS]; simp [go_sem]
theorem aEM:Meets Tryz.prog 144 JS:=by
 refine aD Tryz.func144 aFC 1 (by rw [Tryz.ntmps144]; decide) (aB _) (fun av H K h=>by obtain ⟨_,rfl,_⟩:=AS h; rfl) ?_
 intro av H K h
 obtain ⟨t,rfl,rfl,ht,hK⟩:=AS h
 simp -dsimp only [go_sem,RR,QS]
 refine aU (α:=Ty) (fun z=>[(1,.va (.c1 (.pt 0 0)))]) (fun z=>[.cells (aW z) 42]) (fun z=>dB z=dB t) (fun z=>z.h) t 1 rfl ?_ ?_ ?_
 · simp -dsimp only [go_sem]<;>simp
 · simp -dsimp only [go_sem]<;>simp
 intro z hz
 cases z with
 | mk k s n e=>
 cases hc:(k == 5 && (e.length:Int) == 1) with
 | true=>
  simp only [Bool.and_eq_true,beq_iff_eq] at hc
  obtain ⟨rfl,hl⟩:=hc
  obtain ⟨u,rfl⟩:∃ u,e=[u]:=List.length_eq_one_iff.1 (by omega)
  rw [A0] at hz
  simp -dsimp only [go_sem,aW,bH]
  refine ⟨fun _=>⟨⟨by omega,fun r hr=>by subst hr; exact dO u⟩,fun r hr=>?_⟩,fun h=>by simp at h⟩
  subst hr
  simp -dsimp only [go_sem,dO]
  refine ⟨qZ u,aE u 1 hz (by simp only [Ty.h,Ty.hs]; omega) ?_ ?_⟩
  · simp -dsimp only [go_sem]<;>simp
  · simp -dsimp only [go_sem]<;>simp
 | false=>
  rw [uT hc] at hz
  simp -dsimp only [go_sem,aW,bH,hc]
  rw [bF,b9,<-hz] at hK
  exact .sel [] (by simp) (by simp) rfl (.done (by simpa [go_sem,Ty.n,Ty.k] using hK))
abbrev AR:ByteArray->A:=fun _=>.c1 (.vl (.bool true))
@[go_sem] theorem aP8 (f:Nat->Option Nat) (l:List ByteArray):(l.map AR).map (A.ren f)=l.map AR:=by rw [List.map_map]; rfl
@[go_sem] theorem aQY (n:Nat) (xs:List (List C)) (l:List ByteArray):(l.map AR).map (A.pub n xs)=l.map AR:=by rw [List.map_map]; rfl
def bC (go:St->List ByteArray->List ByteArray) (ss:List St) (o:List ByteArray) (f:Fl):List ByteArray:=
 bif !(b9 f.ty) || bU o (bF f.ty) then o else match fS ss (bF f.ty) with
  | some t=>go t (o ++ [bF f.ty])
  | none=>o ++ [bF f.ty]
def bP (ss:List St):Nat->St->List ByteArray->List ByteArray
 | 0,_,o=>o
 | N + 1,t,o=>t.fs.foldl (bC (bP ss N) ss) o
theorem oC (n:ByteArray):∀ ns:List ByteArray,(eV ns n).isSome=bU ns n
 | []=>rfl
 | k :: ks=>by
  have:=oC n ks
  unfold bU at this
  simp only [eV,bU,List.any_cons]
  by_cases h:n=k
  · simp [h]
  · simp [h,this]
theorem VV (o:List ByteArray) (n:ByteArray):d3 (eG o) (o.map AR) (.string n)=bif bU o n then some (.c1 (.vl (.bool true))) else none:=by
 rw [m6,<-oC]
 cases h:eV o n with
 | none=>rfl
 | some i=>simp [aV (jN h).2]
theorem PB {o:List ByteArray} {n:ByteArray} (h:bU o n=false):fK (eG o) (.string n)=eG (o ++ [n]):=by
 rw [<-oC] at h
 unfold fK; rw [gU]
 cases h2:eV o n with
 | none=>simp
 | some i=>rw [h2] at h; cases h
theorem OR {o:List ByteArray} {n:ByteArray} (h:bU o n=false):fY (eG o) (o.map AR) (.string n) (.c1 (.vl (.bool true)))=(o ++ [n]).map AR:=by
 rw [<-oC] at h
 unfold fY; rw [gU]
 cases h2:eV o n with
 | none=>simp
 | some i=>rw [h2] at h; cases h
def fresh:List St->List ByteArray->Nat
 | [],_=>0
 | s :: ss,o=>(bif bU o s.nm then 0 else 1) + fresh ss o
theorem HW (o p:List ByteArray) (n:ByteArray):bU (o ++ p) n=(bU o n || bU p n):=by simp [bU]
theorem mB (o p:List ByteArray):∀ ss:List St,fresh ss (o ++ p)<=fresh ss o
 | []=>Nat.le_refl _
 | s :: ss=>by
  have:=mB o p ss
  simp only [fresh,HW]
  cases bU o s.nm<;>cases bU p s.nm<;>simp only [Bool.or_true,Bool.or_false,bI,aX]<;>omega
theorem uQ {o:List ByteArray} {n:ByteArray} {t:St} (hn:bU o n=false):∀ {ss:List St},fS ss n=some t->fresh ss (o ++ [n]) < fresh ss o
 | [],h=>by cases h
 | s :: ss,h=>by
  unfold fS at h
  rw [List.find?_cons] at h
  simp only [fresh,HW]
  by_cases hs:s.nm=n
  · have h1:=mB o [n] ss
    have h2:bU [n] s.nm=true:=by simp [bU,hs]
    have h3:bU o s.nm=false:=by rw [hs]; exact hn
    rw [h2,h3]; simp only [Bool.or_true,bI,aX]; omega
  · simp only [hs,decide_false] at h
    have:=uQ hn h
    have h2:bU [n] s.nm=false:=by simp [bU,hs]
    rw [h2,Bool.or_false]
    omega
def Pfx (o p:List ByteArray):Prop:=∃ q,p=o ++ q
theorem Pfx.refl (o:List ByteArray):Pfx o o:=⟨[],by simp⟩
theorem Pfx.trans {a b c:List ByteArray} (h:Pfx a b) (k:Pfx b c):Pfx a c:=by
 obtain ⟨p,rfl⟩:=h; obtain ⟨q,rfl⟩:=k; exact ⟨p ++ q,by simp⟩
theorem Pfx.len {a b:List ByteArray} (h:Pfx a b):a.length<=b.length:=by obtain ⟨p,rfl⟩:=h; simp
theorem Pfx.fresh {ss:List St} {a b:List ByteArray} (h:Pfx a b):fresh ss b<=fresh ss a:=by obtain ⟨p,rfl⟩:=h; exact mB _ _ _
theorem mE {go:St->List ByteArray->List ByteArray} (hg:∀ t o,Pfx o (go t o)) (ss:List St) (o:List ByteArray) (f:Fl):Pfx o (bC go ss o f):=by
 unfold bC
 cases !(b9 f.ty) || bU o (bF f.ty) with
 | true=>exact .refl _
 | false=>
  cases fS ss (bF f.ty) with
  | none=>exact ⟨_,rfl⟩
  | some t=>exact Pfx.trans ⟨_,rfl⟩ (hg _ _)
theorem nZ {g:List ByteArray->Fl->List ByteArray} (hg:∀ o f,Pfx o (g o f)):∀ (l:List Fl) (o:List ByteArray),Pfx o (l.foldl g o)
 | [],_o=>.refl _
 | f :: l,o=>(hg o f).trans (nZ hg l _)
theorem iT (ss:List St):∀ (N:Nat) (t:St) (o:List ByteArray),Pfx o (bP ss N t o)
 | 0,_,_o=>.refl _
 | N + 1,t,o=>nZ (fun o f=>mE (iT ss N) ss o f) t.fs o
abbrev ES (ks:List Value) (vs:List St) (ks':List Value) (vs':List En) (o:List ByteArray):Hp:=
 [.map .string ks (vs.map fL),.map .string ks' (vs'.map fU),.cells [.mp 0,.mp 1] 124,.map .string (eG o) (o.map AR),.cells [.mp 3] 187,.cells [.sl 7 o.length] 116,.cells [.fn 143 [(false,[.pt 4 0]),(false,[.pt 5 0]),(false,[.pt 2 0]),(false,[.pt 6 0])]] 188,.row (o.map bZ) 9 1]
def RC (N:Nat):W.Spec:=fun av H K=>∃ (ss:List St) (t:St) (ks:List Value) (vs:List St) (ks':List Value) (vs':List En) (o:List ByteArray),av=[.va (.gs (aI t)),.va (.c1 (.pt 4 0)),.va (.c1 (.pt 5 0)),.va (.c1 (.pt 2 0)),.va (.c1 (.pt 6 0))]/\H=ES ks vs ks' vs' o/\
 iK ks vs ss/\(∀ s ∈ ss,s.ok)/\t.ok/\fresh ss o < N/\(bP ss N t o).length<=1000000000/\K (.tu []) (ES ks vs ks' vs' (bP ss N t o))
theorem yT {N:Nat} {ss:List St} {t:St} {ks:List Value} {vs:List St} {ks':List Value} {vs':List En} {o:List ByteArray} {K:S->Hp->Prop} {H:Hp} (hH:H=ES ks vs ks' vs' o) (h1:iK ks vs ss) (h2:∀ s ∈ ss,s.ok) (h3:t.ok) (h4:fresh ss o < N) (h5:(bP ss N t o).length<=1000000000) (hK:K (.tu []) (ES ks vs ks' vs' (bP ss N t o))) :
 RC N [.va (.gs (aI t)),.va (.c1 (.pt 4 0)),.va (.c1 (.pt 5 0)),.va (.c1 (.pt 2 0)),.va (.c1 (.pt 6 0))] H K:=⟨ss,t,ks,vs,ks',vs',o,rfl,hH,h1,h2,h3,h4,h5,hK⟩
theorem KO {g:List ByteArray->Fl->List ByteArray} {l:List Fl} {i:Nat} {f:Fl} (hx:l[i]? = some f) (o:List ByteArray):(l.drop i).foldl g o=(l.drop (i + 1)).foldl g (g o f):=by
 obtain ⟨h,rfl⟩:=bB.1 hx
 rw [List.drop_eq_getElem_cons h]; rfl
theorem MN:∀ N,Meets Tryz.prog 143 (RC N)
 | 0=>⟨by kernel_rfl,by rintro xs vs E ro w K _ _ _ ⟨_,_,_,_,_,_,_,_,_,_,_,_,h,_⟩; exact absurd h (Nat.not_lt_zero _)⟩
 | N + 1=>by
  refine aD Tryz.func143 aFV 5 (by rw [Tryz.ntmps143]; decide) (aC (MN N) (aC aEM (aB _))) (fun av H K h=>by obtain ⟨_,_,_,_,_,_,_,rfl,_⟩:=h; rfl) ?_
  rintro av H K ⟨ss,t,ks,vs,ks',vs',o0,rfl,rfl,h1,h2,h3,h4,h5,hK⟩
  obtain ⟨_,hl,hfs⟩:=h3
  simp -dsimp only [go_sem,aI,RH,SF]
  refine aU (α:=Nat × List ByteArray) (fun z=>[(1,.va (.c1 (.pt 4 0))),(2,.va (.c1 (.pt 5 0))),(3,.va (.c1 (.pt 2 0))),(4,.va (.c1 (.pt 6 0))),(13,.va (.c1 (.fz (t.fs.map aR)))),(14,iS .i64 t.fs.length),(15,iS .i64 z.1)]) (fun z=>ES ks vs ks' vs' z.2)
   (fun z=>z.1<=t.fs.length/\(t.fs.drop z.1).foldl (bC (bP ss N) ss) z.2=bP ss (N + 1) t o0/\fresh ss z.2 < N + 1) (fun z=>t.fs.length - z.1) (0,o0) 8 ⟨Nat.zero_le _,rfl,h4⟩ ?_ ?_ ?_
  · simp -dsimp only [go_sem]<;>simp
  · simp -dsimp only [go_sem]<;>simp
  rintro ⟨i,o⟩ ⟨hi,ho,hfr⟩
  simp only at hi ho hfr ⊢
  rcases a8 i t.fs.length with hlt | hge
  · have hg:decide ((i:Int) < (t.fs.length:Int))=true:=by simp; omega
    obtain ⟨f,hx⟩:∃ nm,t.fs[i]? = some nm:=⟨_,aV hlt⟩
    have q1:=aY (row:=aR) hx
    have hf:f.ok:=hfs f (b5 hx)
    rw [KO hx] at ho
    have ht:p8 (aW f.ty):=mZ hf.ty
    cases c1:b9 f.ty with
    | false=>
     simp (maxSteps:=1000000) -dsimp only [go_sem,hg,↓q1,aR,mF,ht,c1]
     have hv:bC (bP ss N) ss o f=o:=by unfold bC; rw [c1]; rfl
     rw [hv] at ho
     refine ⟨by omega,by omega,aE (i + 1,o) 8 ⟨by simp only; omega,ho,hfr⟩ (by simp only; omega) ?_ ?_⟩
     · simp -dsimp only [go_sem]<;>simp
     · simp -dsimp only [go_sem]<;>simp
    | true=>
    have hm:=VV o (bF f.ty)
    cases c2:bU o (bF f.ty) with
    | true=>
     have hv:bC (bP ss N) ss o f=o:=by unfold bC; rw [c1,c2]; rfl
     rw [hv] at ho
     rw [c2] at hm
     simp only [bI] at hm
     simp (maxSteps:=1000000) -dsimp only [go_sem,hg,↓q1,aR,mF,ht,c1,hm]
     refine ⟨by omega,by omega,aE (i + 1,o) 8 ⟨by simp only; omega,ho,hfr⟩ (by simp only; omega) ?_ ?_⟩
     · simp -dsimp only [go_sem]<;>simp
     · simp -dsimp only [go_sem]<;>simp
    | false=>
     rw [c2] at hm
     simp only [aX] at hm
     have mk1:=PB c2
     have mv1:=OR c2
     have hx1:=h1 (bF f.ty)
     have hb1:(bC (bP ss N) ss o f).length<=1000000000:=by
      have:=(nZ (fun o f=>mE (iT ss N) ss o f) (t.fs.drop (i + 1)) (bC (bP ss N) ss o f)).len
      rw [ho] at this; omega
     have hb:(o ++ [bF f.ty]).length<=1000000000:=by
      refine Nat.le_trans (Pfx.len ?_) hb1
      unfold bC; rw [c1,c2]
      cases fS ss (bF f.ty) with
      | none=>exact .refl _
      | some t=>exact iT _ _ _ _
     cases hs:fS ss (bF f.ty) with
     | none=>
      have hv:bC (bP ss N) ss o f=o ++ [bF f.ty]:=by unfold bC; rw [c1,c2,hs]; rfl
      rw [hv] at ho
      rw [hs] at hx1
      simp only [Option.map_none] at hx1
      simp (maxSteps:=1000000) -dsimp only [go_sem,hg,↓q1,aR,mF,ht,c1,hm,mk1,mv1,hx1]
      refine ⟨by omega,by simp at hb; omega,by omega,aE (i + 1,o ++ [bF f.ty]) 8 ⟨by simp only; omega,ho,by have:=mB o [bF f.ty] ss; simp only; omega⟩ (by simp only; omega) ?_ ?_⟩
      · simp -dsimp only [go_sem]<;>simp
      · simp -dsimp only [go_sem]<;>simp
     | some d=>
      have hv:bC (bP ss N) ss o f=bP ss N d (o ++ [bF f.ty]):=by unfold bC; rw [c1,c2,hs]; rfl
      rw [hv] at ho hb1
      rw [hs] at hx1
      simp only [Option.map_some] at hx1
      have hd:d.ok:=h2 d (List.mem_of_find?_eq_some hs)
      have hfl:=uQ c2 hs
      simp (maxSteps:=1000000) -dsimp only [go_sem,hg,↓q1,aR,mF,ht,c1,hm,mk1,mv1,hx1,aI]
      refine ⟨by omega,by simp at hb; omega,yT (o:=o ++ [bF f.ty]) (ks':=ks') (vs':=vs') (by simp [go_sem]) h1 h2 hd (by omega) hb1 ?_⟩
      simp (maxSteps:=1000000) -dsimp only [go_sem]
      refine ⟨by omega,aE (i + 1,bP ss N d (o ++ [bF f.ty])) 8 ⟨by simp only; omega,ho,by have:=(iT ss N d (o ++ [bF f.ty])).fresh (ss:=ss); simp only; omega⟩ (by simp only; omega) ?_ ?_⟩
      · simp -dsimp only [go_sem]<;>simp
      · simp -dsimp only [go_sem]<;>simp
  · have hg:decide ((i:Int) < (t.fs.length:Int))=false:=by simp; omega
    obtain rfl:i=t.fs.length:=by omega
    rw [List.drop_length] at ho
    simp only [List.foldl_nil] at ho
    simp -dsimp only [go_sem,hg]
    rw [<-ho] at hK
    exact .sel [0,1,2,3,4,5,6,7] (by simp) (by simp) rfl (.done (by simp -dsimp only [go_sem]; simpa [go_sem] using hK))
end Go.Proofs.YthpbnmebjocbeaaGreat
namespace Go.Proofs
open Go.Shelf
def Tryz.lays190_ren:Go.Shelf.Ren:=⟨fun | 190=>145 | 125=>159 | 258=>158 | 128=>171 | 129=>172 | 302=>162 | 303=>163 | 304=>164 | 305=>165 | 306=>166 | 307=>167 | 308=>168 | 309=>169 | 310=>170 | 333=>174 | 329=>175 | 330=>176 | 334=>177 | 335=>178 | 336=>179 | 344=>180 | n=>n,fun | 31=>116 | 9=>9 | 3=>3 | 46=>134 | 0=>0 | 51=>216 | 53=>83 | 4=>4 | 183=>209 | 182=>208 | 131=>193 | 5=>5 | 218=>218 | 222=>221 | 228=>223 | 229=>224 | n=>n,fun | n=>n⟩
theorem Tryz.lays190:Go.Proofs.Lays.n190 Tryz.prog Tryz.lays190_ren:={
 mixed:=by kernel_rfl
 f125:=Tryz.func159.trans (congrArg some (by kernel_rfl))
 f128:=Tryz.func171.trans (congrArg some (by kernel_rfl))
 f129:=Tryz.func172.trans (congrArg some (by kernel_rfl))
 f190:=Tryz.func145.trans (congrArg some (by kernel_rfl))
 f258:=Tryz.func158.trans (congrArg some (by kernel_rfl))
 f302:=Tryz.func162.trans (congrArg some (by kernel_rfl))
 f303:=Tryz.func163.trans (congrArg some (by kernel_rfl))
 f304:=Tryz.func164.trans (congrArg some (by kernel_rfl))
 f305:=Tryz.func165.trans (congrArg some (by kernel_rfl))
 f306:=Tryz.func166.trans (congrArg some (by kernel_rfl))
 f307:=Tryz.func167.trans (congrArg some (by kernel_rfl))
 f308:=Tryz.func168.trans (congrArg some (by kernel_rfl))
 f309:=Tryz.func169.trans (congrArg some (by kernel_rfl))
 f310:=Tryz.func170.trans (congrArg some (by kernel_rfl))
 f329:=Tryz.func175.trans (congrArg some (by kernel_rfl))
 f330:=Tryz.func176.trans (congrArg some (by kernel_rfl))
 f333:=Tryz.func174.trans (congrArg some (by kernel_rfl))
 f334:=Tryz.func177.trans (congrArg some (by kernel_rfl))
 f335:=Tryz.func178.trans (congrArg some (by kernel_rfl))
 f336:=Tryz.func179.trans (congrArg some (by kernel_rfl))
 f344:=Tryz.func180.trans (congrArg some (by kernel_rfl))
 t0:=Tryz.underlying0
 a0:=Tryz.isAgg0
 z0:=Tryz.sizeOf0
 v0:=Tryz.zeroValue0
 t3:=Tryz.underlying3
 a3:=Tryz.isAgg3
 z3:=Tryz.sizeOf3
 v3:=Tryz.zeroValue3
 t4:=Tryz.underlying4
 a4:=Tryz.isAgg4
 z4:=Tryz.sizeOf4
 v4:=Tryz.zeroValue4
 t5:=Tryz.underlying5
 a5:=Tryz.isAgg5
 z5:=Tryz.sizeOf5
 v5:=Tryz.zeroValue5
 t9:=Tryz.underlying9
 a9:=Tryz.isAgg9
 z9:=Tryz.sizeOf9
 v9:=Tryz.zeroValue9
 t31:=Tryz.underlying116
 a31:=Tryz.isAgg116
 z31:=Tryz.sizeOf116
 v31:=Tryz.zeroValue116
 t46:=Tryz.underlying134
 a46:=Tryz.isAgg134
 z46:=Tryz.sizeOf134
 v46:=Tryz.zeroValue134
 t51:=Tryz.underlying216
 a51:=Tryz.isAgg216
 z51:=Tryz.sizeOf216
 v51:=Tryz.zeroValue216
 t53:=Tryz.underlying83
 a53:=Tryz.isAgg83
 z53:=Tryz.sizeOf83
 v53:=Tryz.zeroValue83
 t131:=Tryz.underlying193
 a131:=Tryz.isAgg193
 z131:=Tryz.sizeOf193
 v131:=Tryz.zeroValue193
 t182:=Tryz.underlying208
 a182:=Tryz.isAgg208
 z182:=Tryz.sizeOf208
 v182:=Tryz.zeroValue208
 t183:=Tryz.underlying209
 a183:=Tryz.isAgg209
 z183:=Tryz.sizeOf209
 v183:=Tryz.zeroValue209
 t218:=Tryz.underlying218
 a218:=Tryz.isAgg218
 z218:=Tryz.sizeOf218
 v218:=Tryz.zeroValue218
 t222:=Tryz.underlying221
 a222:=Tryz.isAgg221
 z222:=Tryz.sizeOf221
 v222:=Tryz.zeroValue221
 t228:=Tryz.underlying223
 a228:=Tryz.isAgg223
 z228:=Tryz.sizeOf223
 v228:=Tryz.zeroValue223
 t229:=Tryz.underlying224
 a229:=Tryz.isAgg224
 z229:=Tryz.sizeOf224
 v229:=Tryz.zeroValue224 }
end Go.Proofs
namespace Go.Proofs.YthpbnmebjocbeaaGreat
open Go.W Go.Sort
def dF (l:List ByteArray):List ByteArray:=((l.map bl).mergeSort fun x y=>decide (x<=y)).map mk
theorem lE (l:List ByteArray):(dF l).length=l.length:=by simp [dF]
theorem pL (w:World) (os:Array Obj) {k:Nat} (h:k < w.heap.size):(grow w os).heap[k]? = w.heap[k]?:=by
 simp [grow,Array.getElem?_append_left h]
theorem GH (enc:List UInt8->Value) (w:World) (b:Nat) (d:Array (List UInt8)) {cur:Array Value} {T:TypeId} {p:Nat × Nat} (h:w.heap[b]? = some (.cells cur T p)):(putRow enc w b 0 d).heap[b]? = some (.cells (putCells enc 0 d cur) T p):=by
 unfold putRow mapBlock
 simp [Array.getElem?_modify,h,onCells]
theorem x9 (enc:List UInt8->Value) (w:World) {b k:Nat} (d:Array (List UInt8)) (h:k ≠ b):(putRow enc w b 0 d).heap[k]? = w.heap[k]?:=by
 unfold putRow mapBlock
 simp [Array.getElem?_modify,Ne.symm h]
def aDR:W.Spec:=fun av H K=>∃ l:List ByteArray,av=[.va (.c1 (.sl 0 l.length))]/\H=[.row (l.map bZ) 9 1]/\l.length<=1000000000/\K (.tu []) [.row ((dF l).map bZ) 9 1]
theorem M2 {l:List ByteArray} {K:S->Hp->Prop} (h:l.length<=1000000000) (hK:K (.tu []) [.row ((dF l).map bZ) 9 1]):aDR [.va (.c1 (.sl 0 l.length))] [.row (l.map bZ) 9 1] K:=⟨l,rfl,rfl,h,hK⟩
theorem tC (l:List ByteArray):(l.map bZ).flatten=l.map fun x=>C.vl (.string x):=by
 induction l with
 | nil=>rfl
 | cons x l ih=>rw [List.map_cons,List.flatten_cons,ih]; rfl
theorem Y0 {l:List ByteArray} {vs:List Value} {ro:RO} (h:All2 (C.fv ro) (l.map bZ).flatten vs):vs=l.map Value.string:=by
 rw [tC] at h
 refine List.ext_getElem? fun i=>?_
 obtain ⟨h1,h2⟩:=h
 rw [List.length_map] at h1
 rw [List.getElem?_map]
 rcases a8 i l.length with hi | hi
 · obtain ⟨x,hx⟩:∃ x,l[i]? = some x:=⟨_,aV hi⟩
   obtain ⟨v,hv⟩:∃ v,vs[i]? = some v:=⟨_,aV (by omega)⟩
   have:=h2 i _ v (by rw [List.getElem?_map,hx]; rfl) hv
   rw [hv,hx]; exact congrArg some this
 · rw [List.getElem?_eq_none (by omega),List.getElem?_eq_none hi]; rfl
theorem aFW:Meets Tryz.prog 145 aDR:=by
 refine ⟨by kernel_rfl,fun av vs E ro w K hlen hrel hR hs _=>?_⟩
 obtain ⟨l,rfl,hH,hl,hK⟩:=hs
 match E,hH with
 | [(g,blk)],hH=>
  obtain rfl:blk=.row (l.map bZ) 9 1:=by simpa [hp] using hH
  match vs,hlen with
  | [v0],_=>
   have r0:=hrel 0 _ _ rfl rfl
   have hon:=hR.own 0 g _ rfl
   obtain ⟨o1,o2,o3,o4,o5,o6,o7⟩:=hon
   rw [List.length_map] at o2 o5
   obtain ⟨g',hg',_,_,_,hv0⟩:=r0
   obtain rfl:g=g':=by simpa [gm] using hg'
   obtain rfl:=hv0 o2.symm
   have hvs:=Y0 o6
   obtain ⟨l1,l2⟩:=o5
   rcases Nat.eq_zero_or_pos l.length with h0 | h0
   · obtain rfl:=List.eq_nil_of_length_eq_zero h0
     refine (Any.slices_Sort_string_none Tryz.lays190 _ _ w).mono ?_
     rintro e w' ⟨rfl,rfl⟩
     rw [show dF []=[] by simp [dF]] at hK
     exact ⟨.tu [],_,[(g,.row ([].map bZ) 9 1)],ro,rfl,⟨[],rfl,.nil⟩,hK,hR⟩
   rcases l2 with ⟨_,h1⟩ | ⟨b,cap,cur,hsl,_,hb,hcap,hmax,hcs,htk⟩
   · omega
   have hob:g.ob=some b:=by
    cases hgo:g.ob with
    | none=>rw [hgo] at hsl; simp [a7] at hsl
    | some b'=>rw [hgo] at hsl; simp [a7] at hsl; rw [hsl.1]
   have hgc:g.cap=cap:=by simp at hsl; exact hsl.2
   have hbs:b < w.heap.size:=by
    rcases a8 b w.heap.size with h' | h'
    · exact h'
    · rw [Array.getElem?_eq_none h'] at hb; cases hb
   have hcell:∀ k,k < l.length->w.cell? ⟨b,k,none⟩=(l.map Value.string)[k]?:=fun k hk=>by
    rw [<-hvs,<-htk,List.getElem?_take,if_pos (by omega)]
    simp [World.cell?,hb]
   rw [hob,hgc]
   have key:=Any.slices_Sort_string Tryz.lays190 b 0 cap (l.map bl) w (fun j hj=>by
    have hj':j < l.length:=by simpa using hj
    refine ⟨?_,by simp [World.frozen?,hb]⟩
    rw [Nat.zero_add,hcell j hj']
    simp [hj']
    exact (fJ _).symm) hbs (by simp; omega)
   rw [List.length_map] at key
   refine key.mono ?_
   rintro e w' ⟨rfl,n,os,rfl⟩
   obtain ⟨D,hD⟩:∃ D,D=(l.map bl).mergeSort fun x y=>decide (x<=y):=⟨_,rfl⟩
   have hDl:D.length=l.length:=by rw [hD]; simp
   have hsD:dF l=D.map mk:=by rw [hD]; rfl
   rw [<-hD]
   obtain ⟨W',hW⟩:∃ W',W'=grow (putRow encStr (Sort.ahead w n) b 0 D.toArray) os:=⟨_,rfl⟩
   have hmod:(putRow encStr (Sort.ahead w n) b 0 D.toArray).heap.size=w.heap.size:=by simp [putRow,mapBlock,Sort.ahead]
   have hb':W'.heap[b]? = some (.cells (putCells encStr 0 D.toArray cur) 9 (0,0)):=by
    rw [hW,pL _ _ (by rw [hmod]; exact hbs)]
    exact GH encStr _ b D.toArray hb
   have hne:∀ k,k ≠ b->k < w.heap.size->W'.heap[k]? = w.heap[k]?:=fun k h1 h2=>by
    rw [hW,pL _ _ (by rw [hmod]; exact h2),x9 encStr _ D.toArray h1]; rfl
   have hsz:w.heap.size<=W'.heap.size:=by rw [hW]; simp [hmod]
   have hrest:W'.os=w.os/\W'.tape=w.tape/\W'.output=w.output:=by rw [hW]; exact ⟨rfl,rfl,rfl⟩
   rw [<-hW]
   clear hW
   have htk':(putCells encStr 0 D.toArray cur).toList.take l.length=(dF l).map Value.string:=by
    have hsl':(dF l).length=l.length:=lE l
    refine List.ext_getElem? fun k=>?_
    rw [List.getElem?_take,List.getElem?_map]
    rcases a8 k l.length with hk | hk
    · rw [if_pos hk,hsD]
      have h1:k < cur.size:=by omega
      have h2:k < D.length:=by omega
      simp [putCells,h1,hDl]
      rw [if_pos hk,aV h2]; rfl
    · rw [if_neg (by omega),List.getElem?_eq_none (by omega)]; rfl
   have hown:B.On (gm [(⟨some b,true,l.length,cap,g.T,(dF l).map Value.string⟩,.row ((dF l).map bZ) 9 1)]) ro W' ⟨some b,true,l.length,cap,g.T,(dF l).map Value.string⟩ (.row ((dF l).map bZ) 9 1):=by
    have hsl':(dF l).length=l.length:=lE l
    refine ⟨rfl,by rw [List.length_map,hsl'],fun x hx=>?_,fun c hc=>?_,⟨?_,.inr ⟨b,cap,putCells encStr 0 D.toArray cur,?_,Nat.zero_le _,hb',?_,hmax,by simp [putCells]; omega,?_⟩⟩,?_,fun b' _=>(by show 0 < cap; omega)⟩
    · obtain ⟨y,_,rfl⟩:=List.mem_map.1 hx; rfl
    · rw [tC] at hc; obtain ⟨y,_,rfl⟩:=List.mem_map.1 hc; rfl
    · simp
    · simp [a7]
    · rw [List.length_map,hsl']; exact hcap
    · rw [List.length_map,hsl',Nat.mul_one]; exact htk'
    · rw [tC]
      refine ⟨by simp,fun i x y hx hy=>?_⟩
      rw [List.getElem?_map] at hx hy
      cases hi:(dF l)[i]? with
      | none=>rw [hi] at hx; cases hx
      | some z=>rw [hi] at hx hy; cases hx; cases hy; rfl
   have hpb:b ∈ cK [(g,.row (l.map bZ) 9 1)]:=by
    rcases hR.par 0 b g _ rfl hob rfl with h | h
    · exact absurd h (Nat.not_le.2 hbs)
    · exact h
   refine ⟨.tu [],_,[(⟨some b,true,l.length,cap,g.T,(dF l).map Value.string⟩,.row ((dF l).map bZ) 9 1)],ro,rfl,⟨[],rfl,.nil⟩,hK,?_⟩
   refine ⟨fun n gn bn hn=>?_,fun n m gn gm' bn bm b' hn hm h1 h2 l1 l2=>?_,fun b' off v hv n gn bn hn hgb=>?_,fun b' off v hv=>?_,hR.ro0,hR.rob,fun n b' gn bn hn hgb hl=>?_,?_,hsz,fun k hk hkb=>hne k (fun e=>hkb (e ▸ hpb)) hk,hrest.1,hrest.2.1,hrest.2.2⟩
   · match n,hn with
     | 0,hn=>cases hn; exact hown
     | n + 1,hn=>cases hn
   · match n,m,hn,hm with
     | 0,0,_,_=>rfl
     | n + 1,_,hn,_=>cases hn
     | _,m + 1,_,hm=>cases hm
   · match n,hn with
     | 0,hn=>
      cases hn
      have hbb:b=b':=by simpa using hgb
      subst hbb
      exact absurd (hR.apart b off v hv 0 g _ rfl hob) (by simp [B.live])
     | n + 1,hn=>cases hn
   · have hne':b' ≠ b:=fun e=>by
      subst e
      exact absurd (hR.apart b' off v hv 0 g _ rfl hob) (by simp [B.live])
     have:=hR.rd b' off v hv
     rcases a8 b' w.heap.size with h' | h'
     · rw [World.cell?_of_block (hne b' hne' h')]
       exact this
     · simp [World.cell?,Array.getElem?_eq_none h'] at this
   · match n,hn with
     | 0,hn=>
      cases hn
      have:b=b':=by simpa using hgb
      subst this; exact .inr hpb
     | n + 1,hn=>cases hn
   · intro n g2 h2
     match n,h2 with
     | 0,h2=>
      cases h2
      exact ⟨_,rfl,o1.symm,.inl ⟨hob.symm,o2.symm,hgc.symm⟩⟩
     | n + 1,h2=>cases h2
end Go.Proofs.YthpbnmebjocbeaaGreat
namespace Go.Proofs.YthpbnmebjocbeaaGreat
open Go.W
def eD (ss:List St) (n:ByteArray):List ByteArray:=bP ss (ss.length + 1) ((fS ss n).getD default) []
def dW (ss:List St) (n:ByteArray):List ByteArray:=dF (eD ss n)
theorem uE (ss:List St) (o:List ByteArray):fresh ss o<=ss.length:=by
 induction ss with
 | nil=>exact Nat.le_refl _
 | cons s ss ih=>simp only [fresh,List.length_cons]; cases bU o s.nm<;>simp only [bI,aX]<;>omega
theorem St.ok_default:(default:St).ok:=⟨by decide,by decide,fun f h=>by cases h⟩
def aD1:W.Spec:=fun av H K=>∃ (ss:List St) (n:ByteArray) (ks:List Value) (vs:List St) (ks':List Value) (vs':List En),av=[j6,tS n]/\H=dY ks vs ks' vs'/\
 iK ks vs ss/\(∀ s ∈ ss,s.ok)/\(eD ss n).length<=1000000000/\K (.va (.c1 (.fz ((dW ss n).map bZ)))) (dY ks vs ks' vs')
theorem ZN {ss:List St} {n:ByteArray} {ks:List Value} {vs:List St} {ks':List Value} {vs':List En} {K:S->Hp->Prop} (h1:iK ks vs ss) (h2:∀ s ∈ ss,s.ok) (h3:(eD ss n).length<=1000000000) (hK:K (.va (.c1 (.fz ((dW ss n).map bZ)))) (dY ks vs ks' vs')) :
 aD1 [j6,tS n] (dY ks vs ks' vs') K:=⟨ss,n,ks,vs,ks',vs',rfl,rfl,h1,h2,h3,hK⟩
theorem aHW:Meets Tryz.prog 111 aD1:=by
 refine d5 0 (t:=fun N=>fun av H K=>∃ (ss:List St) (n:ByteArray) (ks:List Value) (vs:List St) (ks':List Value) (vs':List En),av=[j6,tS n]/\H=dY ks vs ks' vs'/\
  iK ks vs ss/\(∀ s ∈ ss,s.ok)/\ss.length=N/\(eD ss n).length<=1000000000/\K (.va (.c1 (.fz ((dW ss n).map bZ)))) (dY ks vs ks' vs')) (fun N=>?_) fun av H K ⟨ss,n,ks,vs,ks',vs',e1,e2,h1,h2,h3,hK⟩=>⟨ss.length,ss,n,ks,vs,ks',vs',e1,e2,h1,h2,rfl,h3,hK⟩
 refine aD Tryz.func111 aIA 2 (by rw [Tryz.ntmps111]; decide) (aC (MN (N + 1)) (aC aFW (aB _))) (fun av H K h=>by obtain ⟨_,_,_,_,_,_,rfl,_⟩:=h; rfl) ?_
 rintro av H K ⟨ss,n,ks,vs,ks',vs',rfl,rfl,h1,h2,rfl,h3,hK⟩
 have hx:=h1 n
 simp -dsimp only [go_sem,SV,Q6]
 refine .nilc 5 0 9 1 [.vl (.slice none 0 0)] 116 rfl rfl (.done ?_)
 cases hs:fS ss n with
 | none=>
  rw [hs] at hx
  simp only [Option.map_none] at hx
  simp -dsimp only [go_sem,hx]
  have hF:eD ss n=bP ss (ss.length + 1) default []:=by unfold eD; rw [hs]; rfl
  have hU:dW ss n=dF (bP ss (ss.length + 1) default []):=by unfold dW; rw [hF]
  rw [hF] at h3
  rw [hU] at hK
  have hfr:=uE ss []
  refine yT (ss:=ss) (t:=default) (ks:=ks) (vs:=vs) (ks':=ks') (vs':=vs') (o:=[]) rfl h1 h2 St.ok_default (by omega) h3 ?_
  generalize bP ss (ss.length + 1) default []=o at h3 hK
  simp -dsimp only [go_sem]
  refine M2 h3 ?_
  simp -dsimp only [go_sem]
  rw [<-lE o]
  refine .pub 7 _ _ _ rfl (.sel [0,1] (by simp) (by simp [cG]) rfl (.done ?_))
  simp -dsimp only [go_sem,cG]; exact hK
 | some d=>
  rw [hs] at hx
  simp only [Option.map_some] at hx
  simp -dsimp only [go_sem,hx,aI]
  have hF:eD ss n=bP ss (ss.length + 1) d []:=by unfold eD; rw [hs]; rfl
  have hU:dW ss n=dF (bP ss (ss.length + 1) d []):=by unfold dW; rw [hF]
  rw [hF] at h3
  rw [hU] at hK
  have hfr:=uE ss []
  refine yT (ss:=ss) (t:=d) (ks:=ks) (vs:=vs) (ks':=ks') (vs':=vs') (o:=[]) rfl h1 h2 (h2 d (List.mem_of_find?_eq_some hs)) (by omega) h3 ?_
  generalize bP ss (ss.length + 1) d []=o at h3 hK
  simp -dsimp only [go_sem]
  refine M2 h3 ?_
  simp -dsimp only [go_sem]
  rw [<-lE o]
  refine .pub 7 _ _ _ rfl (.sel [0,1] (by simp) (by simp [cG]) rfl (.done ?_))
  simp -dsimp only [go_sem,cG]; exact hK
mutual
def bL:Ty->Nat × Ty
 | .mk k s n e=>bif k == 5 then A2 e (.mk k s n e) else (0,.mk k s n e)
def A2:List Ty->Ty->Nat × Ty
 | [],d=>(0,d)
 | u :: _,_=>((bL u).1 + 1,(bL u).2)
end
def bX (dp:ByteArray->Int) (t:Ty):Int:=(bL t).1 + bif (bL t).2.k == 6 then dp (bL t).2.n else 0
def eI (dp:ByteArray->Int) (fs:List Fl):Int:=fs.foldl (fun m f=>max m (bX dp f.ty)) 0
def dN (ss:List St):Nat->ByteArray->Int
 | 0,_=>1
 | N + 1,n=>eI (dN ss N) ((fS ss n).getD default).fs + 1
inductive LOk:Ty->Prop
 | stop {k s n e}:(k == 5)=false->LOk (.mk k s n e)
 | list {s n u r}:LOk u->LOk (.mk 5 s n (u :: r))
abbrev lS (d:Int):A:=.c1 (.vl (.int .i64 d))
@[go_sem] theorem aQW (f:Nat->Option Nat) (l:List Int):(l.map lS).map (A.ren f)=l.map lS:=by rw [List.map_map]; rfl
@[go_sem] theorem aPY (n:Nat) (xs:List (List C)) (l:List Int):(l.map lS).map (A.pub n xs)=l.map lS:=by rw [List.map_map]; rfl
structure Dp (ss:List St) (D:ByteArray->Int) (r:ByteArray->Nat):Prop where
 ok:∀ s ∈ ss,s.ok
 eq:∀ n t,fS ss n=some t->D n=eI D t.fs + 1
 lo:∀ n,0<=D n
 hi:∀ n,D n<=1000000000000
 ls:∀ n t,fS ss n=some t->∀ f ∈ t.fs,LOk f.ty
 rf:∀ n t,fS ss n=some t->∀ f ∈ t.fs,((bL f.ty).2.k == 6)=true->∃ u,fS ss (bL f.ty).2.n=some u/\r (bL f.ty).2.n < r n
def rT (D:ByteArray->Int) (ms:List ByteArray) (ds:List Int):Prop:=ms.length=ds.length/\∀ n v,d3 (eG ms) (ds.map lS) (.string n)=some v->v=lS (D n)
abbrev I4 (ks:List Value) (vs:List St) (ks':List Value) (vs':List En) (ms:List ByteArray) (ds:List Int):Hp:=
 [.map .string ks (vs.map fL),.map .string ks' (vs'.map fU),.cells [.mp 0,.mp 1] 124,.map .string (eG ms) (ds.map lS),.cells [.mp 3] 191,.cells [.fn 146 [(false,[.pt 4 0]),(false,[.pt 5 0]),(false,[.pt 2 0])]] 192]
def aFI (N:Nat):W.Spec:=fun av H K=>∃ (ss:List St) (D:ByteArray->Int) (r:ByteArray->Nat) (t:St) (ks:List Value) (vs:List St) (ks':List Value) (vs':List En) (ms:List ByteArray) (ds:List Int),
 av=[.va (.gs (aI t)),.va (.c1 (.pt 4 0)),.va (.c1 (.pt 5 0)),.va (.c1 (.pt 2 0))]/\H=I4 ks vs ks' vs' ms ds/\
 iK ks vs ss/\Dp ss D r/\fS ss t.nm=some t/\r t.nm < N/\rT D ms ds/\∀ ms' ds',rT D ms' ds'->K (iS .i64 (D t.nm)) (I4 ks vs ks' vs' ms' ds')
theorem M0 {D:ByteArray->Int} {ms:List ByteArray} {ds:List Int} (h:rT D ms ds) (n:ByteArray):d3 (eG ms) (ds.map lS) (.string n)=none\/d3 (eG ms) (ds.map lS) (.string n)=some (lS (D n)):=by
 cases hm:d3 (eG ms) (ds.map lS) (.string n) with
 | none=>exact .inl rfl
 | some v=>rw [h.2 n v hm]; exact .inr rfl
theorem MC {D:ByteArray->Int} {ms:List ByteArray} {ds:List Int} (h:rT D ms ds) (n:ByteArray):∃ ms' ds',fK (eG ms) (.string n)=eG ms'/\fY (eG ms) (ds.map lS) (.string n) (lS (D n))=ds'.map lS/\rT D ms' ds':=by
 obtain ⟨ms',ds',h1,h2,h3,h4⟩:=ET lS h.1 n (D n)
 refine ⟨ms',ds',h1,h2,h3,fun k v hk=>?_⟩
 rw [h4] at hk
 by_cases e:k=n
 · subst e; simp at hk; exact hk.symm
 · simp [e] at hk; exact h.2 k v hk
abbrev gF (D:ByteArray->Int):Int->Fl->Int:=fun m f=>max m (bX D f.ty)
theorem u3 (D:ByteArray->Int):∀ (l:List Fl) (m:Int),m<=l.foldl (gF D) m
 | [],_=>Int.le_refl _
 | f :: l,m=>by
  have:=u3 D l (max m (bX D f.ty))
  show m<=l.foldl (gF D) (max m (bX D f.ty)); omega
theorem V3 {D:ByteArray->Int} {l:List Fl} {i:Nat} {f:Fl} (hx:l[i]? = some f) (m:Int):(l.drop i).foldl (gF D) m=(l.drop (i + 1)).foldl (gF D) (max m (bX D f.ty)):=by
 obtain ⟨h,rfl⟩:=bB.1 hx
 rw [List.drop_eq_getElem_cons h]; rfl
theorem aEH:∀ N,Meets Tryz.prog 146 (aFI N)
 | 0=>⟨by kernel_rfl,by rintro xs vs E ro w K _ _ _ ⟨_,_,_,_,_,_,_,_,_,_,_,_,_,_,_,h,_⟩; exact absurd h (Nat.not_lt_zero _)⟩
 | N + 1=>by
  refine aD Tryz.func146 aGR 4 (by rw [Tryz.ntmps146]; decide) (aC (aEH N) (aB _)) (fun av H K h=>by obtain ⟨_,_,_,_,_,_,_,_,_,_,rfl,_⟩:=h; rfl) ?_
  rintro av H K ⟨ss,D,r,t,ks,vs,ks',vs',ms,ds,rfl,rfl,h1,h2,ht,hr,hk,hK⟩
  have htok:=h2.ok t (List.mem_of_find?_eq_some ht)
  obtain ⟨_,hl,hfs⟩:=htok
  rcases M0 hk t.nm with hm | hm
  · simp (maxSteps:=1000000) -dsimp only [go_sem,aI,J9,JE,hm]
    have hD:=h2.eq t.nm t ht
    have hDh:=h2.hi t.nm
    refine aU (α:=Nat × Int × List ByteArray × List Int) (fun z=>[(1,.va (.c1 (.pt 4 0))),(2,.va (.c1 (.pt 5 0))),(3,.va (.c1 (.pt 2 0))),(4,.va (.c1 (.pt 6 0))),(8,iS .i64 z.2.1),(23,.va (.c1 (.fz (t.fs.map aR)))),(24,iS .i64 t.fs.length),(25,iS .i64 z.1)])
     (fun z=>I4 ks vs ks' vs' z.2.2.1 z.2.2.2 ++ [.cells (aI t) 48])
     (fun z=>z.1<=t.fs.length/\0<=z.2.1/\(t.fs.drop z.1).foldl (gF D) z.2.1=eI D t.fs/\rT D z.2.2.1 z.2.2.2) (fun z=>t.fs.length - z.1) (0,0,ms,ds) 7 ⟨Nat.zero_le _,Int.le_refl _,rfl,hk⟩ ?_ ?_ ?_
    · simp -dsimp only [go_sem]<;>simp
    · simp -dsimp only [go_sem,aI]<;>simp
    clear hk hm
    rintro ⟨i,m,ms,ds⟩ ⟨hi,hm0,ho,hk⟩
    simp only at hi hm0 ho hk ⊢
    have hmb:m<=1000000000000:=by have:=u3 D (t.fs.drop i) m; rw [ho] at this; omega
    rcases a8 i t.fs.length with hlt | hge
    · have hg:decide ((i:Int) < (t.fs.length:Int))=true:=by simp; omega
      obtain ⟨f,hx⟩:∃ nm,t.fs[i]? = some nm:=⟨_,aV hlt⟩
      have q1:=aY (row:=aR) hx
      have hf:f.ok:=hfs f (b5 hx)
      rw [V3 hx] at ho
      have hfb:bX D f.ty<=1000000000000:=by have:=u3 D (t.fs.drop (i + 1)) (max m (bX D f.ty)); rw [ho] at this; omega
      simp (maxSteps:=1000000) -dsimp only [go_sem,hg,↓q1,aR,mF]
      have hlo:=h2.ls t.nm t ht f (b5 hx)
      refine ⟨by omega,⟨qZ _,dO _⟩,by rw [dO]; exact Nat.le_refl _,?_⟩
      refine aU (α:=Nat × Ty) (fun z=>[(1,.va (.c1 (.pt 4 0))),(2,.va (.c1 (.pt 5 0))),(3,.va (.c1 (.pt 2 0))),(4,.va (.c1 (.pt 6 0))),(8,iS .i64 m),(11,iS .i64 z.1),(12,.va (.c1 (.pt 8 0))),(23,.va (.c1 (.fz (t.fs.map aR)))),(24,iS .i64 t.fs.length),(25,iS .i64 i)])
       (fun z=>I4 ks vs ks' vs' ms ds ++ [.cells (aI t) 48,.cells (aR f) 52,.cells (aW z.2) 42])
       (fun z=>LOk z.2/\z.1 + (bL z.2).1=(bL f.ty).1/\(bL z.2).2=(bL f.ty).2) (fun z=>z.2.h) (0,f.ty) 9 ⟨hlo,by simp,rfl⟩ ?_ ?_ ?_
      · simp -dsimp only [go_sem]<;>simp
      · simp -dsimp only [go_sem,aI,aR,dO]<;>simp
      rintro ⟨n,u⟩ ⟨hu1,hu2,hu3⟩
      simp only at hu1 hu2 hu3 ⊢
      have hlv:((bL f.ty).1:Int)<=1000000000000:=by
       have hd0:=h2.lo (bL f.ty).2.n
       unfold bX at hfb
       cases hq:(bL f.ty).2.k == 6<;>rw [hq] at hfb<;>simp only [bI,aX] at hfb<;>omega
      cases hu1 with
      | list hv=>
       rename_i s' n' v r'
       have hl5:bL (.mk 5 s' n' (v :: r'))=((bL v).1 + 1,(bL v).2):=by simp [bL,A2]
       rw [hl5] at hu2 hu3
       simp (maxSteps:=1000000) -dsimp only [go_sem,aW,bH]
       refine ⟨by omega,⟨by omega,fun r hr=>by subst hr; exact dO v⟩,fun r hr=>?_⟩
       subst hr
       simp -dsimp only [go_sem,dO]
       refine ⟨qZ v,aE (n + 1,v) 9 ⟨hv,by simp only at hu2 ⊢; omega,hu3⟩ (by simp only [Ty.h,Ty.hs]; omega) ?_ ?_⟩
       · simp -dsimp only [go_sem]<;>simp
       · simp -dsimp only [go_sem,aI,aR]<;>simp
      | stop hk5=>
       rename_i k' s' n' e'
       have hl0:bL (.mk k' s' n' e')=(0,.mk k' s' n' e'):=by rw [bL,hk5]; rfl
       rw [hl0] at hu2 hu3
       simp only [Nat.add_zero] at hu2
       have hfd:bX D f.ty=(n:Int) + bif k' == 6 then D n' else 0:=by unfold bX; rw [<-hu2,<-hu3]; rfl
       cases k6:k' == 6 with
       | false=>
        rw [k6,aX,Int.add_zero] at hfd
        rw [hfd] at ho
        simp (maxSteps:=1000000) -dsimp only [go_sem,aW,bH,hk5,k6]
        refine ⟨by omega,aE (i + 1,max m (n:Int),ms,ds) 7 ⟨by simp only; omega,by simp only; omega,ho,hk⟩ (by simp only; omega) ?_ ?_⟩
        · simp -dsimp only [go_sem]<;>simp
        · simp -dsimp only [go_sem,aI]<;>simp
       | true=>
        rw [k6,bI] at hfd
        rw [hfd] at ho
        obtain ⟨w,hw,hrw⟩:=h2.rf t.nm t ht f (b5 hx) (by rw [<-hu3]; exact k6)
        rw [<-hu3] at hw hrw
        have hx1:=h1 n'
        rw [show fS ss n'=some w from hw] at hx1
        simp only [Option.map_some] at hx1
        simp (maxSteps:=1000000) -dsimp only [go_sem,aW,bH,hk5,k6,hx1,aI]
        have hwn:w.nm=n':=by have:=List.find?_some hw; simp only [decide_eq_true_eq] at this; exact this
        refine ⟨ss,D,r,w,ks,vs,ks',vs',ms,ds,rfl,rfl,h1,h2,by rw [hwn]; exact hw,by rw [hwn]; exact Nat.lt_of_lt_of_le hrw (Nat.le_of_lt_succ hr),hk,fun ms' ds' hk'=>?_⟩
        rw [hwn]
        have hd0:=h2.lo n'
        have hd1:=h2.hi n'
        simp (maxSteps:=1000000) -dsimp only [go_sem]
        refine ⟨by omega,by omega,aE (i + 1,max m ((n:Int) + D n'),ms',ds') 7 ⟨by simp only; omega,by simp only; omega,ho,hk'⟩ (by simp only; omega) ?_ ?_⟩
        · simp -dsimp only [go_sem]<;>simp
        · simp -dsimp only [go_sem,aI]<;>simp
    · have hg:decide ((i:Int) < (t.fs.length:Int))=false:=by simp; omega
      obtain rfl:i=t.fs.length:=by omega
      rw [List.drop_length] at ho
      simp only [List.foldl_nil] at ho
      obtain ⟨ms',ds',p1,p2,p3⟩:=MC hk t.nm
      have e1:m + 1=D t.nm:=by omega
      simp (maxSteps:=1000000) -dsimp only [go_sem,hg,aI,e1,p1,p2]
      refine ⟨by have:=h2.lo t.nm; omega,by have:=h2.lo t.nm; omega,.sel [0,1,2,3,4,5] (by simp) (by simp) rfl (.done (by simp -dsimp only [go_sem]; simpa [go_sem] using hK ms' ds' p3))⟩
  · simp (maxSteps:=1000000) -dsimp only [go_sem,aI,J9,JE,hm]
    exact .sel [0,1,2,3,4,5] (by simp) (by simp) rfl (.done (by simp -dsimp only [go_sem]; simpa [go_sem] using hK ms ds hk))
def aEY:W.Spec:=fun av H K=>∃ (ss:List St) (D:ByteArray->Int) (r:ByteArray->Nat) (t:St) (ks:List Value) (vs:List St) (ks':List Value) (vs':List En),av=[j6,.va (.gs (aI t))]/\H=dY ks vs ks' vs'/\
 iK ks vs ss/\Dp ss D r/\fS ss t.nm=some t/\K (iS .i64 (D t.nm)) (dY ks vs ks' vs')
theorem YX {ss:List St} {D:ByteArray->Int} {r:ByteArray->Nat} {t:St} {ks:List Value} {vs:List St} {ks':List Value} {vs':List En} {K:S->Hp->Prop} (h1:iK ks vs ss) (h2:Dp ss D r) (h3:fS ss t.nm=some t) (hK:K (iS .i64 (D t.nm)) (dY ks vs ks' vs')) :
 aEY [j6,.va (.gs (aI t))] (dY ks vs ks' vs') K:=⟨ss,D,r,t,ks,vs,ks',vs',rfl,rfl,h1,h2,h3,hK⟩
theorem aEV:Meets Tryz.prog 112 aEY:=by
 refine d5 0 (t:=fun N=>fun av H K=>∃ (ss:List St) (D:ByteArray->Int) (r:ByteArray->Nat) (t:St) (ks:List Value) (vs:List St) (ks':List Value) (vs':List En),av=[j6,.va (.gs (aI t))]/\H=dY ks vs ks' vs'/\
  iK ks vs ss/\Dp ss D r/\fS ss t.nm=some t/\r t.nm < N/\K (iS .i64 (D t.nm)) (dY ks vs ks' vs')) (fun N=>?_) fun av H K ⟨ss,D,r,t,ks,vs,ks',vs',e1,e2,h1,h2,h3,hK⟩=>⟨r t.nm + 1,ss,D,r,t,ks,vs,ks',vs',e1,e2,h1,h2,h3,Nat.lt_succ_self _,hK⟩
 refine aD Tryz.func112 aG8 2 (by rw [Tryz.ntmps112]; decide) (aC (aEH N) (aB _)) (fun av H K h=>by obtain ⟨_,_,_,_,_,_,_,_,rfl,_⟩:=h; rfl) ?_
 rintro av H K ⟨ss,D,r,t,ks,vs,ks',vs',rfl,rfl,h1,h2,ht,hr,hK⟩
 simp -dsimp only [go_sem,aI,SI,U5]
 refine ⟨ss,D,r,t,ks,vs,ks',vs',[],[],rfl,rfl,h1,h2,ht,hr,⟨rfl,fun n v h=>by cases h⟩,fun ms ds _=>?_⟩
 simp -dsimp only [go_sem]
 exact .sel [0,1] (by simp) (by simp) rfl (.done (by simp -dsimp only [go_sem]; exact hK))
def EE (t:St) (b:ByteArray):Prop:=∃ f ∈ t.fs,b9 f.ty=true/\bF f.ty=b
def c9 (ss:List St) (a b:ByteArray):Prop:=EE ((fS ss a).getD default) b
inductive Reach (ss:List St):ByteArray->ByteArray->Prop
 | one {a b:ByteArray}:c9 ss a b->Reach ss a b
 | more {a b c:ByteArray}:Reach ss a b->c9 ss b c->Reach ss a c
theorem Reach.head {ss:List St} {a b c:ByteArray} (h:c9 ss a b) (r:Reach ss b c):Reach ss a c:=by
 induction r with
 | one h2=>exact .more (.one h) h2
 | more _ h2 ih=>exact .more ih h2
theorem Reach.trans {ss:List St} {a b c:ByteArray} (h:Reach ss a b) (r:Reach ss b c):Reach ss a c:=by
 induction r with
 | one h2=>exact .more h h2
 | more _ h2 ih=>exact .more ih h2
theorem Reach.first {ss:List St} {a c:ByteArray} (r:Reach ss a c):∃ b,c9 ss a b/\(c=b\/Reach ss b c):=by
 induction r with
 | one h=>exact ⟨_,h,.inl rfl⟩
 | more _ h2 ih=>
  obtain ⟨b,h3,h4⟩:=ih
  refine ⟨b,h3,.inr ?_⟩
  rcases h4 with rfl | h4
  · exact .one h2
  · exact .more h4 h2
theorem yC {o:List ByteArray} {n:ByteArray}:bU o n=false ↔ n ∉ o:=by
 rw [<-Bool.not_eq_true,rD]
theorem PO (ss:List St) {N:Nat} (ih:∀ t o,fresh ss o < N->(∀ b,EE t b->b ∈ bP ss N t o)/\∀ x ∈ bP ss N t o,x ∉ o->∀ y,c9 ss x y->y ∈ bP ss N t o) (o:List ByteArray) (f:Fl) (h:fresh ss o < N + 1) :
 (b9 f.ty=true->bF f.ty ∈ bC (bP ss N) ss o f)/\∀ x ∈ bC (bP ss N) ss o f,x ∉ o->∀ y,c9 ss x y->y ∈ bC (bP ss N) ss o f:=by
 cases c1:b9 f.ty with
 | false=>
  have:bC (bP ss N) ss o f=o:=by unfold bC; rw [c1]; rfl
  rw [this]; exact ⟨fun h=>by simp at h,fun x hx hn=>absurd hx hn⟩
 | true=>
 cases c2:bU o (bF f.ty) with
 | true=>
  have:bC (bP ss N) ss o f=o:=by unfold bC; rw [c1,c2]; rfl
  rw [this]; exact ⟨fun _=>(rD _ _).1 c2,fun x hx hn=>absurd hx hn⟩
 | false=>
  cases hs:fS ss (bF f.ty) with
  | none=>
   have:bC (bP ss N) ss o f=o ++ [bF f.ty]:=by unfold bC; rw [c1,c2,hs]; rfl
   rw [this]
   refine ⟨fun _=>by simp,fun x hx hn y hy=>?_⟩
   have:x=bF f.ty:=by simpa [hn] using hx
   subst this
   unfold c9 at hy; rw [hs] at hy
   obtain ⟨g,hg,_⟩:=hy; cases hg
  | some d=>
   have:bC (bP ss N) ss o f=bP ss N d (o ++ [bF f.ty]):=by unfold bC; rw [c1,c2,hs]; rfl
   rw [this]
   have hl:=uQ c2 hs
   obtain ⟨i1,i2⟩:=ih d (o ++ [bF f.ty]) (by omega)
   obtain ⟨q,hq⟩:=iT ss N d (o ++ [bF f.ty])
   refine ⟨fun _=>by rw [hq]; simp,fun x hx hn y hy=>?_⟩
   by_cases hxn:x=bF f.ty
   · subst hxn
     unfold c9 at hy; rw [hs] at hy
     exact i1 y hy
   · exact i2 x hx (by simp [hn,hxn]) y hy
theorem CV (ss:List St) {N:Nat} (ih:∀ t o,fresh ss o < N->(∀ b,EE t b->b ∈ bP ss N t o)/\∀ x ∈ bP ss N t o,x ∉ o->∀ y,c9 ss x y->y ∈ bP ss N t o):∀ (l:List Fl) (o:List ByteArray),fresh ss o < N + 1->
 (∀ f ∈ l,b9 f.ty=true->bF f.ty ∈ l.foldl (bC (bP ss N) ss) o)/\∀ x ∈ l.foldl (bC (bP ss N) ss) o,x ∉ o->∀ y,c9 ss x y->y ∈ l.foldl (bC (bP ss N) ss) o
 | [],o,_=>⟨fun f h=>(List.not_mem_nil h).elim,fun x hx hn=>absurd hx hn⟩
 | f :: l,o,h=>by
  obtain ⟨s1,s2⟩:=PO ss ih o f h
  have hp:=mE (iT ss N) ss o f
  obtain ⟨r1,r2⟩:=CV ss ih l (bC (bP ss N) ss o f) (by have:=hp.fresh (ss:=ss); omega)
  obtain ⟨q,hq⟩:=nZ (fun o f=>mE (iT ss N) ss o f) l (bC (bP ss N) ss o f)
  have hin:∀ x,x ∈ bC (bP ss N) ss o f->x ∈ l.foldl (bC (bP ss N) ss) (bC (bP ss N) ss o f):=fun x hx=>by rw [hq]; simp [hx]
  rw [List.foldl_cons]
  refine ⟨fun g hg hn=>?_,fun x hx hn y hy=>?_⟩
  · rcases List.mem_cons.1 hg with rfl | hg
    · exact hin _ (s1 hn)
    · exact r1 g hg hn
  · by_cases hx2:x ∈ bC (bP ss N) ss o f
    · exact hin _ (s2 x hx2 hn y hy)
    · exact r2 x hx hx2 y hy
theorem K7 (ss:List St):∀ (N:Nat) (t:St) (o:List ByteArray),fresh ss o < N->(∀ b,EE t b->b ∈ bP ss N t o)/\∀ x ∈ bP ss N t o,x ∉ o->∀ y,c9 ss x y->y ∈ bP ss N t o
 | 0,_,_,h=>absurd h (Nat.not_lt_zero _)
 | N + 1,t,o,h=>by
  obtain ⟨r1,r2⟩:=CV ss (K7 ss N) t.fs o h
  exact ⟨fun b ⟨f,hf,hn,hb⟩=>hb ▸ r1 f hf hn,r2⟩
theorem BF (ss:List St):∀ (N:Nat) (t:St) (o:List ByteArray),∀ x ∈ bP ss N t o,x ∈ o\/∃ b,EE t b/\(x=b\/Reach ss b x)
 | 0,_,o=>fun x hx=>.inl hx
 | N + 1,t,o=>by
  have step:∀ (o:List ByteArray) (f:Fl),∀ x ∈ bC (bP ss N) ss o f,x ∈ o\/(b9 f.ty=true/\(x=bF f.ty\/Reach ss (bF f.ty) x)):=fun o f x hx=>by
   cases c1:b9 f.ty with
   | false=>
    have:bC (bP ss N) ss o f=o:=by unfold bC; rw [c1]; rfl
    rw [this] at hx; exact .inl hx
   | true=>
   cases c2:bU o (bF f.ty) with
   | true=>
    have:bC (bP ss N) ss o f=o:=by unfold bC; rw [c1,c2]; rfl
    rw [this] at hx; exact .inl hx
   | false=>
    cases hs:fS ss (bF f.ty) with
    | none=>
     have:bC (bP ss N) ss o f=o ++ [bF f.ty]:=by unfold bC; rw [c1,c2,hs]; rfl
     rw [this] at hx
     rcases List.mem_append.1 hx with h | h
     · exact .inl h
     · exact .inr ⟨rfl,.inl (by simpa using h)⟩
    | some d=>
     have:bC (bP ss N) ss o f=bP ss N d (o ++ [bF f.ty]):=by unfold bC; rw [c1,c2,hs]; rfl
     rw [this] at hx
     rcases BF ss N d _ x hx with h | ⟨b,hb,h⟩
     · rcases List.mem_append.1 h with h | h
       · exact .inl h
       · exact .inr ⟨rfl,.inl (by simpa using h)⟩
     · have hr:c9 ss (bF f.ty) b:=by unfold c9; rw [hs]; exact hb
       refine .inr ⟨rfl,.inr ?_⟩
       rcases h with rfl | h
       · exact .one hr
       · exact .head hr h
  have fold:∀ (l:List Fl) (o:List ByteArray),∀ x ∈ l.foldl (bC (bP ss N) ss) o,x ∈ o\/∃ f ∈ l,b9 f.ty=true/\(x=bF f.ty\/Reach ss (bF f.ty) x):=by
   intro l
   induction l with
   | nil=>exact fun o x hx=>.inl hx
   | cons f l ih=>
    intro o x hx
    rw [List.foldl_cons] at hx
    rcases ih _ x hx with h | ⟨g,hg,h⟩
    · rcases step o f x h with h | h
      · exact .inl h
      · exact .inr ⟨f,List.mem_cons_self,h⟩
    · exact .inr ⟨g,List.mem_cons_of_mem _ hg,h⟩
  intro x hx
  rcases fold t.fs o x hx with h | ⟨f,hf,hn,h⟩
  · exact .inl h
  · exact .inr ⟨bF f.ty,⟨f,hf,hn,rfl⟩,h⟩
theorem A4 (ss:List St):∀ (N:Nat) (t:St) (o:List ByteArray),o.Nodup->(bP ss N t o).Nodup
 | 0,_,_=>id
 | N + 1,t,o=>by
  have step:∀ (o:List ByteArray) (f:Fl),o.Nodup->(bC (bP ss N) ss o f).Nodup:=fun o f ho=>by
   have app:bU o (bF f.ty)=false->(o ++ [bF f.ty]).Nodup:=fun c2=>by
    rw [yC] at c2
    rw [List.nodup_append]
    exact ⟨ho,by simp,fun a ha b hb=>by simp at hb; subst hb; exact fun e=>c2 (e ▸ ha)⟩
   unfold bC
   cases c1:b9 f.ty with
   | false=>exact ho
   | true=>
   cases c2:bU o (bF f.ty) with
   | true=>exact ho
   | false=>
    cases hs:fS ss (bF f.ty) with
    | none=>exact app c2
    | some d=>exact A4 ss N d _ (app c2)
  show o.Nodup->(t.fs.foldl (bC (bP ss N) ss) o).Nodup
  generalize t.fs=l
  induction l generalizing o with
  | nil=>exact id
  | cons f l ih=>exact fun h=>ih _ (step o f h)
theorem f6 (ss:List St) (n x:ByteArray):x ∈ eD ss n ↔ Reach ss n x:=by
 unfold eD
 constructor
 · intro h
   rcases BF ss _ _ _ x h with h | ⟨b,hb,h⟩
   · cases h
   · rcases h with rfl | h
     · exact .one hb
     · exact .head hb h
 · intro h
   obtain ⟨c1,c2⟩:=K7 ss (ss.length + 1) ((fS ss n).getD default) [] (Nat.lt_succ_of_le (uE ss []))
   induction h with
   | one h=>exact c1 _ h
   | more _ h2 ih=>exact c2 _ ih (by simp) _ h2
theorem p5 (ss:List St) (n:ByteArray):(eD ss n).Nodup:=A4 ss _ _ _ .nil
theorem NS {l:List ByteArray} {x:ByteArray}:x ∈ dF l ↔ x ∈ l:=by
 unfold dF
 rw [List.mem_map]
 constructor
 · rintro ⟨y,hy,rfl⟩
   rw [List.mem_mergeSort,List.mem_map] at hy
   obtain ⟨z,hz,rfl⟩:=hy
   rw [fJ]; exact hz
 · intro h
   exact ⟨bl x,by rw [List.mem_mergeSort]; exact List.mem_map_of_mem h,fJ x⟩
theorem AL {ss:List St} {n x:ByteArray}:x ∈ dW ss n ↔ Reach ss n x:=by unfold dW; rw [NS,f6]
theorem M3 (ss:List St) (n:ByteArray):(dW ss n).length=(eD ss n).length:=lE _
structure Gd (ss:List St) (es:List En):Prop where
 ok:∀ s ∈ ss,s.ok
 n:ss.length<=16
 m:es.length<=16
 val:∀ s ∈ ss,∀ f ∈ s.fs,valF ss es f.ty=true
 lv:∀ s ∈ ss,∀ f ∈ s.fs,(bL f.ty).1<=1000000000
 nd:∀ s ∈ ss,fS ss s.nm=some s
def AW (ss:List St):Prop:=∀ s ∈ ss,bU (dW ss s.nm) s.nm=false
theorem FJ {ss:List St} {es:List En} {s:Int} {n:ByteArray} {e:List Ty} (h:valF ss es (.mk 5 s n e)=true):∃ u,e=[u]/\valF ss es u=true:=by
 rw [valF] at h
 simp only [show ((5:Int) == 1)=false from rfl,show ((5:Int) == 2)=false from rfl,show ((5:Int) == 3)=false from rfl,show ((5:Int) == 4)=false from rfl,show ((5:Int) == 5)=true from rfl,bI,aX,Bool.and_eq_true] at h
 obtain ⟨_,h⟩:=h
 match e,h with
 | [],h=>simp [kD] at h
 | [u],h=>exact ⟨u,rfl,by simpa [kD] using h⟩
 | u :: v :: r,h=>simp [kD] at h
theorem wG (ss:List St) (es:List En):∀ (N:Nat) (t:Ty),t.h<=N->valF ss es t=true->LOk t/\dB t=(bL t).2/\((dB t).k == 5)=false/\valF ss es (dB t)=true
 | 0,t,h,_=>absurd h (by have:=t.h_pos; omega)
 | N + 1,.mk k s n e,h,hv=>by
  cases k5:k == 5 with
  | true=>
   obtain rfl:k=5:=by simpa using k5
   obtain ⟨u,rfl,hu⟩:=FJ hv
   obtain ⟨i1,i2,i3,i4⟩:=wG ss es N u (by rw [Ty.h,Ty.hs,Ty.hs] at h; omega) hu
   rw [A0]
   exact ⟨.list i1,by rw [i2]; simp [bL,A2],i3,i4⟩
  | false=>
   have h1:dB (.mk k s n e)=.mk k s n e:=uT (by rw [k5]; rfl)
   rw [h1]
   exact ⟨.stop k5,by rw [bL,k5]; rfl,k5,hv⟩
theorem aE0 {ss:List St} {es:List En} {t:Ty} (hv:valF ss es t=true) (hn:b9 t=true):cA ss (bF t)=true\/dH es (bF t)=true:=by
 obtain ⟨_,_,_,h⟩:=wG ss es t.h t (Nat.le_refl _) hv
 unfold b9 at hn
 unfold bF
 revert h hn
 generalize dB t=u
 cases u with
 | mk k s n e=>
 intro hn h
 simp only [Ty.k,Bool.or_eq_true,beq_iff_eq] at hn
 rcases hn with rfl | rfl
 · left; rw [valF] at h; simp at h; exact h.1.1
 · right; rw [valF] at h; simp at h; exact h.1.1
theorem WX {ss:List St} {es:List En} {t:Ty} (hv:valF ss es t=true) (hk:((bL t).2.k == 6)=true):b9 t=true/\bF t=(bL t).2.n/\cA ss (bL t).2.n=true/\LOk t:=by
 obtain ⟨h1,h2,_,h⟩:=wG ss es t.h t (Nat.le_refl _) hv
 unfold b9 bF
 rw [h2] at h ⊢
 refine ⟨by rw [hk]; rfl,rfl,?_,h1⟩
 revert h hk
 generalize (bL t).2=u
 cases u with
 | mk k s n e=>
 intro hk h
 obtain rfl:k=6:=by simpa [Ty.k] using hk
 rw [valF] at h; simp at h; exact h.1.1
theorem fQ {ss:List St} {n:ByteArray} {t:St} (h:fS ss n=some t):t ∈ ss/\t.nm=n:=⟨List.mem_of_find?_eq_some h,by have:=List.find?_some h; simpa using this⟩
theorem IY {ss:List En} {n:ByteArray} {t:En} (h:eN ss n=some t):t ∈ ss/\t.nm=n:=⟨List.mem_of_find?_eq_some h,by have:=List.find?_some h; simpa using this⟩
theorem WB {ss:List St} {a b:ByteArray} (h:c9 ss a b):∃ t f,fS ss a=some t/\t ∈ ss/\f ∈ t.fs/\b9 f.ty=true/\bF f.ty=b:=by
 obtain ⟨f,hf,hn,hb⟩:=h
 cases hs:fS ss a with
 | none=>rw [hs] at hf; cases hf
 | some t=>rw [hs] at hf; exact ⟨t,f,rfl,(fQ hs).1,hf,hn,hb⟩
theorem PI {ss:List St} {es:List En} (g:Gd ss es) {a b:ByteArray} (h:Reach ss a b):cA ss b=true\/dH es b=true:=by
 have:∃ c,c9 ss c b:=by cases h with
  | one h=>exact ⟨_,h⟩
  | more _ h=>exact ⟨_,h⟩
 obtain ⟨c,h⟩:=this
 obtain ⟨t,f,_,ht,hf,hn,rfl⟩:=WB h
 exact aE0 (g.val t ht f hf) hn
theorem qB {α:Type} [DecidableEq α]:∀ {l m:List α},l.Nodup->(∀ x ∈ l,x ∈ m)->l.length<=m.length
 | [],_,_,_=>Nat.zero_le _
 | x :: l,m,h,hs=>by
  have h2:=List.nodup_cons.1 h
  have hx:=hs x List.mem_cons_self
  have:=qB (m:=m.erase x) h2.2 fun y hy=>(List.mem_erase_of_ne (fun e=>h2.1 (by rw [<-e]; exact hy))).2 (hs y (List.mem_cons_of_mem _ hy))
  rw [List.length_erase_of_mem hx] at this
  have hp:=List.length_pos_of_mem hx
  simp only [List.length_cons]; omega
theorem Gd.vlen {ss:List St} {es:List En} (g:Gd ss es) (n:ByteArray):(eD ss n).length<=32:=by
 have h:=qB (m:=ss.map (·.nm) ++ es.map (·.nm)) (p5 ss n) fun x hx=>by
  rw [f6] at hx
  rw [List.mem_append,List.mem_map,List.mem_map]
  rcases PI g hx with h | h
  · left; unfold cA at h; rw [List.any_eq_true] at h; obtain ⟨t,h1,h2⟩:=h; exact ⟨t,h1,of_decide_eq_true h2⟩
  · right; unfold dH at h; rw [List.any_eq_true] at h; obtain ⟨t,h1,h2⟩:=h; exact ⟨t,h1,of_decide_eq_true h2⟩
 have h1:=g.n
 have h2:=g.m
 simp only [List.length_append,List.length_map] at h
 omega
def n8 (ss:List St) (n:ByteArray):Nat:=ss.countP fun s=>bU (eD ss n) s.nm
theorem BE {α:Type} {p q:α->Bool}:∀ {l:List α},(∀ x ∈ l,p x=true->q x=true)->(∃ x ∈ l,q x=true/\p x=false)->l.countP p < l.countP q
 | [],_,⟨_,h,_⟩=>by cases h
 | y :: l,h,⟨x,hx,h1,h2⟩=>by
  have hm:=List.countP_mono_left fun z hz=>h z (List.mem_cons_of_mem _ hz)
  have hy:=h y List.mem_cons_self
  rw [List.countP_cons,List.countP_cons]
  rcases List.mem_cons.1 hx with rfl | hx
  · rw [h1,h2]; simp; omega
  · have:=BE (fun z hz=>h z (List.mem_cons_of_mem _ hz)) ⟨x,hx,h1,h2⟩
    cases hp:p y with
    | true=>rw [hy hp]; simp; exact this
    | false=>cases q y<;>simp<;>omega
theorem I0 (ss:List St) (n:ByteArray):n8 ss n<=ss.length:=List.countP_le_length
theorem yX {ss:List St} {n m:ByteArray} {u:St} (h:c9 ss n m) (hu:fS ss m=some u) (ha:AW ss):n8 ss m < n8 ss n:=by
 obtain ⟨h1,h2⟩:=fQ hu
 refine BE (fun s _ hs=>?_) ⟨u,h1,?_,?_⟩
 · rw [rD,f6] at hs ⊢; exact .head h hs
 · rw [rD,f6,h2]; exact .one h
 · rw [yC,f6,<-AL,<-yC]
   have:=ha u h1
   rw [h2] at this ⊢; exact this
theorem H0 {dp:ByteArray->Int} {B:Int} (hB:0<=B) {l:List Fl} (h:∀ f ∈ l,bX dp f.ty<=B):eI dp l<=B:=by
 have key:∀ (l:List Fl) (m:Int),m<=B->(∀ f ∈ l,bX dp f.ty<=B)->l.foldl (gF dp) m<=B:=by
  intro l
  induction l with
  | nil=>exact fun m hm _=>hm
  | cons f l ih=>exact fun m hm h=>ih _ (by have:=h f List.mem_cons_self; show max m (bX dp f.ty)<=B; omega) fun g hg=>h g (List.mem_cons_of_mem _ hg)
 exact key l 0 hB h
theorem jI (dp:ByteArray->Int) (l:List Fl):0<=eI dp l:=u3 dp l 0
theorem IK {dp:ByteArray->Int} {l:List Fl} {f:Fl} (h:f ∈ l):bX dp f.ty<=eI dp l:=by
 have key:∀ (l:List Fl) (m:Int),f ∈ l->bX dp f.ty<=l.foldl (gF dp) m:=by
  intro l
  induction l with
  | nil=>exact fun m h=>by cases h
  | cons g l ih=>
   intro m h
   rcases List.mem_cons.1 h with rfl | h
   · refine Int.le_trans ?_ (u3 dp l (max m (bX dp f.ty)))
     omega
   · exact ih _ h
 exact key l 0 h
theorem n3 {dp dq:ByteArray->Int} {l:List Fl} (h:∀ f ∈ l,bX dp f.ty=bX dq f.ty):eI dp l=eI dq l:=by
 have key:∀ (l:List Fl) (m:Int),(∀ f ∈ l,bX dp f.ty=bX dq f.ty)->l.foldl (gF dp) m=l.foldl (gF dq) m:=by
  intro l
  induction l with
  | nil=>exact fun _ _=>rfl
  | cons f l ih=>exact fun m h=>by rw [List.foldl_cons,List.foldl_cons,gF,h f List.mem_cons_self]; exact ih _ fun g hg=>h g (List.mem_cons_of_mem _ hg)
 exact key l 0 h
def dK:Nat:=99
def dD (ss:List St) (n:ByteArray):Int:=dN ss (dK + 1) n
theorem VQ (ss:List St) (N:Nat) (n:ByteArray):dN ss (N + 1) n=eI (dN ss N) ((fS ss n).getD default).fs + 1:=rfl
theorem T8:dK=99:=rfl
theorem NA (ss:List St) (n:ByteArray):dD ss n=dN ss (dK + 1) n:=rfl
attribute [irreducible] dK
theorem ZJ (ss:List St):∀ (N:Nat) (n:ByteArray),1<=dN ss N n
 | 0,_=>Int.le_refl _
 | N + 1,n=>by have:=jI (dN ss N) ((fS ss n).getD default).fs; rw [dN]; omega
theorem VG {ss:List St} {es:List En} (g:Gd ss es):∀ (N:Nat) (n:ByteArray),dN ss N n<=1 + N * 1000000001
 | 0,_=>by rw [dN]; omega
 | N + 1,n=>by
  have:eI (dN ss N) ((fS ss n).getD default).fs<=1000000001 + N * 1000000001:=by
   refine H0 (by omega) fun f hf=>?_
   cases hs:fS ss n with
   | none=>rw [hs] at hf; cases hf
   | some t=>
    rw [hs] at hf
    have h1:=g.lv t (fQ hs).1 f hf
    have h2:=VG g N (bL f.ty).2.n
    unfold bX
    cases (bL f.ty).2.k == 6<;>simp only [bI,aX]<;>omega
  rw [dN]; omega
theorem y9 {ss:List St} {es:List En} (g:Gd ss es) {n:ByteArray} {t:St} (hs:fS ss n=some t) {f:Fl} (hf:f ∈ t.fs) (hk:((bL f.ty).2.k == 6)=true):c9 ss n (bL f.ty).2.n/\∃ u,fS ss (bL f.ty).2.n=some u:=by
 obtain ⟨h1,h2,h3,_⟩:=WX (g.val t (fQ hs).1 f hf) hk
 refine ⟨⟨f,by rw [hs]; exact hf,h1,h2⟩,?_⟩
 rw [<-p6] at h3
 exact Option.isSome_iff_exists.1 h3
theorem AU {ss:List St} {es:List En} (g:Gd ss es) (ha:AW ss):∀ (N:Nat) (n:ByteArray),n8 ss n < N->dN ss (N + 1) n=dN ss N n
 | 0,_,h=>absurd h (Nat.not_lt_zero _)
 | N + 1,n,h=>by
  rw [dN,dN]
  congr 1
  refine n3 fun f hf=>?_
  cases hs:fS ss n with
  | none=>rw [hs] at hf; cases hf
  | some t=>
   rw [hs] at hf
   unfold bX
   cases hk:(bL f.ty).2.k == 6 with
   | false=>rfl
   | true=>
    obtain ⟨h1,u,h2⟩:=y9 g hs hf hk
    have:=yX h1 h2 ha
    rw [AU g ha N _ (by omega)]
theorem KI (ss:List St) (n:ByteArray):0<=dD ss n:=Int.le_trans (by decide) (ZJ ss (dK + 1) n)
theorem QW {ss:List St} {es:List En} (g:Gd ss es) (n:ByteArray):dD ss n<=1000000000000:=by
 refine Int.le_trans (VG g (dK + 1) n) ?_
 have:=T8
 generalize dK=k at *
 subst this
 decide
theorem aFO {ss:List St} {es:List En} (g:Gd ss es) (ha:AW ss) (f:Fl):bX (dN ss dK) f.ty=bX (dD ss) f.ty:=by
 have h2:=I0 ss (bL f.ty).2.n
 have h3:=g.n
 have h4:=T8
 have h5:=AU g ha dK (bL f.ty).2.n (by omega)
 unfold bX
 rw [NA,h5]
theorem JU {ss:List St} {es:List En} (g:Gd ss es) (ha:AW ss) {n:ByteArray} {t:St} (hs:fS ss n=some t):dD ss n=eI (dD ss) t.fs + 1:=by
 have h1:=VQ ss dK n
 have h2:eI (dN ss dK) t.fs=eI (dD ss) t.fs:=n3 fun f _=>aFO g ha f
 rw [hs,Option.getD_some,h2] at h1
 rw [NA]
 exact h1
theorem Gd.dp {ss:List St} {es:List En} (g:Gd ss es) (ha:AW ss):Dp ss (dD ss) (n8 ss):=by
 refine ⟨g.ok,fun n t hs=>JU g ha hs,KI ss,QW g,fun n t hs f hf=>(wG ss es _ _ (Nat.le_refl _) (g.val t (fQ hs).1 f hf)).1,fun n t hs f hf hk=>?_⟩
 obtain ⟨h1,u,h2⟩:=y9 g hs hf hk
 exact ⟨u,h2,yX h1 h2 ha⟩
def jF (ss:List St):Int:=bif ss.any (fun t=>bU (dW ss t.nm) t.nm) then 19 else bif ss.any (fun t=>decide (6 < dD ss t.nm)) then 9 else 0
def Z4:W.Spec:=fun av H K=>∃ (s:Sc) (ks:List Value) (vs:List St) (ks':List Value) (vs':List En),av=[.va (.gs (aJ s)),j6]/\H=dY ks vs ks' vs'/\
 iK ks vs s.ss/\Gd s.ss s.es/\s.ok/\K (iS .i64 (jF s.ss)) (dY ks vs ks' vs')
theorem YB {s:Sc} {ks:List Value} {vs:List St} {ks':List Value} {vs':List En} {K:S->Hp->Prop} (h1:iK ks vs s.ss) (h2:Gd s.ss s.es) (h3:s.ok) (hK:K (iS .i64 (jF s.ss)) (dY ks vs ks' vs')) :
 Z4 [.va (.gs (aJ s)),j6] (dY ks vs ks' vs') K:=⟨s,ks,vs,ks',vs',rfl,rfl,h1,h2,h3,hK⟩
theorem hT {α:Type} {l:List α} {p:α->Bool} (h:l.any p=false):∀ x ∈ l,p x=false:=fun x hx=>by
 rw [List.any_eq_false] at h; simpa using h x hx
theorem PY:Meets Tryz.prog 73 Z4:=by
 refine aD Tryz.func73 aMG 2 (by rw [Tryz.ntmps73]; decide) (aC aHW (aH wP (aC aEV (aB _)))) (fun av H K h=>by obtain ⟨_,_,_,_,_,rfl,_⟩:=h; rfl) ?_
 rintro av H K ⟨s,ks,vs,ks',vs',rfl,rfl,h1,hg,hs,hK⟩
 have fin:∀ (x:Int) (R:Hp),jF s.ss=x->W.Fin 2 K (iS .i64 x) (.map .string ks (vs.map fL) :: .map .string ks' (vs'.map fU) :: R):=fun x R h=>by
  rw [h] at hK
  exact .sel [0,1] (by simp) (by simp) rfl (.done (by simp -dsimp only [go_sem]; simpa using hK))
 obtain ⟨_,_,hls,_,hss⟩:=hs
 simp -dsimp only [go_sem,aJ,aA7,aE5]
 refine aU (α:=Nat) (fun i=>[(2,.va (.c1 (.pt 2 0))),(3,.va (.c1 (.pt 3 0))),(10,.va (.c1 (.fz (s.ss.map aI)))),(11,iS .i64 s.ss.length),(12,iS .i64 i)]) (fun _=>[.map .string ks (vs.map fL),.map .string ks' (vs'.map fU),.cells (aJ s) 25,.cells [.mp 0,.mp 1] 124])
  (fun i=>i<=s.ss.length/\(s.ss.drop i).any (fun t=>bU (dW s.ss t.nm) t.nm)=s.ss.any (fun t=>bU (dW s.ss t.nm) t.nm)) (fun i=>s.ss.length - i) 0 4 ⟨Nat.zero_le _,rfl⟩ ?_ ?_ ?_
 · simp -dsimp only [go_sem]<;>simp
 · simp -dsimp only [go_sem,aJ]<;>simp
 rintro i ⟨hi,ho⟩
 rcases a8 i s.ss.length with hlt | hge
 · have hgi:decide ((i:Int) < (s.ss.length:Int))=true:=by simp; omega
   obtain ⟨t,hx⟩:∃ t,s.ss[i]? = some t:=⟨_,aV hlt⟩
   have q1:=aY (row:=aI) hx
   rw [eS hx] at ho
   have hv:=hg.vlen t.nm
   have hbs:FH ((dW s.ss t.nm).map bZ):=yW (by rw [M3]; omega)
   simp (maxSteps:=1000000) -dsimp only [go_sem,hgi,↓q1,aI,aJ]
   refine ⟨by omega,ZN h1 hss (by omega) ?_⟩
   simp (maxSteps:=1000000) -dsimp only [go_sem,hbs]
   cases hc:bU (dW s.ss t.nm) t.nm with
   | true=>
    rw [hc,Bool.true_or] at ho
    simp -dsimp only [go_sem]
    exact fin 19 _ (by unfold jF; rw [<-ho]; rfl)
   | false=>
    rw [hc,Bool.false_or] at ho
    simp -dsimp only [go_sem]
    refine ⟨by omega,aE (i + 1) 4 ⟨by omega,ho⟩ (by omega) ?_ ?_⟩
    · simp -dsimp only [go_sem]<;>simp
    · simp -dsimp only [go_sem,aJ]<;>simp
 · have hgi:decide ((i:Int) < (s.ss.length:Int))=false:=by simp; omega
   obtain rfl:i=s.ss.length:=by omega
   rw [fW] at ho
   have ha:AW s.ss:=fun t ht=>hT ho.symm t ht
   have hD:=hg.dp ha
   have hF:jF s.ss=bif s.ss.any (fun t=>decide (6 < dD s.ss t.nm)) then 9 else 0:=by unfold jF; rw [<-ho]; rfl
   simp -dsimp only [go_sem,hgi,aJ]
   refine aU (α:=Nat) (fun i=>[(3,.va (.c1 (.pt 3 0))),(25,.va (.c1 (.fz (s.ss.map aI)))),(26,iS .i64 s.ss.length),(27,iS .i64 i)]) (fun _=>[.map .string ks (vs.map fL),.map .string ks' (vs'.map fU),.cells (aJ s) 25,.cells [.mp 0,.mp 1] 124])
    (fun i=>i<=s.ss.length/\(s.ss.drop i).any (fun t=>decide (6 < dD s.ss t.nm))=s.ss.any (fun t=>decide (6 < dD s.ss t.nm))) (fun i=>s.ss.length - i) 0 4 ⟨Nat.zero_le _,rfl⟩ ?_ ?_ ?_
   · simp -dsimp only [go_sem]<;>simp
   · simp -dsimp only [go_sem,aJ]<;>simp
   clear ho
   rintro i ⟨hi,ho⟩
   rcases a8 i s.ss.length with hlt | hge
   · have hgi:decide ((i:Int) < (s.ss.length:Int))=true:=by simp; omega
     obtain ⟨t,hx⟩:∃ t,s.ss[i]? = some t:=⟨_,aV hlt⟩
     have q1:=aY (row:=aI) hx
     rw [eS hx] at ho
     have hnd:=hg.nd t (b5 hx)
     simp (maxSteps:=1000000) -dsimp only [go_sem,hgi,↓q1,aI,aJ]
     refine ⟨by omega,YX h1 hD hnd ?_⟩
     simp (maxSteps:=1000000) -dsimp only [go_sem]
     cases hc:decide (6 < dD s.ss t.nm) with
     | true=>
      rw [hc,Bool.true_or] at ho
      simp -dsimp only [go_sem]
      exact fin 9 _ (by rw [hF,<-ho]; rfl)
     | false=>
      rw [hc,Bool.false_or] at ho
      simp -dsimp only [go_sem]
      refine ⟨by omega,aE (i + 1) 4 ⟨by omega,ho⟩ (by omega) ?_ ?_⟩
      · simp -dsimp only [go_sem]<;>simp
      · simp -dsimp only [go_sem,aJ]<;>simp
   · have hgi:decide ((i:Int) < (s.ss.length:Int))=false:=by simp; omega
     obtain rfl:i=s.ss.length:=by omega
     rw [fW] at ho
     simp -dsimp only [go_sem,hgi,aJ]
     exact fin 0 _ (by rw [hF,<-ho]; rfl)
def oR (s:Sc) (i:Nat):Int:=match s.es[i]? with
 | some e=>bif !(s5 (bl e.nm)) then 5 else bif dH (s.es.take i) e.nm then 7 else mY e
 | none=>0
def oE (s:Sc) (i:Nat):Int:=match s.ss[i]? with
 | some t=>bif hS s i t.nm != 0 then hS s i t.nm else sQ s.ss s.es t
 | none=>0
def F3 (s:Sc):Int:=fE (oR s) (s.es.length - 0) 0
def BL (s:Sc):Int:=fE (oE s) (s.ss.length - 0) 0
def bN (s:Sc):Int:=bif decide (s.ver < 1) || decide (999 < s.ver) then 4 else bif dS s then 3 else bif F3 s != 0 then F3 s else bif BL s != 0 then BL s else jF s.ss
inductive TySm:Ty->Prop
 | mk {k s:Int} {n:ByteArray} {e:List Ty}:e.length<=1000000000->(∀ t ∈ e,TySm t)->TySm (.mk k s n e)
structure Sc.fit (s:Sc):Prop where
 ok:s.ok
 lv:∀ t ∈ s.ss,∀ f ∈ t.fs,(bL f.ty).1<=1000000000
 sm:∀ t ∈ s.ss,t.fs.length<=1000000000/\∀ f ∈ t.fs,TySm f.ty
 en:∀ e ∈ s.es,e.ns.length<=1000000000/\e.vs.length<=1000000000
theorem LP {f:Nat->Int} {m:Nat}:∀ (k i:Nat),i + k=m->fE f (m - i) i=0->∀ j,i<=j->j < m->f j=0
 | 0,i,h,_=>fun j h1 h2=>by omega
 | k + 1,i,h,h0=>fun j h1 h2=>by
  have hi:i < m:=by omega
  by_cases e:f i=0
  · rw [uS hi e] at h0
    rcases a8 i j with h3 | h3
    · exact LP k (i + 1) (by omega) h0 j h3 h2
    · obtain rfl:i=j:=by omega
      exact e
  · rw [qH hi e] at h0; exact absurd h0 e
theorem jD {f:Nat->Int} {m:Nat} (h:fE f (m - 0) 0=0):∀ j,j < m->f j=0:=fun j hj=>LP m 0 (by omega) h j (Nat.zero_le _) hj
theorem PH {ss:List St} {i:Nat} {t:St} (hx:ss[i]? = some t) (h:cA (ss.take i) t.nm=false):fS ss t.nm=some t:=by
 obtain ⟨hl,ht⟩:=bB.1 hx
 have h1:(ss.take i).find? (fun s=>decide (s.nm=t.nm))=none:=by
  rw [List.find?_eq_none]
  intro x hx
  have:=hT h x hx
  simpa using this
 have h2:ss=ss.take i ++ (t :: ss.drop (i + 1)):=by rw [<-ht,<-List.drop_eq_getElem_cons hl,List.take_append_drop]
 unfold fS
 rw [h2,List.find?_append,h1]
 simp
theorem WU {ss:List St} {es:List En} {t:St} (h:sQ ss es t=0):∀ f ∈ t.fs,(1<=f.num/\f.num<=127)/\cT (bl f.nm)=true/\valF ss es f.ty=true:=fun f hf=>by
 obtain ⟨i,hi⟩:=List.mem_iff_getElem?.1 hf
 have:=jD h i (bB.1 hi).1
 unfold mN at this
 rw [hi] at this
 simp only at this
 cases c1:decide (f.num < 1) || decide (127 < f.num) with
 | true=>rw [c1] at this; simp at this
 | false=>
 rw [c1] at this
 simp only [aX] at this
 revert this
 generalize (decide (0 < (i:Int)) && (match t.fs[i - 1]? with | some g=>decide (f.num<=g.num) | none=>false))=b
 intro this
 cases b with
 | true=>simp at this
 | false=>
 simp only [aX] at this
 simp only [Bool.or_eq_false_iff,decide_eq_false_iff_not] at c1
 refine ⟨by omega,?_⟩
 cases c2:cT (bl f.nm) with
 | false=>rw [c2] at this; simp at this
 | true=>
 rw [c2] at this
 cases c3:(t.fs.take i).any (fun g=>decide (g.nm=f.nm)) with
 | true=>rw [c3] at this; simp at this
 | false=>
 rw [c3] at this
 cases c4:valF ss es f.ty with
 | false=>rw [c4] at this; simp at this
 | true=>exact ⟨rfl,rfl⟩
theorem WZ {s:Sc} {i:Nat} {n:ByteArray} (h:hS s i n=0):s5 (bl n)=true/\dH s.es n=false/\cA (s.ss.take i) n=false:=by
 unfold hS at h
 cases c1:s5 (bl n) with
 | false=>rw [c1] at h; simp at h
 | true=>
 rw [c1] at h
 cases c2:dH s.es n with
 | true=>rw [c2] at h; simp at h
 | false=>
 rw [c2] at h
 cases c3:cA (s.ss.take i) n with
 | true=>rw [c3] at h; simp at h
 | false=>exact ⟨rfl,rfl,rfl⟩
theorem GM {s:Sc} {i:Nat} {t:St} (hx:s.ss[i]? = some t) (h:oE s i=0):hS s i t.nm=0/\sQ s.ss s.es t=0:=by
 unfold oE at h
 rw [hx] at h
 simp only at h
 by_cases e:hS s i t.nm=0
 · rw [e] at h; exact ⟨e,by simpa using h⟩
 · rw [show (hS s i t.nm != 0)=true by simpa using e] at h
   exact absurd h e
theorem HU {s:Sc} {i:Nat} {t:En} (hx:s.es[i]? = some t) (h:oR s i=0):s5 (bl t.nm)=true/\dH (s.es.take i) t.nm=false/\mY t=0:=by
 unfold oR at h
 rw [hx] at h
 simp only at h
 cases c1:s5 (bl t.nm) with
 | false=>rw [c1] at h; simp at h
 | true=>
 rw [c1] at h
 cases c2:dH (s.es.take i) t.nm with
 | true=>rw [c2] at h; simp at h
 | false=>
 rw [c2] at h
 exact ⟨rfl,rfl,by simpa using h⟩
theorem sZ {s:Sc} (h:dS s=false):s.es.length<=16/\s.es.length + s.ss.length<=16/\(∀ e ∈ s.es,e.ns.length<=16)/\∀ t ∈ s.ss,t.fs.length<=16:=by
 unfold dS at h
 simp only [Bool.or_eq_false_iff,decide_eq_false_iff_not] at h
 obtain ⟨⟨⟨h1,h2⟩,h3⟩,h4⟩:=h
 refine ⟨by omega,by omega,fun e he=>?_,fun t ht=>?_⟩
 · have:=hT h3 e he; simp at this; exact this
 · have:=hT h4 t ht; simp at this; exact this
theorem HP {s:Sc} (hf:s.fit) (h1:dS s=false) (h2:BL s=0):Gd s.ss s.es:=by
 obtain ⟨l1,l2,l3,l4⟩:=sZ h1
 have key:∀ t ∈ s.ss,∃ i,s.ss[i]? = some t/\hS s i t.nm=0/\sQ s.ss s.es t=0:=fun t ht=>by
  obtain ⟨i,hi⟩:=List.mem_iff_getElem?.1 ht
  exact ⟨i,hi,GM hi (jD h2 i (bB.1 hi).1)⟩
 refine ⟨hf.ok.ss,by omega,by omega,fun t ht f hm=>?_,hf.lv,fun t ht=>?_⟩
 · obtain ⟨i,hi,c1,c2⟩:=key t ht
   exact (WU c2 f hm).2.2
 · obtain ⟨i,hi,c1,c2⟩:=key t ht
   exact PH hi (WZ c1).2.2
def mC (r:List C):Prop:=∃ s:Sc,r=aJ s/\s.fit
theorem oJ {s:Sc} (h:s.fit):mC (aJ s):=⟨s,rfl,h⟩
noncomputable def ckFn:Fun:=uW mC C.sc fun s=>.int .i64 (bN s)
attribute [go_sem] ckFn
theorem uM {a b:Int} (h:a ≠ 0):(bif a != 0 then a else b)=a:=by rw [bne,beq_eq_false_iff_ne.2 h]; rfl
theorem zL {a b:Int} (h:a=0):(bif a != 0 then a else b)=b:=by rw [h]; rfl
theorem aBR:Meets Tryz.prog 39 ckFn.sp:=by
 refine aD Tryz.func39 aNU 1 (by rw [Tryz.ntmps39]; decide) (aH ZW (aH AX (aH JN (aC OE (aH JC (aC C6 (aC PY (aB _)))))))) q9 ?_
 rintro av H K ⟨⟨h,rfl⟩,hK⟩
 obtain ⟨_,rfl,s,rfl,hs⟩:=hO h
 have hK:K (iS .i64 (bN s)) []:=by
  have:ckFn.val [.va (.gs (aJ s))]=iA .i64 (bN s):=by simp -dsimp only [go_sem]
  rw [this] at hK; exact hK
 clear h
 have hfit:=hs
 have hsc:ED (aJ s):=WY hs.ok
 obtain ⟨⟨hv,hle,hls,hes,hss⟩,hlv,_,_⟩:=hs
 have fin:∀ (x:Int) (R:Hp),bN s=x->W.Fin 0 K (iS .i64 x) R:=fun x R h1=>by
  rw [h1] at hK
  exact .sel [] (by simp) (by simp) rfl (.done (by simpa [go_sem] using hK))
 have hsc':=hsc
 simp only [aJ] at hsc'
 have hdec:C.sc [.vl (.int .i64 s.ver),.fz (s.es.map a6),.fz (s.ss.map aI)]=s:=lL s
 simp (maxSteps:=1000000) -dsimp only [go_sem,aJ,aEA,aD6,hsc',hdec]
 refine ⟨fun h1=>fin 4 _ (by unfold bN; rw [h1]; rfl),fun c1=>⟨fun h1=>fin 3 _ (by unfold bN; rw [c1,h1]; rfl),fun c2=>?_⟩⟩
 have hF:bN s=bif F3 s != 0 then F3 s else bif BL s != 0 then BL s else jF s.ss:=by unfold bN; rw [c1,c2]; rfl
 refine aU (α:=Nat) (fun i=>[(1,.va (.c1 (.pt 0 0))),(24,.va (.c1 (.fz (s.es.map a6)))),(25,iS .i64 s.es.length),(26,iS .i64 i)]) (fun _=>[.cells (aJ s) 25])
  (fun i=>i<=s.es.length/\fE (oR s) (s.es.length - i) i=F3 s) (fun i=>s.es.length - i) 0 1 ⟨Nat.zero_le _,rfl⟩ ?_ ?_ ?_
 · simp -dsimp only [go_sem]<;>simp
 · simp -dsimp only [go_sem,aJ]<;>simp
 rintro i ⟨hi,ho⟩
 rcases a8 i s.es.length with hlt | hge
 · have hg:decide ((i:Int) < (s.es.length:Int))=true:=by simp; omega
   obtain ⟨e,hx⟩:∃ e,s.es[i]? = some e:=⟨_,aV hlt⟩
   have q1:=aY (row:=a6) hx
   have he:e.ok:=hes e (b5 hx)
   have hie:J5 (a6 e):=W3 he
   have hie':=hie
   simp only [a6] at hie'
   have hed:C.en [.vl (.string e.nm),.fz (e.ns.map bZ),.fz (e.vs.map eH)]=e:=aAJ e
   have hA:oR s i=bif !(s5 (bl e.nm)) then 5 else bif dH (s.es.take i) e.nm then 7 else mY e:=by unfold oR; rw [hx]
   have fin':∀ (x:Int) (R:Hp),oR s i=x->x ≠ 0->W.Fin 0 K (iS .i64 x) R:=fun x R h1 h2=>fin x R (by
    rw [hF,<-ho,qH hlt (by rw [h1]; exact h2),h1]; exact uM h2)
   have gA:oR s i=0->fE (oR s) (s.es.length - (i + 1)) (i + 1)=F3 s:=fun h1=>by rw [<-ho,uS hlt h1]
   simp (maxSteps:=1000000) -dsimp only [go_sem,hg,↓q1,a6,aJ]
   refine ⟨by omega,fun h1=>fin' 5 _ (by rw [hA,h1]; rfl) (by decide),fun c3=>?_⟩
   rw [c3] at hA
   simp only [aX] at hA
   have hlj:=lI s.es i
   simp -dsimp only [eR XM]
   refine ⟨by simp; omega,?_⟩
   generalize hm:s.es.take i=m at *
   refine aU (α:=Nat) (fun j=>[(1,.va (.c1 (.pt 0 0))),(4,.va (.c1 (.pt 1 0))),(24,.va (.c1 (.fz (s.es.map a6)))),(25,iS .i64 s.es.length),(26,iS .i64 i),(38,.va (.c1 (.fz (m.map a6)))),(39,iS .i64 m.length),(40,iS .i64 j)]) (fun _=>[.cells (aJ s) 25,.cells (a6 e) 118])
    (fun j=>j<=m.length/\dH (m.drop j) e.nm=dH m e.nm) (fun j=>m.length - j) 0 2 ⟨Nat.zero_le _,rfl⟩ ?_ ?_ ?_
   · simp -dsimp only [go_sem]<;>simp
     rw [<-hm]; exact ⟨List.map_take.symm,by simp⟩
   · simp -dsimp only [go_sem,aJ,a6]<;>simp
   rintro j ⟨hj,ho2⟩
   rcases a8 j m.length with hjt | hjg
   · have hgj:decide ((j:Int) < (m.length:Int))=true:=by simp; omega
     obtain ⟨d,hd⟩:∃ e,m[j]? = some e:=⟨_,aV hjt⟩
     have q5:=aY (row:=a6) hd
     rw [dH,eS hd] at ho2
     simp (maxSteps:=1000000) -dsimp only [go_sem,hgj,↓q5,a6,aJ,eL]
     and_intros
     all_goals first
      | omega
      | skip
     · intro hc
       rw [hc,Bool.true_or] at ho2
       exact fin' 7 _ (by rw [hA,<-ho2]; rfl) (by decide)
     · intro hc
       rw [hc,Bool.false_or] at ho2
       refine ⟨by omega,aE (j + 1) 2 ⟨by omega,ho2⟩ (by omega) ?_ ?_⟩
       · simp -dsimp only [go_sem]<;>simp
       · simp -dsimp only [go_sem,aJ,a6]<;>simp
   · have hgj:decide ((j:Int) < (m.length:Int))=false:=by simp; omega
     obtain rfl:j=m.length:=by omega
     rw [dH,fW] at ho2
     rw [<-ho2] at hA
     simp only [aX] at hA
     simp (maxSteps:=1000000) -dsimp only [go_sem,hgj,a6,aJ,hie',hed]
     refine ⟨fun h1=>fin' _ _ hA (by simpa using h1),fun h1=>?_⟩
     refine ⟨by omega,aE (i + 1) 1 ⟨by omega,gA (by rw [hA]; simpa using h1)⟩ (by omega) ?_ ?_⟩
     · simp -dsimp only [go_sem]<;>simp
     · simp -dsimp only [go_sem,aJ]<;>simp
 · have hg:decide ((i:Int) < (s.es.length:Int))=false:=by simp; omega
   obtain rfl:i=s.es.length:=by omega
   rw [v2] at ho
   rw [zL ho.symm] at hF
   simp (maxSteps:=1000000) -dsimp only [go_sem,hg,aJ]
   refine aER hfit.ok fun ks vs ks' vs' x1 x2=>?_
   simp (maxSteps:=1000000) -dsimp only [go_sem]
   clear hi hge hg
   refine aU (α:=Nat) (fun i=>[(1,.va (.c1 (.pt 0 0))),(8,.va (.c1 (.pt 3 0))),(59,.va (.c1 (.fz (s.ss.map aI)))),(60,iS .i64 s.ss.length),(61,iS .i64 i)]) (fun _=>[.cells (aJ s) 25,.map .string ks (vs.map fL),.map .string ks' (vs'.map fU),.cells [.mp 1,.mp 2] 124])
    (fun i=>i<=s.ss.length/\fE (oE s) (s.ss.length - i) i=BL s) (fun i=>s.ss.length - i) 0 4 ⟨Nat.zero_le _,rfl⟩ ?_ ?_ ?_
   · simp -dsimp only [go_sem]<;>simp
   · simp -dsimp only [go_sem,aJ]<;>simp
   clear ho
   rintro i ⟨hi,ho⟩
   rcases a8 i s.ss.length with hlt | hge
   · have hg:decide ((i:Int) < (s.ss.length:Int))=true:=by simp; omega
     obtain ⟨t,hx⟩:∃ e,s.ss[i]? = some e:=⟨_,aV hlt⟩
     have q1:=aY (row:=aI) hx
     have ht:t.ok:=hss t (b5 hx)
     have hA:oE s i=bif hS s i t.nm != 0 then hS s i t.nm else sQ s.ss s.es t:=by unfold oE; rw [hx]
     have fin':∀ (x:Int) (R:Hp),oE s i=x->x ≠ 0->W.Fin 0 K (iS .i64 x) R:=fun x R h1 h2=>fin x R (by
      rw [hF,<-ho,qH hlt (by rw [h1]; exact h2),h1]; exact uM h2)
     have gA:oE s i=0->fE (oE s) (s.ss.length - (i + 1)) (i + 1)=BL s:=fun h1=>by rw [<-ho,uS hlt h1]
     have q0:decide (0<=(i:Int))=true:=by simp
     simp (maxSteps:=1000000) -dsimp only [go_sem,hg,↓q1,aI,aJ,hsc',hdec,Int.toNat_natCast]
     refine ⟨by omega,⟨by omega,by omega⟩,fun h1=>fin' _ _ (by rw [hA]; exact uM (by simpa using h1)) (by simpa using h1),fun h1=>?_⟩
     have h1:hS s i t.nm=0:=by simpa using h1
     rw [zL h1] at hA
     refine ZE x1 x2 ht ?_
     simp (maxSteps:=1000000) -dsimp only [go_sem]
     refine ⟨fun h1=>fin' _ _ hA (by simpa using h1),fun h1=>?_⟩
     refine ⟨by omega,aE (i + 1) 4 ⟨by omega,gA (by rw [hA]; simpa using h1)⟩ (by omega) ?_ ?_⟩
     · simp -dsimp only [go_sem]<;>simp
     · simp -dsimp only [go_sem,aJ]<;>simp
   · have hg:decide ((i:Int) < (s.ss.length:Int))=false:=by simp; omega
     obtain rfl:i=s.ss.length:=by omega
     rw [v2] at ho
     rw [zL ho.symm] at hF
     simp (maxSteps:=1000000) -dsimp only [go_sem,hg,aJ]
     refine YB x1 (HP hfit c2 ho.symm) hfit.ok ?_
     simp (maxSteps:=1000000) -dsimp only [go_sem]
     exact fin _ _ hF
def okS (s:Sc) (n:ByteArray):Bool:=bN s == 0 && cA s.ss n
def aEN (N:Nat):W.Spec:=fun av H K=>∃ t:Ty,av=[.va (.gs (aW t))]/\H=[]/\TyOk t/\TySm t/\t.h<=N/\K (.va (.gs (aW t))) []
theorem L4 {N:Nat} {t:Ty} {K:S->Hp->Prop} (h1:TyOk t) (h2:TySm t) (h3:t.h<=N) (hK:K (.va (.gs (aW t))) []):aEN N [.va (.gs (aW t))] [] K:=⟨t,rfl,rfl,h1,h2,h3,hK⟩
theorem eO {α:Type} {l:List α} {i:Nat} {x:α} (h:l[i]? = some x):l.take (i + 1)=l.take i ++ [x]:=by rw [List.take_add_one,h]; rfl
theorem MO (t:Ty):∀ c ∈ aW t,c.shut=true/\c.one:=by rw [aS]; simp [go_sem,C.shut]
theorem AG:∀ N,Meets Tryz.prog 137 (aEN N)
 | 0=>⟨by kernel_rfl,by rintro xs vs E ro w K _ _ _ ⟨t,_,_,_,_,h,_⟩; have:=t.h_pos; omega⟩
 | N + 1=>by
  refine aD Tryz.func137 aHD 1 (by rw [Tryz.ntmps137]; decide) (aC (AG N) (aB _)) (fun av H K h=>by obtain ⟨_,rfl,_⟩:=h; rfl) ?_
  rintro av H K ⟨⟨k,s,n,e⟩,rfl,rfl,h1,h2,h3,hK⟩
  have hle:=h1.len
  have hoe:=h1.e
  obtain ⟨hl,hse⟩:e.length<=1000000000/\∀ t ∈ e,TySm t:=by cases h2; exact ⟨by assumption,by assumption⟩
  simp only [Ty.e] at hle hoe
  simp (maxSteps:=1000000) -dsimp only [go_sem,aW,bH,Q5,SC]
  refine cM (α:=Nat) (fun i=>[(2,.va (.c1 (.pt 1 0))),(3,.va (.c1 (.pt 2 0))),(14,.va (.c1 (.fz (e.map aW)))),(15,iS .i64 e.length),(16,iS .i64 i)]) (fun i=>[.cells (aW (.mk k s n e)) 42,.cells [.vl (.int .i64 0),.vl (.int .i64 0),.vl (.string (mk [])),.vl (.slice none 0 0)] 42,.cells [.vl (.int .i64 k),.vl (.int .i64 s),.vl (.string n),.sl 3 i] 42,.row ((e.take i).map aW) 42 4])
   (fun i=>i<=e.length) (fun i=>e.length - i) (.nilc 2 3 42 4 [.vl (.int .i64 k),.vl (.int .i64 s),.vl (.string n),.vl (.slice none 0 0)] 42 rfl rfl (jJ 0 4 (Nat.zero_le _) ?_ ?_)) ?_
  · simp -dsimp only [go_sem]<;>simp
  · simp -dsimp only [go_sem,aW,bH]<;>simp
  intro i hi
  have hz:(e.take i).length=i:=by rw [List.length_take]; omega
  rcases a8 i e.length with hlt | hge
  · have hg:decide ((i:Int) < (e.length:Int))=true:=by simp; omega
    obtain ⟨u,hx⟩:∃ t,e[i]? = some t:=⟨_,aV hlt⟩
    have q1:=aY (row:=aW) hx
    have hu:=b5 hx
    simp (maxSteps:=1000000) -dsimp only [go_sem,hg,↓q1,dO]
    refine ⟨by omega,qZ u,L4 (hoe u hu) (hse u hu) ?_ ?_⟩
    · have:=Ty.hs_mem hu; rw [Ty.h] at h3; omega
    simp (maxSteps:=1000000) -dsimp only [go_sem,dO]
    refine ⟨MO u,MO u,hz,by omega,by omega,aE (i + 1) 4 (by omega) (by omega) ?_ ?_⟩
    · simp -dsimp only [go_sem]<;>simp
    · simp -dsimp only [go_sem,aW,bH,eO hx]<;>simp
  · have hg:decide ((i:Int) < (e.length:Int))=false:=by simp; omega
    obtain rfl:i=e.length:=by omega
    rw [List.take_length]
    simp (maxSteps:=1000000) -dsimp only [go_sem,hg]
    refine .pub 3 _ _ _ rfl (.sel [] (by simp) (by simp [cG]) rfl (.done ?_))
    simp -dsimp only [go_sem,cG]
    simpa [aW,bH] using hK
def aBN:W.Spec:=fun av H K=>∃ f:Fl,av=[.va (.gs (aR f))]/\H=[]/\f.ok/\TySm f.ty/\K (.va (.gs (aR f))) []
theorem LU {f:Fl} {K:S->Hp->Prop} (h1:f.ok) (h2:TySm f.ty) (hK:K (.va (.gs (aR f))) []):aBN [.va (.gs (aR f))] [] K:=⟨f,rfl,rfl,h1,h2,hK⟩
theorem uV:Meets Tryz.prog 96 aBN:=by
 refine d5 0 (t:=fun N=>fun av H K=>∃ f:Fl,av=[.va (.gs (aR f))]/\H=[]/\f.ok/\TySm f.ty/\f.ty.h=N/\K (.va (.gs (aR f))) []) (fun N=>?_) fun av H K ⟨f,e1,e2,h1,h2,hK⟩=>⟨f.ty.h,f,e1,e2,h1,h2,rfl,hK⟩
 refine aD Tryz.func96 aKZ 1 (by rw [Tryz.ntmps96]; decide) (aC (AG N) (aB _)) (fun av H K h=>by obtain ⟨_,rfl,_⟩:=h; rfl) ?_
 rintro av H K ⟨f,rfl,rfl,h1,h2,rfl,hK⟩
 simp (maxSteps:=1000000) -dsimp only [go_sem,aR,aCD,aAY,mF]
 refine L4 h1.ty h2 (Nat.le_refl _) ?_
 simp (maxSteps:=1000000) -dsimp only [go_sem,aS]
 exact .sel [] (by simp) (by simp) rfl (.done (by simpa [go_sem,aR] using hK))
def SQ:W.Spec:=fun av H K=>∃ t:St,av=[.va (.gs (aI t))]/\H=[]/\t.ok/\(t.fs.length<=1000000000/\∀ f ∈ t.fs,TySm f.ty)/\K (.va (.gs (aI t))) []
theorem aAD {t:St} {K:S->Hp->Prop} (h1:t.ok) (h2:t.fs.length<=1000000000/\∀ f ∈ t.fs,TySm f.ty) (hK:K (.va (.gs (aI t))) []):SQ [.va (.gs (aI t))] [] K:=⟨t,rfl,rfl,h1,h2,hK⟩
theorem GI:Meets Tryz.prog 74 SQ:=by
 refine aD Tryz.func74 aL3 1 (by rw [Tryz.ntmps74]; decide) (aC uV (aB _)) (fun av H K h=>by obtain ⟨_,rfl,_⟩:=h; rfl) ?_
 rintro av H K ⟨⟨n,l⟩,rfl,rfl,h1,⟨hl,hse⟩,hK⟩
 obtain ⟨hn,_,hfs⟩:=h1
 simp only at hn hl hse hfs
 simp (maxSteps:=1000000) -dsimp only [go_sem,aI,YP,aE8]
 refine cM (α:=Nat) (fun i=>[(2,.va (.c1 (.pt 1 0))),(3,.va (.c1 (.pt 2 0))),(10,.va (.c1 (.fz (l.map aR)))),(11,iS .i64 l.length),(12,iS .i64 i)]) (fun i=>[.cells (aI ⟨n,l⟩) 48,.cells [.vl (.string (mk [])),.vl (.slice none 0 0)] 48,.cells [.vl (.string n),.sl 3 i] 48,.row ((l.take i).map aR) 52 7])
  (fun i=>i<=l.length) (fun i=>l.length - i) (.nilc 2 1 52 7 [.vl (.string n),.vl (.slice none 0 0)] 48 rfl rfl (jJ 0 4 (Nat.zero_le _) ?_ ?_)) ?_
 · simp -dsimp only [go_sem]<;>simp
 · simp -dsimp only [go_sem,aI]<;>simp
 intro i hi
 have hz:(l.take i).length=i:=by rw [List.length_take]; omega
 rcases a8 i l.length with hlt | hge
 · have hg:decide ((i:Int) < (l.length:Int))=true:=by simp; omega
   obtain ⟨u,hx⟩:∃ t,l[i]? = some t:=⟨_,aV hlt⟩
   have q1:=aY (row:=aR) hx
   have hu:=b5 hx
   have hcd:aR u=[.vl (.int .i64 u.num),.vl (.string u.nm),.vl (.int .i64 u.ty.k),.vl (.int .i64 u.ty.s),.vl (.string u.ty.n),.fz (u.ty.e.map aW),.vl (.bool u.opt)]:=rfl
   simp (maxSteps:=1000000) -dsimp only [go_sem,hg,↓q1,aR]
   refine ⟨by omega,LU (hfs u hu) (hse u hu) ?_⟩
   simp (maxSteps:=1000000) -dsimp only [go_sem,aR]
   refine ⟨hz,by omega,by omega,aE (i + 1) 4 (by omega) (by omega) ?_ ?_⟩
   · simp -dsimp only [go_sem]<;>simp
   · simp -dsimp only [go_sem,aI,eO hx]<;>simp [aR]
 · have hg:decide ((i:Int) < (l.length:Int))=false:=by simp; omega
   obtain rfl:i=l.length:=by omega
   rw [List.take_length]
   simp (maxSteps:=1000000) -dsimp only [go_sem,hg]
   refine .pub 3 _ _ _ rfl (.sel [] (by simp) (by simp [cG]) rfl (.done ?_))
   simp -dsimp only [go_sem,cG]
   simpa [aI] using hK
theorem lK {α:Type} {l:List α} {i:Nat} {x:α} (hx:l[i]? = some x) (p:α->Bool):(l.drop i).find? p=bif p x then some x else (l.drop (i + 1)).find? p:=by
 obtain ⟨h,rfl⟩:=bB.1 hx
 rw [List.drop_eq_getElem_cons h,List.find?_cons]
 cases p l[i]<;>rfl
def u0:W.Spec:=fun av H K=>∃ (s:Sc) (n:ByteArray),av=[.va (.gs (aJ s)),tS n]/\H=[]/\s.fit/\K (.tu [.gs (aI ((fS s.ss n).getD default)),bA (cA s.ss n)]) []
theorem i7 {s:Sc} {n:ByteArray} {K:S->Hp->Prop} (h:s.fit) (hK:K (.tu [.gs (aI ((fS s.ss n).getD default)),bA (cA s.ss n)]) []):u0 [.va (.gs (aJ s)),tS n] [] K:=⟨s,n,rfl,rfl,h,hK⟩
theorem GP:aI default=[.vl (.string (mk [])),.fz []]:=rfl
theorem rF:aR default=[.vl (.int .i64 0),.vl (.string (mk [])),.vl (.int .i64 0),.vl (.int .i64 0),.vl (.string (mk [])),.fz [],.vl (.bool false)]:=rfl
theorem iZ:Meets Tryz.prog 40 u0:=by
 refine aD Tryz.func40 aKU 2 (by rw [Tryz.ntmps40]; decide) (aC GI (aB _)) (fun av H K h=>by obtain ⟨_,_,rfl,_⟩:=h; rfl) ?_
 rintro av H K ⟨s,n,rfl,rfl,hs,hK⟩
 rw [<-p6] at hK
 have hl:=hs.ok.ls
 simp -dsimp only [go_sem,aJ,aD3,aEL]
 refine aU (α:=Nat) (fun i=>[(1,tS n),(2,.va (.c1 (.pt 0 0))),(4,.va (.c1 (.pt 1 0))),(9,.va (.c1 (.fz (s.ss.map aI)))),(10,iS .i64 s.ss.length),(11,iS .i64 i)]) (fun _=>[.cells (aJ s) 25,.cells [.vl (.string (mk [])),.vl (.slice none 0 0)] 48])
  (fun i=>i<=s.ss.length/\fS (s.ss.drop i) n=fS s.ss n) (fun i=>s.ss.length - i) 0 2 ⟨Nat.zero_le _,rfl⟩ ?_ ?_ ?_
 · simp [go_sem]
 · simp [go_sem,aJ]
 rintro i ⟨hi,ho⟩
 rcases a8 i s.ss.length with hlt | hge
 · have hg:decide ((i:Int) < (s.ss.length:Int))=true:=by simp; omega
   obtain ⟨t,hx⟩:∃ e,s.ss[i]? = some e:=⟨_,aV hlt⟩
   have q2:=aY (row:=aI) hx
   have htm:=b5 hx
   rw [fS,lK hx] at ho
   cases hc:decide (t.nm=n) with
   | true=>
    rw [hc,bI] at ho
    rw [<-ho] at hK
    simp (maxSteps:=1000000) -dsimp only [go_sem,hg,↓q2,aI,aJ,eL,hc]
    refine ⟨by omega,aAD (hs.ok.ss t htm) (hs.sm t htm) ?_⟩
    simp (maxSteps:=1000000) -dsimp only [go_sem,aI]
    exact .sel [] (by simp) (by simp) rfl (.done (by simpa [go_sem,aI] using hK))
   | false=>
    rw [hc,aX] at ho
    simp (maxSteps:=1000000) -dsimp only [go_sem,hg,↓q2,aI,aJ,eL,hc]
    refine ⟨by omega,by omega,aE (i + 1) 2 ⟨by omega,ho⟩ (by omega) ?_ ?_⟩
    · simp [go_sem]
    · simp [go_sem,aJ]
 · have hg:decide ((i:Int) < (s.ss.length:Int))=false:=by simp; omega
   obtain rfl:i=s.ss.length:=by omega
   rw [List.drop_length] at ho
   rw [<-ho] at hK
   simp -dsimp only [go_sem,hg,aJ]
   exact .sel [] (by simp) (by simp) rfl (.done (by simpa [go_sem,fS,GP] using hK))
def fF (l:List Fl) (k:Int):Option Fl:=l.find? fun f=>decide (f.num=k)
def oN:W.Spec:=fun av H K=>∃ (t:St) (k:Int),av=[.va (.gs (aI t)),iS .i64 k]/\H=[]/\t.ok/\(∀ f ∈ t.fs,TySm f.ty)/\K (.tu [.gs (aR ((fF t.fs k).getD default)),bA (fF t.fs k).isSome]) []
theorem rM {t:St} {k:Int} {K:S->Hp->Prop} (h:t.ok) (h2:∀ f ∈ t.fs,TySm f.ty) (hK:K (.tu [.gs (aR ((fF t.fs k).getD default)),bA (fF t.fs k).isSome]) []):oN [.va (.gs (aI t)),iS .i64 k] [] K:=⟨t,k,rfl,rfl,h,h2,hK⟩
theorem pS:Meets Tryz.prog 54 oN:=by
 refine aD Tryz.func54 aMM 2 (by rw [Tryz.ntmps54]; decide) (aC uV (aB _)) (fun av H K h=>by obtain ⟨_,_,rfl,_⟩:=h; rfl) ?_
 rintro av H K ⟨s,n,rfl,rfl,hs,hsm,hK⟩
 have hl:=hs.len
 simp -dsimp only [go_sem,aI,aE1,aAA]
 refine aU (α:=Nat) (fun i=>[(1,iS .i64 n),(2,.va (.c1 (.pt 0 0))),(4,.va (.c1 (.pt 1 0))),(9,.va (.c1 (.fz (s.fs.map aR)))),(10,iS .i64 s.fs.length),(11,iS .i64 i)]) (fun _=>[.cells (aI s) 48,.cells [.vl (.int .i64 0),.vl (.string (mk [])),.vl (.int .i64 0),.vl (.int .i64 0),.vl (.string (mk [])),.vl (.slice none 0 0),.vl (.bool false)] 52])
  (fun i=>i<=s.fs.length/\fF (s.fs.drop i) n=fF s.fs n) (fun i=>s.fs.length - i) 0 2 ⟨Nat.zero_le _,rfl⟩ ?_ ?_ ?_
 · simp [go_sem]
 · simp [go_sem,aI]
 rintro i ⟨hi,ho⟩
 rcases a8 i s.fs.length with hlt | hge
 · have hg:decide ((i:Int) < (s.fs.length:Int))=true:=by simp; omega
   obtain ⟨t,hx⟩:∃ e,s.fs[i]? = some e:=⟨_,aV hlt⟩
   have q2:=aY (row:=aR) hx
   have htm:=b5 hx
   rw [fF,lK hx] at ho
   have hq:(t.num == n)=decide (t.num=n):=rfl
   cases hc:decide (t.num=n) with
   | true=>
    rw [hc,bI] at ho
    rw [<-ho] at hK
    simp (maxSteps:=1000000) -dsimp only [go_sem,hg,↓q2,aR,aI,hq,hc]
    refine ⟨by omega,LU (hs.fs t htm) (hsm t htm) ?_⟩
    simp (maxSteps:=1000000) -dsimp only [go_sem,aR]
    exact .sel [] (by simp) (by simp) rfl (.done (by simpa [go_sem,aR] using hK))
   | false=>
    rw [hc,aX] at ho
    simp (maxSteps:=1000000) -dsimp only [go_sem,hg,↓q2,aR,aI,hq,hc]
    refine ⟨by omega,by omega,aE (i + 1) 2 ⟨by omega,ho⟩ (by omega) ?_ ?_⟩
    · simp [go_sem]
    · simp [go_sem,aI]
 · have hg:decide ((i:Int) < (s.fs.length:Int))=false:=by simp; omega
   obtain rfl:i=s.fs.length:=by omega
   rw [List.drop_length] at ho
   rw [<-ho] at hK
   simp -dsimp only [go_sem,hg,aI]
   exact .sel [] (by simp) (by simp) rfl (.done (by simpa [go_sem,fF,rF] using hK))
@[go_sem] theorem aQL (t:Ty) (H:Hp):(aW t).map (C.bor H)=aW t:=by rw [aS]; rfl
end Go.Proofs.YthpbnmebjocbeaaGreat
namespace Go.Proofs.YthpbnmebjocbeaaGreat
def uL:Nat->Nat->List UInt8
 | 0,_=>[]
 | f + 1,n=>bif decide (n < 128) then [n.toUInt8] else (n % 128 + 128).toUInt8 :: uL f (n / 128)
theorem gZ {f n:Nat} (hf:0 < f) (h:n < 128):uL f n=[n.toUInt8]:=by
 obtain ⟨g,rfl⟩:∃ g,f=g + 1:=⟨f - 1,by omega⟩
 rw [uL,decide_eq_true h]; rfl
theorem kN {f n:Nat} (h:¬ n < 128):uL (f + 1) n=(n % 128 + 128).toUInt8 :: uL f (n / 128):=by
 rw [uL,decide_eq_false h]; rfl
theorem aH6:∀ x:Nat,x < 256->bits BinOp.or IntKind.u8 (x:Int) 128=((x % 128 + 128:Nat):Int):=by decide +kernel
theorem aFM (w:World) (b k:Nat) (hk:k + 1<=10):(Instr.sliceAt 133 (.pointer (some ⟨b,0,none⟩)) none (some (.int .i64 ((k:Int) + 1))) none).run Tryz.prog w=.ok (.slice (some ⟨b,0,none⟩) (k + 1) 10) w:=by
 have e:((k:Int) + 1).toNat=k + 1:=by omega
 simp [Instr.sliceAt,Instr.sureAddr,run_underlying Tryz.underlying133,Instr.sliceBounds,run_sliceBound,e,(by omega:(0:Int)<=(k:Int) + 1),(by omega:(k:Int) + 1<=10),Addr.add]
theorem O6 (N:Nat) (h1:N < 2^64) (w:World) :
 Calls Tryz.prog 46 #[.int .u64 N] w fun e w'=>e=.returned (.string ⟨(uL 10 N).toArray⟩)/\∃ C,w'=w.alloc (.cells C 133 (0,0)):=by
 go_enter Tryz.func46,Tryz.ntmps46
 go_wp2
 go_loopw [0,4] (fun n k w'=>∃ (m k':Nat) (C:Array Value) (pre:List UInt8),n=.int .u64 m/\k=.int .i64 k'/\w'=w.alloc (.cells C 133 (0,0))/\C.size=10/\pre.length=k'/\(∀ (j:Nat) (c:UInt8),pre[j]? = some c->C[j]? = some (.int .u8 c.toNat))/\uL 10 N=pre ++ uL (10 - k') m/\k'<=9/\m < 128 ^ (10 - k')) (fun n _ w'=>match n with | .int _ m=>m.toNat | _=>0)
 case atStart=>refine ⟨N,0,_,[],rfl,rfl,rfl,rfl,rfl,fun j c h=>by simp at h,rfl,by omega,by omega⟩
 case round=>
  obtain ⟨m,k,C,pre,rfl,rfl,rfl,hC,hpl,hp,hu,hk,hm⟩:=hrel
  have hck:∃ u,C[k]? = some u:=⟨_,Array.getElem?_eq_getElem (by omega)⟩
  obtain ⟨u,hck⟩:=hck
  by_cases hlt:m < 128
  · have hsl:=aFM
    have hcv:(convert 114 9 (.slice (some ⟨w.heap.size,0,none⟩) (k + 1) 10)).run Tryz.prog (w.alloc (.cells (C.setIfInBounds k (.int .u8 m)) 133 (0,0)))=.ok (.string ⟨(uL 10 N).toArray⟩) (w.alloc (.cells (C.setIfInBounds k (.int .u8 m)) 133 (0,0))):=by
     have hul:uL 10 N=pre ++ [m.toUInt8]:=by rw [hu,gZ (by omega) hlt]
     have hl:(pre ++ [m.toUInt8]).length=k + 1:=by simp [hpl]
     have:=run_convert_bytes_back (P:=Tryz.prog) (w.alloc (.cells (C.setIfInBounds k (.int .u8 m)) 133 (0,0))) 114 9 5 ⟨w.heap.size,0,none⟩ 10 (pre ++ [m.toUInt8]) Tryz.underlying114 Tryz.underlying5 Tryz.underlying9 (fun j hj=>by
      have e0:(⟨w.heap.size,0,none⟩:Addr).add j=⟨w.heap.size,j,none⟩:=by simp [Addr.add]; omega
      rw [e0,World.cell?_alloc_mark]
      rcases Nat.lt_or_ge j k with h | h
      · have hx:pre[j]? = some pre[j]:=List.getElem?_eq_getElem (by omega)
        rw [List.getElem_append_left (by omega),Array.getElem?_setIfInBounds_ne (by omega)]
        exact hp j _ hx
      · obtain rfl:j=k:=by omega
        rw [List.getElem_append_right (by omega)]
        simp [hC,show j < 10 by omega,Nat.mod_eq_of_lt (show m < 256 by omega)])
     rw [hl] at this
     rw [hul]; exact this
    go_wp2
    go_ret
    exact ⟨by rw [hu]; rfl,_,rfl⟩
  · have hge:(128:Int)<=m:=by omega
    have hk8:k<=8:=by
     rcases Nat.lt_or_ge k 9 with h | h
     · omega
     · have:k=9:=by omega
       subst this; simp at hm; omega
    go_wp2
    refine ⟨⟨m / 128,k + 1,_,pre ++ [(m % 128 + 128).toUInt8],by simp,by simp,rfl,by simp [hC],by simp [hpl],fun j c hc=>?_,?_,by omega,?_⟩,?_⟩
    · rcases Nat.lt_or_ge j k with h | h
      · rw [List.getElem?_append_left (by omega)] at hc
        rw [Array.getElem?_setIfInBounds_ne (by omega)]
        exact hp j c hc
      · have hj:=(List.getElem?_eq_some_iff.1 hc).1
        obtain rfl:j=k:=by simp [hpl] at hj; omega
        rw [List.getElem?_append_right (by omega),hpl] at hc
        simp at hc
        subst hc
        have e1:((m:Int) % 256)=((m % 256:Nat):Int):=by omega
        rw [e1,aH6 _ (Nat.mod_lt _ (by decide))]
        have e2:m % 256 % 128=m % 128:=by omega
        simp [hC,show j < 10 by omega,e2]
        omega
    · rw [hu,show 10 - k=10 - (k + 1) + 1 by omega,kN hlt,List.append_assoc]; rfl
    · have:128 ^ (10 - k)=128 ^ (10 - (k + 1)) * 128:=by rw [<-Nat.pow_succ]; congr 1; omega
      rw [this] at hm
      exact Nat.div_lt_of_lt_mul (by rw [Nat.mul_comm]; exact hm)
    · show ((m:Int) / 128).toNat < (m:Int).toNat
      omega
end Go.Proofs.YthpbnmebjocbeaaGreat
namespace Go.Proofs.YthpbnmebjocbeaaGreat
open Go.W
def aCS:PC:=.seq (.reg [.q 2 (.mv (.k (.string (mk []))))]) (.seq (.reg [.q 3 (.mv (.k (.string (mk []))))]) (.seq (.block 0 (.loop (.seq (.seq (.reg [.v 4 0,.q 5 (.bin .geq true (.t 4) (.k (.int .u64 128)))]) (.cond (.t 5) .skip (.exit 0))) (.block 1 (.seq (.reg [.v 6 3,.v 7 0,.q 8 (.bin .rem true (.t 7) (.k (.int .u64 128))),.q 9 (.bin .add true (.k (.int .u64 128)) (.t 8)),.q 10 (.cvt .u8 (.t 9)),.e 11 (.bsl 5 1 [(.t 10)]),.q 12 (.b2s (.t 11)),.q 13 (.bin .add true (.t 6) (.t 12)),.v 3 13]) (.reg [.v 14 0,.q 15 (.bin .quo true (.t 14) (.k (.int .u64 128))),.v 0 15])))))) (.seq (.reg [.v 16 3,.v 17 0,.q 18 (.cvt .u8 (.t 17)),.e 19 (.bsl 5 1 [(.t 18)]),.q 20 (.b2s (.t 19)),.q 21 (.bin .add true (.t 16) (.t 20)),.v 2 21]) .ret)))
def aE7:List RV:=[.mv (.t 2)]
theorem aLO:aP Tryz.prog true ⟨fun _ _=>.own [],fun _=>false⟩ Tryz.f36=some (aCS,aE7):=by kernel_rfl
def YK:PC:=.seq (.reg [.q 2 (.mv (.k (.string (mk []))))]) (.seq (.reg [.v 3 0,.q 4 (.lnS (.t 3)),.q 5 (.cvt .u64 (.t 4)),.a 6 (.cq 36 [(.t 5)]),.v 7 0,.q 8 (.bin .add true (.t 6) (.t 7)),.v 2 8]) .ret)
def aEI:List RV:=[.mv (.t 2)]
theorem aND:aP Tryz.prog true ⟨fun r k=>if r=1/\k=3 then .q else .own [],fun _=>false⟩ Tryz.f37=some (YK,aEI):=by kernel_rfl
def aBM:PC:=.seq (.reg [.q 2 (.mv (.k (.string (mk []))))]) (.seq (.reg [.v 3 0,.q 4 (.lnS (.t 3)),.q 5 (.cvt .u64 (.t 4)),.a 6 (.cq 46 [(.t 5)]),.v 7 0,.q 8 (.bin .add true (.t 6) (.t 7)),.v 2 8]) .ret)
def aEG:List RV:=[.mv (.t 2)]
theorem aLE:aP Tryz.prog true ⟨fun r k=>if r=1/\k=3 then .q else .own [],fun _=>false⟩ Tryz.f47=some (aBM,aEG):=by kernel_rfl
def Z6:PC:=.seq (.reg [.q 2 (.mv (.k (.string (mk []))))]) (.seq (.reg [.v 3 0,.q 4 (.cvt .u64 (.t 3)),.q 5 (.bin .shl true (.t 4) (.k (.int .u64 1))),.v 6 0,.q 7 (.bin .shr true (.t 6) (.k (.int .u64 63))),.q 8 (.cvt .u64 (.t 7)),.q 9 (.bin .xor true (.t 5) (.t 8)),.a 10 (.cq 46 [(.t 9)]),.v 2 10]) .ret)
def aDN:List RV:=[.mv (.t 2)]
theorem aM6:aP Tryz.prog true ⟨fun r k=>if r=1/\k=7 then .q else .own [],fun _=>false⟩ Tryz.f84=some (Z6,aDN):=by kernel_rfl
def SY:PC:=.seq (.reg [.q 2 (.mv (.k (.pointer none)))]) (.seq (.reg [.v 3 0,.q 4 (.bd [(.string (mk [])),(.int .i64 0),(.int .i64 0)] [(0,1,(.t 3))]),.e 5 (.bx 199 (.t 4)),.v 2 5]) .ret)
def Q7:List RV:=[.mv (.t 2)]
theorem aF5:aP Tryz.prog true ⟨fun _ _=>.own [],fun _=>false⟩ Tryz.f133=some (SY,Q7):=by kernel_rfl
def xZ:PC:=.seq (.gh (.reg [.l 7 (.ld1 (.t 3)),.v 2 7])) .ret
@[go_sem ↓] theorem aJK:aL xZ:=aM _
def xU:PC:=.seq (.gh (.reg [.v 4 0,.q 5 (.mf 155 [(.t 3)]),.a 6 (.cl 154 [(.t 4),(.t 5)] [0,1])])) (xZ)
@[go_sem ↓] theorem aJJ:aL xU:=aM _
def RL:PC:=.seq (.reg [.q 2 (.mv (.k (.int .u64 0)))]) (.seq (.reg [.e 3 (.al (.int .u64 0) 83),.s (.st 1 (.t 3) (.k (.int .u64 0)))]) (xU))
def UX:List RV:=[.mv (.t 2)]
theorem aGT:aP Tryz.prog true ⟨fun r k=>if r=2/\k=2 then .own [0,1] else .own [],fun r=>[2,3].contains r⟩ Tryz.f134=some (RL,UX):=by kernel_rfl
def UP:PC:=.seq (.reg [.q 2 (.mv (.i 0))]) (.seq (.seq (.reg [.v 3 0,.q 4 (.eqP false (.t 3) (.k (.pointer none)))]) (.cond (.t 4) (.seq (.reg [.q 2 (.mv (.i 6))]) .ret) .skip)) (.seq (.reg [.v 5 0,.q 6 (.nc (.t 5)),.q 7 (.fa 2 (.t 6)),.l 8 (.ld1 (.t 7)),.v 2 8]) .ret))
def RF:List RV:=[.mv (.t 2)]
theorem aHN:aP Tryz.prog true ⟨fun _ _=>.own [],fun _=>false⟩ Tryz.f135=some (UP,RF):=by kernel_rfl
def RN:PC:=.seq (.reg [.q 2 (.mv (.i 0))]) (.seq (.seq (.reg [.v 3 0,.q 4 (.eqP false (.t 3) (.k (.pointer none)))]) (.cond (.t 4) (.seq (.reg [.q 2 (.mv (.i 0))]) .ret) .skip)) (.seq (.reg [.v 5 0,.q 6 (.nc (.t 5)),.q 7 (.fa 0 (.t 6)),.l 8 (.ld1 (.t 7)),.q 9 (.lnS (.t 8)),.v 10 0,.q 11 (.nc (.t 10)),.q 12 (.fa 1 (.t 11)),.l 13 (.ld1 (.t 12)),.q 14 (.bin .sub true (.t 9) (.t 13)),.v 2 14]) .ret))
def VI:List RV:=[.mv (.t 2)]
theorem aHV:aP Tryz.prog true ⟨fun _ _=>.own [],fun _=>false⟩ Tryz.f136=some (RN,VI):=by kernel_rfl
def yJ:PC:=.seq (.gh (.reg [.v 6 3,.q 7 (.bin .shr true (.t 6) (.k (.int .u64 1))),.q 8 (.cvt .i64 (.t 7)),.v 9 3,.q 10 (.bin .and true (.t 9) (.k (.int .u64 1))),.q 11 (.cvt .i64 (.t 10)),.q 12 (.neg false (.t 11)),.q 13 (.bin .xor true (.t 8) (.t 12)),.v 2 13])) .ret
@[go_sem ↓] theorem aKR:aL yJ:=aM _
def R4:PC:=.seq (.reg [.q 2 (.mv (.i 0))]) (.seq (.reg [.v 4 0,.a 5 (.cl 134 [(.t 4)] [0]),.v 3 5]) (yJ))
def RQ:List RV:=[.mv (.t 2)]
theorem aHG:aP Tryz.prog true ⟨fun r k=>if r=1/\k=1 then .own [0] else .own [],fun r=>[2].contains r⟩ Tryz.f138=some (R4,RQ):=by kernel_rfl
def sG:PC:=.seq (.seq (.gh (.reg [.v 29 5,.q 30 (.bin .neq true (.t 29) (.i 0))])) (.cond (.t 30) (.seq (.reg [.v 31 0,.v 32 5,.q 33 (.nc (.t 31)),.q 34 (.fa 2 (.t 33)),.s (.st 1 (.t 34) (.t 32))]) .ret) .skip)) (.reg [.v 35 0,.q 36 (.nc (.t 35)),.q 37 (.fa 1 (.t 36)),.l 38 (.ld1 (.t 37)),.v 39 4,.q 40 (.bin .add true (.t 38) (.t 39)),.q 41 (.nc (.t 35)),.q 42 (.fa 1 (.t 41)),.s (.st 1 (.t 42) (.t 40))])
@[go_sem ↓] theorem aJ7:aL sG:=aM _
def zQ:PC:=.seq (.gh (.ord  [.q (.v 16 1),.q (.v 17 0),.q (.q 18 (.nc (.t 17))),.q (.q 19 (.fa 0 (.t 18))),.q (.l 20 (.ld1 (.t 19))),.q (.v 21 0),.q (.q 22 (.nc (.t 21))),.q (.q 23 (.fa 1 (.t 22))),.q (.l 24 (.ld1 (.t 23))),.q (.q 25 (.ss (.t 20) (some (.t 24)) none)),.m (.a 26 (.ca (.t 16) [(.t 25)] [1])),.q (.v 15 26),.q (.q 27 (.ex (.t 15) 0)),.q (.q 28 (.ex (.t 15) 1)),.m (.v 4 27),.rc (.q 28 (.ex (.t 15) 1)),.m (.v 5 28)])) (sG)
@[go_sem ↓] theorem aJL:aL zQ:=aM _
def RA:PC:=.seq (.seq (.reg [.v 6 0,.q 7 (.eqP false (.t 6) (.k (.pointer none))),.v 8 7,⟨some 9,(some (8,false)),.q (.mv (.t 0))⟩,⟨some 10,(some (8,false)),.q (.nc (.t 9))⟩,⟨some 11,(some (8,false)),.q (.fa 2 (.t 10))⟩,⟨some 12,(some (8,false)),.l (.ld1 (.t 11))⟩,⟨some 13,(some (8,false)),.q (.bin .neq true (.t 12) (.i 0))⟩,.a 14 (.pick (.t 8) (.k (.bool true)) (.t 13))]) (.cond (.t 14) .ret .skip)) (zQ)
def VF:List RV:=[]
theorem aG9:aP Tryz.prog true ⟨fun r k=>if r=1/\k=10 then .own [1] else .own [],fun r=>[1,2].contains r⟩ Tryz.f154=some (RA,VF):=by kernel_rfl
def yQ:PC:=.seq (.gh (.reg [.v 14 5,.s (.st 1 (.t 1) (.t 14))])) (.seq (.reg [.v 15 6,.v 16 7,.v 3 15,.v 4 16]) .ret)
@[go_sem ↓] theorem aJF:aL yQ:=aM _
def S1:PC:=.seq (.reg [.q 3 (.mv (.i 0)),.q 4 (.mv (.i 0))]) (.seq (.reg [.v 9 0,.a 10 (.cl 156 [(.t 9)] []),.v 8 10,.q 11 (.ex (.t 8) 0),.q 12 (.ex (.t 8) 1),.q 13 (.ex (.t 8) 2),.v 5 11,.v 6 12,.v 7 13]) (yQ))
def SB:List RV:=[.mv (.t 3),.mv (.t 4)]
theorem aID:aP Tryz.prog true ⟨fun _ _=>.own [],fun r=>[2].contains r⟩ Tryz.f155=some (S1,SB):=by kernel_rfl
def TW:PC:=.seq (.reg [.q 2 (.mv (.k (.int .u64 0))),.q 3 (.mv (.i 0)),.q 4 (.mv (.i 0))]) (.seq (.reg [.q 5 (.mv (.k (.int .u64 0)))]) (.seq (.seq (.reg [.q 8 (.mv (.i 0))]) (.block 0 (.loop (.seq (.reg [.q 9 (.bin .lss true (.t 8) (.i 10))]) (.seq (.cond (.t 9) .skip (.exit 0)) (.seq (.block 1 (.seq (.reg [.v 10 8,.v 6 10]) (.seq (.seq (.reg [.v 11 6,.v 12 0,.q 13 (.lnS (.t 12)),.q 14 (.bin .eql true (.t 11) (.t 13))]) (.cond (.t 14) (.seq (.reg [.q 2 (.mv (.k (.int .u64 0))),.q 3 (.mv (.i 0)),.q 4 (.mv (.i 1))]) .ret) .skip)) (.seq (.reg [.v 15 0,.v 16 6,.a 17 (.ix (.t 15) (.t 16)),.v 7 17]) (.seq (.seq (.reg [.v 18 6,.q 19 (.bin .eql true (.t 18) (.i 9)),.v 20 19,⟨some 21,(some (20,true)),.q (.mv (.t 7))⟩,⟨some 22,(some (20,true)),.q (.bin .gtr true (.t 21) (.k (.int .u8 1)))⟩,.a 23 (.pick (.t 20) (.t 22) (.k (.bool false)))]) (.cond (.t 23) (.seq (.reg [.q 2 (.mv (.k (.int .u64 0))),.q 3 (.mv (.i 0)),.q 4 (.mv (.i 2))]) .ret) .skip)) (.seq (.reg [.v 24 5,.v 25 7,.q 26 (.bin .and true (.t 25) (.k (.int .u8 127))),.q 27 (.cvt .u64 (.t 26)),.v 28 6,.q 29 (.bin .mul true (.i 7) (.t 28)),.q 30 (.bin .shl true (.t 27) (.t 29)),.q 31 (.bin .or true (.t 24) (.t 30)),.v 5 31]) (.seq (.seq (.reg [.v 32 7,.q 33 (.bin .geq true (.t 32) (.k (.int .u8 128)))]) (.cond (.t 33) (.exit 1) .skip)) (.seq (.seq (.reg [.v 34 7,.q 35 (.bin .eql true (.t 34) (.k (.int .u8 0))),.v 36 35,⟨some 37,(some (36,true)),.q (.mv (.t 6))⟩,⟨some 38,(some (36,true)),.q (.bin .gtr true (.t 37) (.i 0))⟩,.a 39 (.pick (.t 36) (.t 38) (.k (.bool false)))]) (.cond (.t 39) (.seq (.reg [.q 2 (.mv (.k (.int .u64 0))),.q 3 (.mv (.i 0)),.q 4 (.mv (.i 2))]) .ret) .skip)) (.seq (.reg [.v 40 5,.v 41 6,.q 42 (.bin .add true (.t 41) (.i 1)),.v 2 40,.v 3 42,.q 4 (.mv (.i 0))]) .ret))))))))) (.reg [.q 43 (.bin .add true (.t 8) (.i 1)),.v 8 43]))))))) (.seq (.reg [.q 2 (.mv (.k (.int .u64 0))),.q 3 (.mv (.i 0)),.q 4 (.mv (.i 2))]) .ret)))
def SD:List RV:=[.mv (.t 2),.mv (.t 3),.mv (.t 4)]
theorem aH9:aP Tryz.prog true ⟨fun _ _=>.own [],fun _=>false⟩ Tryz.f156=some (TW,SD):=by kernel_rfl
def JX:List S->Prop:=fun av=>match av with
 | [.va (.c1 (.vl (.int .u64 n)))]=>0<=n/\n < 18446744073709551616
 | _=>False
theorem l8 {av:List S} (h:JX av):∃ n:Nat,av=[iS .u64 n]/\n < 18446744073709551616:=by
 unfold JX at h
 split at h
 · rename_i n
   exact ⟨n.toNat,by rw [Int.toNat_of_nonneg h.1],by omega⟩
 · exact h.elim
def JJ (f:Nat->Value):List S->A:=fun av=>match av with
 | [.va (.c1 (.vl (.int .u64 n)))]=>.c1 (.vl (f n.toNat))
 | _=>.gs []
def IF (f:Nat->Value):Fun:=⟨JX,JJ f,fun av h=>by obtain ⟨n,rfl,_⟩:=l8 h; trivial⟩
theorem VX {f:Nat->Value}:∀ av H K,(IF f).sp av H K->av.length=1:=fun av H K h=>by obtain ⟨n,rfl,_⟩:=l8 h.1.1; rfl
attribute [go_sem] IF JX JJ
def vi (n:Nat):List UInt8:=uL 10 n
theorem wO:Meets Tryz.prog 46 (IF fun n=>.string (mk (vi n))).sp:=by
 refine ⟨by kernel_rfl,?_⟩
 rintro av vs E ro w K hlen hrel hR ⟨⟨h,hE⟩,hK⟩ _
 obtain ⟨n,rfl,hn⟩:=l8 h
 obtain ⟨v0,rfl⟩:∃ v0,vs=[v0]:=by
  match vs,hlen with
  | [v0],_=>exact ⟨v0,rfl⟩
 have h0:v0=.int .u64 n:=hrel 0 _ _ rfl rfl
 subst h0
 refine (O6 n hn w).mono ?_
 rintro e w' ⟨rfl,C,rfl⟩
 have hK:K (tS (mk (vi n))) []:=by simpa [IF,JJ] using hK
 exact ⟨tS (mk (vi n)),_,E,ro,rfl,rfl,by rw [hE]; exact hK,hR.aside (fun b hb=>eC w _ b hb) (dI w _) rfl rfl rfl⟩
theorem LD:∀ (f n:Nat),(uL f n).length<=f
 | 0,_=>Nat.le_refl _
 | f + 1,n=>by
  by_cases h:n < 128
  · rw [gZ (Nat.succ_pos _) h]; simp
  · rw [kN h]; have:=LD f (n / 128); simp; omega
theorem K9 (n:Nat):(vi n).length<=10:=LD 10 n
def fG (x:Int):List UInt8:=vi (IntKind.u64.wrap x).toNat
theorem fB (x:Int):(fG x).length<=10:=K9 _
theorem LR (x:Int):(0<=IntKind.u64.wrap x/\IntKind.u64.wrap x < 18446744073709551616)=True:=by
 have h:IntKind.u64.wrap x=x % 18446744073709551616:=by simp [IntKind.wrap,IntKind.signed,IntKind.bits]
 rw [h]; exact eq_true ⟨by omega,by omega⟩
theorem kY (x:Int):(0<=IntKind.u64.wrap x)=True:=eq_true (of_eq_true (LR x)).1
theorem lO (x:Int):(IntKind.u64.wrap x < 18446744073709551616)=True:=eq_true (of_eq_true (LR x)).2
theorem fX (x:Int):vi (IntKind.u64.wrap x).toNat=fG x:=rfl
def iO (l:List UInt8):List UInt8:=fG l.length ++ l
def BV:List S->Prop:=fun xs=>match xs with
 | [.va (.c1 (.vl (.string s)))]=>s.size<=1000000000
 | _=>False
theorem oF {xs:List S} (h:BV xs):∃ s,xs=[tS s]/\s.size<=1000000000:=by
 unfold BV at h
 split at h
 · exact ⟨_,rfl,h⟩
 · exact h.elim
def OA (f:List UInt8->Value):Fun:=⟨BV,vC f,fun xs h=>by obtain ⟨s,rfl,_⟩:=oF h; trivial⟩
theorem NW {f:List UInt8->Value}:∀ xs H K,(OA f).sp xs H K->xs.length=1:=fun xs H K h=>by obtain ⟨s,rfl,_⟩:=oF h.1.1; rfl
attribute [go_sem] OA BV
theorem rB1 (x:Int):mL [[C.vl (.int .u8 x)]]=[UInt8.ofNat x.toNat]:=rfl
theorem UM {m:Nat} (h:m < 256):IntKind.u8.wrap (m:Int)=(m:Int):=by
 have h2:IntKind.u8.wrap (m:Int)=(m:Int) % 256:=by simp [IntKind.wrap,IntKind.signed,IntKind.bits]
 rw [h2]; omega
theorem aF1 {m:Nat} (h:m < 128):mL [[C.vl (.int .u8 (IntKind.u8.wrap (m:Int)))]]=[m.toUInt8]:=by
 rw [rB1,UM (by omega)]; rfl
theorem x8 (m:Nat):(m:Int).tmod 128=((m % 128:Nat):Int):=by rw [Int.tmod_eq_emod_of_nonneg (by omega)]; omega
theorem WJ (m:Nat):(m:Int).tdiv 128=((m / 128:Nat):Int):=by rw [Int.tdiv_eq_ediv_of_nonneg (by omega)]; omega
theorem aH7 (m:Nat):mL [[C.vl (.int .u8 (IntKind.u8.wrap (128 + (m:Int).tmod 128)))]]=[(m % 128 + 128).toUInt8]:=by
 rw [rB1,x8,show (128:Int) + ((m % 128:Nat):Int)=((m % 128 + 128:Nat):Int) by omega,UM (by omega)]; rfl
theorem LT:Meets Tryz.prog 36 (IF fun n=>.string (mk (vi n))).sp:=by
 refine aD Tryz.func36 aLO 1 (by rw [Tryz.ntmps36]; decide) (aB _) VX ?_
 rintro av H K ⟨⟨h,rfl⟩,hK⟩
 obtain ⟨n,rfl,hn⟩:=l8 h
 have hK:K (tS (mk (vi n))) []:=by simpa [IF,JJ] using hK
 simp (maxSteps:=1000000) -dsimp only [go_sem,aCS,aE7]
 refine aU (α:=Nat × List UInt8 × Nat) (fun z=>[(0,iS .u64 z.1),(3,tS (mk z.2.1))]) (fun _=>[])
  (fun z=>z.1<=n/\z.2.2<=10/\z.1 < 128 ^ z.2.2/\0 < z.2.2/\z.2.1.length + z.2.2=10/\vi n=z.2.1 ++ uL z.2.2 z.1) (fun z=>z.1) (n,[],10) 0 ⟨Nat.le_refl _,Nat.le_refl _,by show n < 128 ^ 10; omega,by show 0 < 10; decide,rfl,rfl⟩ ?_ ?_ ?_
 · simp -dsimp only [go_sem]<;>simp
 · simp [go_sem]
 rintro ⟨m,o,f⟩ ⟨hmn,hf,hm,hf0,hol,hu⟩
 simp only at hmn hf hm hf0 hol hu ⊢
 by_cases hlt:m < 128
 · have hg:decide (128<=(m:Int))=false:=by simp; omega
   rw [gZ hf0 hlt] at hu
   have e1:=aF1 hlt
   simp (maxSteps:=1000000) -dsimp only [go_sem,hg,e1,List.length_singleton]
   refine ⟨rfl,by omega,.sel [] (by simp) (by simp) rfl (.done ?_)⟩
   rw [<-hu]; exact hK
 · have hg:decide (128<=(m:Int))=true:=by simp; omega
   obtain ⟨f,rfl⟩:∃ g,f=g + 1:=⟨f - 1,by omega⟩
   rw [kN hlt] at hu
   have hm3:m / 128 < 128 ^ f:=by rw [Nat.pow_succ] at hm; omega
   have hf1:0 < f:=by
    rcases Nat.eq_zero_or_pos f with rfl | h0
    · simp at hm; omega
    · exact h0
   have e1:=aH7 m
   simp (maxSteps:=1000000) -dsimp only [go_sem,hg,e1,List.length_singleton,WJ]
   refine ⟨by decide,⟨by rw [x8]; omega,by rw [x8]; omega⟩,rfl,by omega,⟨by decide,by omega,by omega⟩,aE (m / 128,o ++ [(m % 128 + 128).toUInt8],f) 0 ⟨by show m / 128<=n; omega,by show f<=10; omega,hm3,hf1,by simp; omega,by rw [hu,List.append_assoc]; rfl⟩ (by show m / 128 < m; omega) ?_ ?_⟩
   · simp -dsimp only [go_sem]<;>simp
   · simp [go_sem]
theorem aDO:Meets Tryz.prog 37 (OA fun l=>.string (mk (iO l))).sp:=by
 refine aD Tryz.func37 aND 1 (by rw [Tryz.ntmps37]; decide) (aH LT (aB _)) NW ?_
 rintro av H K ⟨⟨h,rfl⟩,hK⟩
 obtain ⟨s,rfl,hs⟩:=oF h
 have hK:K (tS (mk (fG (bl s).length ++ bl s))) []:=hK
 have hl:=fB (bl s).length
 rw [cJ] at hs
 simp (maxSteps:=1000000) -dsimp only [go_sem,YK,aEI,kY,lO,fX]
 exact ⟨by omega,.done hK⟩
def RY (f:Int->Value):List S->A:=fun av=>match av with
 | [.va (.c1 (.vl (.int .i64 n)))]=>.c1 (.vl (f n))
 | _=>.gs []
attribute [go_sem] RY
def nA:Nat->Nat->List UInt8->Nat × Nat × Int
 | _,_,[]=>(0,0,1)
 | i,n,c :: r=>bif i == 9 && decide (1 < c.toNat) then (0,0,2) else bif decide (128<=c.toNat) then nA (i + 1) (n + c.toNat % 128 * 128 ^ i) r else bif c.toNat == 0 && decide (0 < i) then (0,0,2) else (n + c.toNat % 128 * 128 ^ i,i + 1,0)
theorem yB (i n:Nat):nA i n []=(0,0,1):=by rw [nA]
theorem lP (i n:Nat) (c:UInt8) (r:List UInt8):nA i n (c :: r)=bif i == 9 && decide (1 < c.toNat) then (0,0,2) else bif decide (128<=c.toNat) then nA (i + 1) (n + c.toNat % 128 * 128 ^ i) r else bif c.toNat == 0 && decide (0 < i) then (0,0,2) else (n + c.toNat % 128 * 128 ^ i,i + 1,0):=by rw [nA]
def vr (l:List UInt8):Nat × Nat × Int:=nA 0 0 l
theorem NF:∀ (l:List UInt8) (i a n k:Nat) (e:Int),i<=9->a < 128 ^ i->nA i a l=(n,k,e)->(e ≠ 0/\n=0/\k=0/\(e=1\/e=2))\/
 (e=0/\∃ m j,n=a + m * 128 ^ i/\k=i + j/\j=(uL (10 - i) m).length/\0 < j/\j<=l.length/\l.take j=uL (10 - i) m/\(0 < i->0 < m)/\n < 18446744073709551616)
 | [],i,a,n,k,e,_,_,h=>by
  rw [yB] at h
  simp only [Prod.mk.injEq] at h
  obtain ⟨rfl,rfl,rfl⟩:=h
  exact .inl ⟨by decide,rfl,rfl,.inl rfl⟩
 | c :: r,i,a,n,k,e,hi,ha,h=>by
  rw [lP] at h
  have hpos:0 < 128 ^ i:=Nat.pow_pos (by decide)
  cases c1:i == 9 && decide (1 < c.toNat) with
  | true=>
   rw [c1] at h
   simp only [cond_true,Prod.mk.injEq] at h
   obtain ⟨rfl,rfl,rfl⟩:=h
   exact .inl ⟨by decide,rfl,rfl,.inr rfl⟩
  | false=>
  rw [c1,cond_false] at h
  cases c2:decide (128<=c.toNat) with
  | true=>
   rw [c2,cond_true] at h
   have h128:=of_decide_eq_true c2
   have hi9:i ≠ 9:=fun e=>by subst e; rw [show ((9:Nat) == 9)=true from rfl,Bool.true_and] at c1; have:=of_decide_eq_false c1; omega
   have hc:=c.toNat_lt
   have hm:c.toNat % 128<=127:=by omega
   have hmul:c.toNat % 128 * 128 ^ i<=127 * 128 ^ i:=Nat.mul_le_mul_right _ hm
   have hp:128 ^ (i + 1)=128 * 128 ^ i:=by rw [Nat.pow_succ,Nat.mul_comm]
   rcases NF r (i + 1) _ n k e (by omega) (by rw [hp]; omega) h with h | ⟨he,m,j,h1,h2,h3,h4,h5,h6,h7,h8⟩
   · exact .inl h
   · have hm0:=h7 (by omega)
     have hfu:10 - i=(10 - (i + 1)) + 1:=by omega
     have hmm:¬ c.toNat % 128 + 128 * m < 128:=by omega
     have hd:(c.toNat % 128 + 128 * m) / 128=m:=by omega
     have hr:(c.toNat % 128 + 128 * m) % 128 + 128=c.toNat:=by omega
     have hu:uL (10 - i) (c.toNat % 128 + 128 * m)=c :: uL (10 - (i + 1)) m:=by
      rw [hfu,kN hmm,hd,hr]
      simp
     refine .inr ⟨he,c.toNat % 128 + 128 * m,j + 1,?_,by omega,by rw [hu,List.length_cons,h3],by omega,by simp; omega,by rw [hu,List.take_succ_cons,h6],fun _=>by omega,h8⟩
     rw [h1,hp,Nat.add_mul,Nat.mul_comm 128 m,Nat.mul_assoc,Nat.add_assoc]
  | false=>
   rw [c2,cond_false] at h
   have hlt:c.toNat < 128:=by have:=of_decide_eq_false c2; omega
   cases c3:c.toNat == 0 && decide (0 < i) with
   | true=>
    rw [c3] at h
    simp only [cond_true,Prod.mk.injEq] at h
    obtain ⟨rfl,rfl,rfl⟩:=h
    exact .inl ⟨by decide,rfl,rfl,.inr rfl⟩
   | false=>
    rw [c3] at h
    simp only [cond_false,Prod.mk.injEq] at h
    obtain ⟨rfl,rfl,rfl⟩:=h
    have hm:c.toNat % 128=c.toNat:=by omega
    have hu:uL (10 - i) c.toNat=[c]:=by rw [gZ (by omega) hlt]; simp
    refine .inr ⟨rfl,c.toNat,1,by rw [hm],rfl,by rw [hu]; rfl,by decide,by simp,by rw [hu]; rfl,fun h0=>?_,?_⟩
    · rw [decide_eq_true h0,Bool.and_true] at c3
      have:=ne_of_beq_false c3
      omega
    · rw [hm]
      rcases a8 i 9 with h9 | h9
      · have h1:128 ^ i<=128 ^ 8:=Nat.pow_le_pow_right (by decide) (by omega)
        have h2:c.toNat * 128 ^ i<=127 * 128 ^ i:=Nat.mul_le_mul_right _ (by omega)
        have h3:(128:Nat) ^ 8=72057594037927936:=by decide
        omega
      · obtain rfl:i=9:=by omega
        rw [show ((9:Nat) == 9)=true from rfl,Bool.true_and] at c1
        have h1:=of_decide_eq_false c1
        have h3:(128:Nat) ^ 9=9223372036854775808:=by decide
        rw [h3] at ha ⊢
        have:c.toNat<=1:=by omega
        rcases Nat.le_one_iff_eq_zero_or_eq_one.1 this with h | h<;>rw [h]<;>omega
theorem gO (l:List UInt8):((vr l).2.2 ≠ 0/\(vr l).1=0/\(vr l).2.1=0/\((vr l).2.2=1\/(vr l).2.2=2))\/
 ((vr l).2.2=0/\(vr l).2.1=(vi (vr l).1).length/\0 < (vr l).2.1/\(vr l).2.1<=l.length/\l.take (vr l).2.1=vi (vr l).1/\(vr l).1 < 18446744073709551616):=by
 rcases NF l 0 0 (vr l).1 (vr l).2.1 (vr l).2.2 (by decide) (by decide) rfl with h | ⟨h0,m,j,h1,h2,h3,h4,h5,h6,_,h8⟩
 · exact .inl h
 · have e1:(vr l).1=m:=by rw [h1]; simp
   have e2:(vr l).2.1=j:=by rw [h2]; simp
   rw [e1] at h8
   rw [e1,e2]
   exact .inr ⟨h0,h3,h4,h5,h6,h8⟩
theorem LQ:∀ (f i a m:Nat) (r:List UInt8),f + i=10->0 < f->m * 128 ^ i < 18446744073709551616->(0 < i->0 < m)->nA i a (uL f m ++ r)=(a + m * 128 ^ i,i + (uL f m).length,0)
 | 0,i,a,m,r,_,h,_,_=>absurd h (by decide)
 | f + 1,i,a,m,r,hf,_,hm,h0=>by
  by_cases hlt:m < 128
  · rw [gZ (by omega) hlt]
    show nA i a (m.toUInt8 :: r)=_
    have ht:m.toUInt8.toNat=m:=by show m % 256=m; omega
    rw [lP,ht]
    have c1:(i == 9 && decide (1 < m))=false:=by
     cases h9:i == 9 with
     | false=>rfl
     | true=>
      have h9:i=9:=eq_of_beq h9
      subst h9
      rw [Bool.true_and,decide_eq_false_iff_not]
      have h3:(128:Nat) ^ 9=9223372036854775808:=by decide
      rw [h3] at hm
      omega
    have c3:(m == 0 && decide (0 < i))=false:=by
     cases hz:m == 0 with
     | false=>rfl
     | true=>
      have hz:m=0:=eq_of_beq hz
      rw [Bool.true_and,decide_eq_false_iff_not]
      intro hi
      have:=h0 hi
      omega
    rw [c1,decide_eq_false (show ¬ 128<=m by omega),c3,show m % 128=m by omega]
    rfl
  · rw [kN hlt]
    show nA i a ((m % 128 + 128).toUInt8 :: (uL f (m / 128) ++ r))=_
    have ht:(m % 128 + 128).toUInt8.toNat=m % 128 + 128:=by show (m % 128 + 128) % 256=_; omega
    have hi9:i < 9:=by
     rcases a8 i 9 with h | h
     · exact h
     · have:128 ^ 9<=128 ^ i:=Nat.pow_le_pow_right (by decide) h
       have h3:(128:Nat) ^ 9=9223372036854775808:=by decide
       have h4:128 * 128 ^ i<=m * 128 ^ i:=Nat.mul_le_mul_right _ (by omega)
       omega
    have c1:(i == 9 && decide (1 < (m % 128 + 128)))=false:=by
     rw [show (i == 9)=false by simp; omega]; rfl
    have hp:128 ^ (i + 1)=128 * 128 ^ i:=by rw [Nat.pow_succ,Nat.mul_comm]
    have hdm:m % 128 + 128 * (m / 128)=m:=Nat.mod_add_div m 128
    have hsum:m % 128 * 128 ^ i + m / 128 * 128 ^ (i + 1)=m * 128 ^ i:=by
     rw [hp,<-Nat.mul_assoc,Nat.mul_comm (m / 128) 128,<-Nat.add_mul,hdm]
    rw [lP,ht,c1,decide_eq_true (show 128<=m % 128 + 128 by omega),cond_false,cond_true,show (m % 128 + 128) % 128=m % 128 by omega,
     LQ f (i + 1) _ (m / 128) r (by omega) (by omega) (by omega) (fun _=>by omega)]
    rw [Nat.add_assoc,hsum,List.length_cons,show i + 1 + (uL f (m / 128)).length=i + ((uL f (m / 128)).length + 1) by omega]
theorem UF {n:Nat} (h:n < 18446744073709551616) (r:List UInt8):vr (vi n ++ r)=(n,(vi n).length,0):=by
 have:=LQ 10 0 0 n r rfl (by decide) (by simpa using h) (fun h=>absurd h (by decide))
 unfold vr vi
 rw [this]; simp
theorem w7 (n:Nat):0 < (vi n).length:=by
 unfold vi
 by_cases h:n < 128
 · rw [gZ (by decide) h]; exact Nat.one_pos
 · rw [kN h]; simp
def aZ (l:List UInt8):Nat × List UInt8 × Int:=bif (vr l).2.2 != 0 then (0,[],(vr l).2.2) else ((vr l).1,l.drop (vr l).2.1,0)
def bG (l:List UInt8):List UInt8 × List UInt8 × Int:=bif (aZ l).2.2 != 0 then ([],[],(aZ l).2.2) else bif decide ((aZ l).2.1.length < (aZ l).1) then ([],[],1) else ((aZ l).2.1.take (aZ l).1,(aZ l).2.1.drop (aZ l).1,0)
def aT (l:List UInt8) (last:Int):(Int × List UInt8) × List UInt8 × Int:=
 bif (aZ l).2.2 != 0 then ((0,[]),[],(aZ l).2.2) else bif decide (2147483647 < (aZ l).1) then ((0,[]),[],4) else bif decide (((aZ l).1:Int)<=last) then ((0,[]),[],2)
 else ((((aZ l).1:Int),(bG (aZ l).2.1).1),(bG (aZ l).2.1).2.1,(bG (aZ l).2.1).2.2)
theorem fT {x:Int} (h:(x != 0)=false):x=0:=by simpa using h
theorem nG {x:Int} (h:(x != 0)=true):x ≠ 0:=by simpa using h
theorem wL (l:List UInt8):((aZ l).2.2 ≠ 0/\(aZ l).1=0/\(aZ l).2.1=[]/\((aZ l).2.2=1\/(aZ l).2.2=2))\/((aZ l).2.2=0/\l=vi (aZ l).1 ++ (aZ l).2.1/\(aZ l).1 < 18446744073709551616):=by
 unfold aZ
 rcases gO l with ⟨h,h1,h2,h3⟩ | ⟨h0,h1,h2,h3,h4,h5⟩
 · rw [show ((vr l).2.2 != 0)=true by simpa using h]
   exact .inl ⟨h,rfl,rfl,h3⟩
 · rw [h0]
   refine .inr ⟨rfl,?_,h5⟩
   show l=vi (vr l).1 ++ l.drop (vr l).2.1
   rw [<-h4,List.take_append_drop]
theorem KH {n:Nat} (h:n < 18446744073709551616) (r:List UInt8):aZ (vi n ++ r)=(n,r,0):=by
 unfold aZ
 rw [UF h r]
 show (n,(vi n ++ r).drop (vi n).length,(0:Int))=_
 rw [List.drop_left]
theorem qP (l:List UInt8):(aZ l).2.1.length<=l.length/\((aZ l).2.2=0->(aZ l).2.1.length < l.length):=by
 rcases wL l with ⟨h,_,h2,_⟩ | ⟨_,h1,_⟩
 · rw [h2]; exact ⟨Nat.zero_le _,fun e=>absurd e h⟩
 · have:=congrArg List.length h1
   have hp:=w7 (aZ l).1
   rw [List.length_append] at this
   exact ⟨by omega,fun _=>by omega⟩
theorem SA (l:List UInt8):((bG l).2.2 ≠ 0/\(bG l).1=[]/\(bG l).2.1=[]/\((bG l).2.2=1\/(bG l).2.2=2))\/((bG l).2.2=0/\l=vi (bG l).1.length ++ (bG l).1 ++ (bG l).2.1):=by
 unfold bG
 rcases wL l with ⟨h,_,_,h3⟩ | ⟨h0,h1,h2⟩
 · rw [show ((aZ l).2.2 != 0)=true by simpa using h]
   exact .inl ⟨h,rfl,rfl,h3⟩
 · rw [h0]
   show (_\/_)
   rw [show ((0:Int) != 0)=false from rfl,cond_false]
   cases hd:decide ((aZ l).2.1.length < (aZ l).1) with
   | true=>exact .inl ⟨by show (1:Int) ≠ 0; decide,rfl,rfl,.inl rfl⟩
   | false=>
    have:=of_decide_eq_false hd
    refine .inr ⟨rfl,?_⟩
    show l=vi ((aZ l).2.1.take (aZ l).1).length ++ (aZ l).2.1.take (aZ l).1 ++ (aZ l).2.1.drop (aZ l).1
    rw [List.append_assoc,List.take_append_drop,List.length_take,Nat.min_eq_left (by omega)]
    exact h1
theorem TC {x:List UInt8} (h:x.length < 18446744073709551616) (r:List UInt8):bG (vi x.length ++ x ++ r)=(x,r,0):=by
 unfold bG
 rw [List.append_assoc,KH h]
 show (bif decide ((x ++ r).length < x.length) then _ else ((x ++ r).take x.length,(x ++ r).drop x.length,(0:Int)))=_
 rw [decide_eq_false (by simp),List.take_left,List.drop_left]; rfl
theorem D5 (l:List UInt8):(bG l).1.length<=l.length/\(bG l).2.1.length<=l.length/\((bG l).2.2=0->(bG l).1.length + (bG l).2.1.length < l.length):=by
 rcases SA l with ⟨h,h1,h2,_⟩ | ⟨_,h1⟩
 · rw [h1,h2]; exact ⟨Nat.zero_le _,Nat.zero_le _,fun e=>absurd e h⟩
 · have:=congrArg List.length h1
   have hp:=w7 (bG l).1.length
   rw [List.length_append,List.length_append] at this
   exact ⟨by omega,by omega,fun _=>by omega⟩
theorem UO (l:List UInt8) (last:Int):((aT l last).2.2 ≠ 0)\/((aT l last).2.2=0/\last < (aT l last).1.1/\0<=(aT l last).1.1/\(aT l last).1.1<=2147483647/\l=vi (aT l last).1.1.toNat ++ (vi (aT l last).1.2.length ++ (aT l last).1.2) ++ (aT l last).2.1):=by
 unfold aT
 rcases wL l with ⟨h,_,_,_⟩ | ⟨h0,h1,h2⟩
 · rw [show ((aZ l).2.2 != 0)=true by simpa using h]
   exact .inl h
 · rw [h0,show ((0:Int) != 0)=false from rfl,cond_false]
   cases hd:decide (2147483647 < (aZ l).1) with
   | true=>exact .inl (by show (4:Int) ≠ 0; decide)
   | false=>
   rw [cond_false]
   cases hq:decide (((aZ l).1:Int)<=last) with
   | true=>exact .inl (by show (2:Int) ≠ 0; decide)
   | false=>
   rw [cond_false]
   have g1:=of_decide_eq_false hd
   have g2:=of_decide_eq_false hq
   rcases SA (aZ l).2.1 with ⟨h,_,_,_⟩ | ⟨h3,h4⟩
   · exact .inl h
   · refine .inr ⟨h3,by show last < ((aZ l).1:Int); omega,by show (0:Int)<=((aZ l).1:Int); omega,by show ((aZ l).1:Int)<=2147483647; omega,?_⟩
     show l=vi ((aZ l).1:Int).toNat ++ (vi (bG (aZ l).2.1).1.length ++ (bG (aZ l).2.1).1) ++ (bG (aZ l).2.1).2.1
     rw [Int.toNat_natCast,List.append_assoc,<-h4]
     exact h1
theorem Q3 {n:Nat} {x:List UInt8} {last:Int} (h1:n<=2147483647) (h2:last < n) (h:x.length < 18446744073709551616) (r:List UInt8):aT (vi n ++ (vi x.length ++ x) ++ r) last=(((n:Int),x),r,0):=by
 unfold aT
 rw [List.append_assoc,KH (by omega)]
 show (bif decide (2147483647 < n) then _ else bif decide ((n:Int)<=last) then _ else (((n:Int),(bG (vi x.length ++ x ++ r)).1),(bG (vi x.length ++ x ++ r)).2.1,(bG (vi x.length ++ x ++ r)).2.2))=_
 rw [decide_eq_false (by omega),decide_eq_false (by omega),TC h]; rfl
theorem mR (l:List UInt8) (last:Int):(aT l last).1.2.length<=l.length/\(aT l last).2.1.length<=l.length/\((aT l last).2.2=0->(aT l last).1.2.length + (aT l last).2.1.length < l.length):=by
 have h1:=qP l
 have h2:=D5 (aZ l).2.1
 unfold aT
 cases (aZ l).2.2 != 0 with
 | true=>exact ⟨Nat.zero_le _,Nat.zero_le _,fun e=>by
  rcases wL l with ⟨h,_⟩ | ⟨h,_⟩
  · exact absurd e h
  · have:=h1.2 h; show 0 + 0 < _; omega⟩
 | false=>
 rw [cond_false]
 cases decide (2147483647 < (aZ l).1) with
 | true=>exact ⟨Nat.zero_le _,Nat.zero_le _,fun e=>absurd e (by show (4:Int) ≠ 0; decide)⟩
 | false=>
 rw [cond_false]
 cases decide (((aZ l).1:Int)<=last) with
 | true=>exact ⟨Nat.zero_le _,Nat.zero_le _,fun e=>absurd e (by show (2:Int) ≠ 0; decide)⟩
 | false=>
  exact ⟨Nat.le_trans h2.1 h1.1,Nat.le_trans h2.2.1 h1.1,fun e=>Nat.lt_of_lt_of_le (h2.2.2 e) h1.1⟩
def bY:Nat->Int->List UInt8->List (Int × List UInt8) × Int
 | 0,_,_=>([],0)
 | g + 1,last,b=>bif b == [] then ([],0) else bif (aT b last).2.2 != 0 then ([],(aT b last).2.2) else bif (bY g (aT b last).1.1 (aT b last).2.1).2 != 0 then ([],(bY g (aT b last).1.1 (aT b last).2.1).2) else ((aT b last).1 :: (bY g (aT b last).1.1 (aT b last).2.1).1,0)
theorem AK (g:Nat) (last:Int) (b:List UInt8):bY (g + 1) last b=bif b == [] then ([],0) else bif (aT b last).2.2 != 0 then ([],(aT b last).2.2) else bif (bY g (aT b last).1.1 (aT b last).2.1).2 != 0 then ([],(bY g (aT b last).1.1 (aT b last).2.1).2) else ((aT b last).1 :: (bY g (aT b last).1.1 (aT b last).2.1).1,0):=rfl
def pM (n:Int):Nat:=if n < 0 then (2 * (-(n + 1)) + 1).toNat else (2 * n).toNat
def pW (n:Nat):Int:=if n % 2=1 then -1 - ((n / 2:Nat):Int) else ((n / 2:Nat):Int)
inductive Vl where
 | mk (k n:Int) (s:ByteArray) (l:List Vl) (f:List (Int × Vl))
instance:Inhabited Vl:=⟨.mk 0 0 ByteArray.empty [] []⟩
def Vl.k:Vl->Int | .mk k _ _ _ _=>k
def Vl.n:Vl->Int | .mk _ n _ _ _=>n
def Vl.s:Vl->ByteArray | .mk _ _ s _ _=>s
def Vl.l:Vl->List Vl | .mk _ _ _ l _=>l
def Vl.f:Vl->List (Int × Vl) | .mk _ _ _ _ f=>f
mutual
def aQ:Vl->List C
 | .mk k n s l f=>[.vl (.int .i64 k),.vl (.int .i64 n),.vl (.string s),.fz (j4 l),.fz (j3 f)]
def j4:List Vl->List (List C)
 | []=>[]
 | v :: r=>aQ v :: j4 r
def j3:List (Int × Vl)->List (List C)
 | []=>[]
 | (i,v) :: r=>(.vl (.int .i64 i) :: aQ v) :: j3 r
end
def bD (x:Int × Vl):List C:=.vl (.int .i64 x.1) :: aQ x.2
theorem tV:∀ l:List Vl,j4 l=l.map aQ
 | []=>rfl
 | v :: r=>by rw [j4,tV r]; rfl
theorem tL:∀ l:List (Int × Vl),j3 l=l.map bD
 | []=>rfl
 | (i,v) :: r=>by rw [j3,tL r]; rfl
theorem aK (v:Vl):aQ v=[.vl (.int .i64 v.k),.vl (.int .i64 v.n),.vl (.string v.s),.fz (v.l.map aQ),.fz (v.f.map bD)]:=by
 cases v with
 | mk k n s l f=>rw [aQ,tV,tL]; rfl
theorem iM (x:Int × Vl):bD x=[.vl (.int .i64 x.1),.vl (.int .i64 x.2.k),.vl (.int .i64 x.2.n),.vl (.string x.2.s),.fz (x.2.l.map aQ),.fz (x.2.f.map bD)]:=by
 show C.vl (.int .i64 x.1) :: aQ x.2=_
 rw [aK]
mutual
theorem rG:∀ {a b:Vl},aQ a=aQ b->a=b
 | .mk k n s l f,.mk k' n' s' l' f',h=>by
  rw [aQ,aQ] at h
  simp only [List.cons.injEq,C.vl.injEq,Value.int.injEq,Value.string.injEq,C.fz.injEq,true_and,and_true] at h
  obtain ⟨rfl,rfl,rfl,h4,h5⟩:=h
  rw [CT h4,D0 h5]
theorem CT:∀ {a b:List Vl},j4 a=j4 b->a=b
 | [],[],_=>rfl
 | [],_ :: _,h=>by rw [j4,j4] at h; cases h
 | _ :: _,[],h=>by rw [j4,j4] at h; cases h
 | x :: a,y :: b,h=>by
  rw [j4,j4] at h
  obtain ⟨h1,h2⟩:=List.cons.inj h
  rw [rG h1,CT h2]
theorem D0:∀ {a b:List (Int × Vl)},j3 a=j3 b->a=b
 | [],[],_=>rfl
 | [],(_,_) :: _,h=>by rw [j3,j3] at h; cases h
 | (_,_) :: _,[],h=>by rw [j3,j3] at h; cases h
 | (i,x) :: a,(j,y) :: b,h=>by
  rw [j3,j3] at h
  obtain ⟨h1,h2⟩:=List.cons.inj h
  obtain ⟨h3,h4⟩:=List.cons.inj h1
  have e:i=j:=by simpa using h3
  rw [e,rG h4,D0 h2]
end
noncomputable def C.vv:=pA aQ
@[go_sem] theorem gJ (v:Vl):C.vv (aQ v)=v:=gL rG v
mutual
def Vl.h:Vl->Nat
 | .mk _ _ _ l f=>max (Vl.hl l) (Vl.hf f) + 1
def Vl.hl:List Vl->Nat
 | []=>0
 | v :: r=>max v.h (Vl.hl r)
def Vl.hf:List (Int × Vl)->Nat
 | []=>0
 | (_,v) :: r=>max v.h (Vl.hf r)
end
theorem Vl.h_pos (v:Vl):0 < v.h:=by cases v; rw [Vl.h]; omega
theorem Vl.hl_mem:∀ {l:List Vl} {v:Vl},v ∈ l->v.h<=Vl.hl l
 | x :: l,v,h=>by
  rw [Vl.hl]
  rcases List.mem_cons.1 h with rfl | h
  · omega
  · have:=Vl.hl_mem h; omega
theorem Vl.hf_mem:∀ {l:List (Int × Vl)} {x:Int × Vl},x ∈ l->x.2.h<=Vl.hf l
 | (i,y) :: l,x,h=>by
  rw [Vl.hf]
  rcases List.mem_cons.1 h with rfl | h
  · dsimp only; omega
  · have:=Vl.hf_mem h; omega
theorem Vl.h_l {v x:Vl} (h:x ∈ v.l):x.h < v.h:=by
 cases v with
 | mk k n s l f=>have:=Vl.hl_mem (show x ∈ l from h); rw [Vl.h]; omega
theorem Vl.h_f {v:Vl} {x:Int × Vl} (h:x ∈ v.f):x.2.h < v.h:=by
 cases v with
 | mk k n s l f=>have:=Vl.hf_mem (show x ∈ f from h); rw [Vl.h]; omega
inductive VlOk:Vl->Prop
 | mk {k n:Int} {s:ByteArray} {l:List Vl} {f:List (Int × Vl)}:bM k->bM n->s.size<=9223372036854775807->l.length * 80<=140737488355328->f.length * 88<=140737488355328->(∀ v ∈ l,VlOk v)->(∀ x ∈ f,bM x.1)->(∀ x ∈ f,VlOk x.2)->VlOk (.mk k n s l f)
theorem VlOk.k {v:Vl} (h:VlOk v):bM v.k:=by cases h; assumption
theorem VlOk.n {v:Vl} (h:VlOk v):bM v.n:=by cases h; assumption
theorem VlOk.s {v:Vl} (h:VlOk v):v.s.size<=9223372036854775807:=by cases h; assumption
theorem VlOk.ll {v:Vl} (h:VlOk v):v.l.length * 80<=140737488355328:=by cases h; assumption
theorem VlOk.lf {v:Vl} (h:VlOk v):v.f.length * 88<=140737488355328:=by cases h; assumption
theorem VlOk.l {v:Vl} (h:VlOk v):∀ x ∈ v.l,VlOk x:=by cases h; assumption
theorem VlOk.fn {v:Vl} (h:VlOk v):∀ x ∈ v.f,bM x.1:=by cases h; assumption
theorem VlOk.f {v:Vl} (h:VlOk v):∀ x ∈ v.f,VlOk x.2:=by cases h; assumption
def oL (r:List C):Prop:=∃ v,r=aQ v/\VlOk v
theorem G8 {v:Vl} (h:VlOk v):oL (aQ v):=⟨v,rfl,h⟩
def aAG:PC:=.seq (.reg [.q 4 (.mv (.i 0))]) (.seq (.seq (.reg [.v 5 0,.v 6 1,.q 7 (.bin .lss true (.t 5) (.t 6))]) (.cond (.t 7) (.seq (.reg [.q 4 (.mv (.i (-1)))]) .ret) .skip)) (.seq (.seq (.reg [.v 8 0,.v 9 1,.q 10 (.bin .gtr true (.t 8) (.t 9))]) (.cond (.t 10) (.seq (.reg [.q 4 (.mv (.i 1))]) .ret) .skip)) (.seq (.reg [.q 4 (.mv (.i 0))]) .ret)))
def ZX:List RV:=[.mv (.t 4)]
theorem aOV:aP Tryz.prog true ⟨fun _ _=>.own [],fun _=>false⟩ Tryz.f58=some (aAG,ZX):=by kernel_rfl
def ZC:PC:=.seq (.reg [.q 4 (.mv (.i 0))]) (.seq (.seq (.reg [.q 5 (.mv (.i 0))]) (.block 0 (.loop (.seq (.seq (.reg [.v 6 5,.v 7 0,.q 8 (.lnS (.t 7)),.q 9 (.bin .lss true (.t 6) (.t 8)),.v 10 9,⟨some 11,(some (10,true)),.q (.mv (.t 5))⟩,⟨some 12,(some (10,true)),.q (.mv (.t 1))⟩,⟨some 13,(some (10,true)),.q (.lnS (.t 12))⟩,⟨some 14,(some (10,true)),.q (.bin .lss true (.t 11) (.t 13))⟩,.a 15 (.pick (.t 10) (.t 14) (.k (.bool false)))]) (.cond (.t 15) .skip (.exit 0))) (.seq (.block 1 (.seq (.seq (.reg [.v 18 0,.v 19 5,.a 20 (.ix (.t 18) (.t 19)),.v 21 1,.v 22 5,.a 23 (.ix (.t 21) (.t 22)),.q 24 (.bin .lss true (.t 20) (.t 23))]) (.cond (.t 24) (.seq (.reg [.q 4 (.mv (.i (-1)))]) .ret) .skip)) (.seq (.reg [.v 25 0,.v 26 5,.a 27 (.ix (.t 25) (.t 26)),.v 28 1,.v 29 5,.a 30 (.ix (.t 28) (.t 29)),.q 31 (.bin .gtr true (.t 27) (.t 30))]) (.cond (.t 31) (.seq (.reg [.q 4 (.mv (.i 1))]) .ret) .skip)))) (.reg [.v 16 5,.q 17 (.bin .add true (.t 16) (.i 1)),.v 5 17])))))) (.seq (.reg [.v 32 0,.q 33 (.lnS (.t 32)),.v 34 1,.q 35 (.lnS (.t 34)),.a 36 (.cq 58 [(.t 33),(.t 35)]),.v 4 36]) .ret))
def Y9:List RV:=[.mv (.t 4)]
theorem aN9:aP Tryz.prog true ⟨fun r k=>if r=8/\k=4 then .q else .own [],fun _=>false⟩ Tryz.f59=some (ZC,Y9):=by kernel_rfl
def jY (a b:Int):Int:=bif decide (a < b) then -1 else bif decide (b < a) then 1 else 0
def CB:List S->Prop:=fun av=>match av with
 | [.va (.c1 (.vl (.int .i64 _))),.va (.c1 (.vl (.int .i64 _)))]=>True
 | _=>False
theorem iD {av:List S} (h:CB av):∃ a b:Int,av=[iS .i64 a,iS .i64 b]:=by
 unfold CB at h
 split at h
 · exact ⟨_,_,rfl⟩
 · exact h.elim
def SG:List S->A:=fun av=>match av with
 | [.va (.c1 (.vl (.int _ a))),.va (.c1 (.vl (.int _ b)))]=>iA .i64 (jY a b)
 | _=>.gs []
def sgFn:Fun:=⟨CB,SG,fun av h=>by obtain ⟨a,b,rfl⟩:=iD h; trivial⟩
theorem uJ:∀ av H K,sgFn.sp av H K->av.length=2:=fun av H K h=>by obtain ⟨a,b,rfl⟩:=iD h.1.1; rfl
attribute [go_sem] sgFn CB SG
theorem S6:Meets Tryz.prog 58 sgFn.sp:=by
 refine aD Tryz.func58 aOV 2 (by rw [Tryz.ntmps58]; decide) (aB _) uJ ?_
 rintro av H K ⟨⟨h,rfl⟩,hK⟩
 obtain ⟨a,b,rfl⟩:=iD h
 have hK:K (iS .i64 (jY a b)) []:=hK
 clear h
 unfold jY at hK
 simp (maxSteps:=1000000) -dsimp only [go_sem,aAG,ZX]
 refine ⟨fun h1=>?_,fun h1=>⟨fun h2=>?_,fun h2=>?_⟩⟩
 · rw [h1] at hK; exact .done hK
 · rw [h1,h2] at hK; exact .done hK
 · rw [h1,h2] at hK; exact .done hK
def bE (v:Vl):List C:=[.vl (.int .i64 v.k),.vl (.int .i64 v.n),.vl (.string v.s),.fz (v.l.map aQ),.fz (v.f.map bD)]
theorem mH {l:List Vl} {i:Nat} {x:Vl} (h:l[i]? = some x) (p:List C->Prop):(∀ r,(l.map aQ)[((i:Nat):Int).toNat]? = some r->p r)=p [.vl (.int .i64 x.k),.vl (.int .i64 x.n),.vl (.string x.s),.fz (x.l.map aQ),.fz (x.f.map bD)]:=by
 rw [<-aK]; exact aY (row:=aQ) h p
theorem iF {l:List (Int × Vl)} {i:Nat} {x:Int × Vl} (h:l[i]? = some x) (p:List C->Prop):(∀ r,(l.map bD)[((i:Nat):Int).toNat]? = some r->p r)=p [.vl (.int .i64 x.1),.vl (.int .i64 x.2.k),.vl (.int .i64 x.2.n),.vl (.string x.2.s),.fz (x.2.l.map aQ),.fz (x.2.f.map bD)]:=by
 rw [<-iM]; exact aY (row:=bD) h p
theorem dE {v:Vl} (h:VlOk v):oL [.vl (.int .i64 v.k),.vl (.int .i64 v.n),.vl (.string v.s),.fz (v.l.map aQ),.fz (v.f.map bD)]:=by rw [<-aK]; exact G8 h
theorem gH (v:Vl):C.vv [.vl (.int .i64 v.k),.vl (.int .i64 v.n),.vl (.string v.s),.fz (v.l.map aQ),.fz (v.f.map bD)]=v:=by rw [<-aK,gJ]
mutual
def szW:Vl->Int
 | .mk _ _ _ l f=>szF (szL 1 l) f
def szL:Int->List Vl->Int
 | a,[]=>a
 | a,v :: r=>szL (IntKind.i64.wrap (a + szW v)) r
def szF:Int->List (Int × Vl)->Int
 | a,[]=>a
 | a,(_,v) :: r=>szF (IntKind.i64.wrap (a + szW v)) r
end
theorem NY:Meets Tryz.prog 17 u0:=by
 refine aD Tryz.func17 aM0 2 (by rw [Tryz.ntmps17]; decide) (aB _) (fun av H K h=>by obtain ⟨_,_,rfl,_⟩:=h; rfl) ?_
 rintro av H K ⟨s,n,rfl,rfl,hs,hK⟩
 rw [<-p6] at hK
 have hl:=hs.ok.ls
 simp -dsimp only [go_sem,aJ,aAE,Y4]
 refine aU (α:=Nat) (fun i=>[(1,tS n),(2,.va (.c1 (.pt 0 0))),(4,.va (.c1 (.pt 1 0))),(6,iS .i64 i)]) (fun _=>[.cells (aJ s) 25,.cells [.vl (.string (mk [])),.vl (.slice none 0 0)] 48])
  (fun i=>i<=s.ss.length/\fS (s.ss.drop i) n=fS s.ss n) (fun i=>s.ss.length - i) 0 2 ⟨Nat.zero_le _,rfl⟩ ?_ ?_ ?_
 · simp [go_sem]
 · simp [go_sem,aJ]
 rintro i ⟨hi,ho⟩
 rcases a8 i s.ss.length with hlt | hge
 · have hg:decide ((i:Int) < (s.ss.length:Int))=true:=by simp; omega
   obtain ⟨t,hx⟩:∃ e,s.ss[i]? = some e:=⟨_,aV hlt⟩
   have q2:=aY (row:=aI) hx
   rw [fS,lK hx] at ho
   cases hc:decide (t.nm=n) with
   | true=>
    rw [hc,bI] at ho
    rw [<-ho] at hK
    simp (maxSteps:=1000000) -dsimp only [go_sem,hg,↓q2,aI,aJ,eL,hc]
    refine ⟨by omega,by omega,.sel [] (by simp) (by simp) rfl (.done (by simpa [go_sem,aI] using hK))⟩
   | false=>
    rw [hc,aX] at ho
    simp (maxSteps:=1000000) -dsimp only [go_sem,hg,↓q2,aI,aJ,eL,hc]
    refine ⟨by omega,by omega,aE (i + 1) 2 ⟨by omega,ho⟩ (by omega) ?_ ?_⟩
    · simp [go_sem]
    · simp [go_sem,aJ]
 · have hg:decide ((i:Int) < (s.ss.length:Int))=false:=by simp; omega
   obtain rfl:i=s.ss.length:=by omega
   rw [List.drop_length] at ho
   rw [<-ho] at hK
   simp -dsimp only [go_sem,hg,aJ]
   exact .sel [] (by simp) (by simp) rfl (.done (by simpa [go_sem,fS,GP] using hK))
def S5:W.Spec:=fun av H K=>∃ (s:Sc) (n:ByteArray),av=[.va (.gs (aJ s)),tS n]/\H=[]/\s.fit/\K (.tu [.gs (a6 ((eN s.es n).getD default)),bA (dH s.es n)]) []
theorem y8 {s:Sc} {n:ByteArray} {K:S->Hp->Prop} (h:s.fit) (hK:K (.tu [.gs (a6 ((eN s.es n).getD default)),bA (dH s.es n)]) []):S5 [.va (.gs (aJ s)),tS n] [] K:=⟨s,n,rfl,rfl,h,hK⟩
theorem X2:a6 default=[.vl (.string (mk [])),.fz [],.fz []]:=rfl
theorem M6:Meets Tryz.prog 18 oN:=by
 refine aD Tryz.func18 aON 2 (by rw [Tryz.ntmps18]; decide) (aB _) (fun av H K h=>by obtain ⟨_,_,rfl,_⟩:=h; rfl) ?_
 rintro av H K ⟨s,n,rfl,rfl,hs,hsm,hK⟩
 have hl:=hs.len
 simp -dsimp only [go_sem,aI,aC7,YG]
 refine aU (α:=Nat) (fun i=>[(1,iS .i64 n),(2,.va (.c1 (.pt 0 0))),(4,.va (.c1 (.pt 1 0))),(6,iS .i64 i)]) (fun _=>[.cells (aI s) 48,.cells [.vl (.int .i64 0),.vl (.string (mk [])),.vl (.int .i64 0),.vl (.int .i64 0),.vl (.string (mk [])),.vl (.slice none 0 0),.vl (.bool false)] 52])
  (fun i=>i<=s.fs.length/\fF (s.fs.drop i) n=fF s.fs n) (fun i=>s.fs.length - i) 0 2 ⟨Nat.zero_le _,rfl⟩ ?_ ?_ ?_
 · simp [go_sem]
 · simp [go_sem,aI]
 rintro i ⟨hi,ho⟩
 rcases a8 i s.fs.length with hlt | hge
 · have hg:decide ((i:Int) < (s.fs.length:Int))=true:=by simp; omega
   obtain ⟨t,hx⟩:∃ e,s.fs[i]? = some e:=⟨_,aV hlt⟩
   have q2:=aY (row:=aR) hx
   rw [fF,lK hx] at ho
   have hq:(t.num == n)=decide (t.num=n):=rfl
   cases hc:decide (t.num=n) with
   | true=>
    rw [hc,bI] at ho
    rw [<-ho] at hK
    simp (maxSteps:=1000000) -dsimp only [go_sem,hg,↓q2,aR,aI,hq,hc]
    refine ⟨by omega,by omega,.sel [] (by simp) (by simp) rfl (.done (by simpa [go_sem,aR] using hK))⟩
   | false=>
    rw [hc,aX] at ho
    simp (maxSteps:=1000000) -dsimp only [go_sem,hg,↓q2,aR,aI,hq,hc]
    refine ⟨by omega,by omega,aE (i + 1) 2 ⟨by omega,ho⟩ (by omega) ?_ ?_⟩
    · simp [go_sem]
    · simp [go_sem,aI]
 · have hg:decide ((i:Int) < (s.fs.length:Int))=false:=by simp; omega
   obtain rfl:i=s.fs.length:=by omega
   rw [List.drop_length] at ho
   rw [<-ho] at hK
   simp -dsimp only [go_sem,hg,aI]
   exact .sel [] (by simp) (by simp) rfl (.done (by simpa [go_sem,fF,rF] using hK))
end Go.Proofs.YthpbnmebjocbeaaGreat
