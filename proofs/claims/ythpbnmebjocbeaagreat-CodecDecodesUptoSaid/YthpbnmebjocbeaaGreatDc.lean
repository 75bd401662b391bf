/- Lemmas and walks for the proof. -/
import Derived.Test.YthpbnmebjocbeaaGreatDb
import Derived.Test.YthpbnmebjocbeaaGreatProg
import Derived.Shelf.Strings.Search1
import Derived.Shelf.Small.Strs
import Derived.Shelf.Sort.Plain
import Derived.Shelf.Slices.In.SortNone
import Derived.WalkKit
import Derived.Laws.IdiomStrings
set_option maxRecDepth 100000
set_option maxHeartbeats 8000000
namespace Go.Proofs.YthpbnmebjocbeaaGreat
open Go.W
def ZS:PC:=.seq (.reg [.q 4 (.mv (.k (.bool false)))]) (.seq (.reg [.v 5 0,.v 6 1,.a 7 (.cq 142 [(.t 5),(.t 6)]),.q 8 (.bin .geq true (.t 7) (.i 0)),.v 4 8]) .ret)
def aAB:List RV:=[.mv (.t 4)]
theorem aN8:aO Tryz.prog true ⟨fun r k=>if r=1/\k=2 then .q else .own [],fun _=>false⟩ Tryz.f109=some (ZS,aAB):=by kernel_rfl
def WN:PC:=.seq (.reg [.q 4 (.mv (.k (.bool false)))]) (.seq (.reg [.v 5 0,.v 6 1,.a 7 (.cl 149 [(.t 5),(.t 6)] [0]),.q 8 (.bin .geq true (.t 7) (.i 0)),.v 4 8]) .ret)
def XE:List RV:=[.mv (.t 4)]
theorem aOT:aO Tryz.prog true ⟨fun r k=>if r=1/\k=2 then .own [0] else .own [],fun _=>false⟩ Tryz.f114=some (WN,XE):=by kernel_rfl
def N9:PC:=.seq (.reg [.q 4 (.mv (.i 0))]) (.seq (.seq (.reg [.v 6 0,.q 7 (.lnL (.t 6)),.q 8 (.mv (.i 0))]) (.block 0 (.loop (.seq (.reg [.q 9 (.bin .lss true (.t 8) (.t 7))]) (.seq (.cond (.t 9) .skip (.exit 0)) (.seq (.block 1 (.seq (.reg [.v 10 8,.v 5 10]) (.seq (.reg [.v 11 1,.v 12 0,.v 13 5,.l 14 (.ia 6 (.t 12) (.t 13)),.l 15 (.ldn 6 (.t 14)),.a 16 (.ca (.t 11) [(.t 15)] [0])]) (.cond (.t 16) (.seq (.reg [.v 17 5,.v 4 17]) .ret) .skip)))) (.reg [.q 18 (.bin .add true (.t 8) (.i 1)),.v 8 18]))))))) (.seq (.reg [.q 4 (.mv (.i (-1)))]) .ret))
def NO:List RV:=[.mv (.t 4)]
theorem X3:aO Tryz.prog true ⟨fun r k=>if r=4/\k=5 then .own [0] else .own [],fun _=>false⟩ Tryz.f117=some (N9,NO):=by kernel_rfl
def aAU:PC:=.seq (.reg [.q 4 (.mv (.i 0))]) (.seq (.seq (.reg [.v 6 0,.q 7 (.lnL (.t 6)),.q 8 (.mv (.i 0))]) (.block 0 (.loop (.seq (.reg [.q 9 (.bin .lss true (.t 8) (.t 7))]) (.seq (.cond (.t 9) .skip (.exit 0)) (.seq (.block 1 (.seq (.reg [.v 10 8,.v 5 10]) (.seq (.reg [.v 11 1,.v 12 0,.v 13 5,.l 14 (.ia 1 (.t 12) (.t 13)),.l 15 (.ld1 (.t 14)),.q 16 (.bin .eql true (.t 11) (.t 15))]) (.cond (.t 16) (.seq (.reg [.v 17 5,.v 4 17]) .ret) .skip)))) (.reg [.q 18 (.bin .add true (.t 8) (.i 1)),.v 8 18]))))))) (.seq (.reg [.q 4 (.mv (.i (-1)))]) .ret))
def ZE:List RV:=[.mv (.t 4)]
theorem aMC:aO Tryz.prog true ⟨fun _ _=>.own [],fun _=>false⟩ Tryz.f142=some (aAU,ZE):=by kernel_rfl
def XH:PC:=.seq (.reg [.q 4 (.mv (.i 0))]) (.seq (.seq (.reg [.v 6 0,.q 7 (.lnL (.t 6)),.q 8 (.mv (.i 0))]) (.block 0 (.loop (.seq (.reg [.q 9 (.bin .lss true (.t 8) (.t 7))]) (.seq (.cond (.t 9) .skip (.exit 0)) (.seq (.block 1 (.seq (.reg [.v 10 8,.v 5 10]) (.seq (.reg [.v 11 1,.v 12 0,.v 13 5,.l 14 (.ia 1 (.t 12) (.t 13)),.l 15 (.ld1 (.t 14)),.a 16 (.ca (.t 11) [(.t 15)] [0])]) (.cond (.t 16) (.seq (.reg [.v 17 5,.v 4 17]) .ret) .skip)))) (.reg [.q 18 (.bin .add true (.t 8) (.i 1)),.v 8 18]))))))) (.seq (.reg [.q 4 (.mv (.i (-1)))]) .ret))
def YZ:List RV:=[.mv (.t 4)]
theorem aL2:aO Tryz.prog true ⟨fun r k=>if r=4/\k=5 then .own [0] else .own [],fun _=>false⟩ Tryz.f149=some (XH,YZ):=by kernel_rfl
def aAN:PC:=.seq (.reg [.q 4 (.mv (.k (.bool false)))]) (.seq (.reg [.v 5 0,.v 6 1,.a 7 (.cl 117 [(.t 5),(.t 6)] [0]),.q 8 (.bin .geq true (.t 7) (.i 0)),.v 4 8]) .ret)
def aAJ:List RV:=[.mv (.t 4)]
theorem aPF:aO Tryz.prog true ⟨fun r k=>if r=1/\k=2 then .own [0] else .own [],fun _=>false⟩ Tryz.f150=some (aAN,aAJ):=by kernel_rfl
def aJX:PC:=.seq (.reg [.e 1 (.bx 25 (.t 0)),.q 2 (.mv (.i 0))]) (.seq (.seq (.reg [.q 13 (.fa 0 (.t 1)),.l 14 (.ld1 (.t 13)),.q 15 (.bin .lss true (.t 14) (.i 1)),.v 16 15,⟨some 17,(some (16,false)),.q (.fa 0 (.t 1))⟩,⟨some 18,(some (16,false)),.l (.ld1 (.t 17))⟩,⟨some 19,(some (16,false)),.q (.bin .gtr true (.t 18) (.i 999))⟩,.a 20 (.pick (.t 16) (.k (.bool true)) (.t 19))]) (.cond (.t 20) (.seq (.reg [.q 2 (.mv (.i 4))]) .ret) .skip)) (.seq (.seq (.reg [.l 21 (.ldn 3 (.t 1)),.a 22 (.cq 67 [(.t 21)])]) (.cond (.t 22) (.seq (.reg [.q 2 (.mv (.i 3))]) .ret) .skip)) (.seq (.seq (.reg [.q 23 (.fa 1 (.t 1)),.l 24 (.ld1 (.t 23)),.q 25 (.lnL (.t 24)),.q 26 (.mv (.i 0))]) (.block 0 (.loop (.seq (.reg [.q 27 (.bin .lss true (.t 26) (.t 25))]) (.seq (.cond (.t 27) .skip (.exit 0)) (.seq (.block 1 (.seq (.reg [.v 28 26,.l 29 (.ia 3 (.t 24) (.t 26)),.l 30 (.ldn 3 (.t 29)),.e 4 (.al (.agg #[(.string (mk [])),(.slice none 0 0),(.slice none 0 0)]) 118),.v 3 28,.s (.st 3 (.t 4) (.t 30))]) (.seq (.seq (.reg [.q 31 (.fa 0 (.t 4)),.l 32 (.ld1 (.t 31)),.a 33 (.cq 68 [(.t 32)]),.q 34 (.not (.t 33))]) (.cond (.t 34) (.seq (.reg [.q 2 (.mv (.i 5))]) .ret) .skip)) (.seq (.seq (.reg [.q 35 (.fa 1 (.t 1)),.l 36 (.ld1 (.t 35)),.v 37 3,.q 38 (.sf 3 (.t 36) none (some (.t 37))),.q 39 (.lnL (.t 38)),.q 40 (.mv (.i 0))]) (.block 2 (.loop (.seq (.reg [.q 41 (.bin .lss true (.t 40) (.t 39))]) (.seq (.cond (.t 41) .skip (.exit 2)) (.seq (.block 3 (.seq (.reg [.l 42 (.ia 3 (.t 38) (.t 40)),.l 43 (.ldn 3 (.t 42)),.e 6 (.al (.agg #[(.string (mk [])),(.slice none 0 0),(.slice none 0 0)]) 118),.s (.st 3 (.t 6) (.t 43))]) (.seq (.reg [.q 44 (.fa 0 (.t 6)),.l 45 (.ld1 (.t 44)),.q 46 (.fa 0 (.t 4)),.l 47 (.ld1 (.t 46)),.q 48 (.bin .eql true (.t 45) (.t 47))]) (.cond (.t 48) (.seq (.reg [.q 2 (.mv (.i 7))]) .ret) .skip)))) (.reg [.q 49 (.bin .add true (.t 40) (.i 1)),.v 40 49]))))))) (.seq (.reg [.l 50 (.ldn 3 (.t 4)),.a 51 (.cq 69 [(.t 50)]),.v 7 51]) (.seq (.reg [.v 52 7,.q 53 (.bin .neq true (.t 52) (.i 0))]) (.cond (.t 53) (.seq (.reg [.v 54 7,.v 2 54]) .ret) .skip))))))) (.reg [.q 55 (.bin .add true (.t 26) (.i 1)),.v 26 55]))))))) (.seq (.reg [.l 56 (.ldn 3 (.t 1)),.a 57 (.cl 70 [(.t 56)] []),.e 8 (.al (.agg #[(.map none),(.map none)]) 124),.s (.st 2 (.t 8) (.t 57))]) (.seq (.seq (.reg [.q 58 (.fa 2 (.t 1)),.l 59 (.ld1 (.t 58)),.q 60 (.lnL (.t 59)),.q 61 (.mv (.i 0))]) (.block 4 (.loop (.seq (.reg [.q 62 (.bin .lss true (.t 61) (.t 60))]) (.seq (.cond (.t 62) .skip (.exit 4)) (.seq (.block 5 (.seq (.reg [.v 63 61,.l 64 (.ia 2 (.t 59) (.t 61)),.l 65 (.ldn 2 (.t 64)),.e 10 (.al (.agg #[(.string (mk [])),(.slice none 0 0)]) 48),.v 9 63,.s (.st 2 (.t 10) (.t 65))]) (.seq (.seq (.reg [.l 66 (.ldn 3 (.t 1)),.v 67 9,.q 68 (.fa 0 (.t 10)),.l 69 (.ld1 (.t 68)),.a 70 (.cq 71 [(.t 66),(.t 67),(.t 69)]),.v 11 70]) (.seq (.reg [.v 71 11,.q 72 (.bin .neq true (.t 71) (.i 0))]) (.cond (.t 72) (.seq (.reg [.v 73 11,.v 2 73]) .ret) .skip))) (.seq (.reg [.l 74 (.ldn 2 (.t 8)),.l 75 (.ldn 2 (.t 10)),.a 76 (.cl 72 [(.t 74),(.t 75)] [1,2]),.v 12 76]) (.seq (.reg [.v 77 12,.q 78 (.bin .neq true (.t 77) (.i 0))]) (.cond (.t 78) (.seq (.reg [.v 79 12,.v 2 79]) .ret) .skip)))))) (.reg [.q 80 (.bin .add true (.t 61) (.i 1)),.v 61 80]))))))) (.seq (.reg [.l 81 (.ldn 3 (.t 1)),.l 82 (.ldn 2 (.t 8)),.a 83 (.cl 73 [(.t 81),(.t 82)] [1,2]),.v 2 83]) .ret))))))
def aJT:List RV:=[.mv (.t 2)]
theorem aU7:aO Tryz.prog true ⟨fun r k=>if r=3/\k=1 then .q else if r=8/\k=2 then .q else if r=16/\k=1 then .q else if r=24/\k=4 then .q else if r=27/\k=2 then .own [1,2] else if r=31/\k=2 then .own [1,2] else .own [],fun _=>false⟩ Tryz.f39=some (aJX,aJT):=by kernel_rfl
def aJR:PC:=.seq (.reg [.e 2 (.bx 25 (.t 0)),.e 4 (.al (.agg #[(.string (mk [])),(.slice none 0 0)]) 48),.q 5 (.mv (.k (.bool false)))]) (.seq (.seq (.reg [.q 8 (.fa 2 (.t 2)),.l 9 (.ld1 (.t 8)),.q 10 (.lnL (.t 9)),.q 11 (.mv (.i 0))]) (.block 0 (.loop (.seq (.reg [.q 12 (.bin .lss true (.t 11) (.t 10))]) (.seq (.cond (.t 12) .skip (.exit 0)) (.seq (.block 1 (.seq (.reg [.l 13 (.ia 2 (.t 9) (.t 11)),.l 14 (.ldn 2 (.t 13)),.e 7 (.al (.agg #[(.string (mk [])),(.slice none 0 0)]) 48),.s (.st 2 (.t 7) (.t 14))]) (.seq (.reg [.q 15 (.fa 0 (.t 7)),.l 16 (.ld1 (.t 15)),.v 17 1,.q 18 (.bin .eql true (.t 16) (.t 17))]) (.cond (.t 18) (.seq (.reg [.l 19 (.ldn 2 (.t 7)),.a 20 (.cl 74 [(.t 19)] []),.s (.st 2 (.t 4) (.t 20)),.q 5 (.mv (.k (.bool true)))]) .ret) .skip)))) (.reg [.q 21 (.bin .add true (.t 11) (.i 1)),.v 11 21]))))))) (.seq (.reg [.q 22 (.bd [(.string (mk [])),(.slice none 0 0)] []),.s (.st 2 (.t 4) (.t 22)),.q 5 (.mv (.k (.bool false)))]) .ret))
def aJ9:List RV:=[.ld (.ldn 2 (.t 4)),.mv (.t 5)]
theorem aR6:aO Tryz.prog true ⟨fun _ _=>.own [],fun _=>false⟩ Tryz.f40=some (aJR,aJ9):=by kernel_rfl
def aKP:PC:=.seq (.reg [.e 2 (.bx 48 (.t 0)),.e 4 (.al (.agg #[(.int .i64 0),(.string (mk [])),(.int .i64 0),(.int .i64 0),(.string (mk [])),(.slice none 0 0),(.bool false)]) 52),.q 5 (.mv (.k (.bool false)))]) (.seq (.seq (.reg [.q 8 (.fa 1 (.t 2)),.l 9 (.ld1 (.t 8)),.q 10 (.lnL (.t 9)),.q 11 (.mv (.i 0))]) (.block 0 (.loop (.seq (.reg [.q 12 (.bin .lss true (.t 11) (.t 10))]) (.seq (.cond (.t 12) .skip (.exit 0)) (.seq (.block 1 (.seq (.reg [.l 13 (.ia 7 (.t 9) (.t 11)),.l 14 (.ldn 7 (.t 13)),.e 7 (.al (.agg #[(.int .i64 0),(.string (mk [])),(.int .i64 0),(.int .i64 0),(.string (mk [])),(.slice none 0 0),(.bool false)]) 52),.s (.st 7 (.t 7) (.t 14))]) (.seq (.reg [.q 15 (.fa 0 (.t 7)),.l 16 (.ld1 (.t 15)),.v 17 1,.q 18 (.bin .eql true (.t 16) (.t 17))]) (.cond (.t 18) (.seq (.reg [.l 19 (.ldn 7 (.t 7)),.a 20 (.cl 96 [(.t 19)] []),.s (.st 7 (.t 4) (.t 20)),.q 5 (.mv (.k (.bool true)))]) .ret) .skip)))) (.reg [.q 21 (.bin .add true (.t 11) (.i 1)),.v 11 21]))))))) (.seq (.reg [.q 22 (.bd [(.int .i64 0),(.string (mk [])),(.int .i64 0),(.int .i64 0),(.string (mk [])),(.slice none 0 0),(.bool false)] []),.s (.st 7 (.t 4) (.t 22)),.q 5 (.mv (.k (.bool false)))]) .ret))
def aFZ:List RV:=[.ld (.ldn 7 (.t 4)),.mv (.t 5)]
theorem aTZ:aO Tryz.prog true ⟨fun _ _=>.own [],fun _=>false⟩ Tryz.f54=some (aKP,aFZ):=by kernel_rfl
def aEA:PC:=.seq (.reg [.e 1 (.bx 25 (.t 0)),.q 2 (.mv (.k (.bool false)))]) (.seq (.seq (.reg [.q 7 (.fa 1 (.t 1)),.l 8 (.ld1 (.t 7)),.q 9 (.lnL (.t 8)),.q 10 (.bin .gtr true (.t 9) (.i 16)),.v 11 10,⟨some 12,(some (11,false)),.q (.fa 2 (.t 1))⟩,⟨some 13,(some (11,false)),.l (.ld1 (.t 12))⟩,⟨some 14,(some (11,false)),.q (.lnL (.t 13))⟩,⟨some 15,(some (11,false)),.q (.fa 1 (.t 1))⟩,⟨some 16,(some (11,false)),.l (.ld1 (.t 15))⟩,⟨some 17,(some (11,false)),.q (.lnL (.t 16))⟩,⟨some 18,(some (11,false)),.q (.bin .sub true (.i 16) (.t 17))⟩,⟨some 19,(some (11,false)),.q (.bin .gtr true (.t 14) (.t 18))⟩,.a 20 (.pick (.t 11) (.k (.bool true)) (.t 19))]) (.cond (.t 20) (.seq (.reg [.q 2 (.mv (.k (.bool true)))]) .ret) .skip)) (.seq (.seq (.reg [.q 21 (.fa 1 (.t 1)),.l 22 (.ld1 (.t 21)),.q 23 (.lnL (.t 22)),.q 24 (.mv (.i 0))]) (.block 0 (.loop (.seq (.reg [.q 25 (.bin .lss true (.t 24) (.t 23))]) (.seq (.cond (.t 25) .skip (.exit 0)) (.seq (.block 1 (.seq (.reg [.l 26 (.ia 3 (.t 22) (.t 24)),.l 27 (.ldn 3 (.t 26)),.e 4 (.al (.agg #[(.string (mk [])),(.slice none 0 0),(.slice none 0 0)]) 118),.s (.st 3 (.t 4) (.t 27))]) (.seq (.reg [.q 28 (.fa 1 (.t 4)),.l 29 (.ld1 (.t 28)),.q 30 (.lnL (.t 29)),.q 31 (.bin .gtr true (.t 30) (.i 16))]) (.cond (.t 31) (.seq (.reg [.q 2 (.mv (.k (.bool true)))]) .ret) .skip)))) (.reg [.q 32 (.bin .add true (.t 24) (.i 1)),.v 24 32]))))))) (.seq (.seq (.reg [.q 33 (.fa 2 (.t 1)),.l 34 (.ld1 (.t 33)),.q 35 (.lnL (.t 34)),.q 36 (.mv (.i 0))]) (.block 2 (.loop (.seq (.reg [.q 37 (.bin .lss true (.t 36) (.t 35))]) (.seq (.cond (.t 37) .skip (.exit 2)) (.seq (.block 3 (.seq (.reg [.l 38 (.ia 2 (.t 34) (.t 36)),.l 39 (.ldn 2 (.t 38)),.e 6 (.al (.agg #[(.string (mk [])),(.slice none 0 0)]) 48),.s (.st 2 (.t 6) (.t 39))]) (.seq (.reg [.q 40 (.fa 1 (.t 6)),.l 41 (.ld1 (.t 40)),.q 42 (.lnL (.t 41)),.q 43 (.bin .gtr true (.t 42) (.i 16))]) (.cond (.t 43) (.seq (.reg [.q 2 (.mv (.k (.bool true)))]) .ret) .skip)))) (.reg [.q 44 (.bin .add true (.t 36) (.i 1)),.v 36 44]))))))) (.seq (.reg [.q 2 (.mv (.k (.bool false)))]) .ret))))
def aIM:List RV:=[.mv (.t 2)]
theorem aVV:aO Tryz.prog true ⟨fun _ _=>.own [],fun _=>false⟩ Tryz.f67=some (aEA,aIM):=by kernel_rfl
def U2:PC:=.seq (.reg [.q 2 (.mv (.k (.bool false)))]) (.seq (.reg [.v 3 0,.a 4 (.cq 108 [(.t 3)]),.v 5 4,⟨some 6,(some (5,true)),.q (.mv (.t 0))⟩,⟨some 7,(some (5,true)),.ix (.t 6) (.i 0)⟩,⟨some 8,(some (5,true)),.q (.bin .geq true (.t 7) (.k (.int .u8 65)))⟩,.a 9 (.pick (.t 5) (.t 8) (.k (.bool false))),.v 10 9,⟨some 11,(some (10,true)),.q (.mv (.t 0))⟩,⟨some 12,(some (10,true)),.ix (.t 11) (.i 0)⟩,⟨some 13,(some (10,true)),.q (.bin .leq true (.t 12) (.k (.int .u8 90)))⟩,.a 14 (.pick (.t 10) (.t 13) (.k (.bool false))),.v 2 14]) .ret)
def T7:List RV:=[.mv (.t 2)]
theorem aVH:aO Tryz.prog true ⟨fun r k=>if r=1/\k=1 then .q else .own [],fun _=>false⟩ Tryz.f68=some (U2,T7):=by kernel_rfl
def aHV:PC:=.seq (.reg [.e 1 (.bx 118 (.t 0)),.q 2 (.mv (.i 0))]) (.seq (.seq (.reg [.q 6 (.fa 1 (.t 1)),.l 7 (.ld1 (.t 6)),.q 8 (.lnL (.t 7)),.q 9 (.bin .eql true (.t 8) (.i 0)),.v 10 9,⟨some 11,(some (10,false)),.q (.fa 1 (.t 1))⟩,⟨some 12,(some (10,false)),.l (.ld1 (.t 11))⟩,⟨some 13,(some (10,false)),.q (.lnL (.t 12))⟩,⟨some 14,(some (10,false)),.q (.fa 2 (.t 1))⟩,⟨some 15,(some (10,false)),.l (.ld1 (.t 14))⟩,⟨some 16,(some (10,false)),.q (.lnL (.t 15))⟩,⟨some 17,(some (10,false)),.q (.bin .neq true (.t 13) (.t 16))⟩,.a 18 (.pick (.t 10) (.k (.bool true)) (.t 17))]) (.cond (.t 18) (.seq (.reg [.q 2 (.mv (.i 2))]) .ret) .skip)) (.seq (.seq (.reg [.q 19 (.fa 1 (.t 1)),.l 20 (.ld1 (.t 19)),.q 21 (.lnL (.t 20)),.q 22 (.mv (.i 0))]) (.block 0 (.loop (.seq (.reg [.q 23 (.bin .lss true (.t 22) (.t 21))]) (.seq (.cond (.t 23) .skip (.exit 0)) (.seq (.block 1 (.seq (.reg [.v 24 22,.l 25 (.ia 1 (.t 20) (.t 22)),.l 26 (.ld1 (.t 25)),.v 3 24,.v 4 26]) (.seq (.reg [.q 27 (.fa 2 (.t 1)),.l 28 (.ld1 (.t 27)),.v 29 3,.l 30 (.ia 1 (.t 28) (.t 29)),.l 31 (.ld1 (.t 30)),.v 5 31]) (.block 2 (.seq (.reg [.v 33 4,.a 34 (.cq 108 [(.t 33)]),.q 35 (.not (.t 34)),.v 32 35]) (.cond (.t 32) (.seq (.reg [.q 2 (.mv (.i 5))]) .ret) (.seq (.reg [.q 37 (.fa 1 (.t 1)),.l 38 (.ld1 (.t 37)),.v 39 3,.q 40 (.sf 1 (.t 38) none (some (.t 39))),.v 41 4,.a 42 (.cq 109 [(.t 40),(.t 41)]),.v 36 42]) (.cond (.t 36) (.seq (.reg [.q 2 (.mv (.i 7))]) .ret) (.seq (.reg [.v 44 5,.q 45 (.bin .lss true (.t 44) (.i 0)),.v 46 45,⟨some 47,(some (46,false)),.q (.mv (.t 5))⟩,⟨some 48,(some (46,false)),.q (.bin .gtr true (.t 47) (.i 127))⟩,.a 49 (.pick (.t 46) (.k (.bool true)) (.t 48)),.v 43 49]) (.cond (.t 43) (.seq (.reg [.q 2 (.mv (.i 4))]) .ret) (.seq (.reg [.v 51 3,.q 52 (.bin .eql true (.t 51) (.i 0)),.v 53 52,⟨some 54,(some (53,true)),.q (.mv (.t 5))⟩,⟨some 55,(some (53,true)),.q (.bin .neq true (.t 54) (.i 0))⟩,.a 56 (.pick (.t 53) (.t 55) (.k (.bool false))),.v 57 56,⟨some 58,(some (57,false)),.q (.mv (.t 3))⟩,⟨some 59,(some (57,false)),.q (.bin .gtr true (.t 58) (.i 0))⟩,⟨some 60,(some (57,false)),.q (.mv (.t 59))⟩,⟨some 61,(some (60,true)),.q (.mv (.t 5))⟩,⟨some 62,(some (60,true)),.q (.fa 2 (.t 1))⟩,⟨some 63,(some (60,true)),.l (.ld1 (.t 62))⟩,⟨some 64,(some (60,true)),.q (.mv (.t 3))⟩,⟨some 65,(some (60,true)),.q (.bin .sub true (.t 64) (.i 1))⟩,⟨some 66,(some (60,true)),.l (.ia 1 (.t 63) (.t 65))⟩,⟨some 67,(some (60,true)),.l (.ld1 (.t 66))⟩,⟨some 68,(some (60,true)),.q (.bin .leq true (.t 61) (.t 67))⟩,⟨some 69,(some (57,false)),.pick (.t 60) (.t 68) (.k (.bool false))⟩,.a 70 (.pick (.t 57) (.k (.bool true)) (.t 69)),.v 50 70]) (.cond (.t 50) (.seq (.reg [.q 2 (.mv (.i 2))]) .ret) .skip)))))))))))) (.reg [.q 71 (.bin .add true (.t 22) (.i 1)),.v 22 71]))))))) (.seq (.reg [.q 2 (.mv (.i 0))]) .ret)))
def aDM:List RV:=[.mv (.t 2)]
theorem aVJ:aO Tryz.prog true ⟨fun r k=>if r=7/\k=1 then .q else if r=9/\k=5 then .q else .own [],fun _=>false⟩ Tryz.f69=some (aHV,aDM):=by kernel_rfl
def aKL:PC:=.seq (.reg [.e 1 (.bx 25 (.t 0)),.e 2 (.al (.agg #[(.map none),(.map none)]) 124)]) (.seq (.reg [.e 6 (.mm .string),.e 7 (.mm .string),.q 8 (.bd [(.map none),(.map none)] [(0,1,(.t 6)),(1,1,(.t 7))]),.e 3 (.al (.agg #[(.map none),(.map none)]) 124),.s (.st 2 (.t 3) (.t 8))]) (.seq (.seq (.reg [.q 9 (.fa 2 (.t 1)),.l 10 (.ld1 (.t 9)),.q 11 (.lnL (.t 10)),.q 12 (.bin .sub true (.t 11) (.i 1)),.v 4 12]) (.block 0 (.loop (.seq (.seq (.reg [.v 13 4,.q 14 (.bin .geq true (.t 13) (.i 0))]) (.cond (.t 14) .skip (.exit 0))) (.seq (.block 1 (.reg [.q 17 (.fa 0 (.t 3)),.l 18 (.ld1 (.t 17)),.q 19 (.fa 2 (.t 1)),.l 20 (.ld1 (.t 19)),.v 21 4,.l 22 (.ia 2 (.t 20) (.t 21)),.q 23 (.fa 0 (.t 22)),.l 24 (.ld1 (.t 23)),.q 25 (.fa 2 (.t 1)),.l 26 (.ld1 (.t 25)),.v 27 4,.l 28 (.ia 2 (.t 26) (.t 27)),.l 29 (.ldn 2 (.t 28)),.s (.mu .string (.t 18) (.t 24) (.t 29))])) (.reg [.v 15 4,.q 16 (.bin .sub true (.t 15) (.i 1)),.v 4 16])))))) (.seq (.seq (.reg [.q 30 (.fa 1 (.t 1)),.l 31 (.ld1 (.t 30)),.q 32 (.lnL (.t 31)),.q 33 (.bin .sub true (.t 32) (.i 1)),.v 5 33]) (.block 2 (.loop (.seq (.seq (.reg [.v 34 5,.q 35 (.bin .geq true (.t 34) (.i 0))]) (.cond (.t 35) .skip (.exit 2))) (.seq (.block 3 (.reg [.q 38 (.fa 1 (.t 3)),.l 39 (.ld1 (.t 38)),.q 40 (.fa 1 (.t 1)),.l 41 (.ld1 (.t 40)),.v 42 5,.l 43 (.ia 3 (.t 41) (.t 42)),.q 44 (.fa 0 (.t 43)),.l 45 (.ld1 (.t 44)),.q 46 (.fa 1 (.t 1)),.l 47 (.ld1 (.t 46)),.v 48 5,.l 49 (.ia 3 (.t 47) (.t 48)),.l 50 (.ldn 3 (.t 49)),.s (.mu .string (.t 39) (.t 45) (.t 50))])) (.reg [.v 36 5,.q 37 (.bin .sub true (.t 36) (.i 1)),.v 5 37])))))) (.seq (.reg [.l 51 (.ldn 2 (.t 3)),.s (.st 2 (.t 2) (.t 51))]) .ret))))
def aI8:List RV:=[.ld (.ldn 2 (.t 2))]
theorem aTK:aO Tryz.prog true ⟨fun _ _=>.own [],fun _=>false⟩ Tryz.f70=some (aKL,aI8):=by kernel_rfl
def aJB:PC:=.seq (.reg [.e 3 (.bx 25 (.t 0)),.q 6 (.mv (.i 0))]) (.seq (.seq (.reg [.v 11 2,.a 12 (.cq 68 [(.t 11)]),.q 13 (.not (.t 12))]) (.cond (.t 13) (.seq (.reg [.q 6 (.mv (.i 5))]) .ret) .skip)) (.seq (.seq (.reg [.q 14 (.fa 1 (.t 3)),.l 15 (.ld1 (.t 14)),.q 16 (.lnL (.t 15)),.q 17 (.mv (.i 0))]) (.block 0 (.loop (.seq (.reg [.q 18 (.bin .lss true (.t 17) (.t 16))]) (.seq (.cond (.t 18) .skip (.exit 0)) (.seq (.block 1 (.seq (.reg [.l 19 (.ia 3 (.t 15) (.t 17)),.l 20 (.ldn 3 (.t 19)),.e 8 (.al (.agg #[(.string (mk [])),(.slice none 0 0),(.slice none 0 0)]) 118),.s (.st 3 (.t 8) (.t 20))]) (.seq (.reg [.q 21 (.fa 0 (.t 8)),.l 22 (.ld1 (.t 21)),.v 23 2,.q 24 (.bin .eql true (.t 22) (.t 23))]) (.cond (.t 24) (.seq (.reg [.q 6 (.mv (.i 7))]) .ret) .skip)))) (.reg [.q 25 (.bin .add true (.t 17) (.i 1)),.v 17 25]))))))) (.seq (.seq (.reg [.q 26 (.fa 2 (.t 3)),.l 27 (.ld1 (.t 26)),.v 28 1,.q 29 (.sf 2 (.t 27) none (some (.t 28))),.q 30 (.lnL (.t 29)),.q 31 (.mv (.i 0))]) (.block 2 (.loop (.seq (.reg [.q 32 (.bin .lss true (.t 31) (.t 30))]) (.seq (.cond (.t 32) .skip (.exit 2)) (.seq (.block 3 (.seq (.reg [.l 33 (.ia 2 (.t 29) (.t 31)),.l 34 (.ldn 2 (.t 33)),.e 10 (.al (.agg #[(.string (mk [])),(.slice none 0 0)]) 48),.s (.st 2 (.t 10) (.t 34))]) (.seq (.reg [.q 35 (.fa 0 (.t 10)),.l 36 (.ld1 (.t 35)),.v 37 2,.q 38 (.bin .eql true (.t 36) (.t 37))]) (.cond (.t 38) (.seq (.reg [.q 6 (.mv (.i 7))]) .ret) .skip)))) (.reg [.q 39 (.bin .add true (.t 31) (.i 1)),.v 31 39]))))))) (.seq (.reg [.q 6 (.mv (.i 0))]) .ret))))
def aH8:List RV:=[.mv (.t 6)]
theorem aWE:aO Tryz.prog true ⟨fun r k=>if r=1/\k=1 then .q else .own [],fun _=>false⟩ Tryz.f71=some (aJB,aH8):=by kernel_rfl
def aDS:PC:=.seq (.reg [.e 2 (.bx 124 (.t 0)),.e 3 (.bx 48 (.t 1)),.q 4 (.mv (.i 0))]) (.seq (.seq (.reg [.q 9 (.fa 1 (.t 3)),.l 10 (.ld1 (.t 9)),.q 11 (.lnL (.t 10)),.q 12 (.mv (.i 0))]) (.block 0 (.loop (.seq (.reg [.q 13 (.bin .lss true (.t 12) (.t 11))]) (.seq (.cond (.t 13) .skip (.exit 0)) (.seq (.block 1 (.seq (.reg [.v 14 12,.l 15 (.ia 7 (.t 10) (.t 12)),.l 16 (.ldn 7 (.t 15)),.e 6 (.al (.agg #[(.int .i64 0),(.string (mk [])),(.int .i64 0),(.int .i64 0),(.string (mk [])),(.slice none 0 0),(.bool false)]) 52),.v 5 14,.s (.st 7 (.t 6) (.t 16))]) (.seq (.block 2 (.seq (.reg [.q 18 (.fa 0 (.t 6)),.l 19 (.ld1 (.t 18)),.q 20 (.bin .lss true (.t 19) (.i 1)),.v 21 20,⟨some 22,(some (21,false)),.q (.fa 0 (.t 6))⟩,⟨some 23,(some (21,false)),.l (.ld1 (.t 22))⟩,⟨some 24,(some (21,false)),.q (.bin .gtr true (.t 23) (.i 127))⟩,.a 25 (.pick (.t 21) (.k (.bool true)) (.t 24)),.v 17 25]) (.cond (.t 17) (.seq (.reg [.q 4 (.mv (.i 4))]) .ret) (.seq (.reg [.v 27 5,.q 28 (.bin .gtr true (.t 27) (.i 0)),.v 29 28,⟨some 30,(some (29,true)),.q (.fa 0 (.t 6))⟩,⟨some 31,(some (29,true)),.l (.ld1 (.t 30))⟩,⟨some 32,(some (29,true)),.q (.fa 1 (.t 3))⟩,⟨some 33,(some (29,true)),.l (.ld1 (.t 32))⟩,⟨some 34,(some (29,true)),.q (.mv (.t 5))⟩,⟨some 35,(some (29,true)),.q (.bin .sub true (.t 34) (.i 1))⟩,⟨some 36,(some (29,true)),.l (.ia 7 (.t 33) (.t 35))⟩,⟨some 37,(some (29,true)),.q (.fa 0 (.t 36))⟩,⟨some 38,(some (29,true)),.l (.ld1 (.t 37))⟩,⟨some 39,(some (29,true)),.q (.bin .leq true (.t 31) (.t 38))⟩,.a 40 (.pick (.t 29) (.t 39) (.k (.bool false))),.v 26 40]) (.cond (.t 26) (.seq (.reg [.q 4 (.mv (.i 2))]) .ret) (.seq (.reg [.q 42 (.fa 1 (.t 6)),.l 43 (.ld1 (.t 42)),.a 44 (.cq 108 [(.t 43)]),.q 45 (.not (.t 44)),.v 41 45]) (.cond (.t 41) (.seq (.reg [.q 4 (.mv (.i 5))]) .ret) .skip))))))) (.seq (.seq (.reg [.q 46 (.fa 1 (.t 3)),.l 47 (.ld1 (.t 46)),.v 48 5,.q 49 (.sf 7 (.t 47) none (some (.t 48))),.q 50 (.lnL (.t 49)),.q 51 (.mv (.i 0))]) (.block 3 (.loop (.seq (.reg [.q 52 (.bin .lss true (.t 51) (.t 50))]) (.seq (.cond (.t 52) .skip (.exit 3)) (.seq (.block 4 (.seq (.reg [.l 53 (.ia 7 (.t 49) (.t 51)),.l 54 (.ldn 7 (.t 53)),.e 8 (.al (.agg #[(.int .i64 0),(.string (mk [])),(.int .i64 0),(.int .i64 0),(.string (mk [])),(.slice none 0 0),(.bool false)]) 52),.s (.st 7 (.t 8) (.t 54))]) (.seq (.reg [.q 55 (.fa 1 (.t 8)),.l 56 (.ld1 (.t 55)),.q 57 (.fa 1 (.t 6)),.l 58 (.ld1 (.t 57)),.q 59 (.bin .eql true (.t 56) (.t 58))]) (.cond (.t 59) (.seq (.reg [.q 4 (.mv (.i 7))]) .ret) .skip)))) (.reg [.q 60 (.bin .add true (.t 51) (.i 1)),.v 51 60]))))))) (.seq (.reg [.l 61 (.ldn 2 (.t 2)),.q 62 (.fa 2 (.t 6)),.l 63 (.ldn 4 (.t 62)),.a 64 (.cl 110 [(.t 61),(.t 63)] [0,1]),.q 65 (.not (.t 64))]) (.cond (.t 65) (.seq (.reg [.q 4 (.mv (.i 13))]) .ret) .skip)))))) (.reg [.q 66 (.bin .add true (.t 12) (.i 1)),.v 12 66]))))))) (.seq (.reg [.q 4 (.mv (.i 0))]) .ret))
def aJQ:List RV:=[.mv (.t 4)]
theorem aV0:aO Tryz.prog true ⟨fun r k=>if r=8/\k=2 then .q else if r=16/\k=3 then .own [0,1] else .own [],fun _=>false⟩ Tryz.f72=some (aDS,aJQ):=by kernel_rfl
def aG1:PC:=.seq (.reg [.e 2 (.bx 25 (.t 0)),.e 3 (.bx 124 (.t 1)),.q 4 (.mv (.i 0))]) (.seq (.seq (.reg [.q 9 (.fa 2 (.t 2)),.l 10 (.ld1 (.t 9)),.q 11 (.lnL (.t 10)),.q 12 (.mv (.i 0))]) (.block 0 (.loop (.seq (.reg [.q 13 (.bin .lss true (.t 12) (.t 11))]) (.seq (.cond (.t 13) .skip (.exit 0)) (.seq (.block 1 (.seq (.reg [.l 14 (.ia 2 (.t 10) (.t 12)),.l 15 (.ldn 2 (.t 14)),.e 6 (.al (.agg #[(.string (mk [])),(.slice none 0 0)]) 48),.s (.st 2 (.t 6) (.t 15))]) (.seq (.ord  [.q (.l 16 (.ldn 2 (.t 3))),.q (.q 17 (.fa 0 (.t 6))),.q (.l 18 (.ld1 (.t 17))),.q (.q 20 (.fa 0 (.t 6))),.q (.l 21 (.ld1 (.t 20))),.m (.a 19 (.cl 111 [(.t 16),(.t 18)] [0,1])),.rc (.q 20 (.fa 0 (.t 6))),.rc (.l 21 (.ld1 (.t 20))),.m (.a 22 (.cq 109 [(.t 19),(.t 21)]))]) (.cond (.t 22) (.seq (.reg [.q 4 (.mv (.i 19))]) .ret) .skip)))) (.reg [.q 23 (.bin .add true (.t 12) (.i 1)),.v 12 23]))))))) (.seq (.seq (.reg [.q 24 (.fa 2 (.t 2)),.l 25 (.ld1 (.t 24)),.q 26 (.lnL (.t 25)),.q 27 (.mv (.i 0))]) (.block 2 (.loop (.seq (.reg [.q 28 (.bin .lss true (.t 27) (.t 26))]) (.seq (.cond (.t 28) .skip (.exit 2)) (.seq (.block 3 (.seq (.reg [.l 29 (.ia 2 (.t 25) (.t 27)),.l 30 (.ldn 2 (.t 29)),.e 8 (.al (.agg #[(.string (mk [])),(.slice none 0 0)]) 48),.s (.st 2 (.t 8) (.t 30))]) (.seq (.reg [.l 31 (.ldn 2 (.t 3)),.l 32 (.ldn 2 (.t 8)),.a 33 (.cl 112 [(.t 31),(.t 32)] [0,1]),.q 34 (.bin .gtr true (.t 33) (.i 6))]) (.cond (.t 34) (.seq (.reg [.q 4 (.mv (.i 9))]) .ret) .skip)))) (.reg [.q 35 (.bin .add true (.t 27) (.i 1)),.v 27 35]))))))) (.seq (.reg [.q 4 (.mv (.i 0))]) .ret)))
def aKV:List RV:=[.mv (.t 4)]
theorem aTV:aO Tryz.prog true ⟨fun r k=>if r=4/\k=3 then .own [0,1] else if r=4/\k=6 then .q else if r=10/\k=2 then .own [0,1] else .own [],fun _=>false⟩ Tryz.f73=some (aG1,aKV):=by kernel_rfl
def aD6:PC:=.seq (.reg [.e 1 (.bx 48 (.t 0)),.e 2 (.al (.agg #[(.string (mk [])),(.slice none 0 0)]) 48)]) (.seq (.reg [.q 6 (.fa 0 (.t 1)),.l 7 (.ld1 (.t 6)),.q 8 (.bd [(.string (mk [])),(.slice none 0 0)] [(0,1,(.t 7))]),.e 3 (.al (.agg #[(.string (mk [])),(.slice none 0 0)]) 48),.s (.st 2 (.t 3) (.t 8))]) (.seq (.seq (.reg [.q 9 (.fa 1 (.t 1)),.l 10 (.ld1 (.t 9)),.q 11 (.lnL (.t 10)),.q 12 (.mv (.i 0))]) (.block 0 (.loop (.seq (.reg [.q 13 (.bin .lss true (.t 12) (.t 11))]) (.seq (.cond (.t 13) .skip (.exit 0)) (.seq (.block 1 (.seq (.reg [.l 14 (.ia 7 (.t 10) (.t 12)),.l 15 (.ldn 7 (.t 14)),.e 5 (.al (.agg #[(.int .i64 0),(.string (mk [])),(.int .i64 0),(.int .i64 0),(.string (mk [])),(.slice none 0 0),(.bool false)]) 52),.s (.st 7 (.t 5) (.t 15))]) (.ord  [.q (.q 16 (.fa 1 (.t 3))),.q (.l 17 (.ld1 (.t 16))),.q (.l 18 (.ldn 7 (.t 5))),.m (.a 19 (.cl 96 [(.t 18)] [])),.rc (.q 16 (.fa 1 (.t 3))),.rc (.l 17 (.ld1 (.t 16))),.m (.e 20 (.bsl 52 7 [(.t 19)])),.rc (.q 16 (.fa 1 (.t 3))),.rc (.l 17 (.ld1 (.t 16))),.m (.e 21 (.ap 52 7 88 (.t 17) (.t 20))),.q (.q 22 (.fa 1 (.t 3))),.m (.s (.st 1 (.t 22) (.t 21)))]))) (.reg [.q 23 (.bin .add true (.t 12) (.i 1)),.v 12 23]))))))) (.seq (.reg [.l 24 (.ldn 2 (.t 3)),.s (.st 2 (.t 2) (.t 24))]) .ret)))
def aKZ:List RV:=[.ld (.ldn 2 (.t 2))]
theorem aTH:aO Tryz.prog true ⟨fun _ _=>.own [],fun _=>false⟩ Tryz.f74=some (aD6,aKZ):=by kernel_rfl
def aH4:PC:=.seq (.reg [.e 1 (.bx 52 (.t 0)),.e 2 (.al (.agg #[(.int .i64 0),(.string (mk [])),(.int .i64 0),(.int .i64 0),(.string (mk [])),(.slice none 0 0),(.bool false)]) 52)]) (.seq (.reg [.q 3 (.fa 2 (.t 1)),.l 4 (.ldn 4 (.t 3)),.a 5 (.cl 137 [(.t 4)] []),.q 6 (.fa 2 (.t 1)),.s (.st 4 (.t 6) (.t 5))]) (.seq (.reg [.l 7 (.ldn 7 (.t 1)),.s (.st 7 (.t 2) (.t 7))]) .ret))
def aGR:List RV:=[.ld (.ldn 7 (.t 2))]
theorem aSC:aO Tryz.prog true ⟨fun _ _=>.own [],fun _=>false⟩ Tryz.f96=some (aH4,aGR):=by kernel_rfl
def jY:PC:=.seq (.reg [.e 2 (.bx 124 (.t 0)),.e 3 (.bx 42 (.t 1)),.q 4 (.mv (.k (.bool false)))]) (.seq (.seq (.reg [.q 10 (.fa 0 (.t 3)),.l 11 (.ld1 (.t 10))]) (.block 0 (.seq (.reg [.q 13 (.bin .eql true (.t 11) (.i 1)),.v 12 13]) (.cond (.t 12) (.seq (.reg [.q 14 (.fa 1 (.t 3)),.l 15 (.ld1 (.t 14)),.q 16 (.bin .eql true (.t 15) (.i 0)),.v 17 16,⟨some 18,(some (17,true)),.q (.fa 2 (.t 3))⟩,⟨some 19,(some (17,true)),.l (.ld1 (.t 18))⟩,⟨some 20,(some (17,true)),.q (.bin .eql true (.t 19) (.k (.string (mk []))))⟩,.a 21 (.pick (.t 17) (.t 20) (.k (.bool false))),.v 22 21,⟨some 23,(some (22,true)),.q (.fa 3 (.t 3))⟩,⟨some 24,(some (22,true)),.l (.ld1 (.t 23))⟩,⟨some 25,(some (22,true)),.q (.lnL (.t 24))⟩,⟨some 26,(some (22,true)),.q (.bin .eql true (.t 25) (.i 0))⟩,.a 27 (.pick (.t 22) (.t 26) (.k (.bool false))),.v 4 27]) .ret) (.seq (.seq (.reg [.q 29 (.bin .eql true (.t 11) (.i 2)),.v 28 29]) (.cond (.t 28) .skip (.reg [.q 30 (.bin .eql true (.t 11) (.i 3)),.v 28 30]))) (.cond (.t 28) (.seq (.reg [.q 31 (.fa 1 (.t 3)),.l 32 (.ld1 (.t 31)),.q 33 (.bin .eql true (.t 32) (.i 64)),.v 34 33,⟨some 35,(some (34,true)),.q (.fa 0 (.t 3))⟩,⟨some 36,(some (34,true)),.l (.ld1 (.t 35))⟩,⟨some 37,(some (34,true)),.q (.bin .eql true (.t 36) (.i 2))⟩,.a 38 (.pick (.t 34) (.t 37) (.k (.bool false))),.v 5 38]) (.seq (.reg [.q 39 (.fa 1 (.t 3)),.l 40 (.ld1 (.t 39)),.q 41 (.bin .eql true (.t 40) (.i 8)),.v 42 41,⟨some 43,(some (42,false)),.q (.fa 1 (.t 3))⟩,⟨some 44,(some (42,false)),.l (.ld1 (.t 43))⟩,⟨some 45,(some (42,false)),.q (.bin .eql true (.t 44) (.i 16))⟩,.a 46 (.pick (.t 42) (.k (.bool true)) (.t 45)),.v 47 46,⟨some 48,(some (47,false)),.q (.fa 1 (.t 3))⟩,⟨some 49,(some (47,false)),.l (.ld1 (.t 48))⟩,⟨some 50,(some (47,false)),.q (.bin .eql true (.t 49) (.i 32))⟩,.a 51 (.pick (.t 47) (.k (.bool true)) (.t 50)),.v 52 51,⟨some 53,(some (52,false)),.q (.mv (.t 5))⟩,.a 54 (.pick (.t 52) (.k (.bool true)) (.t 53)),.v 55 54,⟨some 56,(some (55,true)),.q (.fa 2 (.t 3))⟩,⟨some 57,(some (55,true)),.l (.ld1 (.t 56))⟩,⟨some 58,(some (55,true)),.q (.bin .eql true (.t 57) (.k (.string (mk []))))⟩,.a 59 (.pick (.t 55) (.t 58) (.k (.bool false))),.v 60 59,⟨some 61,(some (60,true)),.q (.fa 3 (.t 3))⟩,⟨some 62,(some (60,true)),.l (.ld1 (.t 61))⟩,⟨some 63,(some (60,true)),.q (.lnL (.t 62))⟩,⟨some 64,(some (60,true)),.q (.bin .eql true (.t 63) (.i 0))⟩,.a 65 (.pick (.t 60) (.t 64) (.k (.bool false))),.v 4 65]) .ret)) (.seq (.reg [.q 67 (.bin .eql true (.t 11) (.i 4)),.v 66 67]) (.cond (.t 66) (.seq (.reg [.q 68 (.fa 1 (.t 3)),.l 69 (.ld1 (.t 68)),.q 70 (.bin .geq true (.t 69) (.i 1)),.v 71 70,⟨some 72,(some (71,true)),.q (.fa 1 (.t 3))⟩,⟨some 73,(some (71,true)),.l (.ld1 (.t 72))⟩,⟨some 74,(some (71,true)),.q (.bin .leq true (.t 73) (.i 2000))⟩,.a 75 (.pick (.t 71) (.t 74) (.k (.bool false))),.v 76 75,⟨some 77,(some (76,true)),.q (.fa 2 (.t 3))⟩,⟨some 78,(some (76,true)),.l (.ld1 (.t 77))⟩,⟨some 79,(some (76,true)),.q (.bin .eql true (.t 78) (.k (.string (mk []))))⟩,.a 80 (.pick (.t 76) (.t 79) (.k (.bool false))),.v 81 80,⟨some 82,(some (81,true)),.q (.fa 3 (.t 3))⟩,⟨some 83,(some (81,true)),.l (.ld1 (.t 82))⟩,⟨some 84,(some (81,true)),.q (.lnL (.t 83))⟩,⟨some 85,(some (81,true)),.q (.bin .eql true (.t 84) (.i 0))⟩,.a 86 (.pick (.t 81) (.t 85) (.k (.bool false))),.v 4 86]) .ret) (.seq (.reg [.q 88 (.bin .eql true (.t 11) (.i 5)),.v 87 88]) (.cond (.t 87) (.seq (.reg [.q 89 (.fa 1 (.t 3)),.l 90 (.ld1 (.t 89)),.q 91 (.bin .geq true (.t 90) (.i 1)),.v 92 91,⟨some 93,(some (92,true)),.q (.fa 1 (.t 3))⟩,⟨some 94,(some (92,true)),.l (.ld1 (.t 93))⟩,⟨some 95,(some (92,true)),.q (.bin .leq true (.t 94) (.i 32))⟩,.a 96 (.pick (.t 92) (.t 95) (.k (.bool false))),.v 97 96,⟨some 98,(some (97,true)),.q (.fa 2 (.t 3))⟩,⟨some 99,(some (97,true)),.l (.ld1 (.t 98))⟩,⟨some 100,(some (97,true)),.q (.bin .eql true (.t 99) (.k (.string (mk []))))⟩,.a 101 (.pick (.t 97) (.t 100) (.k (.bool false))),.v 102 101,⟨some 103,(some (102,true)),.q (.fa 3 (.t 3))⟩,⟨some 104,(some (102,true)),.l (.ld1 (.t 103))⟩,⟨some 105,(some (102,true)),.q (.lnL (.t 104))⟩,⟨some 106,(some (102,true)),.q (.bin .eql true (.t 105) (.i 1))⟩,.a 107 (.pick (.t 102) (.t 106) (.k (.bool false))),.v 108 107,⟨some 109,(some (108,true)),.l (.ldn 2 (.t 2))⟩,⟨some 110,(some (108,true)),.q (.fa 3 (.t 3))⟩,⟨some 111,(some (108,true)),.l (.ld1 (.t 110))⟩,⟨some 112,(some (108,true)),.l (.ia 4 (.t 111) (.i 0))⟩,⟨some 113,(some (108,true)),.l (.ldn 4 (.t 112))⟩,⟨some 114,(some (108,true)),.cl 110 [(.t 109),(.t 113)] [0,1]⟩,.a 115 (.pick (.t 108) (.t 114) (.k (.bool false))),.v 4 115]) .ret) (.seq (.reg [.q 117 (.bin .eql true (.t 11) (.i 6)),.v 116 117]) (.cond (.t 116) (.seq (.reg [.q 119 (.fa 0 (.t 2)),.l 120 (.ld1 (.t 119)),.q 121 (.fa 2 (.t 3)),.l 122 (.ld1 (.t 121)),.l 123 (.lk .string (.agg #[(.string (mk [])),(.slice none 0 0)]) true (.t 120) (.t 122)),.v 118 123,.q 124 (.ex (.t 118) 0),.q 125 (.ex (.t 118) 1),.e 6 (.al (.agg #[(.string (mk [])),(.slice none 0 0)]) 48),.s (.st 2 (.t 6) (.t 124)),.v 7 125]) (.seq (.reg [.v 126 7,.v 127 126,⟨some 128,(some (127,true)),.q (.fa 1 (.t 3))⟩,⟨some 129,(some (127,true)),.l (.ld1 (.t 128))⟩,⟨some 130,(some (127,true)),.q (.bin .eql true (.t 129) (.i 0))⟩,.a 131 (.pick (.t 127) (.t 130) (.k (.bool false))),.v 132 131,⟨some 133,(some (132,true)),.q (.fa 3 (.t 3))⟩,⟨some 134,(some (132,true)),.l (.ld1 (.t 133))⟩,⟨some 135,(some (132,true)),.q (.lnL (.t 134))⟩,⟨some 136,(some (132,true)),.q (.bin .eql true (.t 135) (.i 0))⟩,.a 137 (.pick (.t 132) (.t 136) (.k (.bool false))),.v 4 137]) .ret)) (.seq (.reg [.q 139 (.bin .eql true (.t 11) (.i 7)),.v 138 139]) (.cond (.t 138) (.seq (.reg [.q 141 (.fa 1 (.t 2)),.l 142 (.ld1 (.t 141)),.q 143 (.fa 2 (.t 3)),.l 144 (.ld1 (.t 143)),.l 145 (.lk .string (.agg #[(.string (mk [])),(.slice none 0 0),(.slice none 0 0)]) true (.t 142) (.t 144)),.v 140 145,.q 146 (.ex (.t 140) 0),.q 147 (.ex (.t 140) 1),.e 8 (.al (.agg #[(.string (mk [])),(.slice none 0 0),(.slice none 0 0)]) 118),.s (.st 3 (.t 8) (.t 146)),.v 9 147]) (.seq (.reg [.v 148 9,.v 149 148,⟨some 150,(some (149,true)),.q (.fa 1 (.t 3))⟩,⟨some 151,(some (149,true)),.l (.ld1 (.t 150))⟩,⟨some 152,(some (149,true)),.q (.bin .eql true (.t 151) (.i 0))⟩,.a 153 (.pick (.t 149) (.t 152) (.k (.bool false))),.v 154 153,⟨some 155,(some (154,true)),.q (.fa 3 (.t 3))⟩,⟨some 156,(some (154,true)),.l (.ld1 (.t 155))⟩,⟨some 157,(some (154,true)),.q (.lnL (.t 156))⟩,⟨some 158,(some (154,true)),.q (.bin .eql true (.t 157) (.i 0))⟩,.a 159 (.pick (.t 154) (.t 158) (.k (.bool false))),.v 4 159]) .ret)) .skip)))))))))))))) (.seq (.reg [.q 4 (.mv (.k (.bool false)))]) .ret))
def j0:List RV:=[.mv (.t 4)]
theorem aK9:aO Tryz.prog true ⟨fun r k=>if r=11/\k=25 then .own [0,1] else .own [],fun _=>false⟩ Tryz.f110=some (jY,j0):=by kernel_rfl
def XN:PC:=.seq (.reg [.e 2 (.bx 124 (.t 0)),.q 4 (.mv (.k (.slice none 0 0)))]) (.seq (.reg [.e 8 (.mm .string),.e 5 (.al (.map none) 187),.s (.st 1 (.t 5) (.t 8))]) (.seq (.reg [.e 6 (.al (.slice none 0 0) 116)]) (.seq (.reg [.e 7 (.al .nilFunc 188)]) (.seq (.reg [.q 9 (.mf 143 [(.t 5),(.t 6),(.t 2),(.t 7)]),.s (.st 1 (.t 7) (.t 9))]) (.seq (.gh (.reg [.l 10 (.ld1 (.t 7)),.q 11 (.fa 0 (.t 2)),.l 12 (.ld1 (.t 11)),.v 13 1,.l 14 (.lk .string (.agg #[(.string (mk [])),(.slice none 0 0)]) false (.t 12) (.t 13)),.a 15 (.ca (.t 10) [(.t 14)] [0,1,2,3,4,5,6,7])])) (.seq (.reg [.l 16 (.ld1 (.t 6)),.a 17 (.cl 145 [(.t 16)] [7])]) (.seq (.reg [.l 18 (.ld1 (.t 6)),.v 4 18]) .ret)))))))
def VR:List RV:=[.mv (.t 4)]
theorem aPD:aO Tryz.prog true ⟨fun r k=>if r=5/\k=5 then .own [0,1,2,3,4,5,6,7] else if r=6/\k=1 then .own [7] else .own [],fun r=>[5].contains r⟩ Tryz.f111=some (XN,VR):=by kernel_rfl
def W8:PC:=.seq (.reg [.e 2 (.bx 124 (.t 0)),.e 3 (.bx 48 (.t 1)),.q 4 (.mv (.i 0))]) (.seq (.reg [.e 7 (.mm .string),.e 5 (.al (.map none) 191),.s (.st 1 (.t 5) (.t 7))]) (.seq (.reg [.e 6 (.al .nilFunc 192)]) (.seq (.reg [.q 8 (.mf 146 [(.t 5),(.t 6),(.t 2)]),.s (.st 1 (.t 6) (.t 8))]) (.seq (.reg [.l 9 (.ld1 (.t 6)),.l 10 (.ldn 2 (.t 3)),.a 11 (.ca (.t 9) [(.t 10)] [0,1,2,4,5,6]),.v 4 11]) .ret))))
def Z6:List RV:=[.mv (.t 4)]
theorem aNX:aO Tryz.prog true ⟨fun r k=>if r=4/\k=2 then .own [0,1,2,4,5,6] else .own [],fun _=>false⟩ Tryz.f112=some (W8,Z6):=by kernel_rfl
def ZN:PC:=.seq (.reg [.e 2 (.bx 25 (.t 0)),.e 4 (.al (.agg #[(.string (mk [])),(.slice none 0 0),(.slice none 0 0)]) 118),.q 5 (.mv (.k (.bool false)))]) (.seq (.seq (.reg [.q 8 (.fa 1 (.t 2)),.l 9 (.ld1 (.t 8)),.q 10 (.lnL (.t 9)),.q 11 (.mv (.i 0))]) (.block 0 (.loop (.seq (.reg [.q 12 (.bin .lss true (.t 11) (.t 10))]) (.seq (.cond (.t 12) .skip (.exit 0)) (.seq (.block 1 (.seq (.reg [.l 13 (.ia 3 (.t 9) (.t 11)),.l 14 (.ldn 3 (.t 13)),.e 7 (.al (.agg #[(.string (mk [])),(.slice none 0 0),(.slice none 0 0)]) 118),.s (.st 3 (.t 7) (.t 14))]) (.seq (.reg [.q 15 (.fa 0 (.t 7)),.l 16 (.ld1 (.t 15)),.v 17 1,.q 18 (.bin .eql true (.t 16) (.t 17))]) (.cond (.t 18) (.seq (.ord  [.q (.q 19 (.fa 0 (.t 7))),.q (.l 20 (.ld1 (.t 19))),.q (.q 21 (.fa 1 (.t 7))),.q (.l 22 (.ld1 (.t 21))),.q (.q 24 (.fa 2 (.t 7))),.q (.l 25 (.ld1 (.t 24))),.m (.a 23 (.cl 147 [(.t 22)] [])),.rc (.q 19 (.fa 0 (.t 7))),.rc (.l 20 (.ld1 (.t 19))),.rc (.q 24 (.fa 2 (.t 7))),.rc (.l 25 (.ld1 (.t 24))),.m (.a 26 (.cl 148 [(.t 25)] [])),.rc (.q 19 (.fa 0 (.t 7))),.rc (.l 20 (.ld1 (.t 19))),.q (.q 27 (.bd [(.string (mk [])),(.slice none 0 0),(.slice none 0 0)] [(0,1,(.t 20)),(1,1,(.t 23)),(2,1,(.t 26))])),.m (.s (.st 3 (.t 4) (.t 27))),.m (.q 5 (.mv (.k (.bool true))))]) .ret) .skip)))) (.reg [.q 28 (.bin .add true (.t 11) (.i 1)),.v 11 28]))))))) (.seq (.reg [.q 29 (.bd [(.string (mk [])),(.slice none 0 0),(.slice none 0 0)] []),.s (.st 3 (.t 4) (.t 29)),.q 5 (.mv (.k (.bool false)))]) .ret))
def ZK:List RV:=[.ld (.ldn 3 (.t 4)),.mv (.t 5)]
theorem aMG:aO Tryz.prog true ⟨fun _ _=>.own [],fun _=>false⟩ Tryz.f113=some (ZN,ZK):=by kernel_rfl
def VQ:PC:=.seq (.reg [.e 1 (.bx 42 (.t 0)),.e 2 (.al (.agg #[(.int .i64 0),(.int .i64 0),(.string (mk [])),(.slice none 0 0)]) 42)]) (.seq (.reg [.q 6 (.fa 0 (.t 1)),.l 7 (.ld1 (.t 6)),.q 8 (.fa 1 (.t 1)),.l 9 (.ld1 (.t 8)),.q 10 (.fa 2 (.t 1)),.l 11 (.ld1 (.t 10)),.q 12 (.bd [(.int .i64 0),(.int .i64 0),(.string (mk [])),(.slice none 0 0)] [(0,1,(.t 7)),(1,1,(.t 9)),(2,1,(.t 11))]),.e 3 (.al (.agg #[(.int .i64 0),(.int .i64 0),(.string (mk [])),(.slice none 0 0)]) 42),.s (.st 4 (.t 3) (.t 12))]) (.seq (.seq (.reg [.q 13 (.fa 3 (.t 1)),.l 14 (.ld1 (.t 13)),.q 15 (.lnL (.t 14)),.q 16 (.mv (.i 0))]) (.block 0 (.loop (.seq (.reg [.q 17 (.bin .lss true (.t 16) (.t 15))]) (.seq (.cond (.t 17) .skip (.exit 0)) (.seq (.block 1 (.seq (.reg [.l 18 (.ia 4 (.t 14) (.t 16)),.l 19 (.ldn 4 (.t 18)),.e 5 (.al (.agg #[(.int .i64 0),(.int .i64 0),(.string (mk [])),(.slice none 0 0)]) 42),.s (.st 4 (.t 5) (.t 19))]) (.ord  [.q (.q 20 (.fa 3 (.t 3))),.q (.l 21 (.ld1 (.t 20))),.q (.l 22 (.ldn 4 (.t 5))),.m (.a 23 (.cl 137 [(.t 22)] [])),.rc (.q 20 (.fa 3 (.t 3))),.rc (.l 21 (.ld1 (.t 20))),.m (.e 24 (.bsl 42 4 [(.t 23)])),.rc (.q 20 (.fa 3 (.t 3))),.rc (.l 21 (.ld1 (.t 20))),.m (.e 25 (.ap 42 4 56 (.t 21) (.t 24))),.q (.q 26 (.fa 3 (.t 3))),.m (.s (.st 1 (.t 26) (.t 25)))]))) (.reg [.q 27 (.bin .add true (.t 16) (.i 1)),.v 16 27]))))))) (.seq (.reg [.l 28 (.ldn 4 (.t 3)),.s (.st 4 (.t 2) (.t 28))]) .ret)))
def W2:List RV:=[.ld (.ldn 4 (.t 2))]
theorem aN7:aO Tryz.prog true ⟨fun _ _=>.own [],fun _=>false⟩ Tryz.f137=some (VQ,W2):=by kernel_rfl
def V5:PC:=.seq (.reg [.e 5 (.bx 48 (.t 0))]) (.seq (.reg [.q 12 (.fa 1 (.t 5)),.l 13 (.ld1 (.t 12)),.q 14 (.lnL (.t 13)),.q 15 (.mv (.i 0))]) (.block 0 (.loop (.seq (.reg [.q 16 (.bin .lss true (.t 15) (.t 14))]) (.seq (.cond (.t 16) .skip (.exit 0)) (.seq (.block 1 (.seq (.reg [.l 17 (.ia 7 (.t 13) (.t 15)),.l 18 (.ldn 7 (.t 17)),.e 7 (.al (.agg #[(.int .i64 0),(.string (mk [])),(.int .i64 0),(.int .i64 0),(.string (mk [])),(.slice none 0 0),(.bool false)]) 52),.s (.st 7 (.t 7) (.t 18))]) (.seq (.reg [.q 20 (.fa 2 (.t 7)),.l 21 (.ldn 4 (.t 20)),.a 22 (.cl 144 [(.t 21)] []),.v 19 22,.q 23 (.ex (.t 19) 0),.q 24 (.ex (.t 19) 1),.v 8 23,.v 9 24]) (.seq (.seq (.reg [.v 25 9,.q 26 (.not (.t 25)),.v 27 26,⟨some 28,(some (27,false)),.l (.ld1 (.t 1))⟩,⟨some 29,(some (27,false)),.q (.mv (.t 8))⟩,⟨some 30,(some (27,false)),.l (.lk .string (.bool false) false (.t 28) (.t 29))⟩,.a 31 (.pick (.t 27) (.k (.bool true)) (.t 30))]) (.cond (.t 31) (.exit 1) .skip)) (.seq (.reg [.l 32 (.ld1 (.t 1)),.v 33 8,.s (.mu .string (.t 32) (.t 33) (.k (.bool true)))]) (.seq (.reg [.l 34 (.ld1 (.t 2)),.v 35 8,.e 36 (.bsl 9 1 [(.t 35)]),.e 37 (.ap 9 1 16 (.t 34) (.t 36)),.s (.st 1 (.t 2) (.t 37))]) (.seq (.reg [.q 39 (.fa 0 (.t 3)),.l 40 (.ld1 (.t 39)),.v 41 8,.l 42 (.lk .string (.agg #[(.string (mk [])),(.slice none 0 0)]) true (.t 40) (.t 41)),.v 38 42,.q 43 (.ex (.t 38) 0),.q 44 (.ex (.t 38) 1),.e 10 (.al (.agg #[(.string (mk [])),(.slice none 0 0)]) 48),.s (.st 2 (.t 10) (.t 43)),.v 11 44]) (.seq (.reg [.v 45 11]) (.cond (.t 45) (.reg [.l 46 (.ld1 (.t 4)),.l 47 (.ldn 2 (.t 10)),.a 48 (.ca (.t 46) [(.t 47)] [0,1,2,3,4,5,6,7])]) .skip))))))))) (.reg [.q 49 (.bin .add true (.t 15) (.i 1)),.v 15 49])))))))
def W5:List RV:=[]
theorem aLZ:aO Tryz.prog true ⟨fun r k=>if r=10/\k=2 then .own [0,1,2,3,4,5,6,7] else .own [],fun _=>false⟩ Tryz.f143=some (V5,W5):=by kernel_rfl
def WG:PC:=.seq (.reg [.e 1 (.bx 42 (.t 0)),.q 2 (.mv (.k (.string (mk [])))),.q 3 (.mv (.k (.bool false)))]) (.seq (.block 0 (.loop (.seq (.seq (.reg [.q 4 (.fa 0 (.t 1)),.l 5 (.ld1 (.t 4)),.q 6 (.bin .eql true (.t 5) (.i 5)),.v 7 6,⟨some 8,(some (7,true)),.q (.fa 3 (.t 1))⟩,⟨some 9,(some (7,true)),.l (.ld1 (.t 8))⟩,⟨some 10,(some (7,true)),.q (.lnL (.t 9))⟩,⟨some 11,(some (7,true)),.q (.bin .eql true (.t 10) (.i 1))⟩,.a 12 (.pick (.t 7) (.t 11) (.k (.bool false)))]) (.cond (.t 12) .skip (.exit 0))) (.block 1 (.reg [.q 13 (.fa 3 (.t 1)),.l 14 (.ld1 (.t 13)),.l 15 (.ia 4 (.t 14) (.i 0)),.l 16 (.ldn 4 (.t 15)),.s (.st 4 (.t 1) (.t 16))]))))) (.seq (.reg [.q 17 (.fa 2 (.t 1)),.l 18 (.ld1 (.t 17)),.q 19 (.fa 0 (.t 1)),.l 20 (.ld1 (.t 19)),.q 21 (.bin .eql true (.t 20) (.i 6)),.v 22 21,⟨some 23,(some (22,false)),.q (.fa 0 (.t 1))⟩,⟨some 24,(some (22,false)),.l (.ld1 (.t 23))⟩,⟨some 25,(some (22,false)),.q (.bin .eql true (.t 24) (.i 7))⟩,.a 26 (.pick (.t 22) (.k (.bool true)) (.t 25)),.v 2 18,.v 3 26]) .ret))
def VG:List RV:=[.mv (.t 2),.mv (.t 3)]
theorem aLA:aO Tryz.prog true ⟨fun _ _=>.own [],fun _=>false⟩ Tryz.f144=some (WG,VG):=by kernel_rfl
def OP:PC:=.seq (.reg [.e 4 (.bx 48 (.t 0)),.q 5 (.mv (.i 0))]) (.seq (.seq (.reg [.l 14 (.ld1 (.t 1)),.q 15 (.fa 0 (.t 4)),.l 16 (.ld1 (.t 15)),.l 17 (.lk .string (.int .i64 0) true (.t 14) (.t 16)),.v 13 17,.q 18 (.ex (.t 13) 0),.q 19 (.ex (.t 13) 1),.v 6 18,.v 7 19]) (.seq (.reg [.v 20 7]) (.cond (.t 20) (.seq (.reg [.v 21 6,.v 5 21]) .ret) .skip))) (.seq (.reg [.q 8 (.mv (.i 0))]) (.seq (.seq (.reg [.q 22 (.fa 1 (.t 4)),.l 23 (.ld1 (.t 22)),.q 24 (.lnL (.t 23)),.q 25 (.mv (.i 0))]) (.block 0 (.loop (.seq (.reg [.q 26 (.bin .lss true (.t 25) (.t 24))]) (.seq (.cond (.t 26) .skip (.exit 0)) (.seq (.block 1 (.seq (.reg [.l 27 (.ia 7 (.t 23) (.t 25)),.l 28 (.ldn 7 (.t 27)),.e 10 (.al (.agg #[(.int .i64 0),(.string (mk [])),(.int .i64 0),(.int .i64 0),(.string (mk [])),(.slice none 0 0),(.bool false)]) 52),.s (.st 7 (.t 10) (.t 28))]) (.seq (.ord  [.q (.q 29 (.fa 2 (.t 10))),.q (.l 30 (.ldn 4 (.t 29))),.m (.e 12 (.al (.agg #[(.int .i64 0),(.int .i64 0),(.string (mk [])),(.slice none 0 0)]) 42)),.rc (.q 29 (.fa 2 (.t 10))),.rc (.l 30 (.ldn 4 (.t 29))),.m (.q 11 (.mv (.i 0))),.rc (.q 29 (.fa 2 (.t 10))),.rc (.l 30 (.ldn 4 (.t 29))),.m (.s (.st 4 (.t 12) (.t 30)))]) (.seq (.block 2 (.loop (.seq (.seq (.reg [.q 31 (.fa 0 (.t 12)),.l 32 (.ld1 (.t 31)),.q 33 (.bin .eql true (.t 32) (.i 5))]) (.cond (.t 33) .skip (.exit 2))) (.block 3 (.seq (.reg [.v 34 11,.q 35 (.bin .add true (.t 34) (.i 1)),.v 11 35]) (.reg [.q 36 (.fa 3 (.t 12)),.l 37 (.ld1 (.t 36)),.l 38 (.ia 4 (.t 37) (.i 0)),.l 39 (.ldn 4 (.t 38)),.s (.st 4 (.t 12) (.t 39))])))))) (.seq (.seq (.reg [.q 40 (.fa 0 (.t 12)),.l 41 (.ld1 (.t 40)),.q 42 (.bin .eql true (.t 41) (.i 6))]) (.cond (.t 42) (.reg [.v 43 11,.l 44 (.ld1 (.t 2)),.q 45 (.fa 0 (.t 3)),.l 46 (.ld1 (.t 45)),.q 47 (.fa 2 (.t 12)),.l 48 (.ld1 (.t 47)),.l 49 (.lk .string (.agg #[(.string (mk [])),(.slice none 0 0)]) false (.t 46) (.t 48)),.a 50 (.ca (.t 44) [(.t 49)] [0,1,2,3,4,5]),.q 51 (.bin .add true (.t 43) (.t 50)),.v 11 51]) .skip)) (.reg [.v 52 8,.v 53 11,.q 54 (.mx true (.t 52) (.t 53)),.v 8 54])))))) (.reg [.q 55 (.bin .add true (.t 25) (.i 1)),.v 25 55]))))))) (.seq (.reg [.l 56 (.ld1 (.t 1)),.q 57 (.fa 0 (.t 4)),.l 58 (.ld1 (.t 57)),.v 59 8,.q 60 (.bin .add true (.t 59) (.i 1)),.s (.mu .string (.t 56) (.t 58) (.t 60))]) (.seq (.reg [.v 61 8,.q 62 (.bin .add true (.t 61) (.i 1)),.v 5 62]) .ret)))))
def NN:List RV:=[.mv (.t 5)]
theorem aM7:aO Tryz.prog true ⟨fun r k=>if r=13/\k=7 then .own [0,1,2,3,4,5] else .own [],fun _=>false⟩ Tryz.f146=some (OP,NN):=by kernel_rfl
def aF5:PC:=.seq (.reg [.e 2 (.bx 25 (.t 0)),.e 4 (.al (.agg #[(.string (mk [])),(.slice none 0 0)]) 48),.q 5 (.mv (.k (.bool false)))]) (.seq (.seq (.reg [.q 6 (.mv (.i 0))]) (.block 0 (.loop (.seq (.seq (.reg [.v 7 6,.q 8 (.fa 2 (.t 2)),.l 9 (.ld1 (.t 8)),.q 10 (.lnL (.t 9)),.q 11 (.bin .lss true (.t 7) (.t 10))]) (.cond (.t 11) .skip (.exit 0))) (.seq (.block 1 (.seq (.reg [.q 14 (.fa 2 (.t 2)),.l 15 (.ld1 (.t 14)),.v 16 6,.l 17 (.ia 2 (.t 15) (.t 16)),.q 18 (.fa 0 (.t 17)),.l 19 (.ld1 (.t 18)),.v 20 1,.q 21 (.bin .eql true (.t 19) (.t 20))]) (.cond (.t 21) (.seq (.reg [.q 22 (.fa 2 (.t 2)),.l 23 (.ld1 (.t 22)),.v 24 6,.l 25 (.ia 2 (.t 23) (.t 24)),.l 26 (.ldn 2 (.t 25)),.s (.st 2 (.t 4) (.t 26)),.q 5 (.mv (.k (.bool true)))]) .ret) .skip))) (.reg [.v 12 6,.q 13 (.bin .add true (.t 12) (.i 1)),.v 6 13])))))) (.seq (.reg [.q 27 (.bd [(.string (mk [])),(.slice none 0 0)] []),.s (.st 2 (.t 4) (.t 27)),.q 5 (.mv (.k (.bool false)))]) .ret))
def aEN:List RV:=[.ld (.ldn 2 (.t 4)),.mv (.t 5)]
theorem aUC:aO Tryz.prog true ⟨fun _ _=>.own [],fun _=>false⟩ Tryz.f17=some (aF5,aEN):=by kernel_rfl
def aIV:PC:=.seq (.reg [.e 2 (.bx 48 (.t 0)),.e 4 (.al (.agg #[(.int .i64 0),(.string (mk [])),(.int .i64 0),(.int .i64 0),(.string (mk [])),(.slice none 0 0),(.bool false)]) 52),.q 5 (.mv (.k (.bool false)))]) (.seq (.seq (.reg [.q 6 (.mv (.i 0))]) (.block 0 (.loop (.seq (.seq (.reg [.v 7 6,.q 8 (.fa 1 (.t 2)),.l 9 (.ld1 (.t 8)),.q 10 (.lnL (.t 9)),.q 11 (.bin .lss true (.t 7) (.t 10))]) (.cond (.t 11) .skip (.exit 0))) (.seq (.block 1 (.seq (.reg [.q 14 (.fa 1 (.t 2)),.l 15 (.ld1 (.t 14)),.v 16 6,.l 17 (.ia 7 (.t 15) (.t 16)),.q 18 (.fa 0 (.t 17)),.l 19 (.ld1 (.t 18)),.v 20 1,.q 21 (.bin .eql true (.t 19) (.t 20))]) (.cond (.t 21) (.seq (.reg [.q 22 (.fa 1 (.t 2)),.l 23 (.ld1 (.t 22)),.v 24 6,.l 25 (.ia 7 (.t 23) (.t 24)),.l 26 (.ldn 7 (.t 25)),.s (.st 7 (.t 4) (.t 26)),.q 5 (.mv (.k (.bool true)))]) .ret) .skip))) (.reg [.v 12 6,.q 13 (.bin .add true (.t 12) (.i 1)),.v 6 13])))))) (.seq (.reg [.q 27 (.bd [(.int .i64 0),(.string (mk [])),(.int .i64 0),(.int .i64 0),(.string (mk [])),(.slice none 0 0),(.bool false)] []),.s (.st 7 (.t 4) (.t 27)),.q 5 (.mv (.k (.bool false)))]) .ret))
def aDT:List RV:=[.ld (.ldn 7 (.t 4)),.mv (.t 5)]
theorem aVZ:aO Tryz.prog true ⟨fun _ _=>.own [],fun _=>false⟩ Tryz.f18=some (aIV,aDT):=by kernel_rfl
def aF8:PC:=.seq (.reg [.e 1 (.bx 25 (.t 0)),.q 2 (.mv (.i 0))]) (.seq (.seq (.reg [.q 11 (.fa 0 (.t 1)),.l 12 (.ld1 (.t 11)),.q 13 (.bin .lss true (.t 12) (.i 1)),.v 14 13,⟨some 15,(some (14,false)),.q (.fa 0 (.t 1))⟩,⟨some 16,(some (14,false)),.l (.ld1 (.t 15))⟩,⟨some 17,(some (14,false)),.q (.bin .gtr true (.t 16) (.i 999))⟩,.a 18 (.pick (.t 14) (.k (.bool true)) (.t 17))]) (.cond (.t 18) (.seq (.reg [.q 2 (.mv (.i 4))]) .ret) .skip)) (.seq (.seq (.reg [.l 19 (.ldn 3 (.t 1)),.a 20 (.cq 86 [(.t 19)])]) (.cond (.t 20) (.seq (.reg [.q 2 (.mv (.i 3))]) .ret) .skip)) (.seq (.seq (.reg [.q 3 (.mv (.i 0))]) (.block 0 (.loop (.seq (.seq (.reg [.v 21 3,.q 22 (.fa 1 (.t 1)),.l 23 (.ld1 (.t 22)),.q 24 (.lnL (.t 23)),.q 25 (.bin .lss true (.t 21) (.t 24))]) (.cond (.t 25) .skip (.exit 0))) (.seq (.block 1 (.seq (.reg [.l 28 (.ldn 3 (.t 1)),.v 29 3,.a 30 (.cq 87 [(.t 28),(.t 29)]),.v 4 30]) (.seq (.reg [.v 31 4,.q 32 (.bin .neq true (.t 31) (.i 0))]) (.cond (.t 32) (.seq (.reg [.v 33 4,.v 2 33]) .ret) .skip)))) (.reg [.v 26 3,.q 27 (.bin .add true (.t 26) (.i 1)),.v 3 27])))))) (.seq (.seq (.reg [.q 5 (.mv (.i 0))]) (.block 2 (.loop (.seq (.seq (.reg [.v 34 5,.q 35 (.fa 2 (.t 1)),.l 36 (.ld1 (.t 35)),.q 37 (.lnL (.t 36)),.q 38 (.bin .lss true (.t 34) (.t 37))]) (.cond (.t 38) .skip (.exit 2))) (.seq (.block 3 (.seq (.reg [.l 41 (.ldn 3 (.t 1)),.v 42 5,.a 43 (.cq 88 [(.t 41),(.t 42)]),.v 6 43]) (.seq (.reg [.v 44 6,.q 45 (.bin .neq true (.t 44) (.i 0))]) (.cond (.t 45) (.seq (.reg [.v 46 6,.v 2 46]) .ret) .skip)))) (.reg [.v 39 5,.q 40 (.bin .add true (.t 39) (.i 1)),.v 5 40])))))) (.seq (.seq (.reg [.q 7 (.mv (.i 0))]) (.block 4 (.loop (.seq (.seq (.reg [.v 47 7,.q 48 (.fa 2 (.t 1)),.l 49 (.ld1 (.t 48)),.q 50 (.lnL (.t 49)),.q 51 (.bin .lss true (.t 47) (.t 50))]) (.cond (.t 51) .skip (.exit 4))) (.seq (.block 5 (.seq (.reg [.l 54 (.ldn 3 (.t 1)),.q 55 (.fa 2 (.t 1)),.l 56 (.ld1 (.t 55)),.v 57 7,.l 58 (.ia 2 (.t 56) (.t 57)),.q 59 (.fa 0 (.t 58)),.l 60 (.ld1 (.t 59)),.a 61 (.cl 89 [(.t 54),(.t 60)] []),.v 8 61]) (.seq (.reg [.v 62 8,.v 63 8,.q 64 (.lnL (.t 63)),.q 65 (.fa 2 (.t 1)),.l 66 (.ld1 (.t 65)),.v 67 7,.l 68 (.ia 2 (.t 66) (.t 67)),.q 69 (.fa 0 (.t 68)),.l 70 (.ld1 (.t 69)),.a 71 (.cq 90 [(.t 62),(.t 64),(.t 70)])]) (.cond (.t 71) (.seq (.reg [.q 2 (.mv (.i 19))]) .ret) .skip)))) (.reg [.v 52 7,.q 53 (.bin .add true (.t 52) (.i 1)),.v 7 53])))))) (.seq (.reg [.l 72 (.ldn 3 (.t 1)),.a 73 (.cl 91 [(.t 72)] []),.v 9 73]) (.seq (.seq (.reg [.q 10 (.mv (.i 0))]) (.block 6 (.loop (.seq (.seq (.reg [.v 74 10,.v 75 9,.q 76 (.lnL (.t 75)),.q 77 (.bin .lss true (.t 74) (.t 76))]) (.cond (.t 77) .skip (.exit 6))) (.seq (.block 7 (.seq (.reg [.v 80 9,.v 81 10,.l 82 (.ia 1 (.t 80) (.t 81)),.l 83 (.ld1 (.t 82)),.q 84 (.bin .gtr true (.t 83) (.i 6))]) (.cond (.t 84) (.seq (.reg [.q 2 (.mv (.i 9))]) .ret) .skip))) (.reg [.v 78 10,.q 79 (.bin .add true (.t 78) (.i 1)),.v 10 79])))))) (.seq (.reg [.q 2 (.mv (.i 0))]) .ret))))))))
def aI1:List RV:=[.mv (.t 2)]
theorem aSK:aO Tryz.prog true ⟨fun r k=>if r=3/\k=1 then .q else if r=8/\k=2 then .q else if r=14/\k=2 then .q else if r=21/\k=9 then .q else .own [],fun _=>false⟩ Tryz.f49=some (aF8,aI1):=by kernel_rfl
def J1:PC:=.seq (.reg [.e 1 (.bx 25 (.t 0)),.q 2 (.mv (.k (.bool false)))]) (.seq (.seq (.reg [.q 5 (.fa 1 (.t 1)),.l 6 (.ld1 (.t 5)),.q 7 (.lnL (.t 6)),.q 8 (.bin .gtr true (.t 7) (.i 16)),.v 9 8,⟨some 10,(some (9,false)),.q (.fa 2 (.t 1))⟩,⟨some 11,(some (9,false)),.l (.ld1 (.t 10))⟩,⟨some 12,(some (9,false)),.q (.lnL (.t 11))⟩,⟨some 13,(some (9,false)),.q (.bin .gtr true (.t 12) (.i 16))⟩,.a 14 (.pick (.t 9) (.k (.bool true)) (.t 13)),.v 15 14,⟨some 16,(some (15,false)),.q (.fa 1 (.t 1))⟩,⟨some 17,(some (15,false)),.l (.ld1 (.t 16))⟩,⟨some 18,(some (15,false)),.q (.lnL (.t 17))⟩,⟨some 19,(some (15,false)),.q (.fa 2 (.t 1))⟩,⟨some 20,(some (15,false)),.l (.ld1 (.t 19))⟩,⟨some 21,(some (15,false)),.q (.lnL (.t 20))⟩,⟨some 22,(some (15,false)),.q (.bin .add true (.t 18) (.t 21))⟩,⟨some 23,(some (15,false)),.q (.bin .gtr true (.t 22) (.i 16))⟩,.a 24 (.pick (.t 15) (.k (.bool true)) (.t 23))]) (.cond (.t 24) (.seq (.reg [.q 2 (.mv (.k (.bool true)))]) .ret) .skip)) (.seq (.seq (.reg [.q 3 (.mv (.i 0))]) (.block 0 (.loop (.seq (.seq (.reg [.v 25 3,.q 26 (.fa 1 (.t 1)),.l 27 (.ld1 (.t 26)),.q 28 (.lnL (.t 27)),.q 29 (.bin .lss true (.t 25) (.t 28))]) (.cond (.t 29) .skip (.exit 0))) (.seq (.block 1 (.seq (.reg [.q 32 (.fa 1 (.t 1)),.l 33 (.ld1 (.t 32)),.v 34 3,.l 35 (.ia 3 (.t 33) (.t 34)),.q 36 (.fa 1 (.t 35)),.l 37 (.ld1 (.t 36)),.q 38 (.lnL (.t 37)),.q 39 (.bin .gtr true (.t 38) (.i 16))]) (.cond (.t 39) (.seq (.reg [.q 2 (.mv (.k (.bool true)))]) .ret) .skip))) (.reg [.v 30 3,.q 31 (.bin .add true (.t 30) (.i 1)),.v 3 31])))))) (.seq (.seq (.reg [.q 4 (.mv (.i 0))]) (.block 2 (.loop (.seq (.seq (.reg [.v 40 4,.q 41 (.fa 2 (.t 1)),.l 42 (.ld1 (.t 41)),.q 43 (.lnL (.t 42)),.q 44 (.bin .lss true (.t 40) (.t 43))]) (.cond (.t 44) .skip (.exit 2))) (.seq (.block 3 (.seq (.reg [.q 47 (.fa 2 (.t 1)),.l 48 (.ld1 (.t 47)),.v 49 4,.l 50 (.ia 2 (.t 48) (.t 49)),.q 51 (.fa 1 (.t 50)),.l 52 (.ld1 (.t 51)),.q 53 (.lnL (.t 52)),.q 54 (.bin .gtr true (.t 53) (.i 16))]) (.cond (.t 54) (.seq (.reg [.q 2 (.mv (.k (.bool true)))]) .ret) .skip))) (.reg [.v 45 4,.q 46 (.bin .add true (.t 45) (.i 1)),.v 4 46])))))) (.seq (.reg [.q 2 (.mv (.k (.bool false)))]) .ret))))
def J7:List RV:=[.mv (.t 2)]
theorem aVN:aO Tryz.prog true ⟨fun _ _=>.own [],fun _=>false⟩ Tryz.f86=some (J1,J7):=by kernel_rfl
def aEU:PC:=.seq (.reg [.e 2 (.bx 25 (.t 0)),.q 4 (.mv (.i 0))]) (.seq (.reg [.q 8 (.fa 1 (.t 2)),.l 9 (.ld1 (.t 8)),.v 10 1,.l 11 (.ia 3 (.t 9) (.t 10)),.l 12 (.ldn 3 (.t 11)),.e 5 (.al (.agg #[(.string (mk [])),(.slice none 0 0),(.slice none 0 0)]) 118),.s (.st 3 (.t 5) (.t 12))]) (.seq (.seq (.reg [.q 13 (.fa 0 (.t 5)),.l 14 (.ld1 (.t 13)),.a 15 (.cq 125 [(.t 14)]),.q 16 (.not (.t 15))]) (.cond (.t 16) (.seq (.reg [.q 4 (.mv (.i 5))]) .ret) .skip)) (.seq (.seq (.reg [.q 6 (.mv (.i 0))]) (.block 0 (.loop (.seq (.seq (.reg [.v 17 6,.v 18 1,.q 19 (.bin .lss true (.t 17) (.t 18))]) (.cond (.t 19) .skip (.exit 0))) (.seq (.block 1 (.seq (.reg [.q 22 (.fa 1 (.t 2)),.l 23 (.ld1 (.t 22)),.v 24 6,.l 25 (.ia 3 (.t 23) (.t 24)),.q 26 (.fa 0 (.t 25)),.l 27 (.ld1 (.t 26)),.q 28 (.fa 0 (.t 5)),.l 29 (.ld1 (.t 28)),.q 30 (.bin .eql true (.t 27) (.t 29))]) (.cond (.t 30) (.seq (.reg [.q 4 (.mv (.i 7))]) .ret) .skip))) (.reg [.v 20 6,.q 21 (.bin .add true (.t 20) (.i 1)),.v 6 21])))))) (.seq (.seq (.reg [.q 31 (.fa 1 (.t 5)),.l 32 (.ld1 (.t 31)),.q 33 (.lnL (.t 32)),.q 34 (.bin .eql true (.t 33) (.i 0)),.v 35 34,⟨some 36,(some (35,false)),.q (.fa 2 (.t 5))⟩,⟨some 37,(some (35,false)),.l (.ld1 (.t 36))⟩,⟨some 38,(some (35,false)),.q (.lnL (.t 37))⟩,⟨some 39,(some (35,false)),.q (.fa 1 (.t 5))⟩,⟨some 40,(some (35,false)),.l (.ld1 (.t 39))⟩,⟨some 41,(some (35,false)),.q (.lnL (.t 40))⟩,⟨some 42,(some (35,false)),.q (.bin .neq true (.t 38) (.t 41))⟩,.a 43 (.pick (.t 35) (.k (.bool true)) (.t 42))]) (.cond (.t 43) (.seq (.reg [.q 4 (.mv (.i 2))]) .ret) .skip)) (.seq (.seq (.reg [.q 7 (.mv (.i 0))]) (.block 2 (.loop (.seq (.seq (.reg [.v 44 7,.q 45 (.fa 1 (.t 5)),.l 46 (.ld1 (.t 45)),.q 47 (.lnL (.t 46)),.q 48 (.bin .lss true (.t 44) (.t 47))]) (.cond (.t 48) .skip (.exit 2))) (.seq (.block 3 (.seq (.seq (.reg [.q 51 (.fa 1 (.t 5)),.l 52 (.ld1 (.t 51)),.v 53 7,.l 54 (.ia 1 (.t 52) (.t 53)),.l 55 (.ld1 (.t 54)),.a 56 (.cq 126 [(.t 55)]),.q 57 (.not (.t 56))]) (.cond (.t 57) (.seq (.reg [.q 4 (.mv (.i 5))]) .ret) .skip)) (.seq (.seq (.reg [.q 58 (.fa 1 (.t 5)),.l 59 (.ld1 (.t 58)),.v 60 7,.q 61 (.fa 1 (.t 5)),.l 62 (.ld1 (.t 61)),.v 63 7,.l 64 (.ia 1 (.t 62) (.t 63)),.l 65 (.ld1 (.t 64)),.a 66 (.cq 90 [(.t 59),(.t 60),(.t 65)])]) (.cond (.t 66) (.seq (.reg [.q 4 (.mv (.i 7))]) .ret) .skip)) (.seq (.seq (.reg [.q 67 (.fa 2 (.t 5)),.l 68 (.ld1 (.t 67)),.v 69 7,.l 70 (.ia 1 (.t 68) (.t 69)),.l 71 (.ld1 (.t 70)),.q 72 (.bin .lss true (.t 71) (.i 0)),.v 73 72,⟨some 74,(some (73,false)),.q (.fa 2 (.t 5))⟩,⟨some 75,(some (73,false)),.l (.ld1 (.t 74))⟩,⟨some 76,(some (73,false)),.q (.mv (.t 7))⟩,⟨some 77,(some (73,false)),.l (.ia 1 (.t 75) (.t 76))⟩,⟨some 78,(some (73,false)),.l (.ld1 (.t 77))⟩,⟨some 79,(some (73,false)),.q (.bin .gtr true (.t 78) (.i 127))⟩,.a 80 (.pick (.t 73) (.k (.bool true)) (.t 79))]) (.cond (.t 80) (.seq (.reg [.q 4 (.mv (.i 4))]) .ret) .skip)) (.seq (.reg [.v 81 7,.q 82 (.bin .eql true (.t 81) (.i 0)),.v 83 82,⟨some 84,(some (83,true)),.q (.fa 2 (.t 5))⟩,⟨some 85,(some (83,true)),.l (.ld1 (.t 84))⟩,⟨some 86,(some (83,true)),.q (.mv (.t 7))⟩,⟨some 87,(some (83,true)),.l (.ia 1 (.t 85) (.t 86))⟩,⟨some 88,(some (83,true)),.l (.ld1 (.t 87))⟩,⟨some 89,(some (83,true)),.q (.bin .neq true (.t 88) (.i 0))⟩,.a 90 (.pick (.t 83) (.t 89) (.k (.bool false))),.v 91 90,⟨some 92,(some (91,false)),.q (.mv (.t 7))⟩,⟨some 93,(some (91,false)),.q (.bin .gtr true (.t 92) (.i 0))⟩,⟨some 94,(some (91,false)),.q (.mv (.t 93))⟩,⟨some 95,(some (94,true)),.q (.fa 2 (.t 5))⟩,⟨some 96,(some (94,true)),.l (.ld1 (.t 95))⟩,⟨some 97,(some (94,true)),.q (.mv (.t 7))⟩,⟨some 98,(some (94,true)),.l (.ia 1 (.t 96) (.t 97))⟩,⟨some 99,(some (94,true)),.l (.ld1 (.t 98))⟩,⟨some 100,(some (94,true)),.q (.fa 2 (.t 5))⟩,⟨some 101,(some (94,true)),.l (.ld1 (.t 100))⟩,⟨some 102,(some (94,true)),.q (.mv (.t 7))⟩,⟨some 103,(some (94,true)),.q (.bin .sub true (.t 102) (.i 1))⟩,⟨some 104,(some (94,true)),.l (.ia 1 (.t 101) (.t 103))⟩,⟨some 105,(some (94,true)),.l (.ld1 (.t 104))⟩,⟨some 106,(some (94,true)),.q (.bin .leq true (.t 99) (.t 105))⟩,⟨some 107,(some (91,false)),.pick (.t 94) (.t 106) (.k (.bool false))⟩,.a 108 (.pick (.t 91) (.k (.bool true)) (.t 107))]) (.cond (.t 108) (.seq (.reg [.q 4 (.mv (.i 2))]) .ret) .skip)))))) (.reg [.v 49 7,.q 50 (.bin .add true (.t 49) (.i 1)),.v 7 50])))))) (.seq (.reg [.q 4 (.mv (.i 0))]) .ret))))))
def aEC:List RV:=[.mv (.t 4)]
theorem aR9:aO Tryz.prog true ⟨fun r k=>if r=2/\k=2 then .q else if r=14/\k=5 then .q else if r=16/\k=8 then .q else .own [],fun _=>false⟩ Tryz.f87=some (aEU,aEC):=by kernel_rfl
def aJL:PC:=.seq (.reg [.e 2 (.bx 25 (.t 0)),.q 4 (.mv (.i 0))]) (.seq (.reg [.q 12 (.fa 2 (.t 2)),.l 13 (.ld1 (.t 12)),.v 14 1,.l 15 (.ia 2 (.t 13) (.t 14)),.l 16 (.ldn 2 (.t 15)),.e 5 (.al (.agg #[(.string (mk [])),(.slice none 0 0)]) 48),.s (.st 2 (.t 5) (.t 16))]) (.seq (.seq (.reg [.q 17 (.fa 0 (.t 5)),.l 18 (.ld1 (.t 17)),.a 19 (.cq 125 [(.t 18)]),.q 20 (.not (.t 19))]) (.cond (.t 20) (.seq (.reg [.q 4 (.mv (.i 5))]) .ret) .skip)) (.seq (.seq (.reg [.l 22 (.ldn 3 (.t 2)),.q 23 (.fa 0 (.t 5)),.l 24 (.ld1 (.t 23)),.a 25 (.cl 127 [(.t 22),(.t 24)] []),.v 21 25,.q 26 (.ex (.t 21) 0),.q 27 (.ex (.t 21) 1),.e 6 (.al (.agg #[(.string (mk [])),(.slice none 0 0),(.slice none 0 0)]) 118),.s (.st 3 (.t 6) (.t 26)),.v 7 27]) (.seq (.reg [.v 28 7]) (.cond (.t 28) (.seq (.reg [.q 4 (.mv (.i 7))]) .ret) .skip))) (.seq (.seq (.reg [.q 8 (.mv (.i 0))]) (.block 0 (.loop (.seq (.seq (.reg [.v 29 8,.v 30 1,.q 31 (.bin .lss true (.t 29) (.t 30))]) (.cond (.t 31) .skip (.exit 0))) (.seq (.block 1 (.seq (.reg [.q 34 (.fa 2 (.t 2)),.l 35 (.ld1 (.t 34)),.v 36 8,.l 37 (.ia 2 (.t 35) (.t 36)),.q 38 (.fa 0 (.t 37)),.l 39 (.ld1 (.t 38)),.q 40 (.fa 0 (.t 5)),.l 41 (.ld1 (.t 40)),.q 42 (.bin .eql true (.t 39) (.t 41))]) (.cond (.t 42) (.seq (.reg [.q 4 (.mv (.i 7))]) .ret) .skip))) (.reg [.v 32 8,.q 33 (.bin .add true (.t 32) (.i 1)),.v 8 33])))))) (.seq (.seq (.reg [.q 9 (.mv (.i 0))]) (.block 2 (.loop (.seq (.seq (.reg [.v 43 9,.q 44 (.fa 1 (.t 5)),.l 45 (.ld1 (.t 44)),.q 46 (.lnL (.t 45)),.q 47 (.bin .lss true (.t 43) (.t 46))]) (.cond (.t 47) .skip (.exit 2))) (.seq (.block 3 (.seq (.reg [.q 50 (.fa 1 (.t 5)),.l 51 (.ld1 (.t 50)),.v 52 9,.l 53 (.ia 7 (.t 51) (.t 52)),.l 54 (.ldn 7 (.t 53)),.e 10 (.al (.agg #[(.int .i64 0),(.string (mk [])),(.int .i64 0),(.int .i64 0),(.string (mk [])),(.slice none 0 0),(.bool false)]) 52),.s (.st 7 (.t 10) (.t 54))]) (.seq (.seq (.reg [.q 55 (.fa 0 (.t 10)),.l 56 (.ld1 (.t 55)),.q 57 (.bin .lss true (.t 56) (.i 1)),.v 58 57,⟨some 59,(some (58,false)),.q (.fa 0 (.t 10))⟩,⟨some 60,(some (58,false)),.l (.ld1 (.t 59))⟩,⟨some 61,(some (58,false)),.q (.bin .gtr true (.t 60) (.i 127))⟩,.a 62 (.pick (.t 58) (.k (.bool true)) (.t 61))]) (.cond (.t 62) (.seq (.reg [.q 4 (.mv (.i 4))]) .ret) .skip)) (.seq (.seq (.reg [.v 63 9,.q 64 (.bin .gtr true (.t 63) (.i 0)),.v 65 64,⟨some 66,(some (65,true)),.q (.fa 0 (.t 10))⟩,⟨some 67,(some (65,true)),.l (.ld1 (.t 66))⟩,⟨some 68,(some (65,true)),.q (.fa 1 (.t 5))⟩,⟨some 69,(some (65,true)),.l (.ld1 (.t 68))⟩,⟨some 70,(some (65,true)),.q (.mv (.t 9))⟩,⟨some 71,(some (65,true)),.q (.bin .sub true (.t 70) (.i 1))⟩,⟨some 72,(some (65,true)),.l (.ia 7 (.t 69) (.t 71))⟩,⟨some 73,(some (65,true)),.q (.fa 0 (.t 72))⟩,⟨some 74,(some (65,true)),.l (.ld1 (.t 73))⟩,⟨some 75,(some (65,true)),.q (.bin .leq true (.t 67) (.t 74))⟩,.a 76 (.pick (.t 65) (.t 75) (.k (.bool false)))]) (.cond (.t 76) (.seq (.reg [.q 4 (.mv (.i 2))]) .ret) .skip)) (.seq (.seq (.reg [.q 77 (.fa 1 (.t 10)),.l 78 (.ld1 (.t 77)),.a 79 (.cq 126 [(.t 78)]),.q 80 (.not (.t 79))]) (.cond (.t 80) (.seq (.reg [.q 4 (.mv (.i 5))]) .ret) .skip)) (.seq (.seq (.reg [.q 11 (.mv (.i 0))]) (.block 4 (.loop (.seq (.seq (.reg [.v 81 11,.v 82 9,.q 83 (.bin .lss true (.t 81) (.t 82))]) (.cond (.t 83) .skip (.exit 4))) (.seq (.block 5 (.seq (.reg [.q 86 (.fa 1 (.t 5)),.l 87 (.ld1 (.t 86)),.v 88 11,.l 89 (.ia 7 (.t 87) (.t 88)),.q 90 (.fa 1 (.t 89)),.l 91 (.ld1 (.t 90)),.q 92 (.fa 1 (.t 10)),.l 93 (.ld1 (.t 92)),.q 94 (.bin .eql true (.t 91) (.t 93))]) (.cond (.t 94) (.seq (.reg [.q 4 (.mv (.i 7))]) .ret) .skip))) (.reg [.v 84 11,.q 85 (.bin .add true (.t 84) (.i 1)),.v 11 85])))))) (.seq (.reg [.l 95 (.ldn 3 (.t 2)),.q 96 (.fa 2 (.t 10)),.l 97 (.ldn 4 (.t 96)),.a 98 (.cq 128 [(.t 95),(.t 97)]),.q 99 (.not (.t 98))]) (.cond (.t 99) (.seq (.reg [.q 4 (.mv (.i 13))]) .ret) .skip)))))))) (.reg [.v 48 9,.q 49 (.bin .add true (.t 48) (.i 1)),.v 9 49])))))) (.seq (.reg [.q 4 (.mv (.i 0))]) .ret))))))
def aDV:List RV:=[.mv (.t 4)]
theorem aTR:aO Tryz.prog true ⟨fun r k=>if r=2/\k=2 then .q else if r=20/\k=2 then .q else if r=27/\k=3 then .q else .own [],fun _=>false⟩ Tryz.f88=some (aJL,aDV):=by kernel_rfl
def aIW:PC:=.seq (.reg [.e 2 (.bx 25 (.t 0)),.q 4 (.mv (.k (.slice none 0 0)))]) (.seq (.reg [.q 5 (.mv (.k (.slice none 0 0)))]) (.seq (.reg [.v 13 1,.e 14 (.bsl 9 1 [(.t 13)]),.v 6 14]) (.seq (.seq (.reg [.q 7 (.mv (.i 0))]) (.block 0 (.loop (.seq (.seq (.reg [.v 15 7,.v 16 6,.q 17 (.lnL (.t 16)),.q 18 (.bin .lss true (.t 15) (.t 17))]) (.cond (.t 18) .skip (.exit 0))) (.seq (.block 1 (.seq (.ord  [.q (.l 22 (.ldn 3 (.t 2))),.q (.v 23 6),.q (.v 24 7),.q (.l 25 (.ia 1 (.t 23) (.t 24))),.q (.l 26 (.ld1 (.t 25))),.m (.a 27 (.cl 17 [(.t 22),(.t 26)] [])),.q (.v 21 27),.q (.q 28 (.ex (.t 21) 0)),.q (.q 29 (.ex (.t 21) 1)),.m (.e 8 (.al (.agg #[(.string (mk [])),(.slice none 0 0)]) 48)),.rc (.v 21 27),.rc (.q 28 (.ex (.t 21) 0)),.rc (.q 29 (.ex (.t 21) 1)),.m (.s (.st 2 (.t 8) (.t 28))),.rc (.q 29 (.ex (.t 21) 1)),.m (.v 9 29)]) (.seq (.reg [.q 10 (.mv (.i 0))]) (.block 2 (.loop (.seq (.seq (.reg [.v 30 10,.q 31 (.fa 1 (.t 8)),.l 32 (.ld1 (.t 31)),.q 33 (.lnL (.t 32)),.q 34 (.bin .lss true (.t 30) (.t 33))]) (.cond (.t 34) .skip (.exit 2))) (.seq (.block 3 (.seq (.reg [.q 37 (.fa 1 (.t 8)),.l 38 (.ld1 (.t 37)),.v 39 10,.l 40 (.ia 7 (.t 38) (.t 39)),.q 41 (.fa 2 (.t 40)),.l 42 (.ldn 4 (.t 41)),.a 43 (.cl 129 [(.t 42)] []),.v 11 43]) (.seq (.reg [.q 12 (.mv (.i 0))]) (.block 4 (.loop (.seq (.seq (.reg [.v 44 12,.v 45 11,.q 46 (.lnL (.t 45)),.q 47 (.bin .lss true (.t 44) (.t 46))]) (.cond (.t 47) .skip (.exit 4))) (.seq (.block 5 (.seq (.reg [.v 50 5,.v 51 5,.q 52 (.lnL (.t 51)),.v 53 11,.v 54 12,.l 55 (.ia 1 (.t 53) (.t 54)),.l 56 (.ld1 (.t 55)),.a 57 (.cq 90 [(.t 50),(.t 52),(.t 56)]),.q 58 (.not (.t 57))]) (.cond (.t 58) (.seq (.reg [.v 59 5,.v 60 11,.v 61 12,.l 62 (.ia 1 (.t 60) (.t 61)),.l 63 (.ld1 (.t 62)),.a 64 (.cl 130 [(.t 59),(.t 63)] []),.v 5 64]) (.reg [.v 65 6,.v 66 11,.v 67 12,.l 68 (.ia 1 (.t 66) (.t 67)),.l 69 (.ld1 (.t 68)),.e 70 (.bsl 9 1 [(.t 69)]),.e 71 (.ap 9 1 16 (.t 65) (.t 70)),.v 6 71])) .skip))) (.reg [.v 48 12,.q 49 (.bin .add true (.t 48) (.i 1)),.v 12 49])))))))) (.reg [.v 35 10,.q 36 (.bin .add true (.t 35) (.i 1)),.v 10 36])))))))) (.reg [.v 19 7,.q 20 (.bin .add true (.t 19) (.i 1)),.v 7 20])))))) (.seq (.reg [.v 72 5,.v 4 72]) .ret))))
def aEM:List RV:=[.mv (.t 4)]
theorem aSJ:aO Tryz.prog true ⟨fun r k=>if r=14/\k=7 then .q else .own [],fun _=>false⟩ Tryz.f89=some (aIW,aEM):=by kernel_rfl
def aFN:PC:=.seq (.reg [.q 6 (.mv (.k (.bool false)))]) (.seq (.seq (.reg [.q 7 (.mv (.i 0))]) (.block 0 (.loop (.seq (.seq (.reg [.v 8 7,.v 9 1,.q 10 (.bin .lss true (.t 8) (.t 9)),.v 11 10,⟨some 12,(some (11,true)),.q (.mv (.t 7))⟩,⟨some 13,(some (11,true)),.q (.mv (.t 0))⟩,⟨some 14,(some (11,true)),.q (.lnL (.t 13))⟩,⟨some 15,(some (11,true)),.q (.bin .lss true (.t 12) (.t 14))⟩,.a 16 (.pick (.t 11) (.t 15) (.k (.bool false)))]) (.cond (.t 16) .skip (.exit 0))) (.seq (.block 1 (.seq (.reg [.v 19 0,.v 20 7,.l 21 (.ia 1 (.t 19) (.t 20)),.l 22 (.ld1 (.t 21)),.v 23 2,.q 24 (.bin .eql true (.t 22) (.t 23))]) (.cond (.t 24) (.seq (.reg [.q 6 (.mv (.k (.bool true)))]) .ret) .skip))) (.reg [.v 17 7,.q 18 (.bin .add true (.t 17) (.i 1)),.v 7 18])))))) (.seq (.reg [.q 6 (.mv (.k (.bool false)))]) .ret))
def aE3:List RV:=[.mv (.t 6)]
theorem aUY:aO Tryz.prog true ⟨fun _ _=>.own [],fun _=>false⟩ Tryz.f90=some (aFN,aE3):=by kernel_rfl
def aE1:PC:=.seq (.reg [.e 1 (.bx 25 (.t 0)),.q 2 (.mv (.k (.slice none 0 0)))]) (.seq (.reg [.q 8 (.fa 2 (.t 1)),.l 9 (.ld1 (.t 8)),.q 10 (.lnL (.t 9)),.e 11 (.mk 3 1 8 [(.int .i64 0)] (.t 10) (.t 10)),.v 3 11]) (.seq (.seq (.reg [.q 4 (.mv (.i 0))]) (.block 0 (.loop (.seq (.seq (.reg [.v 12 4,.q 13 (.fa 2 (.t 1)),.l 14 (.ld1 (.t 13)),.q 15 (.lnL (.t 14)),.q 16 (.bin .leq true (.t 12) (.t 15))]) (.cond (.t 16) .skip (.exit 0))) (.seq (.block 1 (.seq (.reg [.q 5 (.mv (.i 0))]) (.block 2 (.loop (.seq (.seq (.reg [.v 19 5,.q 20 (.fa 2 (.t 1)),.l 21 (.ld1 (.t 20)),.q 22 (.lnL (.t 21)),.q 23 (.bin .lss true (.t 19) (.t 22))]) (.cond (.t 23) .skip (.exit 2))) (.seq (.block 3 (.seq (.reg [.q 6 (.mv (.i 0))]) (.seq (.seq (.reg [.q 7 (.mv (.i 0))]) (.block 4 (.loop (.seq (.seq (.reg [.v 26 7,.q 27 (.fa 2 (.t 1)),.l 28 (.ld1 (.t 27)),.v 29 5,.l 30 (.ia 2 (.t 28) (.t 29)),.q 31 (.fa 1 (.t 30)),.l 32 (.ld1 (.t 31)),.q 33 (.lnL (.t 32)),.q 34 (.bin .lss true (.t 26) (.t 33))]) (.cond (.t 34) .skip (.exit 4))) (.seq (.block 5 (.reg [.v 37 6,.l 38 (.ldn 3 (.t 1)),.v 39 3,.q 40 (.fa 2 (.t 1)),.l 41 (.ld1 (.t 40)),.v 42 5,.l 43 (.ia 2 (.t 41) (.t 42)),.q 44 (.fa 1 (.t 43)),.l 45 (.ld1 (.t 44)),.v 46 7,.l 47 (.ia 7 (.t 45) (.t 46)),.q 48 (.fa 2 (.t 47)),.l 49 (.ldn 4 (.t 48)),.a 50 (.cq 131 [(.t 38),(.t 39),(.t 49)]),.q 51 (.mx true (.t 37) (.t 50)),.v 6 51])) (.reg [.v 35 7,.q 36 (.bin .add true (.t 35) (.i 1)),.v 7 36])))))) (.reg [.v 52 3,.v 53 5,.v 54 6,.q 55 (.bin .add true (.i 1) (.t 54)),.l 56 (.ia 1 (.t 52) (.t 53)),.s (.st 1 (.t 56) (.t 55))])))) (.reg [.v 24 5,.q 25 (.bin .add true (.t 24) (.i 1)),.v 5 25]))))))) (.reg [.v 17 4,.q 18 (.bin .add true (.t 17) (.i 1)),.v 4 18])))))) (.seq (.reg [.v 57 3,.v 2 57]) .ret)))
def aIX:List RV:=[.mv (.t 2)]
theorem aTP:aO Tryz.prog true ⟨fun r k=>if r=12/\k=13 then .q else .own [],fun _=>false⟩ Tryz.f91=some (aE1,aIX):=by kernel_rfl
def N8:PC:=.seq (.reg [.q 2 (.mv (.k (.bool false)))]) (.seq (.reg [.v 3 0,.a 4 (.cq 126 [(.t 3)]),.v 5 4,⟨some 6,(some (5,true)),.q (.mv (.t 0))⟩,⟨some 7,(some (5,true)),.ix (.t 6) (.i 0)⟩,⟨some 8,(some (5,true)),.q (.bin .geq true (.t 7) (.k (.int .u8 65)))⟩,.a 9 (.pick (.t 5) (.t 8) (.k (.bool false))),.v 10 9,⟨some 11,(some (10,true)),.q (.mv (.t 0))⟩,⟨some 12,(some (10,true)),.ix (.t 11) (.i 0)⟩,⟨some 13,(some (10,true)),.q (.bin .leq true (.t 12) (.k (.int .u8 90)))⟩,.a 14 (.pick (.t 10) (.t 13) (.k (.bool false))),.v 2 14]) .ret)
def OA:List RV:=[.mv (.t 2)]
theorem aM9:aO Tryz.prog true ⟨fun r k=>if r=1/\k=1 then .q else .own [],fun _=>false⟩ Tryz.f125=some (N8,OA):=by kernel_rfl
def Y3:PC:=.seq (.reg [.q 2 (.mv (.k (.bool false)))]) (.seq (.seq (.reg [.v 6 0,.q 7 (.lnS (.t 6)),.q 8 (.bin .lss true (.t 7) (.i 1)),.v 9 8,⟨some 10,(some (9,false)),.q (.mv (.t 0))⟩,⟨some 11,(some (9,false)),.q (.lnS (.t 10))⟩,⟨some 12,(some (9,false)),.q (.bin .gtr true (.t 11) (.i 16))⟩,.a 13 (.pick (.t 9) (.k (.bool true)) (.t 12))]) (.cond (.t 13) (.seq (.reg [.q 2 (.mv (.k (.bool false)))]) .ret) .skip)) (.seq (.seq (.reg [.q 3 (.mv (.i 0))]) (.block 0 (.loop (.seq (.seq (.reg [.v 14 3,.v 15 0,.q 16 (.lnS (.t 15)),.q 17 (.bin .lss true (.t 14) (.t 16))]) (.cond (.t 17) .skip (.exit 0))) (.seq (.block 1 (.seq (.reg [.v 20 0,.v 21 3,.a 22 (.ix (.t 20) (.t 21)),.q 23 (.bin .geq true (.t 22) (.k (.int .u8 97))),.v 24 23,⟨some 25,(some (24,true)),.q (.mv (.t 0))⟩,⟨some 26,(some (24,true)),.q (.mv (.t 3))⟩,⟨some 27,(some (24,true)),.ix (.t 25) (.t 26)⟩,⟨some 28,(some (24,true)),.q (.bin .leq true (.t 27) (.k (.int .u8 122)))⟩,.a 29 (.pick (.t 24) (.t 28) (.k (.bool false))),.v 30 29,⟨some 31,(some (30,false)),.q (.mv (.t 0))⟩,⟨some 32,(some (30,false)),.q (.mv (.t 3))⟩,⟨some 33,(some (30,false)),.ix (.t 31) (.t 32)⟩,⟨some 34,(some (30,false)),.q (.bin .geq true (.t 33) (.k (.int .u8 65)))⟩,⟨some 35,(some (30,false)),.q (.mv (.t 34))⟩,⟨some 36,(some (35,true)),.q (.mv (.t 0))⟩,⟨some 37,(some (35,true)),.q (.mv (.t 3))⟩,⟨some 38,(some (35,true)),.ix (.t 36) (.t 37)⟩,⟨some 39,(some (35,true)),.q (.bin .leq true (.t 38) (.k (.int .u8 90)))⟩,⟨some 40,(some (30,false)),.pick (.t 35) (.t 39) (.k (.bool false))⟩,.a 41 (.pick (.t 30) (.k (.bool true)) (.t 40)),.v 4 41]) (.seq (.reg [.v 42 0,.v 43 3,.a 44 (.ix (.t 42) (.t 43)),.q 45 (.bin .eql true (.t 44) (.k (.int .u8 95))),.v 46 45,⟨some 47,(some (46,false)),.q (.mv (.t 0))⟩,⟨some 48,(some (46,false)),.q (.mv (.t 3))⟩,⟨some 49,(some (46,false)),.ix (.t 47) (.t 48)⟩,⟨some 50,(some (46,false)),.q (.bin .geq true (.t 49) (.k (.int .u8 48)))⟩,⟨some 51,(some (46,false)),.q (.mv (.t 50))⟩,⟨some 52,(some (51,true)),.q (.mv (.t 0))⟩,⟨some 53,(some (51,true)),.q (.mv (.t 3))⟩,⟨some 54,(some (51,true)),.ix (.t 52) (.t 53)⟩,⟨some 55,(some (51,true)),.q (.bin .leq true (.t 54) (.k (.int .u8 57)))⟩,⟨some 56,(some (46,false)),.pick (.t 51) (.t 55) (.k (.bool false))⟩,.a 57 (.pick (.t 46) (.k (.bool true)) (.t 56)),.v 5 57]) (.seq (.reg [.v 58 4,.q 59 (.not (.t 58)),.v 60 59,⟨some 61,(some (60,true)),.q (.mv (.t 3))⟩,⟨some 62,(some (60,true)),.q (.bin .eql true (.t 61) (.i 0))⟩,⟨some 63,(some (60,true)),.q (.mv (.t 62))⟩,⟨some 64,(some (63,false)),.q (.mv (.t 5))⟩,⟨some 65,(some (63,false)),.q (.not (.t 64))⟩,⟨some 66,(some (60,true)),.pick (.t 63) (.k (.bool true)) (.t 65)⟩,.a 67 (.pick (.t 60) (.t 66) (.k (.bool false)))]) (.cond (.t 67) (.seq (.reg [.q 2 (.mv (.k (.bool false)))]) .ret) .skip))))) (.reg [.v 18 3,.q 19 (.bin .add true (.t 18) (.i 1)),.v 3 19])))))) (.seq (.reg [.q 2 (.mv (.k (.bool true)))]) .ret)))
def XT:List RV:=[.mv (.t 2)]
theorem aOF:aO Tryz.prog true ⟨fun _ _=>.own [],fun _=>false⟩ Tryz.f126=some (Y3,XT):=by kernel_rfl
def YM:PC:=.seq (.reg [.e 2 (.bx 25 (.t 0)),.e 4 (.al (.agg #[(.string (mk [])),(.slice none 0 0),(.slice none 0 0)]) 118),.q 5 (.mv (.k (.bool false)))]) (.seq (.seq (.reg [.q 6 (.mv (.i 0))]) (.block 0 (.loop (.seq (.seq (.reg [.v 7 6,.q 8 (.fa 1 (.t 2)),.l 9 (.ld1 (.t 8)),.q 10 (.lnL (.t 9)),.q 11 (.bin .lss true (.t 7) (.t 10))]) (.cond (.t 11) .skip (.exit 0))) (.seq (.block 1 (.seq (.reg [.q 14 (.fa 1 (.t 2)),.l 15 (.ld1 (.t 14)),.v 16 6,.l 17 (.ia 3 (.t 15) (.t 16)),.q 18 (.fa 0 (.t 17)),.l 19 (.ld1 (.t 18)),.v 20 1,.q 21 (.bin .eql true (.t 19) (.t 20))]) (.cond (.t 21) (.seq (.reg [.q 22 (.fa 1 (.t 2)),.l 23 (.ld1 (.t 22)),.v 24 6,.l 25 (.ia 3 (.t 23) (.t 24)),.l 26 (.ldn 3 (.t 25)),.s (.st 3 (.t 4) (.t 26)),.q 5 (.mv (.k (.bool true)))]) .ret) .skip))) (.reg [.v 12 6,.q 13 (.bin .add true (.t 12) (.i 1)),.v 6 13])))))) (.seq (.reg [.q 27 (.bd [(.string (mk [])),(.slice none 0 0),(.slice none 0 0)] []),.s (.st 3 (.t 4) (.t 27)),.q 5 (.mv (.k (.bool false)))]) .ret))
def ZV:List RV:=[.ld (.ldn 3 (.t 4)),.mv (.t 5)]
theorem aOS:aO Tryz.prog true ⟨fun _ _=>.own [],fun _=>false⟩ Tryz.f127=some (YM,ZV):=by kernel_rfl
def lT:PC:=.seq (.reg [.e 2 (.bx 25 (.t 0)),.e 3 (.bx 42 (.t 1)),.q 4 (.mv (.k (.bool false)))]) (.seq (.seq (.reg [.q 9 (.fa 0 (.t 3)),.l 10 (.ld1 (.t 9))]) (.block 0 (.seq (.reg [.q 12 (.bin .eql true (.t 10) (.i 1)),.v 11 12]) (.cond (.t 11) (.seq (.reg [.q 13 (.fa 1 (.t 3)),.l 14 (.ld1 (.t 13)),.q 15 (.bin .eql true (.t 14) (.i 0)),.v 16 15,⟨some 17,(some (16,true)),.q (.fa 2 (.t 3))⟩,⟨some 18,(some (16,true)),.l (.ld1 (.t 17))⟩,⟨some 19,(some (16,true)),.q (.bin .eql true (.t 18) (.k (.string (mk []))))⟩,.a 20 (.pick (.t 16) (.t 19) (.k (.bool false))),.v 21 20,⟨some 22,(some (21,true)),.l (.ldn 4 (.t 3))⟩,⟨some 23,(some (21,true)),.cq 153 [(.t 22)]⟩,.a 24 (.pick (.t 21) (.t 23) (.k (.bool false))),.v 4 24]) .ret) (.seq (.reg [.q 26 (.bin .eql true (.t 10) (.i 2)),.v 25 26]) (.cond (.t 25) (.seq (.reg [.q 27 (.fa 1 (.t 3)),.l 28 (.ld1 (.t 27)),.q 29 (.bin .eql true (.t 28) (.i 8)),.v 30 29,⟨some 31,(some (30,false)),.q (.fa 1 (.t 3))⟩,⟨some 32,(some (30,false)),.l (.ld1 (.t 31))⟩,⟨some 33,(some (30,false)),.q (.bin .eql true (.t 32) (.i 16))⟩,.a 34 (.pick (.t 30) (.k (.bool true)) (.t 33)),.v 35 34,⟨some 36,(some (35,false)),.q (.fa 1 (.t 3))⟩,⟨some 37,(some (35,false)),.l (.ld1 (.t 36))⟩,⟨some 38,(some (35,false)),.q (.bin .eql true (.t 37) (.i 32))⟩,.a 39 (.pick (.t 35) (.k (.bool true)) (.t 38)),.v 40 39,⟨some 41,(some (40,false)),.q (.fa 1 (.t 3))⟩,⟨some 42,(some (40,false)),.l (.ld1 (.t 41))⟩,⟨some 43,(some (40,false)),.q (.bin .eql true (.t 42) (.i 64))⟩,.a 44 (.pick (.t 40) (.k (.bool true)) (.t 43)),.v 45 44,⟨some 46,(some (45,true)),.q (.fa 2 (.t 3))⟩,⟨some 47,(some (45,true)),.l (.ld1 (.t 46))⟩,⟨some 48,(some (45,true)),.q (.bin .eql true (.t 47) (.k (.string (mk []))))⟩,.a 49 (.pick (.t 45) (.t 48) (.k (.bool false))),.v 50 49,⟨some 51,(some (50,true)),.l (.ldn 4 (.t 3))⟩,⟨some 52,(some (50,true)),.cq 153 [(.t 51)]⟩,.a 53 (.pick (.t 50) (.t 52) (.k (.bool false))),.v 4 53]) .ret) (.seq (.reg [.q 55 (.bin .eql true (.t 10) (.i 3)),.v 54 55]) (.cond (.t 54) (.seq (.reg [.q 56 (.fa 1 (.t 3)),.l 57 (.ld1 (.t 56)),.q 58 (.bin .eql true (.t 57) (.i 8)),.v 59 58,⟨some 60,(some (59,false)),.q (.fa 1 (.t 3))⟩,⟨some 61,(some (59,false)),.l (.ld1 (.t 60))⟩,⟨some 62,(some (59,false)),.q (.bin .eql true (.t 61) (.i 16))⟩,.a 63 (.pick (.t 59) (.k (.bool true)) (.t 62)),.v 64 63,⟨some 65,(some (64,false)),.q (.fa 1 (.t 3))⟩,⟨some 66,(some (64,false)),.l (.ld1 (.t 65))⟩,⟨some 67,(some (64,false)),.q (.bin .eql true (.t 66) (.i 32))⟩,.a 68 (.pick (.t 64) (.k (.bool true)) (.t 67)),.v 69 68,⟨some 70,(some (69,true)),.q (.fa 2 (.t 3))⟩,⟨some 71,(some (69,true)),.l (.ld1 (.t 70))⟩,⟨some 72,(some (69,true)),.q (.bin .eql true (.t 71) (.k (.string (mk []))))⟩,.a 73 (.pick (.t 69) (.t 72) (.k (.bool false))),.v 74 73,⟨some 75,(some (74,true)),.l (.ldn 4 (.t 3))⟩,⟨some 76,(some (74,true)),.cq 153 [(.t 75)]⟩,.a 77 (.pick (.t 74) (.t 76) (.k (.bool false))),.v 4 77]) .ret) (.seq (.reg [.q 79 (.bin .eql true (.t 10) (.i 4)),.v 78 79]) (.cond (.t 78) (.seq (.reg [.q 80 (.fa 1 (.t 3)),.l 81 (.ld1 (.t 80)),.q 82 (.bin .geq true (.t 81) (.i 1)),.v 83 82,⟨some 84,(some (83,true)),.q (.fa 1 (.t 3))⟩,⟨some 85,(some (83,true)),.l (.ld1 (.t 84))⟩,⟨some 86,(some (83,true)),.q (.bin .leq true (.t 85) (.i 2000))⟩,.a 87 (.pick (.t 83) (.t 86) (.k (.bool false))),.v 88 87,⟨some 89,(some (88,true)),.q (.fa 2 (.t 3))⟩,⟨some 90,(some (88,true)),.l (.ld1 (.t 89))⟩,⟨some 91,(some (88,true)),.q (.bin .eql true (.t 90) (.k (.string (mk []))))⟩,.a 92 (.pick (.t 88) (.t 91) (.k (.bool false))),.v 93 92,⟨some 94,(some (93,true)),.l (.ldn 4 (.t 3))⟩,⟨some 95,(some (93,true)),.cq 153 [(.t 94)]⟩,.a 96 (.pick (.t 93) (.t 95) (.k (.bool false))),.v 4 96]) .ret) (.seq (.reg [.q 98 (.bin .eql true (.t 10) (.i 5)),.v 97 98]) (.cond (.t 97) (.seq (.reg [.q 99 (.fa 1 (.t 3)),.l 100 (.ld1 (.t 99)),.q 101 (.bin .geq true (.t 100) (.i 1)),.v 102 101,⟨some 103,(some (102,true)),.q (.fa 1 (.t 3))⟩,⟨some 104,(some (102,true)),.l (.ld1 (.t 103))⟩,⟨some 105,(some (102,true)),.q (.bin .leq true (.t 104) (.i 32))⟩,.a 106 (.pick (.t 102) (.t 105) (.k (.bool false))),.v 107 106,⟨some 108,(some (107,true)),.q (.fa 2 (.t 3))⟩,⟨some 109,(some (107,true)),.l (.ld1 (.t 108))⟩,⟨some 110,(some (107,true)),.q (.bin .eql true (.t 109) (.k (.string (mk []))))⟩,.a 111 (.pick (.t 107) (.t 110) (.k (.bool false))),.v 112 111,⟨some 113,(some (112,true)),.q (.fa 3 (.t 3))⟩,⟨some 114,(some (112,true)),.l (.ld1 (.t 113))⟩,⟨some 115,(some (112,true)),.q (.lnL (.t 114))⟩,⟨some 116,(some (112,true)),.q (.bin .eql true (.t 115) (.i 1))⟩,.a 117 (.pick (.t 112) (.t 116) (.k (.bool false))),.v 118 117,⟨some 119,(some (118,true)),.l (.ldn 3 (.t 2))⟩,⟨some 120,(some (118,true)),.q (.fa 3 (.t 3))⟩,⟨some 121,(some (118,true)),.l (.ld1 (.t 120))⟩,⟨some 122,(some (118,true)),.l (.ia 4 (.t 121) (.i 0))⟩,⟨some 123,(some (118,true)),.l (.ldn 4 (.t 122))⟩,⟨some 124,(some (118,true)),.cq 128 [(.t 119),(.t 123)]⟩,.a 125 (.pick (.t 118) (.t 124) (.k (.bool false))),.v 4 125]) .ret) (.seq (.reg [.q 127 (.bin .eql true (.t 10) (.i 6)),.v 126 127]) (.cond (.t 126) (.seq (.reg [.l 129 (.ldn 3 (.t 2)),.q 130 (.fa 2 (.t 3)),.l 131 (.ld1 (.t 130)),.a 132 (.cl 17 [(.t 129),(.t 131)] []),.v 128 132,.q 133 (.ex (.t 128) 0),.q 134 (.ex (.t 128) 1),.e 5 (.al (.agg #[(.string (mk [])),(.slice none 0 0)]) 48),.s (.st 2 (.t 5) (.t 133)),.v 6 134]) (.seq (.reg [.v 135 6,.v 136 135,⟨some 137,(some (136,true)),.q (.fa 1 (.t 3))⟩,⟨some 138,(some (136,true)),.l (.ld1 (.t 137))⟩,⟨some 139,(some (136,true)),.q (.bin .eql true (.t 138) (.i 0))⟩,.a 140 (.pick (.t 136) (.t 139) (.k (.bool false))),.v 141 140,⟨some 142,(some (141,true)),.l (.ldn 4 (.t 3))⟩,⟨some 143,(some (141,true)),.cq 153 [(.t 142)]⟩,.a 144 (.pick (.t 141) (.t 143) (.k (.bool false))),.v 4 144]) .ret)) (.seq (.reg [.q 146 (.bin .eql true (.t 10) (.i 7)),.v 145 146]) (.cond (.t 145) (.seq (.reg [.l 148 (.ldn 3 (.t 2)),.q 149 (.fa 2 (.t 3)),.l 150 (.ld1 (.t 149)),.a 151 (.cl 127 [(.t 148),(.t 150)] []),.v 147 151,.q 152 (.ex (.t 147) 0),.q 153 (.ex (.t 147) 1),.e 7 (.al (.agg #[(.string (mk [])),(.slice none 0 0),(.slice none 0 0)]) 118),.s (.st 3 (.t 7) (.t 152)),.v 8 153]) (.seq (.reg [.v 154 8,.v 155 154,⟨some 156,(some (155,true)),.q (.fa 1 (.t 3))⟩,⟨some 157,(some (155,true)),.l (.ld1 (.t 156))⟩,⟨some 158,(some (155,true)),.q (.bin .eql true (.t 157) (.i 0))⟩,.a 159 (.pick (.t 155) (.t 158) (.k (.bool false))),.v 160 159,⟨some 161,(some (160,true)),.l (.ldn 4 (.t 3))⟩,⟨some 162,(some (160,true)),.cq 153 [(.t 161)]⟩,.a 163 (.pick (.t 160) (.t 162) (.k (.bool false))),.v 4 163]) .ret)) .skip)))))))))))))))) (.seq (.reg [.q 4 (.mv (.k (.bool false)))]) .ret))
def lZ:List RV:=[.mv (.t 4)]
theorem aNN:aO Tryz.prog true ⟨fun r k=>if r=3/\k=10 then .q else if r=5/\k=25 then .q else if r=7/\k=20 then .q else if r=9/\k=15 then .q else if r=11/\k=25 then .q else if r=14/\k=8 then .q else if r=17/\k=8 then .q else .own [],fun _=>false⟩ Tryz.f128=some (lT,lZ):=by kernel_rfl
def YH:PC:=.seq (.reg [.e 1 (.bx 42 (.t 0)),.q 2 (.mv (.k (.slice none 0 0)))]) (.seq (.seq (.reg [.q 5 (.fa 0 (.t 1)),.l 6 (.ld1 (.t 5)),.q 7 (.bin .eql true (.t 6) (.i 6)),.v 8 7,⟨some 9,(some (8,false)),.q (.fa 0 (.t 1))⟩,⟨some 10,(some (8,false)),.l (.ld1 (.t 9))⟩,⟨some 11,(some (8,false)),.q (.bin .eql true (.t 10) (.i 7))⟩,.a 12 (.pick (.t 8) (.k (.bool true)) (.t 11))]) (.cond (.t 12) (.seq (.reg [.q 13 (.fa 2 (.t 1)),.l 14 (.ld1 (.t 13)),.e 15 (.bsl 9 1 [(.t 14)]),.v 2 15]) .ret) .skip)) (.seq (.reg [.q 3 (.mv (.k (.slice none 0 0)))]) (.seq (.seq (.reg [.q 4 (.mv (.i 0))]) (.block 0 (.loop (.seq (.seq (.reg [.v 16 4,.q 17 (.fa 3 (.t 1)),.l 18 (.ld1 (.t 17)),.q 19 (.lnL (.t 18)),.q 20 (.bin .lss true (.t 16) (.t 19))]) (.cond (.t 20) .skip (.exit 0))) (.seq (.block 1 (.reg [.v 23 3,.q 24 (.fa 3 (.t 1)),.l 25 (.ld1 (.t 24)),.v 26 4,.l 27 (.ia 4 (.t 25) (.t 26)),.l 28 (.ldn 4 (.t 27)),.a 29 (.cl 129 [(.t 28)] []),.e 30 (.ap 9 1 16 (.t 23) (.t 29)),.v 3 30])) (.reg [.v 21 4,.q 22 (.bin .add true (.t 21) (.i 1)),.v 4 22])))))) (.seq (.reg [.v 31 3,.v 2 31]) .ret))))
def VU:List RV:=[.mv (.t 2)]
theorem aLI:aO Tryz.prog true ⟨fun _ _=>.own [],fun _=>false⟩ Tryz.f129=some (YH,VU):=by kernel_rfl
def VY:PC:=.seq (.reg [.q 4 (.mv (.k (.slice none 0 0)))]) (.seq (.reg [.q 5 (.mv (.k (.slice none 0 0)))]) (.seq (.reg [.q 6 (.mv (.k (.bool false)))]) (.seq (.seq (.reg [.q 7 (.mv (.i 0))]) (.block 0 (.loop (.seq (.seq (.reg [.v 8 7,.v 9 0,.q 10 (.lnL (.t 9)),.q 11 (.bin .lss true (.t 8) (.t 10))]) (.cond (.t 11) .skip (.exit 0))) (.seq (.block 1 (.seq (.seq (.reg [.v 14 6,.q 15 (.not (.t 14)),.v 16 15,⟨some 17,(some (16,true)),.q (.mv (.t 1))⟩,⟨some 18,(some (16,true)),.q (.mv (.t 0))⟩,⟨some 19,(some (16,true)),.q (.mv (.t 7))⟩,⟨some 20,(some (16,true)),.l (.ia 1 (.t 18) (.t 19))⟩,⟨some 21,(some (16,true)),.l (.ld1 (.t 20))⟩,⟨some 22,(some (16,true)),.q (.bin .leq true (.t 17) (.t 21))⟩,.a 23 (.pick (.t 16) (.t 22) (.k (.bool false)))]) (.cond (.t 23) (.seq (.reg [.q 6 (.mv (.k (.bool true)))]) (.seq (.reg [.v 24 1,.v 25 0,.v 26 7,.l 27 (.ia 1 (.t 25) (.t 26)),.l 28 (.ld1 (.t 27)),.q 29 (.bin .lss true (.t 24) (.t 28))]) (.cond (.t 29) (.reg [.v 30 5,.v 31 1,.e 32 (.bsl 9 1 [(.t 31)]),.e 33 (.ap 9 1 16 (.t 30) (.t 32)),.v 5 33]) .skip))) .skip)) (.reg [.v 34 5,.v 35 0,.v 36 7,.l 37 (.ia 1 (.t 35) (.t 36)),.l 38 (.ld1 (.t 37)),.e 39 (.bsl 9 1 [(.t 38)]),.e 40 (.ap 9 1 16 (.t 34) (.t 39)),.v 5 40]))) (.reg [.v 12 7,.q 13 (.bin .add true (.t 12) (.i 1)),.v 7 13])))))) (.seq (.seq (.reg [.v 41 6,.q 42 (.not (.t 41))]) (.cond (.t 42) (.reg [.v 43 5,.v 44 1,.e 45 (.bsl 9 1 [(.t 44)]),.e 46 (.ap 9 1 16 (.t 43) (.t 45)),.v 5 46]) .skip)) (.seq (.reg [.v 47 5,.v 4 47]) .ret)))))
def Y2:List RV:=[.mv (.t 4)]
theorem aNS:aO Tryz.prog true ⟨fun _ _=>.own [],fun _=>false⟩ Tryz.f130=some (VY,Y2):=by kernel_rfl
def WI:PC:=.seq (.reg [.e 3 (.bx 25 (.t 0)),.e 5 (.bx 42 (.t 2)),.q 6 (.mv (.i 0))]) (.seq (.seq (.reg [.q 8 (.fa 0 (.t 5)),.l 9 (.ld1 (.t 8)),.q 10 (.bin .eql true (.t 9) (.i 5)),.v 11 10,⟨some 12,(some (11,true)),.q (.fa 3 (.t 5))⟩,⟨some 13,(some (11,true)),.l (.ld1 (.t 12))⟩,⟨some 14,(some (11,true)),.q (.lnL (.t 13))⟩,⟨some 15,(some (11,true)),.q (.bin .gtr true (.t 14) (.i 0))⟩,.a 16 (.pick (.t 11) (.t 15) (.k (.bool false)))]) (.cond (.t 16) (.seq (.reg [.l 17 (.ldn 3 (.t 3)),.v 18 1,.q 19 (.fa 3 (.t 5)),.l 20 (.ld1 (.t 19)),.l 21 (.ia 4 (.t 20) (.i 0)),.l 22 (.ldn 4 (.t 21)),.a 23 (.cq 131 [(.t 17),(.t 18),(.t 22)]),.q 24 (.bin .add true (.i 1) (.t 23)),.v 6 24]) .ret) .skip)) (.seq (.seq (.reg [.q 7 (.mv (.i 0))]) (.block 0 (.loop (.seq (.seq (.reg [.v 25 7,.q 26 (.fa 2 (.t 3)),.l 27 (.ld1 (.t 26)),.q 28 (.lnL (.t 27)),.q 29 (.bin .lss true (.t 25) (.t 28))]) (.cond (.t 29) .skip (.exit 0))) (.seq (.block 1 (.seq (.reg [.q 32 (.fa 0 (.t 5)),.l 33 (.ld1 (.t 32)),.q 34 (.bin .eql true (.t 33) (.i 6)),.v 35 34,⟨some 36,(some (35,true)),.q (.fa 2 (.t 3))⟩,⟨some 37,(some (35,true)),.l (.ld1 (.t 36))⟩,⟨some 38,(some (35,true)),.q (.mv (.t 7))⟩,⟨some 39,(some (35,true)),.l (.ia 2 (.t 37) (.t 38))⟩,⟨some 40,(some (35,true)),.q (.fa 0 (.t 39))⟩,⟨some 41,(some (35,true)),.l (.ld1 (.t 40))⟩,⟨some 42,(some (35,true)),.q (.fa 2 (.t 5))⟩,⟨some 43,(some (35,true)),.l (.ld1 (.t 42))⟩,⟨some 44,(some (35,true)),.q (.bin .eql true (.t 41) (.t 43))⟩,.a 45 (.pick (.t 35) (.t 44) (.k (.bool false)))]) (.cond (.t 45) (.seq (.reg [.v 46 1,.v 47 7,.l 48 (.ia 1 (.t 46) (.t 47)),.l 49 (.ld1 (.t 48)),.v 6 49]) .ret) .skip))) (.reg [.v 30 7,.q 31 (.bin .add true (.t 30) (.i 1)),.v 7 31])))))) (.seq (.reg [.q 6 (.mv (.i 0))]) .ret)))
def XB:List RV:=[.mv (.t 6)]
theorem aN4:aO Tryz.prog true ⟨fun r k=>if r=2/\k=6 then .q else .own [],fun _=>false⟩ Tryz.f131=some (WI,XB):=by kernel_rfl
def aAL:PC:=.seq (.reg [.e 1 (.bx 42 (.t 0)),.q 2 (.mv (.k (.bool false)))]) (.seq (.reg [.q 3 (.fa 3 (.t 1)),.l 4 (.ld1 (.t 3)),.q 5 (.lnL (.t 4)),.q 6 (.bin .eql true (.t 5) (.i 0)),.v 2 6]) .ret)
def Z0:List RV:=[.mv (.t 2)]
theorem aO0:aO Tryz.prog true ⟨fun _ _=>.own [],fun _=>false⟩ Tryz.f153=some (aAL,Z0):=by kernel_rfl
def cE (c:Int):Bool:=(decide (97<=c)&&decide (c<=122))||(decide (65<=c)&&decide (c<=90))
def jF (c:Int):Bool:=decide (48<=c)&&decide (c<=57)
def jQ (c:Int):Bool:=cE c||jF c||c==95
def aJO:List UInt8:=[123,125,40,41,91,93,58,59,44,61,46,63,33,38,124,64]
def y5 (c:Int):Bool:=decide (c.toNat.toUInt8∈aJO)
def oN (c:Int):Int:=
 bif c==32||c==9||c==10 then 1 else bif c==35 then 2 else bif cE c then 3 else bif jF c then 4
 else bif c==45 then 5 else bif c==95 then 6 else bif c==34 then 7 else bif y5 c then 8 else 0
theorem FC (l:List UInt8) (c:UInt8):decide (0<=Lib.indexByte l c)=decide (c∈l):=by
 rw[decide_eq_decide]
 induction l with
 |nil=>simp[Lib.indexByte]
 |cons b l ih=>
  have hge:=Lib.indexByte_ge l c
  rw[Lib.indexByte]
  by_cases hb:b=c
  · simp[hb]
  · have hb2:(b==c)=false:=by simpa using hb
    have hb3:¬ c=b:=fun e=>hb e.symm
    simp only[hb2,Bool.false_eq_true,if_false,List.mem_cons,hb3,false_or,<-ih]
    by_cases h:Lib.indexByte l c=-1
    · simp[h]
    · have h2:(Lib.indexByte l c==-1)=false:=by simpa using h
      simp only[h2,Bool.false_eq_true,if_false];omega
def Z3:Bool->List UInt8->Nat
 |_,[]=>0
 |r,c::l=>
  let r':=bif c==35 then true else bif c==10 then false else r
  bif !r'&&!(c==32||c==9||c==10) then 0 else Z3 r' l+1
def OH (l:List UInt8) (a:Nat):Nat:=a+Z3 false (l.drop a)
inductive R where
 |ok (k:Int) (t:List UInt8) (n:Int) (z:Nat)
 |bad (e t:Int)
def cA (c:UInt8):Bool:=jQ c.toNat
def aHP (p:UInt8->Bool) (l:List UInt8) (a:Nat):Nat:=a+((l.drop a).takeWhile p).length
theorem aG3 (c:UInt8):(oN c.toNat==3||oN c.toNat==4||oN c.toNat==6)=cA c:=by
 have:=J4 (p:=fun c=>(oN c.toNat==3||oN c.toNat==4||oN c.toNat==6)==cA c) (by decide +kernel) c
 simpa using this
def aMR (l:List UInt8) (a:Nat):R:=
 let z:=aHP cA l a
 bif decide (16<z-a) then .bad 3 a else bif l[z]?==some 45 then .bad 2 z else .ok 1 ((l.take z).drop a) 0 z
def VD (c:UInt8):Bool:=jF c.toNat
def aGF (lim:Nat):Nat->List UInt8->Option Nat
 |n,[]=>some n
 |n,c::l=>if (lim-(c.toNat-48)) / 10<n then none else aGF lim (10*n+(c.toNat-48)) l
def aNE (neg:Bool):Nat:=bif neg then 9223372036854775808 else 9223372036854775807
def signed (neg:Bool) (n:Nat):Int:=bif neg then -n else n
def aS0 (l:List UInt8) (i:Nat):Bool:=match l[i]? with|some c=>cA c&&!VD c||c==45|none=>false
def aVC (l:List UInt8) (a:Nat):R:=
 let neg:=l[a]?==some 45
 let f:=bif neg then a+1 else a
 let z:=aHP VD l f
 let s:=(l.take z).drop f
 bif s==[]||(s[0]?==some 48&&(decide (1<s.length)||neg)) then .bad 2 a
 else match aGF (aNE neg) 0 s with
  |none=>.bad 4 a
  |some n=>bif aS0 l z then .bad 2 z else .ok 2 [] (signed neg n) z
end Go.Proofs.YthpbnmebjocbeaaGreat
namespace Go.Proofs
open Go.Shelf
def Tryz.lays137_ren:Go.Shelf.Ren:=⟨fun|137=>157|217=>161|266=>173|n=>n,fun|9=>9|5=>5|3=>3|n=>n,fun|n=>n⟩
theorem Tryz.lays137:Go.Proofs.Lays.n137 Tryz.prog Tryz.lays137_ren:={
 mixed:=by kernel_rfl
 f137:=Tryz.func157.trans (congrArg some (by kernel_rfl))
 f217:=Tryz.func161.trans (congrArg some (by kernel_rfl))
 f266:=Tryz.func173.trans (congrArg some (by kernel_rfl))
 t3:=Tryz.underlying3
 a3:=Tryz.isAgg3
 z3:=Tryz.sizeOf3
 v3:=Tryz.zeroValue3
 t5:=Tryz.underlying5
 a5:=Tryz.isAgg5
 z5:=Tryz.sizeOf5
 v5:=Tryz.zeroValue5
 t9:=Tryz.underlying9
 a9:=Tryz.isAgg9
 z9:=Tryz.sizeOf9
 v9:=Tryz.zeroValue9 }
open Go.RowKit in
theorem Tryz.strings_IndexByte (s:ByteArray) (c:Int) (w:World) :
 Calls Tryz.prog 157 #[.string s,.int .u8 c] w fun e w'=>e=.returned (.int .i64 (Lib.indexByte s.data.toList c.toNat.toUInt8))/\w'=w:=Any.strings_IndexByte Tryz.lays137 s c w
end Go.Proofs
namespace Go.Proofs.YthpbnmebjocbeaaGreat
open Go.W
abbrev iA (k:IntKind) (n:Int):A:=.c1 (.vl (.int k n))
abbrev bA (b:Bool):A:=.c1 (.vl (.bool b))
abbrev tA (b:ByteArray):A:=.c1 (.vl (.string b))
def uJ:List S->Prop:=fun xs=>match xs with
 |[.va (.c1 (.vl (.int .u8 c)))]=>0<=c/\c<=255
 |_=>False
theorem nT {xs:List S} (h:uJ xs):∃c:Int,xs=[iS .u8 c]/\0<=c/\c<=255:=by
 unfold uJ at h
 split at h
 · exact ⟨_,rfl,h⟩
 · exact h.elim
def KY (f:Int->Value):List S->A:=fun xs=>match xs with
 |[.va (.c1 (.vl (.int .u8 c)))]=>.c1 (.vl (f c))
 |_=>.gs []
def JG (f:Int->Value):Fun:=⟨uJ,KY f,fun xs h=>by obtain ⟨c,rfl,_⟩:=nT h;trivial⟩
theorem ON {f:Int->Value}:∀xs H K,(JG f).sp xs H K->xs.length=1:=fun xs H K h=>by obtain ⟨c,rfl,_⟩:=nT h.1.1;rfl
attribute [go_sem] JG uJ KY
def FM:List S->Prop:=fun xs=>match xs with|[.va (.c1 (.vl (.string _))),.va (.c1 (.vl (.int .u8 _)))]=>True|_=>False
def YS:List S->A:=fun xs=>match xs with|[.va (.c1 (.vl (.string s))),.va (.c1 (.vl (.int .u8 c)))]=>iA .i64 (Lib.indexByte (bl s) c.toNat.toUInt8)|_=>.gs []
theorem A2 {xs:List S} (h:FM xs):∃s c,xs=[tS s,iS .u8 c]:=by
 unfold FM at h
 split at h
 · exact ⟨_,_,rfl⟩
 · exact h.elim
def fnIb:Fun:=⟨FM,YS,fun xs h=>by obtain ⟨s,c,rfl⟩:=A2 h;trivial⟩
attribute [go_sem] fnIb FM YS
theorem mIb:Meets Tryz.prog 157 fnIb.sp:=by
 refine ⟨by kernel_rfl,?_⟩
 rintro xs vs E ro w K hl hrel hr ⟨⟨h,hE⟩,hK⟩ _
 obtain ⟨s,c,rfl⟩:=A2 h
 obtain ⟨v0,v1,rfl⟩:∃v0 v1,vs=[v0,v1]:=by
  match vs,hl with
  |[v0,v1],_=>exact ⟨v0,v1,rfl⟩
 have h0:v0=.string s:=hrel 0 _ _ rfl rfl
 have h1:v1=.int .u8 c:=hrel 1 _ _ rfl rfl
 subst h0 h1
 refine (Tryz.strings_IndexByte s c w).mono ?_
 rintro e w' ⟨rfl,rfl⟩
 exact ⟨iS .i64 _,_,E,ro,rfl,rfl,by rw[hE];exact hK,hr⟩
theorem aI5:Meets Tryz.prog 141 (JG fun c=>.int .i64 (oN c)).sp:=by
 refine aF Tryz.func141 aK7 1 (by rw[Tryz.ntmps141];decide) (aG mIb (aB _)) ON ?_
 rintro xs H K ⟨⟨h,rfl⟩,hK⟩
 obtain ⟨c,rfl,hc⟩:=nT h
 simp -dsimp (maxSteps:=9^6) only[go_sem,YK,YL] at hK ⊢
 have hw:IntKind.i32.wrap c=c:=xN (by simp[inr,IntKind.min,IntKind.max,IntKind.signed,IntKind.bits];omega)
 rw[hw]
 have hm:decide (0<=Lib.indexByte [123,125,40,41,91,93,58,59,44,61,46,63,33,38,124,64] c.toNat.toUInt8)=y5 c:=FC _ _
 rw[hm]
 clear hm hw
 refine ⟨fun h1=>fG hK ?_,fun h1=>⟨fun h2=>fG hK ?_,fun h2=>⟨by simp;omega,fun h3=>fG hK ?_,fun h3=>⟨fun h4=>fG hK ?_,fun h4=>⟨fun h5=>fG hK ?_,fun h5=>⟨fun h6=>fG hK ?_,fun h6=>⟨fun h7=>fG hK ?_,fun h7=>⟨fun h8=>fG hK ?_,fun h8=>fG hK ?_⟩⟩⟩⟩⟩⟩⟩⟩
 all_goals simp only[oN,cE,jF, *,bE,a8]
def UL:Nat->List UInt8->List UInt8->Nat×Option (List UInt8)
 |i,[],_=>(i,none)
 |i,c::r,out=>
  bif decide (c<32)||decide (126<c) then (i,none)
  else bif c==34 then (i+1,some out)
  else bif c==92 then match r with
   |d::r'=>bif d==34||d==92 then UL (i+2) r' (out++[d]) else (i,none)
   |[]=>(i,none)
  else UL (i+1) r (out++[c])
def aPI (l:List UInt8) (a:Nat):R:=match UL (a+1) (l.drop (a+1)) [] with
 | (i,none)=>.bad 2 i
 | (z,some out)=>bif decide (200<out.length) then .bad 3 a else .ok 3 out 0 z
def aTJ (l:List UInt8) (p:Nat):R:=match l[p]? with
 |none=>.ok 0 [] 0 p
 |some c=>bif cE c.toNat then aMR l p else bif VD c||c==45 then aVC l p else bif c==34 then aPI l p
  else bif y5 c.toNat then .ok 4 [c] 0 (p+1) else .bad 2 p
theorem aWI (c:UInt8):(oN c.toNat==3)=cE c.toNat:=by
 have:=J4 (p:=fun c=>(oN c.toNat==3)==cE c.toNat) (by decide +kernel) c
 simpa using this
structure Tk where
 k:Int
 x:List UInt8
 n:Int
 a:Nat
inductive SR where
 |ok (l:List Tk)
 |bad (e t:Int)
def SR.cons (t:Tk):SR->SR
 |.ok l=>.ok (t::l)
 |.bad e t=>.bad e t
def SR.app (acc:List Tk):SR->SR
 |.ok l=>.ok (acc++l)
 |.bad e t=>.bad e t
def X9:Nat->List UInt8->Nat->SR
 |0,_,_=>.ok []
 |f+1,l,a=>match aTJ l (OH l a) with
  |.bad e t=>.bad e t
  |.ok k x n z=>bif k==0 then .ok [⟨k,x,n,OH l a⟩] else SR.cons ⟨k,x,n,OH l a⟩ (X9 f l z)
def A9 (l:List UInt8):SR:=bif decide (4000<l.length) then .bad 3 0 else X9 (l.length+1) l 0
def SR.toks:SR->List Tk
 |.ok l=>l
 |.bad _ _=>[]
def SR.err:SR->Int
 |.ok _=>0
 |.bad e _=>e
def SR.off:SR->Int
 |.ok _=>0
 |.bad _ t=>t
def cO (l:List UInt8):Bool:=match l with
 |[]=>false
 |c::_=>decide (l.length<=16)&&cE c.toNat&&l.all cA
def AV:List S->Prop:=fun xs=>match xs with
 |[.va (.c1 (.vl (.string _)))]=>True
 |_=>False
theorem hJ {xs:List S} (h:AV xs):∃s,xs=[tS s]:=by
 unfold AV at h
 split at h
 · exact ⟨_,rfl⟩
 · exact h.elim
def HM (f:List UInt8->Value):List S->A:=fun xs=>match xs with
 |[.va (.c1 (.vl (.string s)))]=>.c1 (.vl (f (bl s)))
 |_=>.gs []
def uO (f:List UInt8->Value):Fun:=⟨AV,HM f,fun xs h=>by obtain ⟨s,rfl⟩:=hJ h;trivial⟩
theorem oQ {f:List UInt8->Value}:∀xs H K,(uO f).sp xs H K->xs.length=1:=fun xs H K h=>by obtain ⟨s,rfl⟩:=hJ h.1.1;rfl
attribute [go_sem] uO AV HM
theorem tO {l:List UInt8} (h:16<l.length):cO l=false:=by
 cases l with
 |nil=>rfl
 |cons c l=>
  simp only[cO]
  have:decide ((c::l).length<=16)=false:=by simp at h ⊢;omega
  rw[this];rfl
theorem zI {l:List UInt8} {c:UInt8} (h:l[0]? = some c) (hc:cE c.toNat=false):cO l=false:=by
 cases l with
 |nil=>rfl
 |cons d l=>simp at h;subst h;simp[cO,hc]
theorem MF {l:List UInt8} {i:Nat} {c:UInt8} (h:l[i]? = some c) (hc:cA c=false):cO l=false:=by
 cases l with
 |nil=>rfl
 |cons d l=>
  have:(d::l).all cA=false:=by rw[List.all_eq_false];exact ⟨c,bY h,by simp[hc]⟩
  simp only[cO,this,Bool.and_false]
theorem FA {l:List UInt8} {c:UInt8} (h:l[0]? = some c) (hl:l.length<=16) (hc:cE c.toNat=true) (ha:∀(j:Nat) (x:UInt8),l[j]? = some x->cA x=true):cO l=true:=by
 cases l with
 |nil=>simp at h
 |cons d l=>
  simp at h;subst h
  have h1:(d::l).all cA=true:=by
   rw[List.all_eq_true];intro x hx
   obtain ⟨j,hj⟩:=List.mem_iff_getElem?.1 hx
   exact ha j x hj
  simp only[cO,h1,hc,Bool.and_true,decide_eq_true_eq];exact hl
theorem aBK (c:UInt8):((oN c.toNat != 3)&&(oN c.toNat != 4)&&(oN c.toNat != 6))=!(cA c):=by
 rw[<-aG3];simp[bne,Bool.not_or]
theorem BT:Meets Tryz.prog 108 (uO fun l=>.bool (cO l)).sp:=by
 refine aF Tryz.func108 aNJ 1 (by rw[Tryz.ntmps108];decide) (aG aI5 (aB _)) oQ ?_
 rintro xs H K ⟨⟨h,rfl⟩,hK⟩
 obtain ⟨s,rfl⟩:=hJ h
 have hn:∀c:UInt8,(oN c.toNat != 3)=!(cE c.toNat):=fun c=>by rw[bne,aWI]
 simp -dsimp only[go_sem,WZ,W9,hn] at hK ⊢
 generalize hg:(bl s==[]||decide (16<((bl s).length:Int)))=g
 have hg1:g=false->0<(bl s).length/\(bl s).length<=16:=fun h=>by
  subst hg;simp at h
  exact ⟨List.length_pos_iff.2 h.1,by omega⟩
 have hg2:g=true->cO (bl s)=false:=fun h=>by
  subst hg;simp at h
  rcases h with h|h
  · rw[h];rfl
  · exact tO (by omega)
 refine ⟨fun h=>⟨by omega,by have:=hg1 h;omega⟩,fun c hc=>⟨fun h=>?_,fun h=>?_,fun h=>?_⟩⟩
 · have:=c.toNat_lt;omega
 · refine fG hK ?_
   cases g with
   |true=>rw[hg2 rfl]
   |false=>simp at h;rw[zI (hc rfl) h]
 simp at h
 obtain ⟨rfl,h3⟩:=h
 have hc:=hc rfl
 obtain ⟨hl0,hl⟩:=hg1 rfl
 refine aL (α:=Nat) (fun i=>[(0,tS s),(19,iS .i64 (bl s).length),(20,iS .i64 i)]) (fun i=>[]) (fun i=>i<=(bl s).length/\∀(j:Nat) (x:UInt8),j<i->(bl s)[j]? = some x->cA x=true) (fun i=>(bl s).length-i) 0 0 ⟨by omega,by omega⟩ ?_ ?_ ?_
 · simp -dsimp only[go_sem];simp
 · simp[go_sem]
 rintro i ⟨hi,ha⟩
 simp -dsimp only[go_sem,aBK]
 have hlt:(bl s).length<2^64:=by omega
 refine ⟨fun h1=>⟨⟨by omega,by simpa using h1⟩,fun d hd=>⟨by have:=d.toNat_lt;omega,fun h2=>?_,fun h2=>⟨by omega,?_⟩⟩⟩,fun h1=>?_⟩
 · refine fG hK ?_
   rw[MF hd h2]
 · refine aE (i+1) 0 ⟨by have:=(bJ.1 hd).1;omega,fun j x hj hx=>?_⟩ (by have:=(bJ.1 hd).1;omega) ?_ ?_
   · rcases bB j i with h4|h4
     · exact ha j x h4 hx
     · obtain rfl:j=i:=by omega
       rw[hd] at hx;obtain rfl:=cI hx
       simpa[cA] using h2
   · simp -dsimp only[go_sem];simp
   · simp[go_sem]
 · refine fG hK ?_
   have:i=(bl s).length:=by simp at h1;omega
   subst this
   rw[FA hc hl h3 fun j x hx=>ha j x (bJ.1 hx).1 hx]
def qTrue:Fun:=⟨fun xs=>xs=[],fun _=>bA true,fun xs h=>trivial⟩
theorem Q2:∀xs H K,qTrue.sp xs H K->xs.length=0:=fun xs H K h=>by rw[show xs=[] from h.1.1];rfl
attribute [go_sem] qTrue
theorem iH (l:List UInt8):bl (mk l)=l:=by simp[bl,mk]
end Go.Proofs.YthpbnmebjocbeaaGreat
namespace Go.W
section
variable {P:Program} {f:FuncId} {s:Spec}
def pubB (n:Nat) (s:Spec):Spec:=fun ar H K=>match H[n]? with
 |some (.row xs _ _)=>s (ar.map (S.pub n xs)) (b5 n xs H) K
 |_=>False
def dropB (s:Spec):Spec:=fun ar H K=>s (ar.map fun a=>a.nf.ren (eJ [])) [] fun r H'=>K (r.ren (back [] H.length)) (n0 [] H (H'.map (B.ren (back [] H.length))))
theorem Rel.rebase {X:Ctx} {E:Es} {ro:RO} {w:World} (h:Rel X E ro w):Rel ⟨w,dH E,ro,gm E⟩ E ro w:=
 ⟨h.own,h.inj,h.apart,h.rd,Ext.refl _,fun _ _ _ h=>.inl h,fun n b g blk hn en hl=>.inr (eO.2 ⟨n,g,blk,hn,en,hl⟩),.refl _,Nat.le_refl _,fun _ _ _=>rfl,rfl,rfl,rfl⟩
theorem Rel.over {X:Ctx} {E E':Es} {ro ro':RO} {w w':World} (h:Rel X E ro w) (k:Rel ⟨w,dH E,ro,gm E⟩ E' ro' w'):Rel X E' ro' w' where
 own:=k.own
 inj:=k.inj
 apart:=k.apart
 rd:=k.rd
 ro0:=h.ro0.trans k.ro0
 rob:=fun b off v hc=>by
  rcases k.rob b off v hc with q|q|q
  · exact h.rob b off v q
  · simp only at q;have:=h.sz;exact .inr (.inl (by omega))
  · obtain ⟨n,g,blk,hE,hgb,hl⟩:=eO.1 q
    exact .inr (h.par n b g blk hE hgb hl)
 par:=fun n b g blk hn en hl=>by
  rcases k.par n b g blk hn en hl with q|q
  · simp only at q;have:=h.sz;exact .inl (by omega)
  · obtain ⟨n',g',blk',hE,hgb,hl'⟩:=eO.1 q
    exact h.par n' b g' blk' hE hgb hl'
 gx:=h.gx.trans k.gx
 sz:=Nat.le_trans h.sz k.sz
 keep:=fun b hb hp=>by
  rw[k.keep b (by have:=h.sz;simp only;omega) (fun hb'=>?_)]
  · exact h.keep b hb hp
  · obtain ⟨n,g,blk,hE,hgb,hl⟩:=eO.1 hb'
    rcases h.par n b g blk hE hgb hl with q|q
    · omega
    · exact hp q
 os:=k.os.trans h.os
 tape:=k.tape.trans h.tape
 output:=k.output.trans h.output
theorem Meets.pubB (h:Meets P f s) (n:Nat):Meets P f (pubB n s):=by
 refine ⟨h.1,fun ar vs E ro w K hl hrel hr hs hG=>?_⟩
 unfold W.pubB at hs
 split at hs
 · rename_i xs T sz hn
   obtain ⟨g,hE⟩:∃g,E[n]? = some (g,.row xs T sz):=by
    simp only[hp,List.getElem?_map] at hn
    cases hE:E[n]? with
    |none=>rw[hE] at hn;cases hn
    |some y=>rw[hE] at hn;simp at hn;exact ⟨y.1,by rw[<-hn]⟩
   obtain ⟨ro',hext,hfz,hglen,hr'⟩:=hr.pubR hE
   have hcall:=h.2 (ar.map (S.pub n xs)) vs (bV (B.pub n xs) (E.set n (g,.dead))) ro' w K (by simpa using hl) (fun i x v hx hv=>by
    rw[List.getElem?_map] at hx
    cases hi:ar[i]? with
    |none=>rw[hi] at hx;cases hx
    |some y=>
     rw[hi] at hx
     simp only[Option.map_some,aI] at hx
     subst hx
     rw[fA,dU hE]
     exact S.rel_pub hext (cB hE) hglen hfz (hrel i y v hi hv)) hr'.rebase (by rw[gM,hp_kill];exact hs) (hG.mono hext)
   refine hcall.mono ?_
   rintro e w' ⟨r,v,E',ro2,rfl,hrv,hR,hrel'⟩
   exact ⟨r,v,E',ro2,rfl,hrv,hR,hr'.over hrel'⟩
 · exact hs.elim
theorem Meets.dropB (h:Meets P f s):Meets P f (dropB s):=by
 refine ⟨h.1,fun ar vs E ro w K hl hrel hr hs hG=>?_⟩
 unfold W.dropB at hs
 have hnd:([]:List Nat).Nodup:=.nil
 have hlt:∀n∈([]:List Nat),n<E.length:=fun n hn=>by cases hn
 have gxl:∀(n m:Nat) (g:Gb),eJ [] n=some m->(gm E)[n]? = some g->(gm (bV (B.ren (eJ [])) (cZ E [])))[m]? = some g:=fun n m g h1 h2=>by rw[fA];exact uD n m g h1 h2
 have hloc:Rel ⟨w,dH (bV (B.ren (eJ [])) (cZ E [])),ro,gm (bV (B.ren (eJ [])) (cZ E []))⟩ (bV (B.ren (eJ [])) (cZ E [])) ro w:=by
  have h0:Rel ⟨w,dH E,ro,[]⟩ E ro w:=⟨hr.own,hr.inj,hr.apart,hr.rd,Ext.refl _,fun _ _ _ h=>.inl h,fun n b g blk hn en hl=>.inr (eO.2 ⟨n,g,blk,hn,en,hl⟩),fun n g hn=>by simp at hn,Nat.le_refl _,fun _ _ _=>rfl,rfl,rfl,rfl⟩
  exact (h0.sel hnd hlt (fun n g hn=>by simp at hn)).here
 have hcall:=h.2 (ar.map fun s=>s.nf.ren (eJ [])) vs (bV (B.ren (eJ [])) (cZ E [])) ro w _ (by simpa using hl) (fun i x v hx hv=>by
  rw[List.getElem?_map] at hx
  cases hi:ar[i]? with
  |none=>rw[hi] at hx;cases hx
  |some y=>
   rw[hi] at hx
   simp only[Option.map_some,aI] at hx
   subst hx
   exact S.rel_ren gxl (S.rel_nf (hrel i y v hi hv))) hloc (by rw[gM,wH];exact hs) hG
 refine hcall.mono ?_
 rintro e w' ⟨r,v,E',ro',rfl,hrv,hR,hrel'⟩
 obtain ⟨q1,q2,q3⟩:=hr.back hnd hlt rfl hrel'
 refine ⟨_,v,_,ro',rfl,S.rel_ren q3 hrv,?_,q1⟩
 rw[yP,gM]
 rw[dO] at hR
 exact hR
def lend1 (s:Spec):Spec:=pubB 0 (dropB s)
theorem Meets.lend1 (h:Meets P f s):Meets P f (lend1 s):=h.dropB.pubB 0
def lend2 (s:Spec):Spec:=pubB 0 (pubB 1 (dropB s))
theorem Meets.lend2 (h:Meets P f s):Meets P f (lend2 s):=(h.dropB.pubB 1).pubB 0
attribute [go_sem ↓] pubB dropB lend1 lend2
end
end Go.W
namespace Go.Proofs.YthpbnmebjocbeaaGreat
open Go.W
theorem tB {α:Type} {row:α->List C} {l:List α} {n:Nat} {c:α} (h:l[n]? = some c) (p:List C->Prop):(∀r,(l.map row)[n]? = some r->p r)=p (row c):=by
 rw[List.getElem?_map,h];simp
theorem aT {α:Type} {row:α->List C} {l:List α} {n:Nat} {c:α} (h:l[n]? = some c) (p:List C->Prop):(∀r,(l.map row)[((n:Nat):Int).toNat]? = some r->p r)=p (row c):=by
 rw[Int.toNat_natCast,List.getElem?_map,h];simp
theorem gE {α:Type} {row:α->List C} {n:Nat} (h:∀a,(row a).length=n) (l:List α):(∀r:List C,r∈l.map row->r.length=n)=True:=eq_true fun r hr=>by obtain ⟨x,_,rfl⟩:=List.mem_map.1 hr;exact h x
inductive Ty where
 |mk (k s:Int) (n:ByteArray) (e:List Ty)
instance:Inhabited Ty:=⟨.mk 0 0 ByteArray.empty []⟩
def Ty.k:Ty->Int | .mk k _ _ _=>k
def Ty.s:Ty->Int | .mk _ s _ _=>s
def Ty.n:Ty->ByteArray | .mk _ _ n _=>n
def Ty.e:Ty->List Ty | .mk _ _ _ e=>e
mutual
def aQ:Ty->List C
 |.mk k s n e=>[.vl (.int .i64 k),.vl (.int .i64 s),.vl (.string n),.fz (mJ e)]
def mJ:List Ty->List (List C)
 |[]=>[]
 |t::r=>aQ t::mJ r
end
theorem aY:∀l:List Ty,mJ l=l.map aQ
 |[]=>rfl
 |t::r=>by rw[mJ,aY r];rfl
theorem aR (t:Ty):aQ t=[.vl (.int .i64 t.k),.vl (.int .i64 t.s),.vl (.string t.n),.fz (t.e.map aQ)]:=by
 cases t with
 |mk k s n e=>rw[aQ,aY];rfl
mutual
theorem vM:∀{a b:Ty},aQ a=aQ b->a=b
 |.mk k s n e,.mk k' s' n' e',h=>by
  rw[aQ,aQ] at h
  simp only[List.cons.injEq,C.vl.injEq,Value.int.injEq,Value.string.injEq,C.fz.injEq,true_and,and_true] at h
  obtain ⟨rfl,rfl,rfl,h4⟩:=h
  rw[JR h4]
theorem JR:∀{a b:List Ty},mJ a=mJ b->a=b
 |[],[],_=>rfl
 |[],_::_,h=>by rw[mJ,mJ] at h;cases h
 |_::_,[],h=>by rw[mJ,mJ] at h;cases h
 |x::a,y::b,h=>by
  rw[mJ,mJ] at h
  obtain ⟨h1,h2⟩:=List.cons.inj h
  rw[vM h1,JR h2]
end
mutual
def Ty.h:Ty->Nat
 |.mk _ _ _ e=>Ty.hs e+1
def Ty.hs:List Ty->Nat
 |[]=>0
 |t::r=>max t.h (Ty.hs r)
end
theorem Ty.hs_mem:∀{l:List Ty} {t:Ty},t∈l->t.h<=Ty.hs l
 |x::l,t,h=>by
  rw[Ty.hs]
  rcases List.mem_cons.1 h with rfl|h
  · omega
  · have:=Ty.hs_mem h;omega
structure Fl where
 num:Int
 nm:ByteArray
 ty:Ty
 opt:Bool
instance:Inhabited Fl:=⟨⟨0,ByteArray.empty,default,false⟩⟩
def aS (f:Fl):List C:=[.vl (.int .i64 f.num),.vl (.string f.nm),.vl (.int .i64 f.ty.k),.vl (.int .i64 f.ty.s),.vl (.string f.ty.n),.fz (f.ty.e.map aQ),.vl (.bool f.opt)]
structure St where
 nm:ByteArray
 fs:List Fl
instance:Inhabited St:=⟨⟨ByteArray.empty,[]⟩⟩
def aH (s:St):List C:=[.vl (.string s.nm),.fz (s.fs.map aS)]
abbrev cK (n:Int):List C:=[.vl (.int .i64 n)]
abbrev bF (b:ByteArray):List C:=[.vl (.string b)]
structure En where
 nm:ByteArray
 ns:List ByteArray
 vs:List Int
instance:Inhabited En:=⟨⟨ByteArray.empty,[],[]⟩⟩
def aZ (e:En):List C:=[.vl (.string e.nm),.fz (e.ns.map bF),.fz (e.vs.map cK)]
structure Sc where
 ver:Int
 es:List En
 ss:List St
instance:Inhabited Sc:=⟨⟨0,[],[]⟩⟩
def aD (s:Sc):List C:=[.vl (.int .i64 s.ver),.fz (s.es.map aZ),.fz (s.ss.map aH)]
theorem nB {α β:Type} {f:α->β} (hf:∀{a b},f a=f b->a=b):∀{l m:List α},l.map f=m.map f->l=m
 |[],[],_=>rfl
 |[],_::_,h=>by cases h
 |_::_,[],h=>by cases h
 |x::l,y::m,h=>by
  simp only[List.map_cons,List.cons.injEq] at h
  rw[hf h.1,nB hf h.2]
theorem CJ {a b:Int} (h:cK a=cK b):a=b:=by simpa using h
theorem CE {a b:ByteArray} (h:bF a=bF b):a=b:=by simpa using h
theorem CY {a b:Fl} (h:aS a=aS b):a=b:=by
 obtain ⟨a1,a2,a3,a4⟩:=a
 obtain ⟨b1,b2,b3,b4⟩:=b
 simp only[aS,List.cons.injEq,C.vl.injEq,Value.int.injEq,Value.string.injEq,Value.bool.injEq,C.fz.injEq,true_and,and_true] at h
 obtain ⟨rfl,rfl,h3,h4,h5,h6,rfl⟩:=h
 have:a3=b3:=vM (by rw[aR,aR,h3,h4,h5,h6])
 rw[this]
theorem vK {a b:St} (h:aH a=aH b):a=b:=by
 obtain ⟨a1,a2⟩:=a
 obtain ⟨b1,b2⟩:=b
 simp only[aH,List.cons.injEq,C.vl.injEq,Value.string.injEq,C.fz.injEq,and_true] at h
 obtain ⟨rfl,h2⟩:=h
 rw[nB CY h2]
theorem CW {a b:En} (h:aZ a=aZ b):a=b:=by
 obtain ⟨a1,a2,a3⟩:=a
 obtain ⟨b1,b2,b3⟩:=b
 simp only[aZ,List.cons.injEq,C.vl.injEq,Value.string.injEq,C.fz.injEq,and_true] at h
 obtain ⟨rfl,h2,h3⟩:=h
 rw[nB CE h2,nB CJ h3]
theorem aBZ {a b:Sc} (h:aD a=aD b):a=b:=by
 obtain ⟨a1,a2,a3⟩:=a
 obtain ⟨b1,b2,b3⟩:=b
 simp only[aD,List.cons.injEq,C.vl.injEq,Value.int.injEq,C.fz.injEq,true_and,and_true] at h
 obtain ⟨rfl,h2,h3⟩:=h
 rw[nB CW h2,nB vK h3]
noncomputable def sS {α β:Type} [Inhabited α] (f:α->β) (b:β):α:=Classical.epsilon fun a=>f a=b
theorem jV {α β:Type} [Inhabited α] {f:α->β} (hf:∀{a b},f a=f b->a=b) (a:α):sS f (f a)=a:=hf (Classical.epsilon_spec (p:=fun x=>f x=f a) ⟨a,rfl⟩)
theorem lQ {α β:Type} [Inhabited α] {f:α->β} (hf:∀{a b},f a=f b->a=b) (l:List α):(l.map f).map (sS f)=l:=by
 rw[List.map_map,show (sS f ∘ f)=id from funext fun a=>jV hf a,List.map_id]
noncomputable def C.ty:=sS aQ
noncomputable def C.fl:=sS aS
noncomputable def C.st:=sS aH
noncomputable def C.en:=sS aZ
noncomputable def C.sc:=sS aD
noncomputable def C.bs:=sS bF
noncomputable def C.it:=sS cK
@[go_sem] theorem g4 (t:Ty):C.ty (aQ t)=t:=jV vM t
@[go_sem] theorem aYO (t:Fl):C.fl (aS t)=t:=jV CY t
@[go_sem] theorem HK (t:St):C.st (aH t)=t:=jV vK t
@[go_sem] theorem aGB (t:En):C.en (aZ t)=t:=jV CW t
@[go_sem] theorem dF (t:Sc):C.sc (aD t)=t:=jV aBZ t
@[go_sem] theorem aYY (t:ByteArray):C.bs (bF t)=t:=jV CE t
@[go_sem] theorem a0J (t:Int):C.it (cK t)=t:=jV CJ t
@[go_sem] theorem aZA (l:List Ty):(l.map aQ).map C.ty=l:=lQ vM l
@[go_sem] theorem aY3 (l:List Fl):(l.map aS).map C.fl=l:=lQ CY l
@[go_sem] theorem aZJ (l:List St):(l.map aH).map C.st=l:=lQ vK l
@[go_sem] theorem aZG (l:List En):(l.map aZ).map C.en=l:=lQ CW l
@[go_sem] theorem a0W (l:List ByteArray):(l.map bF).map C.bs=l:=lQ CE l
@[go_sem] theorem zN (l:List Int):(l.map cK).map C.it=l:=lQ CJ l
theorem dE (t:Ty):(aQ t).length=4:=by rw[aR];rfl
theorem M6 (t:Fl):(aS t).length=7:=rfl
theorem aBJ (t:St):(aH t).length=2:=rfl
theorem aCX (t:En):(aZ t).length=3:=rfl
theorem kV {a b:ByteArray} (h:bl a=bl b):a=b:=by rw[<-gW a,<-gW b,h]
theorem cN (a b:ByteArray):(bl a==bl b)=decide (a=b):=by
 rw[Bool.eq_iff_iff,beq_iff_eq,decide_eq_true_eq]
 exact ⟨kV,fun h=>by rw[h]⟩
def bT (n:Int):Prop:=-9223372036854775808<=n/\n<=9223372036854775807
inductive TyOk:Ty->Prop
 |mk {k s:Int} {n:ByteArray} {e:List Ty}:bT k->bT s->n.size<=9223372036854775807->e.length<=9223372036854775807->(∀t∈e,TyOk t)->TyOk (.mk k s n e)
theorem TyOk.len {t:Ty} (h:TyOk t):t.e.length<=9223372036854775807:=by cases h;assumption
theorem TyOk.k {t:Ty} (h:TyOk t):bT t.k:=by cases h;assumption
theorem TyOk.s {t:Ty} (h:TyOk t):bT t.s:=by cases h;assumption
theorem TyOk.n {t:Ty} (h:TyOk t):t.n.size<=9223372036854775807:=by cases h;assumption
theorem TyOk.e {t:Ty} (h:TyOk t):∀u∈t.e,TyOk u:=by cases h;assumption
structure Fl.ok (f:Fl):Prop where
 num:bT f.num
 nm:f.nm.size<=9223372036854775807
 ty:TyOk f.ty
structure St.ok (s:St):Prop where
 nm:s.nm.size<=9223372036854775807
 len:s.fs.length<=9223372036854775807
 fs:∀f∈s.fs,f.ok
structure En.ok (e:En):Prop where
 nm:e.nm.size<=9223372036854775807
 ln:e.ns.length<=9223372036854775807
 lv:e.vs.length<=9223372036854775807
 ns:∀n∈e.ns,n.size<=9223372036854775807
 vs:∀n∈e.vs,bT n
structure Sc.ok (s:Sc):Prop where
 ver:bT s.ver
 le:s.es.length<=9223372036854775807
 ls:s.ss.length<=9223372036854775807
 es:∀e∈s.es,e.ok
 ss:∀t∈s.ss,t.ok
def iO (r:List C):Prop:=∃t,r=aQ t/\TyOk t
def VA (r:List C):Prop:=∃s:St,r=aH s/\s.ok
def OM (r:List C):Prop:=∃e:En,r=aZ e/\e.ok
def tH (r:List C):Prop:=∃s:Sc,r=aD s/\s.ok
theorem fQ {t:Ty} (h:TyOk t):iO (aQ t):=⟨t,rfl,h⟩
theorem aBG {t:St} (h:t.ok):VA (aH t):=⟨t,rfl,h⟩
theorem aCH {t:En} (h:t.ok):OM (aZ t):=⟨t,rfl,h⟩
theorem LX {t:Sc} (h:t.ok):tH (aD t):=⟨t,rfl,h⟩
def NI (p:List C->Prop):List S->Prop:=fun av=>match av with
 |[.va (.gs r)]=>p r
 |_=>False
theorem f7 {p:List C->Prop} {av:List S} (h:NI p av):∃r,av=[.va (.gs r)]/\p r:=by
 unfold NI at h
 split at h
 · exact ⟨_,rfl,h⟩
 · exact h.elim
def aKH {α:Type} (d:List C->α) (f:α->A):List S->A:=fun av=>match av with
 |[.va (.gs r)]=>f (d r)
 |_=>.gs []
attribute [go_sem] NI aKH
def oL (l:List UInt8):Bool:=cO l&&match l with|c::_=>decide (65<=(c.toNat:Int))&&decide ((c.toNat:Int)<=90)|[]=>false
theorem EL:Meets Tryz.prog 68 (uO fun l=>.bool (oL l)).sp:=by
 refine aF Tryz.func68 aVH 1 (by rw[Tryz.ntmps68];decide) (aG BT (aB _)) oQ ?_
 rintro xs H K ⟨⟨h,rfl⟩,hK⟩
 obtain ⟨s,rfl⟩:=hJ h
 have hK':K (.va (.c1 (.vl (.bool (oL (bl s)))))) []:=hK
 clear hK h
 unfold oL at hK'
 cases hn:cO (bl s) with
 |false=>
  rw[hn] at hK'
  simp -dsimp only[go_sem,U2,T7,hn]
  exact .done hK'
 |true=>
  cases hl:bl s with
  |nil=>rw[hl] at hn;cases hn
  |cons c r=>
   rw[hl] at hn hK'
   rw[hn] at hK'
   simp -dsimp only[go_sem,U2,T7,hl,hn]
   refine ⟨by omega,fun d hd=>⟨fun _=>by omega,fun e he=>?_⟩⟩
   subst hd
   cases hc:decide (65<=(c.toNat:Int)) with
   |false=>simp only[hc,Bool.true_and,Bool.false_and] at hK';exact .done hK'
   |true=>
    obtain rfl:=he hc
    simp only[hc,Bool.true_and] at hK';exact .done hK'
def sB (rs:List (List C)):Prop:=∃l:List ByteArray,rs=l.map bF/\l.length<=9223372036854775807
theorem m8 {l:List ByteArray} (h:l.length<=9223372036854775807):sB (l.map bF):=⟨l,rfl,h⟩
def F5:List S->Prop:=fun av=>match av with
 |[.va (.c1 (.fz rs)),.va (.c1 (.vl (.string _)))]=>sB rs
 |_=>False
theorem mV {av:List S} (h:F5 av):∃(l:List ByteArray) (x:ByteArray),av=[.va (.c1 (.fz (l.map bF))),tS x]/\l.length<=9223372036854775807:=by
 unfold F5 at h
 split at h
 · obtain ⟨l,rfl,h⟩:=h;exact ⟨l,_,rfl,h⟩
 · exact h.elim
noncomputable def aAR (f:List ByteArray->ByteArray->Value):List S->A:=fun av=>match av with
 |[.va (.c1 (.fz rs)),.va (.c1 (.vl (.string x)))]=>.c1 (.vl (f (rs.map C.bs) x))
 |_=>.gs []
noncomputable def BZ (f:List ByteArray->ByteArray->Value):Fun:=⟨F5,aAR f,fun av h=>by obtain ⟨l,x,rfl,_⟩:=mV h;trivial⟩
theorem JU {f}:∀av H K,(BZ f).sp av H K->av.length=2:=fun av H K h=>by obtain ⟨l,x,rfl,_⟩:=mV h.1.1;rfl
attribute [go_sem] BZ F5 aAR
def pX:List ByteArray->ByteArray->Nat->Int
 |[],_,_=>-1
 |y::l,x,i=>bif decide (x=y) then (i:Int) else pX l x (i+1)
def bW (l:List ByteArray) (x:ByteArray):Bool:=l.any fun y=>decide (x=y)
theorem pG (l:List ByteArray) (x:ByteArray):bW l x=true ↔ x∈l:=by
 unfold bW;rw[List.any_eq_true]
 exact ⟨fun ⟨y,hy,h⟩=>by rw[of_decide_eq_true h];exact hy,fun h=>⟨x,h,by simp⟩⟩
theorem MC:∀(l:List ByteArray) (x:ByteArray) (i:Nat),decide (0<=pX l x i)=bW l x
 |[],_,_=>by simp[pX,bW]
 |y::l,x,i=>by
  simp only[pX]
  by_cases h:x=y
  · simp[h,bW]
  · have:=MC l x (i+1)
    simp[h,bW] at this ⊢;exact this
theorem aDE:Meets Tryz.prog 142 (BZ fun l x=>.int .i64 (pX l x 0)).sp:=by
 refine aF Tryz.func142 aMC 2 (by rw[Tryz.ntmps142];decide) (aB _) JU ?_
 rintro av H K ⟨⟨h,rfl⟩,hK⟩
 obtain ⟨l,x,rfl,hl⟩:=mV h
 have hK:K (iS .i64 (pX l x 0)) []:=by
  have:(BZ fun l x=>.int .i64 (pX l x 0)).val [.va (.c1 (.fz (l.map bF))),tS x]=iA .i64 (pX l x 0):=by simp -dsimp only[go_sem]
  rw[this] at hK;exact hK
 simp -dsimp only[go_sem,aAU,ZE]
 refine aL (α:=Nat) (fun i=>[(0,.va (.c1 (.fz (l.map bF)))),(1,tS x),(7,iS .i64 l.length),(8,iS .i64 i)]) (fun _=>[])
  (fun i=>i<=l.length/\pX (l.drop i) x i=pX l x 0) (fun i=>l.length-i) 0 0 ⟨Nat.zero_le _,rfl⟩ ?_ ?_ ?_
 · simp[go_sem]
 · simp[go_sem]
 rintro i ⟨hi,ho⟩
 rcases bB i l.length with hlt|hge
 · have hg:decide ((i:Int)<(l.length:Int))=true:=by simp;omega
   have hx:l[i]? = some l[i]:=aU hlt
   have q1:=tB (row:=bF) hx
   have q2:=aT (row:=bF) hx
   rw[List.drop_eq_getElem_cons hlt] at ho
   simp only[pX] at ho
   generalize l[i]=y at *
   cases hc:decide (x=y) with
   |true=>
    rw[hc,bE] at ho
    simp -dsimp only[go_sem,hg,↓q2,hc,cN]
    and_intros
    all_goals first
     |omega
     |exact .done (by rw[ho];exact hK)
   |false=>
    rw[hc,a8] at ho
    simp -dsimp only[go_sem,hg,↓q2,hc,cN]
    and_intros
    all_goals first
     |omega
     |skip
    refine aE (i+1) 0 ⟨by omega,ho⟩ (by omega) ?_ ?_
    · simp[go_sem]
    · simp[go_sem]
 · have hg:decide ((i:Int)<(l.length:Int))=false:=by simp;omega
   have:l.drop i=[]:=List.drop_eq_nil_iff.2 (by omega)
   rw[this] at ho
   simp -dsimp only[go_sem,hg]
   exact .done (by rw[show (-1:Int)=pX l x 0 from ho];exact hK)
theorem AR:Meets Tryz.prog 109 (BZ fun l x=>.bool (bW l x)).sp:=by
 refine aF Tryz.func109 aN8 2 (by rw[Tryz.ntmps109];decide) (aG aDE (aB _)) JU ?_
 rintro av H K ⟨⟨h,rfl⟩,hK⟩
 obtain ⟨l,x,rfl,hl⟩:=mV h
 have hK:K (bS (bW l x)) []:=by
  have:(BZ fun l x=>.bool (bW l x)).val [.va (.c1 (.fz (l.map bF))),tS x]=bA (bW l x):=by simp -dsimp only[go_sem]
  rw[this] at hK;exact hK
 simp -dsimp only[go_sem,ZS,aAB,m8 hl,MC]
 exact .done hK
theorem gA {α:Type} (row:α->List C) (l:List α) (n:Nat):(l.map row).take n=(l.take n).map row:=List.map_take.symm
theorem nR {α:Type} (l:List α) (n:Nat):(l.take n).length<=l.length:=by rw[List.length_take];omega
theorem lJ (b:ByteArray):(bF b).length=1:=rfl
noncomputable def pF {α:Type} (p:List C->Prop) (d:List C->α) (f:α->Value):Fun:=⟨NI p,aKH d fun a=>.c1 (.vl (f a)),fun av h=>by obtain ⟨r,rfl,_⟩:=f7 h;trivial⟩
theorem lG {α:Type} {p:List C->Prop} {d:List C->α} {f:α->Value}:∀av H K,(pF p d f).sp av H K->av.length=1:=fun av H K h=>by obtain ⟨r,rfl,_⟩:=f7 h.1.1;rfl
attribute [go_sem] pF
theorem cL {α:Type} {l:List α} {i:Nat} {x:α} (hx:l[i]? = some x) (p:α->Bool):(l.drop i).any p=(p x||(l.drop (i+1)).any p):=by
 obtain ⟨h,rfl⟩:=bJ.1 hx
 rw[List.drop_eq_getElem_cons h,List.any_cons]
theorem eH {α:Type} {l:List α} (p:α->Bool):(l.drop l.length).any p=false:=by rw[List.drop_length];rfl
def cG (s:Sc):Bool:=decide (16<s.es.length)||decide (16<s.es.length+s.ss.length)||s.es.any (fun e=>decide (16<e.ns.length))||s.ss.any (fun t=>decide (16<t.fs.length))
theorem aFI:Meets Tryz.prog 67 (pF tH C.sc fun s=>.bool (cG s)).sp:=by
 refine aF Tryz.func67 aVV 1 (by rw[Tryz.ntmps67];decide) (aB _) lG ?_
 rintro av H K ⟨⟨h,rfl⟩,hK⟩
 obtain ⟨_,rfl,s,rfl,hs⟩:=f7 h
 have hK:K (bS (cG s)) []:=by
  have:(pF tH C.sc fun s=>.bool (cG s)).val [.va (.gs (aD s))]=bA (cG s):=by simp -dsimp only[go_sem]
  rw[this] at hK;exact hK
 obtain ⟨hv,hle,hls,hes,hss⟩:=hs
 simp -dsimp only[go_sem,aD,aEA,aIM]
 refine ⟨fun _=>by omega,fun h1=>?_,fun h1=>?_⟩
 · have:cG s=true:=by
    simp only[Bool.or_eq_true,decide_eq_true_eq] at h1
    unfold cG
    rcases h1 with h1|h1
    · simp[show 16<s.es.length by omega]
    · simp[show 16<s.es.length+s.ss.length by omega]
   rw[this] at hK
   exact .z ((by simpa[go_sem] using hK))
 simp only[Bool.or_eq_false_iff,decide_eq_false_iff_not] at h1
 have hL:cG s=(s.es.any (fun e=>decide (16<e.ns.length))||s.ss.any (fun t=>decide (16<t.fs.length))):=by
  unfold cG;rw[decide_eq_false (by omega),decide_eq_false (by omega)];rfl
 refine aL (α:=Nat) (fun i=>[(1,.va (.c1 (.pt 0 0))),(22,.va (.c1 (.fz (s.es.map aZ)))),(23,iS .i64 s.es.length),(24,iS .i64 i)]) (fun _=>[.cells (aD s) 25])
  (fun i=>i<=s.es.length/\(s.es.drop i).any (fun e=>decide (16<e.ns.length))=s.es.any (fun e=>decide (16<e.ns.length))) (fun i=>s.es.length-i) 0 1 ⟨Nat.zero_le _,rfl⟩ ?_ ?_ ?_
 · simp[go_sem]
 · simp[go_sem,aD]
 rintro i ⟨hi,ho⟩
 rcases bB i s.es.length with hlt|hge
 · have hg:decide ((i:Int)<(s.es.length:Int))=true:=by simp;omega
   obtain ⟨e,hx⟩:∃e,s.es[i]? = some e:=⟨_,aU hlt⟩
   have q2:=aT (row:=aZ) hx
   rw[cL hx] at ho
   simp -dsimp only[go_sem,hg,↓q2,aZ,aD]
   and_intros
   all_goals first
    |omega
    |skip
   · intro hc
     have hc':decide (16<e.ns.length)=true:=by simp at hc;simp;omega
     have:cG s=true:=by simp only[hL,<-ho,hc',Bool.true_or]
     rw[this] at hK
     exact .z ((by simpa[go_sem] using hK))
   · intro hc
     refine ⟨by omega,aE (i+1) 1 ⟨by omega,?_⟩ (by omega) ?_ ?_⟩
     · have hc':decide (16<e.ns.length)=false:=by simp at hc;simp;omega
       rw[<-ho,hc',Bool.false_or]
     · simp[go_sem]
     · simp[go_sem,aD]
 · have hg:decide ((i:Int)<(s.es.length:Int))=false:=by simp;omega
   obtain rfl:i=s.es.length:=by omega
   rw[eH] at ho
   rw[<-ho,Bool.false_or] at hL
   simp -dsimp only[go_sem,hg,aD]
   refine aL (α:=Nat) (fun i=>[(1,.va (.c1 (.pt 0 0))),(34,.va (.c1 (.fz (s.ss.map aH)))),(35,iS .i64 s.ss.length),(36,iS .i64 i)]) (fun _=>[.cells (aD s) 25])
    (fun i=>i<=s.ss.length/\(s.ss.drop i).any (fun e=>decide (16<e.fs.length))=s.ss.any (fun e=>decide (16<e.fs.length))) (fun i=>s.ss.length-i) 0 1 ⟨Nat.zero_le _,rfl⟩ ?_ ?_ ?_
   · simp[go_sem]
   · simp[go_sem,aD]
   clear hi ho hge hg
   rintro i ⟨hi,ho⟩
   rcases bB i s.ss.length with hlt|hge
   · have hg:decide ((i:Int)<(s.ss.length:Int))=true:=by simp;omega
     obtain ⟨e,hx⟩:∃e,s.ss[i]? = some e:=⟨_,aU hlt⟩
     have q2:=aT (row:=aH) hx
     rw[cL hx] at ho
     simp -dsimp only[go_sem,hg,↓q2,aH,aD]
     and_intros
     all_goals first
      |omega
      |skip
     · intro hc
       have hc':decide (16<e.fs.length)=true:=by simp at hc;simp;omega
       have:cG s=true:=by simp only[hL,<-ho,hc',Bool.true_or]
       rw[this] at hK
       exact .z ((by simpa[go_sem] using hK))
     · intro hc
       refine ⟨by omega,aE (i+1) 1 ⟨by omega,?_⟩ (by omega) ?_ ?_⟩
       · have hc':decide (16<e.fs.length)=false:=by simp at hc;simp;omega
         rw[<-ho,hc',Bool.false_or]
       · simp[go_sem]
       · simp[go_sem,aD]
   · have hg:decide ((i:Int)<(s.ss.length:Int))=false:=by simp;omega
     obtain rfl:i=s.ss.length:=by omega
     rw[eH] at ho
     simp -dsimp only[go_sem,hg,aD]
     rw[hL,<-ho] at hK
     exact .z ((by simpa[go_sem] using hK))
def fE (f:Nat->Int):Nat->Nat->Int
 |0,_=>0
 |n+1,i=>bif f i==0 then fE f n (i+1) else f i
theorem L0 {f:Nat->Int} {m i:Nat} (h:i<m):fE f (m-i) i=bif f i==0 then fE f (m-(i+1)) (i+1) else f i:=by
 obtain ⟨k,rfl⟩:∃k,m=i+k+1:=⟨m-i-1,by omega⟩
 rw[show i+k+1-i=k+1 by omega,show i+k+1-(i+1)=k by omega];rfl
theorem mS {f:Nat->Int} {m i:Nat} (h:i<m) (h0:f i=0):fE f (m-i) i=fE f (m-(i+1)) (i+1):=by rw[L0 h,h0];rfl
theorem kQ {f:Nat->Int} {m i:Nat} (h:i<m) (h0:f i≠0):fE f (m-i) i=f i:=by
 rw[L0 h,beq_eq_false_iff_ne.2 h0];rfl
theorem mC (f:Nat->Int) (m:Nat):fE f (m-m) m=0:=by rw[Nat.sub_self];rfl
def fI (e:En) (k:Nat):Int:=match e.ns[k]?,e.vs[k]? with
 |some nm,some n=>bif !(cO (bl nm)) then 5 else bif bW (e.ns.take k) nm then 7 else bif decide (n<0)||decide (127<n) then 4 else
  bif (decide ((k:Int)=0)&&decide (n≠0))||(decide (0<(k:Int))&&match e.vs[k-1]? with|some m=>decide (n<=m)|none=>false) then 2 else 0
 |_,_=>0
def l9 (e:En):Int:=bif decide (e.ns.length=0)||decide (e.ns.length≠e.vs.length) then 2 else fE (fI e) e.ns.length 0
theorem NU:Meets Tryz.prog 69 (pF OM C.en fun e=>.int .i64 (l9 e)).sp:=by
 refine aF Tryz.func69 aVJ 1 (by rw[Tryz.ntmps69];decide) (aG BT (aG AR (aB _))) lG ?_
 rintro av H K ⟨⟨h,rfl⟩,hK⟩
 obtain ⟨_,rfl,e,rfl,he⟩:=f7 h
 have hK:K (iS .i64 (l9 e)) []:=by
  have:(pF OM C.en fun e=>.int .i64 (l9 e)).val [.va (.gs (aZ e))]=iA .i64 (l9 e):=by simp -dsimp only[go_sem]
  rw[this] at hK;exact hK
 clear h
 obtain ⟨_,hln,hlv,_,_⟩:=he
 simp -dsimp only[go_sem,aZ,aHV,aDM]
 refine ⟨fun h1=>?_,fun h1=>?_⟩
 · have:l9 e=2:=by
    unfold l9
    have:(decide (e.ns.length=0)||decide (e.ns.length≠e.vs.length))=true:=by
     simp only[Bool.or_eq_true,beq_iff_eq,bne_iff_ne,decide_eq_true_eq] at h1 ⊢;omega
    rw[this];rfl
   rw[this] at hK
   exact .z ((by simpa[go_sem] using hK))
 simp only[Bool.or_eq_false_iff,beq_eq_false_iff_ne,bne_eq_false_iff_eq,ne_eq] at h1
 have hl:e.ns.length=e.vs.length:=by omega
 have hF:l9 e=fE (fI e) (e.ns.length-0) 0:=by
  unfold l9;rw[decide_eq_false (by omega),decide_eq_false (by omega)];rfl
 refine aL (α:=Nat) (fun i=>[(1,.va (.c1 (.pt 0 0))),(20,.va (.c1 (.fz (e.ns.map bF)))),(21,iS .i64 e.ns.length),(22,iS .i64 i)]) (fun _=>[.cells (aZ e) 118])
  (fun i=>i<=e.ns.length/\fE (fI e) (e.ns.length-i) i=fE (fI e) (e.ns.length-0) 0) (fun i=>e.ns.length-i) 0 1 ⟨Nat.zero_le _,rfl⟩ ?_ ?_ ?_
 · simp[go_sem]
 · simp[go_sem,aZ]
 rintro i ⟨hi,ho⟩
 rcases bB i e.ns.length with hlt|hge
 · have hg:decide ((i:Int)<(e.ns.length:Int))=true:=by simp;omega
   obtain ⟨nm,hx⟩:∃nm,e.ns[i]? = some nm:=⟨_,aU hlt⟩
   obtain ⟨n,hy⟩:∃nm,e.vs[i]? = some nm:=⟨_,aU (by omega)⟩
   have q1:=aT (row:=bF) hx
   have q2:=aT (row:=cK) hy
   have ht:sB ((e.ns.take i).map bF):=m8 (Nat.le_trans (nR _ _) hln)
   have hA:fI e i=bif !(cO (bl nm)) then (5:Int) else bif bW (e.ns.take i) nm then 7 else bif decide (n<0)||decide (127<n) then 4 else
    bif (decide ((i:Int)=0)&&decide (n≠0))||(decide (0<(i:Int))&&match e.vs[i-1]? with|some m=>decide (n<=m)|none=>false) then 2 else 0:=by
    unfold fI;rw[hx,hy]
   have fin:∀x:Int,fI e i=x->x≠0->W.Fin 0 K (iS .i64 x) [.cells (aZ e) 118]:=fun x h1 h2=>by
    rw[hF,<-ho,kQ hlt (by rw[h1];exact h2),h1] at hK
    exact .z ((by simpa[go_sem] using hK))
   have dM:fI e i=0->fE (fI e) (e.ns.length-(i+1)) (i+1)=fE (fI e) (e.ns.length-0) 0:=fun h1=>by rw[<-ho,mS hlt h1]
   rcases Nat.eq_zero_or_pos i with h0|h0
   · subst h0
     have g1:decide ((0:Int)<0)=false:=rfl
     have g2:((0:Int)==0)=true:=rfl
     have hb0:bW [] nm=false:=rfl
     have ht0:sB []:=⟨[],rfl,Nat.zero_le _⟩
     rw[Int.natCast_zero] at *
     cases hc1:cO (bl nm) with
     |false=>
      simp -dsimp only[go_sem,hg,↓q1,↓q2,aZ,hc1]
      exact ⟨by omega,by omega,fin 5 (by rw[hA,hc1];rfl) (by decide)⟩
     |true=>
      cases hc3:(decide (n<0)||decide (127<n)) with
      |true=>
       simp -dsimp only[go_sem,hg,↓q1,↓q2,aZ,ht0,hb0,gA,gE lJ,hc1,hc3]
       exact ⟨by omega,by omega,by omega,fin 4 (by rw[hA,hc1,hc3];rfl) (by decide)⟩
      |false=>
       cases hn:(n != 0) with
       |true=>
        simp -dsimp only[go_sem,hg,↓q1,↓q2,aZ,ht0,hb0,gA,gE lJ,Bool.false_and,g1,g2,hc1,hc3,hn]
        exact ⟨by omega,by omega,by omega,fin 2 (by rw[hA,hc1,hc3];simp at hn;simp[hn,bW]) (by decide)⟩
       |false=>
        simp -dsimp only[go_sem,hg,↓q1,↓q2,aZ,ht0,hb0,gA,gE lJ,Bool.true_and,g1,g2,hc1,hc3,hn]
        refine ⟨by omega,by omega,by omega,by omega,aE 1 1 ⟨by omega,dM ?_⟩ (by omega) ?_ ?_⟩
        · rw[hA,hc1,hc3];simp at hn;simp[hn,bW]
        · simp[go_sem]
        · simp[go_sem,aZ]
   · have g1:decide (0<(i:Int))=true:=by simp;omega
     have g2:((i:Int)==0)=false:=by simp;omega
     obtain ⟨m,hm⟩:∃m,e.vs[i-1]? = some m:=⟨_,aU (by omega)⟩
     have q4:((i:Int)-1).toNat=i-1:=by omega
     cases hc1:cO (bl nm) with
     |false=>
      simp -dsimp only[go_sem,hg,↓q1,↓q2,aZ,hc1]
      exact ⟨by omega,by omega,fin 5 (by rw[hA,hc1];rfl) (by decide)⟩
     |true=>
      cases hc2:bW (e.ns.take i) nm with
      |true=>
       simp -dsimp only[go_sem,hg,↓q1,↓q2,aZ,ht,gA,gE lJ,hc1,hc2]
       exact ⟨by omega,by omega,by omega,fin 7 (by rw[hA,hc1,hc2];rfl) (by decide)⟩
      |false=>
       cases hc3:(decide (n<0)||decide (127<n)) with
       |true=>
        simp -dsimp only[go_sem,hg,↓q1,↓q2,aZ,ht,gA,gE lJ,hc1,hc2,hc3]
        exact ⟨by omega,by omega,by omega,fin 4 (by rw[hA,hc1,hc2,hc3];rfl) (by decide)⟩
       |false=>
        simp -dsimp only[go_sem,hg,↓q1,↓q2,aZ,ht,gA,gE lJ,Bool.true_and,g1,g2,hc1,hc2,hc3,q4]
        refine ⟨by omega,by omega,by omega,by omega,by omega,fun x hx'=>?_⟩
        rw[hm] at hx'
        obtain rfl:=cI hx'
        refine ⟨fun hn=>fin 2 (by rw[hA,hc1,hc2,hc3,hm,g1];simp at hn;simp[hn]) (by decide),fun hn=>⟨by omega,aE (i+1) 1 ⟨by omega,dM ?_⟩ (by omega) ?_ ?_⟩⟩
        · have hi0:i≠0:=by omega
          rw[hA,hc1,hc2,hc3,hm,g1];simp at hn;simp[hi0,show ¬ n<=m by omega]
        · simp[go_sem]
        · simp[go_sem,aZ]
 · have hg:decide ((i:Int)<(e.ns.length:Int))=false:=by simp;omega
   obtain rfl:i=e.ns.length:=by omega
   rw[mC] at ho
   simp -dsimp only[go_sem,hg,aZ]
   rw[hF,<-ho] at hK
   exact .z ((by simpa[go_sem] using hK))
def cD (ss:List St) (n:ByteArray):Bool:=ss.any fun s=>decide (s.nm=n)
def c8 (es:List En) (n:ByteArray):Bool:=es.any fun s=>decide (s.nm=n)
def gT (s:Sc) (i:Nat) (n:ByteArray):Int:=bif !(oL (bl n)) then 5 else bif c8 s.es n then 7 else bif cD (s.ss.take i) n then 7 else 0
def FS:List S->Prop:=fun av=>match av with
 |[.va (.gs r),.va (.c1 (.vl (.int .i64 i))),.va (.c1 (.vl (.string _)))]=>tH r/\0<=i/\i<=((C.sc r).ss.length:Int)
 |_=>False
theorem rO {av:List S} (h:FS av):∃(s:Sc) (i:Nat) (n:ByteArray),av=[.va (.gs (aD s)),iS .i64 i,tS n]/\s.ok/\i<=s.ss.length:=by
 unfold FS at h
 split at h
 · obtain ⟨⟨s,rfl,hs⟩,h1,h2⟩:=h
   rename_i i n
   rw[dF] at h2
   exact ⟨s,i.toNat,n,by rw[Int.toNat_of_nonneg h1],hs,by omega⟩
 · exact h.elim
noncomputable def V2:List S->A:=fun av=>match av with
 |[.va (.gs r),.va (.c1 (.vl (.int .i64 i))),.va (.c1 (.vl (.string n)))]=>iA .i64 (gT (C.sc r) i.toNat n)
 |_=>.gs []
noncomputable def cnFn:Fun:=⟨FS,V2,fun av h=>by obtain ⟨s,i,n,rfl,_⟩:=rO h;trivial⟩
theorem UU:∀av H K,cnFn.sp av H K->av.length=3:=fun av H K h=>by obtain ⟨s,i,n,rfl,_⟩:=rO h.1.1;rfl
attribute [go_sem] cnFn FS V2
theorem NL:Meets Tryz.prog 71 cnFn.sp:=by
 refine aF Tryz.func71 aWE 3 (by rw[Tryz.ntmps71];decide) (aG EL (aB _)) UU ?_
 rintro av H K ⟨⟨h,rfl⟩,hK⟩
 obtain ⟨s,j,n,rfl,hs,hj⟩:=rO h
 have hK:K (iS .i64 (gT s j n)) []:=by
  have:cnFn.val [.va (.gs (aD s)),iS .i64 j,tS n]=iA .i64 (gT s j n):=by simp -dsimp only[go_sem,Int.toNat_natCast]
  rw[this] at hK;exact hK
 clear h
 obtain ⟨hv,hle,hls,hes,hss⟩:=hs
 have fin:∀x:Int,gT s j n=x->W.Fin 0 K (iS .i64 x) [.cells (aD s) 25]:=fun x h1=>by
  rw[h1] at hK
  exact .z ((by simpa[go_sem] using hK))
 have fin2:∀(x:Int) (b:B),gT s j n=x->W.Fin 0 K (iS .i64 x) [.cells (aD s) 25,b]:=fun x b h1=>by
  rw[h1] at hK
  exact .z ((by simpa[go_sem] using hK))
 simp -dsimp only[go_sem,aD,aJB,aH8]
 refine ⟨fun h1=>fin 5 (by unfold gT;rw[h1];rfl),fun h1=>?_⟩
 simp only[Bool.not_eq_false'] at h1
 refine aL (α:=Nat) (fun i=>[(1,iS .i64 j),(2,tS n),(3,.va (.c1 (.pt 0 0))),(15,.va (.c1 (.fz (s.es.map aZ)))),(16,iS .i64 s.es.length),(17,iS .i64 i)]) (fun _=>[.cells (aD s) 25])
  (fun i=>i<=s.es.length/\c8 (s.es.drop i) n=c8 s.es n) (fun i=>s.es.length-i) 0 1 ⟨Nat.zero_le _,rfl⟩ ?_ ?_ ?_
 · simp[go_sem]
 · simp[go_sem,aD]
 rintro i ⟨hi,ho⟩
 rcases bB i s.es.length with hlt|hge
 · have hg:decide ((i:Int)<(s.es.length:Int))=true:=by simp;omega
   obtain ⟨e,hx⟩:∃e,s.es[i]? = some e:=⟨_,aU hlt⟩
   have q2:=aT (row:=aZ) hx
   rw[c8,cL hx] at ho
   simp -dsimp only[go_sem,hg,↓q2,aZ,aD,cN]
   and_intros
   all_goals first
    |omega
    |skip
   · intro hc
     rw[hc,Bool.true_or] at ho
     exact fin2 7 _ (by unfold gT;rw[h1,<-ho];rfl)
   · intro hc
     rw[hc,Bool.false_or] at ho
     refine ⟨by omega,aE (i+1) 1 ⟨by omega,ho⟩ (by omega) ?_ ?_⟩
     · simp[go_sem]
     · simp[go_sem,aD]
 · have hg:decide ((i:Int)<(s.es.length:Int))=false:=by simp;omega
   obtain rfl:i=s.es.length:=by omega
   rw[c8,eH] at ho
   simp -dsimp only[go_sem,hg,aD,gA,Int.toNat_natCast]
   refine ⟨?_,?_⟩
   · exact ⟨by omega,fun r hr=>by obtain ⟨x,_,rfl⟩:=List.mem_map.1 hr;exact aBJ x⟩
   refine aL (α:=Nat) (fun i=>[(2,tS n),(3,.va (.c1 (.pt 0 0))),(29,.va (.c1 (.fz ((s.ss.take j).map aH)))),(30,iS .i64 (s.ss.take j).length),(31,iS .i64 i)]) (fun _=>[.cells (aD s) 25])
    (fun i=>i<=(s.ss.take j).length/\cD ((s.ss.take j).drop i) n=cD (s.ss.take j) n) (fun i=>(s.ss.take j).length-i) 0 1 ⟨Nat.zero_le _,rfl⟩ ?_ ?_ ?_
   · simp[go_sem]
   · simp[go_sem,aD]
   have hlj:=nR s.ss j
   generalize hl:s.ss.take j=l at *
   clear hi hge hg
   rintro i ⟨hi,ho2⟩
   rcases bB i l.length with hlt|hge
   · have hg:decide ((i:Int)<(l.length:Int))=true:=by simp;omega
     obtain ⟨e,hx⟩:∃e,l[i]? = some e:=⟨_,aU hlt⟩
     have q2:=aT (row:=aH) hx
     rw[cD,cL hx] at ho2
     simp -dsimp only[go_sem,hg,↓q2,aH,aD,cN]
     and_intros
     all_goals first
      |omega
      |skip
     · intro hc
       rw[hc,Bool.true_or] at ho2
       exact fin2 7 _ (by unfold gT;rw[h1,<-ho,hl,<-ho2];rfl)
     · intro hc
       rw[hc,Bool.false_or] at ho2
       refine ⟨by omega,aE (i+1) 1 ⟨by omega,ho2⟩ (by omega) ?_ ?_⟩
       · simp[go_sem]
       · simp[go_sem,aD]
   · have hg:decide ((i:Int)<(l.length:Int))=false:=by simp;omega
     obtain rfl:i=l.length:=by omega
     rw[cD,eH] at ho2
     simp -dsimp only[go_sem,hg,aD]
     exact fin 0 (by unfold gT;rw[h1,<-ho,hl,<-ho2];rfl)
mutual
def valF (ss:List St) (es:List En):Ty->Bool
 |.mk k s n e=>bif k==1 then s==0&&bl n==[]&&(e.length:Int)==0
  else bif k==2 then (s==8||s==16||s==32||s==64)&&bl n==[]&&(e.length:Int)==0
  else bif k==3 then (s==8||s==16||s==32||(s==64&&false))&&bl n==[]&&(e.length:Int)==0
  else bif k==4 then decide (1<=s)&&decide (s<=2000)&&bl n==[]&&(e.length:Int)==0
  else bif k==5 then decide (1<=s)&&decide (s<=32)&&bl n==[]&&kL ss es e
  else bif k==6 then cD ss n&&s==0&&(e.length:Int)==0
  else bif k==7 then c8 es n&&s==0&&(e.length:Int)==0 else false
def kL (ss:List St) (es:List En):List Ty->Bool
 |[]=>false
 |u::r=>valF ss es u&&r.isEmpty
end
def fS (ss:List St) (n:ByteArray):Option St:=ss.find? fun s=>decide (s.nm=n)
def d8 (es:List En) (n:ByteArray):Option En:=es.find? fun s=>decide (s.nm=n)
theorem pQ (ss:List St) (n:ByteArray):(fS ss n).isSome=cD ss n:=by unfold fS cD;rw[Bool.eq_iff_iff,List.find?_isSome,List.any_eq_true]
abbrev iG (s:St):A:=.gs (aH s)
abbrev iW (s:En):A:=.gs (aZ s)
def kU (ks:List Value) (vs:List St) (ss:List St):Prop:=∀n,fN ks (vs.map iG) (.string n)=(fS ss n).map iG
def DY (ks:List Value) (vs:List En) (es:List En):Prop:=∀n,fN ks (vs.map iW) (.string n)=(d8 es n).map iW
@[go_sem] theorem aCO (f:Nat->Option Nat) (l:List St):(l.map iG).map (A.ren f)=l.map iG:=by rw[List.map_map];rfl
@[go_sem] theorem aC8 (f:Nat->Option Nat) (l:List En):(l.map iW).map (A.ren f)=l.map iW:=by rw[List.map_map];rfl
@[go_sem] theorem aYA (n:Nat) (xs:List (List C)) (l:List St):(l.map iG).map (A.pub n xs)=l.map iG:=by rw[List.map_map];rfl
@[go_sem] theorem aYG (n:Nat) (xs:List (List C)) (l:List En):(l.map iW).map (A.pub n xs)=l.map iW:=by rw[List.map_map];rfl
abbrev mO:S:=.va (.gs [.mp 0,.mp 1])
abbrev fM (ks:List Value) (vs:List St) (ks':List Value) (vs':List En):Hp:=[.map .string ks (vs.map iG),.map .string ks' (vs'.map iW)]
def ZR (N:Nat):W.Spec:=fun av H K=>∃(ss:List St) (es:List En) (t:Ty) (ks:List Value) (vs:List St) (ks':List Value) (vs':List En),av=[mO,.va (.gs (aQ t))]/\H=fM ks vs ks' vs'/\
 kU ks vs ss/\DY ks' vs' es/\TyOk t/\t.h<=N/\K (bS (valF ss es t)) (fM ks vs ks' vs')
theorem v8 (es:List En) (n:ByteArray):(d8 es n).isSome=c8 es n:=by unfold d8 c8;rw[Bool.eq_iff_iff,List.find?_isSome,List.any_eq_true]
theorem aA7 {N:Nat} {ss:List St} {es:List En} {t:Ty} {ks:List Value} {vs:List St} {ks':List Value} {vs':List En} {K:S->Hp->Prop} (h1:kU ks vs ss) (h2:DY ks' vs' es) (h3:TyOk t) (h4:t.h<=N) (hK:K (bS (valF ss es t)) (fM ks vs ks' vs')) :
 ZR N [mO,.va (.gs (aQ t))] (fM ks vs ks' vs') K:=⟨ss,es,t,ks,vs,ks',vs',rfl,rfl,h1,h2,h3,h4,hK⟩
@[go_sem] theorem aT1 (t:Ty):(aQ t).take 4=aQ t:=by rw[aR];rfl
@[go_sem] theorem a0M (t:Ty):(aQ t).map C.nf=aQ t:=by rw[aR];rfl
@[go_sem] theorem aXM (t:Ty) (f:Nat->Option Nat):(aQ t).map (C.ren f)=aQ t:=by rw[aR];rfl
theorem Ty.h_pos (t:Ty):0<t.h:=by cases t;rw[Ty.h];omega
theorem RJ:∀N,Meets Tryz.prog 110 (ZR N)
 |0=>⟨by kernel_rfl,by rintro xs vs E ro w K _ _ _ ⟨_,_,t,_,_,_,_,_,_,_,_,_,h,_⟩;have:=t.h_pos;omega⟩
 |N+1=>by
  refine aF Tryz.func110 aK9 2 (by rw[Tryz.ntmps110];decide) (aC (RJ N) (aB _)) (fun av H K h=>by obtain ⟨_,_,_,_,_,_,_,rfl,_⟩:=h;rfl) ?_
  rintro av H K ⟨ss,es,t,ks,vs,ks',vs',rfl,rfl,h1,h2,h3,h4,hK⟩
  cases t with
  |mk k s n e=>
  have fin:∀(b:Bool) (B1 B2:B),valF ss es (.mk k s n e)=b->W.Fin 2 K (bS b) [.map .string ks (vs.map iG),.map .string ks' (vs'.map iW),B1,B2]:=fun b B1 B2 h=>by
   rw[h] at hK
   exact .sel [0,1] (by simp) (by simp) rfl (.done (by simp -dsimp only[go_sem];simpa using hK))
  by_cases k1:(k==1)=true
  · have hF:=valF.eq_1 ss es k s n e
    rw[k1] at hF
    simp only[bE] at hF
    simp -dsimp only[go_sem,aQ,aY,jY,j0,k1]
    exact fin _ _ _ hF
  rw[Bool.not_eq_true] at k1
  by_cases k2:(k==2)=true
  · have hF:=valF.eq_1 ss es k s n e
    rw[k1,k2] at hF
    simp only[bE,a8] at hF
    simp -dsimp only[go_sem,aQ,aY,jY,j0,k1,k2]
    exact fin _ _ _ hF
  rw[Bool.not_eq_true] at k2
  by_cases k3:(k==3)=true
  · have hF:=valF.eq_1 ss es k s n e
    rw[k1,k2,k3] at hF
    simp only[bE,a8] at hF
    simp -dsimp only[go_sem,aQ,aY,jY,j0,k1,k2,k3]
    exact fin _ _ _ hF
  rw[Bool.not_eq_true] at k3
  by_cases k4:(k==4)=true
  · have hF:=valF.eq_1 ss es k s n e
    rw[k1,k2,k3,k4] at hF
    simp only[bE,a8] at hF
    simp -dsimp only[go_sem,aQ,aY,jY,j0,k1,k2,k3,k4]
    exact fin _ _ _ hF
  rw[Bool.not_eq_true] at k4
  by_cases k5:(k==5)=true
  · have hF:=valF.eq_1 ss es k s n e
    rw[k1,k2,k3,k4,k5] at hF
    simp only[bE,a8] at hF
    cases hc:(decide (1<=s)&&decide (s<=32)&&bl n==[]&&(e.length:Int)==1) with
    |false=>
     have hF':valF ss es (.mk k s n e)=false:=by
      rw[hF]
      cases h0:(decide (1<=s)&&decide (s<=32)&&bl n==[]) with
      |false=>rfl
      |true=>
       rw[h0,Bool.true_and] at hc
       match e,hc with
       |[],_=>rfl
       |[u],hc=>simp at hc
       |u::v::r,_=>simp[kL]
     simp(maxSteps:=9^6)-dsimp only[go_sem,aQ,aY,jY,j0,k1,k2,k3,k4,k5,hc]
     exact fin _ _ _ hF'
    |true=>
     obtain ⟨u,rfl⟩:∃u,e=[u]:=by
      simp only[Bool.and_eq_true,beq_iff_eq] at hc
      exact List.length_eq_one_iff.1 (by omega)
     have h0:(decide (1<=s)&&decide (s<=32)&&bl n==[])=true:=by
      simp only[Bool.and_eq_true] at hc ⊢;exact hc.1
     have hF':valF ss es (.mk k s n [u])=valF ss es u:=by rw[hF,h0];simp[kL]
     have hh:u.h<=N:=by rw[Ty.h,Ty.hs,Ty.hs] at h4;omega
     have hu:TyOk u:=h3.e u (by simp[Ty.e])
     have hc':(decide (1<=s)&&decide (s<=32)&&bl n==[]&&((1:Nat):Int)==1)=true:=hc
     simp(maxSteps:=9^6)-dsimp only[go_sem,aQ,aY,jY,j0,k1,k2,k3,k4,k5,hc']
     refine ⟨⟨by omega,fun r hr=>by subst hr;exact dE u⟩,fun r hr=>?_⟩
     subst hr
     refine ⟨by rw[dE];exact Nat.le_refl _,?_⟩
     simp -dsimp only[go_sem]
     refine aA7 h1 h2 hu hh ?_
     simp(maxSteps:=9^6)-dsimp only[go_sem]
     exact fin _ _ _ hF'
  rw[Bool.not_eq_true] at k5
  by_cases k6:(k==6)=true
  · have hF:=valF.eq_1 ss es k s n e
    rw[k1,k2,k3,k4,k5,k6] at hF
    simp only[bE,a8] at hF
    have hm:=h1 n
    rw[<-pQ] at hF
    cases hf:fS ss n with
    |none=>
     rw[hf] at hm hF
     simp only[Option.map_none] at hm
     simp(maxSteps:=9^6)-dsimp only[go_sem,aQ,aY,jY,j0,k1,k2,k3,k4,k5,k6,hm]
     refine .sel [0,1] (by simp) (by simp) rfl (.done ?_)
     rw[hF] at hK
     simp -dsimp only[go_sem];simpa using hK
    |some d=>
     rw[hf] at hm hF
     simp only[Option.map_some] at hm
     simp(maxSteps:=9^6)-dsimp only[go_sem,aQ,aY,jY,j0,k1,k2,k3,k4,k5,k6,hm]
     refine ⟨by simp[aH,go_sem],by simp[aH],.sel [0,1] (by simp) (by simp) rfl (.done ?_)⟩
     rw[hF] at hK
     simp -dsimp only[go_sem];simpa using hK
  rw[Bool.not_eq_true] at k6
  by_cases k7:(k==7)=true
  · have hF:=valF.eq_1 ss es k s n e
    rw[k1,k2,k3,k4,k5,k6,k7] at hF
    simp only[bE,a8] at hF
    have hm:=h2 n
    rw[<-v8] at hF
    cases hf:d8 es n with
    |none=>
     rw[hf] at hm hF
     simp only[Option.map_none] at hm
     simp(maxSteps:=9^6)-dsimp only[go_sem,aQ,aY,jY,j0,k1,k2,k3,k4,k5,k6,k7,hm]
     refine .sel [0,1] (by simp) (by simp) rfl (.done ?_)
     rw[hF] at hK
     simp -dsimp only[go_sem];simpa using hK
    |some d=>
     rw[hf] at hm hF
     simp only[Option.map_some] at hm
     simp(maxSteps:=9^6)-dsimp only[go_sem,aQ,aY,jY,j0,k1,k2,k3,k4,k5,k6,k7,hm]
     refine ⟨by simp[aZ,go_sem],by simp[aZ],.sel [0,1] (by simp) (by simp) rfl (.done ?_)⟩
     rw[hF] at hK
     simp -dsimp only[go_sem];simpa using hK
  rw[Bool.not_eq_true] at k7
  have hF:=valF.eq_1 ss es k s n e
  rw[k1,k2,k3,k4,k5,k6,k7] at hF
  simp only[a8] at hF
  simp -dsimp only[go_sem,aQ,aY,jY,j0,k1,k2,k3,k4,k5,k6,k7]
  exact fin _ _ _ hF
theorem dW {P:Program} {f:FuncId} {s:W.Spec} {ι:Type} {t:ι->W.Spec} (i0:ι) (m:∀i,Meets P f (t i)) (h:∀av H K,s av H K->∃i,t i av H K):Meets P f s:=⟨(m i0).1,by
 intro xs vl E ro w K h1 h2 h3 h4
 obtain ⟨i,hi⟩:=h _ _ _ h4
 exact (m i).2 xs vl E ro w K h1 h2 h3 hi⟩
def Q5:W.Spec:=fun av H K=>∃(ss:List St) (es:List En) (t:Ty) (ks:List Value) (vs:List St) (ks':List Value) (vs':List En),av=[mO,.va (.gs (aQ t))]/\H=fM ks vs ks' vs'/\
 kU ks vs ss/\DY ks' vs' es/\TyOk t/\K (bS (valF ss es t)) (fM ks vs ks' vs')
theorem aB4:Meets Tryz.prog 110 Q5:=dW 0 RJ fun _av _H _K ⟨ss,es,t,ks,vs,ks',vs',e1,e2,h4,h5,h6,hK⟩=>⟨t.h,ss,es,t,ks,vs,ks',vs',e1,e2,h4,h5,h6,Nat.le_refl _,hK⟩
theorem IU {ss:List St} {es:List En} {t:Ty} {ks:List Value} {vs:List St} {ks':List Value} {vs':List En} {K:S->Hp->Prop} (h1:kU ks vs ss) (h2:DY ks' vs' es) (h3:TyOk t) (hK:K (bS (valF ss es t)) (fM ks vs ks' vs')) :
 Q5 [mO,.va (.gs (aQ t))] (fM ks vs ks' vs') K:=⟨ss,es,t,ks,vs,ks',vs',rfl,rfl,h1,h2,h3,hK⟩
def jN (ss:List St) (es:List En) (t:St) (k:Nat):Int:=match t.fs[k]? with
 |some f=>bif decide (f.num<1)||decide (127<f.num) then 4 else bif decide (0<(k:Int))&&(match t.fs[k-1]? with|some g=>decide (f.num<=g.num)|none=>false) then 2 else
  bif !(cO (bl f.nm)) then 5 else bif (t.fs.take k).any (fun g=>decide (g.nm=f.nm)) then 7 else bif !(valF ss es f.ty) then 13 else 0
 |none=>0
def n7 (ss:List St) (es:List En) (t:St):Int:=fE (jN ss es t) (t.fs.length-0) 0
def aFP:W.Spec:=fun av H K=>∃(ss:List St) (es:List En) (t:St) (ks:List Value) (vs:List St) (ks':List Value) (vs':List En),av=[mO,.va (.gs (aH t))]/\H=fM ks vs ks' vs'/\
 kU ks vs ss/\DY ks' vs' es/\t.ok/\K (iS .i64 (n7 ss es t)) (fM ks vs ks' vs')
theorem aEX {ss:List St} {es:List En} {t:St} {ks:List Value} {vs:List St} {ks':List Value} {vs':List En} {K:S->Hp->Prop} (h1:kU ks vs ss) (h2:DY ks' vs' es) (h3:t.ok) (hK:K (iS .i64 (n7 ss es t)) (fM ks vs ks' vs')) :
 aFP [mO,.va (.gs (aH t))] (fM ks vs ks' vs') K:=⟨ss,es,t,ks,vs,ks',vs',rfl,rfl,h1,h2,h3,hK⟩
theorem j1 (f:Fl):[C.vl (.int .i64 f.ty.k),.vl (.int .i64 f.ty.s),.vl (.string f.ty.n),.fz (f.ty.e.map aQ)]=aQ f.ty:=(aR f.ty).symm
theorem GW:Meets Tryz.prog 72 aFP:=by
 refine aF Tryz.func72 aV0 2 (by rw[Tryz.ntmps72];decide) (aC aB4 (aG BT (aB _))) (fun av H K h=>by obtain ⟨_,_,_,_,_,_,_,rfl,_⟩:=h;rfl) ?_
 rintro av H K ⟨ss,es,t,ks,vs,ks',vs',rfl,rfl,h1,h2,h3,hK⟩
 have fin:∀(x:Int) (R:Hp),n7 ss es t=x->W.Fin 2 K (iS .i64 x) (.map .string ks (vs.map iG)::.map .string ks' (vs'.map iW)::R):=fun x R h=>by
  rw[h] at hK
  exact .sel [0,1] (by simp) (by simp) rfl (.done (by simp -dsimp only[go_sem];simpa using hK))
 obtain ⟨_,hl,hfs⟩:=h3
 simp -dsimp only[go_sem,aH,aDS,aJQ]
 refine aL (α:=Nat) (fun i=>[(2,.va (.c1 (.pt 2 0))),(3,.va (.c1 (.pt 3 0))),(10,.va (.c1 (.fz (t.fs.map aS)))),(11,iS .i64 t.fs.length),(12,iS .i64 i)]) (fun _=>[.map .string ks (vs.map iG),.map .string ks' (vs'.map iW),.cells [.mp 0,.mp 1] 124,.cells (aH t) 48])
  (fun i=>i<=t.fs.length/\fE (jN ss es t) (t.fs.length-i) i=n7 ss es t) (fun i=>t.fs.length-i) 0 4 ⟨Nat.zero_le _,rfl⟩ ?_ ?_ ?_
 · simp -dsimp only[go_sem]<;>simp
 · simp -dsimp only[go_sem,aH]<;>simp
 rintro i ⟨hi,ho⟩
 rcases bB i t.fs.length with hlt|hge
 · have hg:decide ((i:Int)<(t.fs.length:Int))=true:=by simp;omega
   obtain ⟨f,hx⟩:∃nm,t.fs[i]? = some nm:=⟨_,aU hlt⟩
   have q1:=aT (row:=aS) hx
   have hf:f.ok:=hfs f (bY hx)
   have hA:jN ss es t i=bif decide (f.num<1)||decide (127<f.num) then (4:Int) else bif decide (0<(i:Int))&&(match t.fs[i-1]? with|some g=>decide (f.num<=g.num)|none=>false) then 2 else
    bif !(cO (bl f.nm)) then 5 else bif (t.fs.take i).any (fun g=>decide (g.nm=f.nm)) then 7 else bif !(valF ss es f.ty) then 13 else 0:=by
    unfold jN;rw[hx]
   have fin':∀(x:Int) (R:Hp),jN ss es t i=x->x≠0->W.Fin 2 K (iS .i64 x) (.map .string ks (vs.map iG)::.map .string ks' (vs'.map iW)::R):=fun x R h1 h2=>fin x R (by
    rw[<-ho,kQ hlt (by rw[h1];exact h2),h1])
   have dM:jN ss es t i=0->fE (jN ss es t) (t.fs.length-(i+1)) (i+1)=n7 ss es t:=fun h1=>by rw[<-ho,mS hlt h1]
   cases c1:(decide (f.num<1)||decide (127<f.num)) with
   |true=>
    rw[c1] at hA
    simp(maxSteps:=9^6)-dsimp only[go_sem,hg,↓q1,aS,aH,c1]
    and_intros
    all_goals first
     |omega
     |exact fin' 4 _ hA (by decide)
   |false=>
    rw[c1] at hA
    simp only[a8] at hA
    rcases Nat.eq_zero_or_pos i with h0|h0
    · have g1:decide (0<(i:Int))=false:=by simp;omega
      rw[g1] at hA
      simp only[Bool.false_and,a8] at hA
      cases c3:cO (bl f.nm) with
      |false=>
       rw[c3] at hA
       simp(maxSteps:=9^6)-dsimp only[go_sem,hg,↓q1,aS,aH,c1,c3,g1]
       and_intros
       all_goals first
        |omega
        |exact fin' 5 _ hA (by decide)
        |trace_state
      |true=>
       rw[c3] at hA
       simp only[Bool.not_true,a8] at hA
       simp(maxSteps:=9^6)-dsimp only[go_sem,hg,↓q1,aS,aH,c1,c3,g1,gA,gE M6]
       and_intros
       all_goals first
        |omega
        |skip
       have hlj:=nR t.fs i
       generalize hm:t.fs.take i=m at *
       refine aL (α:=Nat) (fun j=>[(2,.va (.c1 (.pt 2 0))),(3,.va (.c1 (.pt 3 0))),(6,.va (.c1 (.pt 4 0))),(10,.va (.c1 (.fz (t.fs.map aS)))),(11,iS .i64 t.fs.length),(12,iS .i64 i),(49,.va (.c1 (.fz (m.map aS)))),(50,iS .i64 m.length),(51,iS .i64 j)])
        (fun _=>[.map .string ks (vs.map iG),.map .string ks' (vs'.map iW),.cells [.mp 0,.mp 1] 124,.cells (aH t) 48,.cells (aS f) 52])
        (fun j=>j<=m.length/\(m.drop j).any (fun g=>decide (g.nm=f.nm))=m.any (fun g=>decide (g.nm=f.nm))) (fun j=>m.length-j) 0 5 ⟨Nat.zero_le _,rfl⟩ ?_ ?_ ?_
       · simp -dsimp only[go_sem]<;>simp
       · simp -dsimp only[go_sem,aH,aS]<;>simp
       rintro j ⟨hj,ho2⟩
       rcases bB j m.length with hjt|hjg
       · have hgj:decide ((j:Int)<(m.length:Int))=true:=by simp;omega
         obtain ⟨d,hd⟩:∃e,m[j]? = some e:=⟨_,aU hjt⟩
         have q5:=aT (row:=aS) hd
         rw[cL hd] at ho2
         simp(maxSteps:=9^6)-dsimp only[go_sem,hgj,↓q5,aS,aH,cN]
         and_intros
         all_goals first
          |omega
          |skip
         · intro hc
           rw[hc,Bool.true_or] at ho2
           rw[<-ho2] at hA
           exact fin' 7 _ hA (by decide)
         · intro hc
           rw[hc,Bool.false_or] at ho2
           refine ⟨by omega,aE (j+1) 5 ⟨by omega,ho2⟩ (by omega) ?_ ?_⟩
           · simp -dsimp only[go_sem]<;>simp
           · simp -dsimp only[go_sem,aH,aS]<;>simp
       · have hgj:decide ((j:Int)<(m.length:Int))=false:=by simp;omega
         obtain rfl:j=m.length:=by omega
         rw[eH] at ho2
         rw[<-ho2] at hA
         simp only[a8] at hA
         simp(maxSteps:=9^6)-dsimp only[go_sem,hgj,aS,aH,j1]
         refine IU h1 h2 hf.ty ?_
         cases c5:valF ss es f.ty with
         |true=>
          rw[c5] at hA
          simp(maxSteps:=9^6)-dsimp only[go_sem]
          refine ⟨by omega,aE (i+1) 4 ⟨by omega,dM hA⟩ (by omega) ?_ ?_⟩
          · simp -dsimp only[go_sem]<;>simp
          · simp -dsimp only[go_sem,aH]<;>simp
         |false=>
          rw[c5] at hA
          simp(maxSteps:=9^6)-dsimp only[go_sem]
          exact fin' 13 _ hA (by decide)
    · have g1:decide (0<(i:Int))=true:=by simp;omega
      obtain ⟨g,hy⟩:∃m,t.fs[i-1]? = some m:=⟨_,aU (by omega)⟩
      have q4:((i:Int)-1).toNat=i-1:=by omega
      rw[g1,hy,Bool.true_and] at hA
      simp only at hA
      cases c2:decide (f.num<=g.num) with
      |true=>
       rw[c2] at hA
       simp(maxSteps:=9^6)-dsimp only[go_sem,hg,↓q1,aS,aH,c1,g1,q4,hy,aI,forall_eq',c2]
       and_intros
       all_goals first
        |omega
        |exact fin' 2 _ hA (by decide)
        |trace_state
      |false=>
       rw[c2] at hA
       simp only[a8] at hA
       cases c3:cO (bl f.nm) with
       |false=>
        rw[c3] at hA
        simp(maxSteps:=9^6)-dsimp only[go_sem,hg,↓q1,aS,aH,c1,c3,g1,q4,hy,aI,forall_eq',c2]
        and_intros
        all_goals first
         |omega
         |exact fin' 5 _ hA (by decide)
         |trace_state
       |true=>
        rw[c3] at hA
        simp only[Bool.not_true,a8] at hA
        simp(maxSteps:=9^6)-dsimp only[go_sem,hg,↓q1,aS,aH,c1,c3,g1,q4,hy,aI,forall_eq',c2,gA,gE M6]
        and_intros
        all_goals first
         |omega
         |skip
        have hlj:=nR t.fs i
        generalize hm:t.fs.take i=m at *
        refine aL (α:=Nat) (fun j=>[(2,.va (.c1 (.pt 2 0))),(3,.va (.c1 (.pt 3 0))),(6,.va (.c1 (.pt 4 0))),(10,.va (.c1 (.fz (t.fs.map aS)))),(11,iS .i64 t.fs.length),(12,iS .i64 i),(49,.va (.c1 (.fz (m.map aS)))),(50,iS .i64 m.length),(51,iS .i64 j)])
         (fun _=>[.map .string ks (vs.map iG),.map .string ks' (vs'.map iW),.cells [.mp 0,.mp 1] 124,.cells (aH t) 48,.cells (aS f) 52])
         (fun j=>j<=m.length/\(m.drop j).any (fun g=>decide (g.nm=f.nm))=m.any (fun g=>decide (g.nm=f.nm))) (fun j=>m.length-j) 0 5 ⟨Nat.zero_le _,rfl⟩ ?_ ?_ ?_
        · simp -dsimp only[go_sem]<;>simp
        · simp -dsimp only[go_sem,aH,aS]<;>simp
        rintro j ⟨hj,ho2⟩
        rcases bB j m.length with hjt|hjg
        · have hgj:decide ((j:Int)<(m.length:Int))=true:=by simp;omega
          obtain ⟨d,hd⟩:∃e,m[j]? = some e:=⟨_,aU hjt⟩
          have q5:=aT (row:=aS) hd
          rw[cL hd] at ho2
          simp(maxSteps:=9^6)-dsimp only[go_sem,hgj,↓q5,aS,aH,cN]
          and_intros
          all_goals first
           |omega
           |skip
          · intro hc
            rw[hc,Bool.true_or] at ho2
            rw[<-ho2] at hA
            exact fin' 7 _ hA (by decide)
          · intro hc
            rw[hc,Bool.false_or] at ho2
            refine ⟨by omega,aE (j+1) 5 ⟨by omega,ho2⟩ (by omega) ?_ ?_⟩
            · simp -dsimp only[go_sem]<;>simp
            · simp -dsimp only[go_sem,aH,aS]<;>simp
        · have hgj:decide ((j:Int)<(m.length:Int))=false:=by simp;omega
          obtain rfl:j=m.length:=by omega
          rw[eH] at ho2
          rw[<-ho2] at hA
          simp only[a8] at hA
          simp(maxSteps:=9^6)-dsimp only[go_sem,hgj,aS,aH,j1]
          refine IU h1 h2 hf.ty ?_
          cases c5:valF ss es f.ty with
          |true=>
           rw[c5] at hA
           simp(maxSteps:=9^6)-dsimp only[go_sem]
           refine ⟨by omega,aE (i+1) 4 ⟨by omega,dM hA⟩ (by omega) ?_ ?_⟩
           · simp -dsimp only[go_sem]<;>simp
           · simp -dsimp only[go_sem,aH]<;>simp
          |false=>
           rw[c5] at hA
           simp(maxSteps:=9^6)-dsimp only[go_sem]
           exact fin' 13 _ hA (by decide)
 · have hg:decide ((i:Int)<(t.fs.length:Int))=false:=by simp;omega
   obtain rfl:i=t.fs.length:=by omega
   rw[mC] at ho
   simp -dsimp only[go_sem,hg,aH]
   exact fin 0 _ ho.symm
abbrev gJ (ns:List ByteArray):List Value:=ns.map Value.string
def gZ:List ByteArray->ByteArray->Option Nat
 |[],_=>none
 |k::ks,q=>bif decide (q=k) then some 0 else (gZ ks q).map (· + 1)
theorem R7 (a b:ByteArray):z6 (.string a) (.string b)=decide (a=b):=by
 rw[Bool.eq_iff_iff,DZ (d:=.string) (by simp[MapKept.IsKey]) (by simp[MapKept.IsKey])];simp
theorem j9 (q:ByteArray):∀ns:List ByteArray,hZ (gJ ns) (.string q)=gZ ns q
 |[]=>rfl
 |k::ks=>by
  have:=j9 q ks
  simp only[gJ,List.map_cons,hZ,gZ,R7] at this ⊢
  rw[this]
theorem l5 {q:ByteArray}:∀{ns:List ByteArray} {i:Nat},gZ ns q=some i->ns[i]? = some q/\i<ns.length
 |[],_,h=>by cases h
 |k::ks,i,h=>by
  simp only[gZ] at h
  by_cases hk:q=k
  · simp[hk] at h;subst h;simp[hk]
  · simp[hk] at h
    obtain ⟨j,h1,rfl⟩:=h
    have:=l5 h1
    simpa using this
theorem SN (ns:List ByteArray) (q n:ByteArray):gZ (ns++[q]) n=match gZ ns n with|some i=>some i|none=>bif decide (n=q) then some ns.length else none:=by
 induction ns with
 |nil=>simp only[List.nil_append,gZ,List.length_nil,Option.map_none]
 |cons k ks ih=>
  simp only[List.cons_append,gZ,ih]
  by_cases hk:n=k
  · simp[hk]
  · simp only[hk,decide_false,cond_false]
    cases gZ ks n with
    |some i=>rfl
    |none=>by_cases hq:n=q<;>simp[hq]
theorem pU {α:Type} (row:α->A) (ns:List ByteArray) (l:List α) (n:ByteArray):fN (gJ ns) (l.map row) (.string n)=(gZ ns n).bind fun i=>(l[i]?).map row:=by
 unfold fN;rw[j9];simp only[List.getElem?_map]
theorem IQ {α:Type} (row:α->A) {ns:List ByteArray} {l:List α} (h:ns.length=l.length) (q:ByteArray) (x:α):∃(ns':List ByteArray) (l':List α),iE (gJ ns) (.string q)=gJ ns'/\jA (gJ ns) (l.map row) (.string q) (row x)=l'.map row/\
 ns'.length=l'.length/\∀n,fN (gJ ns') (l'.map row) (.string n)=bif decide (n=q) then some (row x) else fN (gJ ns) (l.map row) (.string n):=by
 cases hm:gZ ns q with
 |none=>
  refine ⟨ns++[q],l++[x],?_,?_,by simp[h],fun n=>?_⟩
  · unfold iE;rw[j9,hm];simp
  · unfold jA;rw[j9,hm];simp
  · rw[pU,pU,SN]
    by_cases hn:n=q
    · subst hn;rw[hm];simp[h]
    · simp only[hn,decide_false,cond_false]
      cases hs:gZ ns n with
      |none=>rfl
      |some i=>have:=(l5 hs).2;simp[List.getElem?_append_left (show i<l.length by omega)]
 |some i=>
  obtain ⟨h1,h2⟩:=l5 hm
  refine ⟨ns,l.set i x,?_,?_,by simp[h],fun n=>?_⟩
  · unfold iE;rw[j9,hm]
  · unfold jA;rw[j9,hm];simp only[List.map_set]
  · rw[pU,pU]
    by_cases hn:n=q
    · subst hn;rw[hm];simp[show i<l.length by omega]
    · simp only[hn,decide_false,cond_false]
      cases hs:gZ ns n with
      |none=>rfl
      |some j=>
       have hj:=l5 hs
       have:i≠j:=fun e=>hn (by subst e;rw[h1] at hj;exact (cI hj.1).symm)
       simp[List.getElem?_set,this]
theorem aCP {ss:List St} {k:Nat} {x:St} (hx:ss[k]? = some x) (n:ByteArray):fS (ss.drop k) n=bif decide (n=x.nm) then some x else fS (ss.drop (k+1)) n:=by
 obtain ⟨h,rfl⟩:=bJ.1 hx
 rw[List.drop_eq_getElem_cons h]
 unfold fS
 rw[List.find?_cons]
 by_cases hn:n=ss[k].nm
 · simp[hn]
 · simp[hn,show ¬ ss[k].nm=n from fun e=>hn e.symm]
theorem TN {ss:List En} {k:Nat} {x:En} (hx:ss[k]? = some x) (n:ByteArray):d8 (ss.drop k) n=bif decide (n=x.nm) then some x else d8 (ss.drop (k+1)) n:=by
 obtain ⟨h,rfl⟩:=bJ.1 hx
 rw[List.drop_eq_getElem_cons h]
 unfold d8
 rw[List.find?_cons]
 by_cases hn:n=ss[k].nm
 · simp[hn]
 · simp[hn,show ¬ ss[k].nm=n from fun e=>hn e.symm]
def aKG:W.Spec:=fun av H K=>∃s:Sc,av=[.va (.gs (aD s))]/\H=[]/\s.ok/\∀ks vs ks' vs',kU ks vs s.ss->DY ks' vs' s.es->K mO (fM ks vs ks' vs')
theorem aKF {s:Sc} {K:S->Hp->Prop} (h:s.ok) (hK:∀ks vs ks' vs',kU ks vs s.ss->DY ks' vs' s.es->K mO (fM ks vs ks' vs')):aKG [.va (.gs (aD s))] [] K:=⟨s,rfl,rfl,h,hK⟩
abbrev nm2:B:=.cells [.vl (.map none),.vl (.map none)] 124
theorem S4:Meets Tryz.prog 70 aKG:=by
 refine aF Tryz.func70 aTK 1 (by rw[Tryz.ntmps70];decide) (aB _) (fun av H K h=>by obtain ⟨_,rfl,_⟩:=h;rfl) ?_
 rintro av H K ⟨s,rfl,rfl,hs,hK⟩
 obtain ⟨_,hle,hls,_,_⟩:=hs
 simp -dsimp only[go_sem,aD,aKL,aI8]
 refine ⟨by omega,aL (α:=Nat×List ByteArray×List St) (fun z=>[(1,.va (.c1 (.pt 0 0))),(2,.va (.c1 (.pt 1 0))),(3,.va (.c1 (.pt 4 0))),(4,iS .i64 ((z.1:Int)-1))]) (fun z=>[.cells (aD s) 25,nm2,.map .string (gJ z.2.1) (z.2.2.map iG),.map .string [] [],.cells [.mp 2,.mp 3] 124])
  (fun z=>z.1<=s.ss.length/\z.2.1.length=z.2.2.length/\∀n,fN (gJ z.2.1) (z.2.2.map iG) (.string n)=(fS (s.ss.drop z.1) n).map iG) (fun z=>z.1) (s.ss.length,[],[]) 5 ⟨Nat.le_refl _,rfl,fun n=>by rw[List.drop_length];rfl⟩ ?_ ?_ ?_⟩
 · simp -dsimp only[go_sem]<;>simp
 · simp -dsimp only[go_sem,aD]<;>simp
 rintro ⟨m,ns,l⟩ ⟨hm,hnl,hg⟩
 simp only at hm hnl hg ⊢
 cases m with
 |zero=>
  have e0:decide (0<=((0:Nat):Int)-1)=false:=rfl
  rw[List.drop_zero] at hg
  simp -dsimp only[go_sem,aD,e0]
  refine ⟨by omega,aL (α:=Nat×List ByteArray×List En) (fun z=>[(1,.va (.c1 (.pt 0 0))),(2,.va (.c1 (.pt 1 0))),(3,.va (.c1 (.pt 4 0))),(5,iS .i64 ((z.1:Int)-1))]) (fun z=>[.cells (aD s) 25,nm2,.map .string (gJ ns) (l.map iG),.map .string (gJ z.2.1) (z.2.2.map iW),.cells [.mp 2,.mp 3] 124])
   (fun z=>z.1<=s.es.length/\z.2.1.length=z.2.2.length/\∀n,fN (gJ z.2.1) (z.2.2.map iW) (.string n)=(d8 (s.es.drop z.1) n).map iW) (fun z=>z.1) (s.es.length,[],[]) 5 ⟨Nat.le_refl _,rfl,fun n=>by rw[List.drop_length];rfl⟩ ?_ ?_ ?_⟩
  · simp -dsimp only[go_sem]<;>simp
  · simp -dsimp only[go_sem,aD]<;>simp
  clear hnl hm
  rintro ⟨m,ms,j⟩ ⟨hm,hnl,hge⟩
  simp only at hm hnl hge ⊢
  cases m with
  |zero=>
   rw[List.drop_zero] at hge
   simp -dsimp only[go_sem,aD,e0]
   exact .sel [2,3] (by simp) (by simp) rfl (.done (by simp -dsimp only[go_sem];simpa[go_sem] using hK (gJ ns) l (gJ ms) j hg hge))
  |succ k=>
   obtain ⟨x,hx⟩:∃x,s.es[k]? = some x:=⟨_,aU (by omega)⟩
   have q2:=aT (row:=aZ) hx
   have e1:((k+1:Nat):Int)-1=(k:Int):=by omega
   have e2:decide (0<=(k:Int))=true:=by simp
   obtain ⟨ns',l',p1,p2,p3,p4⟩:=IQ iW hnl x.nm x
   simp -dsimp only[go_sem,aD,e1,e2,↓q2,aZ]
   refine ⟨by omega,by omega,by omega,aE (k,ns',l') 5 ⟨by simp only;omega,p3,fun n=>?_⟩ (Nat.lt_succ_self _) ?_ ?_⟩
   · simp only;rw[p4,TN hx,hge];cases decide (n=x.nm)<;>rfl
   · simp -dsimp only[go_sem]<;>simp
   · simp -dsimp only[go_sem,aD,p1]<;>simp
     exact (congrArg (List.map (A.ren (kY 5))) p2).trans (aC8 _ _)
 |succ k=>
  obtain ⟨x,hx⟩:∃x,s.ss[k]? = some x:=⟨_,aU (by omega)⟩
  have q2:=aT (row:=aH) hx
  have e1:((k+1:Nat):Int)-1=(k:Int):=by omega
  have e2:decide (0<=(k:Int))=true:=by simp
  obtain ⟨ns',l',p1,p2,p3,p4⟩:=IQ iG hnl x.nm x
  simp -dsimp only[go_sem,aD,e1,e2,↓q2,aH]
  refine ⟨by omega,by omega,by omega,aE (k,ns',l') 5 ⟨by simp only;omega,p3,fun n=>?_⟩ (Nat.lt_succ_self _) ?_ ?_⟩
  · simp only;rw[p4,aCP hx,hg];cases decide (n=x.nm)<;>rfl
  · simp -dsimp only[go_sem]<;>simp
  · simp -dsimp only[go_sem,aD,p1]<;>simp
    exact (congrArg (List.map (A.ren (kY 5))) p2).trans (aCO _ _)
mutual
def eG:Ty->Ty
 |.mk k s n e=>bif k==5 then HN e (.mk k s n e) else .mk k s n e
def HN:List Ty->Ty->Ty
 |[],d=>d
 |u::r,d=>bif r.isEmpty then eG u else d
end
def bQ (t:Ty):Bool:=(eG t).k==6||(eG t).k==7
def bK (t:Ty):ByteArray:=(eG t).n
theorem tN {s:Int} {n:ByteArray} {u:Ty}:eG (.mk 5 s n [u])=eG u:=by simp[eG,HN]
theorem qP {k s:Int} {n:ByteArray} {e:List Ty} (h:(k==5&&(e.length:Int)==1)=false):eG (.mk k s n e)=.mk k s n e:=by
 rw[eG]
 cases hk:k==5 with
 |false=>rfl
 |true=>
  rw[hk,Bool.true_and] at h
  match e,h with
  |[],_=>rfl
  |[u],h=>simp at h
  |u::v::r,_=>simp[HN]
def N0:W.Spec:=fun av H K=>match av,H with
 |[.va (.gs r)],[]=>iO r/\K (.tu [.c1 (.vl (.string (bK (C.ty r)))),bA (bQ (C.ty r))]) []
 |_,_=>False
theorem EG {av:List S} {H:Hp} {K:S->Hp->Prop} (h:N0 av H K):∃t:Ty,av=[.va (.gs (aQ t))]/\H=[]/\TyOk t/\K (.tu [.c1 (.vl (.string (bK t))),bA (bQ t)]) []:=by
 unfold N0 at h
 split at h
 · obtain ⟨⟨t,rfl,ht⟩,hK⟩:=h
   rw[g4] at hK
   exact ⟨t,rfl,rfl,ht,hK⟩
 · exact h.elim
attribute [go_sem ↓] N0
theorem uK (t:Ty):∀c∈aQ t,c.one:=by rw[aR];simp[go_sem]
theorem aKA:Meets Tryz.prog 144 N0:=by
 refine aF Tryz.func144 aLA 1 (by rw[Tryz.ntmps144];decide) (aB _) (fun av H K h=>by obtain ⟨_,rfl,_⟩:=EG h;rfl) ?_
 intro av H K h
 obtain ⟨t,rfl,rfl,ht,hK⟩:=EG h
 simp -dsimp only[go_sem,WG,VG]
 refine aL (α:=Ty) (fun z=>[(1,.va (.c1 (.pt 0 0)))]) (fun z=>[.cells (aQ z) 42]) (fun z=>eG z=eG t) (fun z=>z.h) t 1 rfl ?_ ?_ ?_
 · simp -dsimp only[go_sem]<;>simp
 · simp -dsimp only[go_sem]<;>simp
 intro z hz
 cases z with
 |mk k s n e=>
 cases hc:(k==5&&(e.length:Int)==1) with
 |true=>
  simp only[Bool.and_eq_true,beq_iff_eq] at hc
  obtain ⟨rfl,hl⟩:=hc
  obtain ⟨u,rfl⟩:∃u,e=[u]:=List.length_eq_one_iff.1 (by omega)
  rw[tN] at hz
  simp -dsimp only[go_sem,aQ,aY]
  refine ⟨fun _=>⟨⟨by omega,fun r hr=>by subst hr;exact dE u⟩,fun r hr=>?_⟩,fun h=>by simp at h⟩
  subst hr
  simp -dsimp only[go_sem,dE]
  refine ⟨uK u,aE u 1 hz (by simp only[Ty.h,Ty.hs];omega) ?_ ?_⟩
  · simp -dsimp only[go_sem]<;>simp
  · simp -dsimp only[go_sem]<;>simp
 |false=>
  rw[qP hc] at hz
  simp -dsimp only[go_sem,aQ,aY,hc]
  rw[bK,bQ,<-hz] at hK
  exact .z ((by simpa[go_sem,Ty.n,Ty.k] using hK))
abbrev EF:ByteArray->A:=fun _=>.c1 (.vl (.bool true))
@[go_sem] theorem aXP (f:Nat->Option Nat) (l:List ByteArray):(l.map EF).map (A.ren f)=l.map EF:=by rw[List.map_map];rfl
@[go_sem] theorem aYF (n:Nat) (xs:List (List C)) (l:List ByteArray):(l.map EF).map (A.pub n xs)=l.map EF:=by rw[List.map_map];rfl
def bM (go:St->List ByteArray->List ByteArray) (ss:List St) (o:List ByteArray) (f:Fl):List ByteArray:=
 bif !(bQ f.ty)||bW o (bK f.ty) then o else match fS ss (bK f.ty) with
  |some t=>go t (o++[bK f.ty])
  |none=>o++[bK f.ty]
def b8 (ss:List St):Nat->St->List ByteArray->List ByteArray
 |0,_,o=>o
 |N+1,t,o=>t.fs.foldl (bM (b8 ss N) ss) o
theorem rR (n:ByteArray):∀ns:List ByteArray,(gZ ns n).isSome=bW ns n
 |[]=>rfl
 |k::ks=>by
  have:=rR n ks
  unfold bW at this
  simp only[gZ,bW,List.any_cons]
  by_cases h:n=k
  · simp[h]
  · simp[h,this]
theorem aA1 (o:List ByteArray) (n:ByteArray):fN (gJ o) (o.map EF) (.string n)=bif bW o n then some (.c1 (.vl (.bool true))) else none:=by
 rw[pU,<-rR]
 cases h:gZ o n with
 |none=>rfl
 |some i=>simp[aU (l5 h).2]
theorem T5 {o:List ByteArray} {n:ByteArray} (h:bW o n=false):iE (gJ o) (.string n)=gJ (o++[n]):=by
 rw[<-rR] at h
 unfold iE;rw[j9]
 cases h2:gZ o n with
 |none=>simp
 |some i=>rw[h2] at h;cases h
theorem TH {o:List ByteArray} {n:ByteArray} (h:bW o n=false):jA (gJ o) (o.map EF) (.string n) (.c1 (.vl (.bool true)))=(o++[n]).map EF:=by
 rw[<-rR] at h
 unfold jA;rw[j9]
 cases h2:gZ o n with
 |none=>simp
 |some i=>rw[h2] at h;cases h
def fresh:List St->List ByteArray->Nat
 |[],_=>0
 |s::ss,o=>(bif bW o s.nm then 0 else 1)+fresh ss o
theorem L5 (o p:List ByteArray) (n:ByteArray):bW (o++p) n=(bW o n||bW p n):=by simp[bW]
theorem oM (o p:List ByteArray):∀ss:List St,fresh ss (o++p)<=fresh ss o
 |[]=>Nat.le_refl _
 |s::ss=>by
  have:=oM o p ss
  simp only[fresh,L5]
  cases bW o s.nm<;>cases bW p s.nm<;>simp only[Bool.or_true,Bool.or_false,bE,a8]<;>omega
theorem yZ {o:List ByteArray} {n:ByteArray} {t:St} (hn:bW o n=false):∀{ss:List St},fS ss n=some t->fresh ss (o++[n])<fresh ss o
 |[],h=>by cases h
 |s::ss,h=>by
  unfold fS at h
  rw[List.find?_cons] at h
  simp only[fresh,L5]
  by_cases hs:s.nm=n
  · have h1:=oM o [n] ss
    have h2:bW [n] s.nm=true:=by simp[bW,hs]
    have h3:bW o s.nm=false:=by rw[hs];exact hn
    rw[h2,h3];simp only[Bool.or_true,bE,a8];omega
  · simp only[hs,decide_false] at h
    have:=yZ hn h
    have h2:bW [n] s.nm=false:=by simp[bW,hs]
    rw[h2,Bool.or_false]
    omega
def Pfx (o p:List ByteArray):Prop:=∃q,p=o++q
theorem Pfx.refl (o:List ByteArray):Pfx o o:=⟨[],by simp⟩
theorem Pfx.trans {a b c:List ByteArray} (h:Pfx a b) (k:Pfx b c):Pfx a c:=by
 obtain ⟨p,rfl⟩:=h;obtain ⟨q,rfl⟩:=k;exact ⟨p++q,by simp⟩
theorem Pfx.len {a b:List ByteArray} (h:Pfx a b):a.length<=b.length:=by obtain ⟨p,rfl⟩:=h;simp
theorem Pfx.fresh {ss:List St} {a b:List ByteArray} (h:Pfx a b):fresh ss b<=fresh ss a:=by obtain ⟨p,rfl⟩:=h;exact oM _ _ _
theorem oO {go:St->List ByteArray->List ByteArray} (hg:∀t o,Pfx o (go t o)) (ss:List St) (o:List ByteArray) (f:Fl):Pfx o (bM go ss o f):=by
 unfold bM
 cases !(bQ f.ty)||bW o (bK f.ty) with
 |true=>exact .refl _
 |false=>
  cases fS ss (bK f.ty) with
  |none=>exact ⟨_,rfl⟩
  |some t=>exact Pfx.trans ⟨_,rfl⟩ (hg _ _)
theorem rA {g:List ByteArray->Fl->List ByteArray} (hg:∀o f,Pfx o (g o f)):∀(l:List Fl) (o:List ByteArray),Pfx o (l.foldl g o)
 |[],_o=>.refl _
 |f::l,o=>(hg o f).trans (rA hg l _)
theorem lC (ss:List St):∀(N:Nat) (t:St) (o:List ByteArray),Pfx o (b8 ss N t o)
 |0,_,_o=>.refl _
 |N+1,t,o=>rA (fun o f=>oO (lC ss N) ss o f) t.fs o
abbrev IP (ks:List Value) (vs:List St) (ks':List Value) (vs':List En) (o:List ByteArray):Hp:=
 [.map .string ks (vs.map iG),.map .string ks' (vs'.map iW),.cells [.mp 0,.mp 1] 124,.map .string (gJ o) (o.map EF),.cells [.mp 3] 187,.cells [.sl 7 o.length] 116,.cells [.fn 143 [(false,[.pt 4 0]),(false,[.pt 5 0]),(false,[.pt 2 0]),(false,[.pt 6 0])]] 188,.row (o.map bF) 9 1]
def V1 (N:Nat):W.Spec:=fun av H K=>∃(ss:List St) (t:St) (ks:List Value) (vs:List St) (ks':List Value) (vs':List En) (o:List ByteArray),av=[.va (.gs (aH t)),.va (.c1 (.pt 4 0)),.va (.c1 (.pt 5 0)),.va (.c1 (.pt 2 0)),.va (.c1 (.pt 6 0))]/\H=IP ks vs ks' vs' o/\
 kU ks vs ss/\(∀s∈ss,s.ok)/\t.ok/\fresh ss o<N/\(b8 ss N t o).length<=1000000000/\K (.tu []) (IP ks vs ks' vs' (b8 ss N t o))
theorem CK {N:Nat} {ss:List St} {t:St} {ks:List Value} {vs:List St} {ks':List Value} {vs':List En} {o:List ByteArray} {K:S->Hp->Prop} {H:Hp} (hH:H=IP ks vs ks' vs' o) (h1:kU ks vs ss) (h2:∀s∈ss,s.ok) (h3:t.ok) (h4:fresh ss o<N) (h5:(b8 ss N t o).length<=1000000000) (hK:K (.tu []) (IP ks vs ks' vs' (b8 ss N t o))) :
 V1 N [.va (.gs (aH t)),.va (.c1 (.pt 4 0)),.va (.c1 (.pt 5 0)),.va (.c1 (.pt 2 0)),.va (.c1 (.pt 6 0))] H K:=⟨ss,t,ks,vs,ks',vs',o,rfl,hH,h1,h2,h3,h4,h5,hK⟩
theorem O3 {g:List ByteArray->Fl->List ByteArray} {l:List Fl} {i:Nat} {f:Fl} (hx:l[i]? = some f) (o:List ByteArray):(l.drop i).foldl g o=(l.drop (i+1)).foldl g (g o f):=by
 obtain ⟨h,rfl⟩:=bJ.1 hx
 rw[List.drop_eq_getElem_cons h];rfl
theorem Q7:∀N,Meets Tryz.prog 143 (V1 N)
 |0=>⟨by kernel_rfl,by rintro xs vs E ro w K _ _ _ ⟨_,_,_,_,_,_,_,_,_,_,_,_,h,_⟩;exact absurd h (Nat.not_lt_zero _)⟩
 |N+1=>by
  refine aF Tryz.func143 aLZ 5 (by rw[Tryz.ntmps143];decide) (aC (Q7 N) (aC aKA (aB _))) (fun av H K h=>by obtain ⟨_,_,_,_,_,_,_,rfl,_⟩:=h;rfl) ?_
  rintro av H K ⟨ss,t,ks,vs,ks',vs',o0,rfl,rfl,h1,h2,h3,h4,h5,hK⟩
  obtain ⟨_,hl,hfs⟩:=h3
  simp -dsimp only[go_sem,aH,V5,W5]
  refine aL (α:=Nat×List ByteArray) (fun z=>[(1,.va (.c1 (.pt 4 0))),(2,.va (.c1 (.pt 5 0))),(3,.va (.c1 (.pt 2 0))),(4,.va (.c1 (.pt 6 0))),(13,.va (.c1 (.fz (t.fs.map aS)))),(14,iS .i64 t.fs.length),(15,iS .i64 z.1)]) (fun z=>IP ks vs ks' vs' z.2)
   (fun z=>z.1<=t.fs.length/\(t.fs.drop z.1).foldl (bM (b8 ss N) ss) z.2=b8 ss (N+1) t o0/\fresh ss z.2<N+1) (fun z=>t.fs.length-z.1) (0,o0) 8 ⟨Nat.zero_le _,rfl,h4⟩ ?_ ?_ ?_
  · simp -dsimp only[go_sem]<;>simp
  · simp -dsimp only[go_sem]<;>simp
  rintro ⟨i,o⟩ ⟨hi,ho,hfr⟩
  simp only at hi ho hfr ⊢
  rcases bB i t.fs.length with hlt|hge
  · have hg:decide ((i:Int)<(t.fs.length:Int))=true:=by simp;omega
    obtain ⟨f,hx⟩:∃nm,t.fs[i]? = some nm:=⟨_,aU hlt⟩
    have q1:=aT (row:=aS) hx
    have hf:f.ok:=hfs f (bY hx)
    rw[O3 hx] at ho
    have ht:iO (aQ f.ty):=fQ hf.ty
    cases c1:bQ f.ty with
    |false=>
     simp(maxSteps:=9^6)-dsimp only[go_sem,hg,↓q1,aS,j1,ht,c1]
     have hv:bM (b8 ss N) ss o f=o:=by unfold bM;rw[c1];rfl
     rw[hv] at ho
     refine ⟨by omega,by omega,aE (i+1,o) 8 ⟨by simp only;omega,ho,hfr⟩ (by simp only;omega) ?_ ?_⟩
     · simp -dsimp only[go_sem]<;>simp
     · simp -dsimp only[go_sem]<;>simp
    |true=>
    have hm:=aA1 o (bK f.ty)
    cases c2:bW o (bK f.ty) with
    |true=>
     have hv:bM (b8 ss N) ss o f=o:=by unfold bM;rw[c1,c2];rfl
     rw[hv] at ho
     rw[c2] at hm
     simp only[bE] at hm
     simp(maxSteps:=9^6)-dsimp only[go_sem,hg,↓q1,aS,j1,ht,c1,hm]
     refine ⟨by omega,by omega,aE (i+1,o) 8 ⟨by simp only;omega,ho,hfr⟩ (by simp only;omega) ?_ ?_⟩
     · simp -dsimp only[go_sem]<;>simp
     · simp -dsimp only[go_sem]<;>simp
    |false=>
     rw[c2] at hm
     simp only[a8] at hm
     have mk1:=T5 c2
     have mv1:=TH c2
     have hx1:=h1 (bK f.ty)
     have hb1:(bM (b8 ss N) ss o f).length<=1000000000:=by
      have:=(rA (fun o f=>oO (lC ss N) ss o f) (t.fs.drop (i+1)) (bM (b8 ss N) ss o f)).len
      rw[ho] at this;omega
     have hb:(o++[bK f.ty]).length<=1000000000:=by
      refine Nat.le_trans (Pfx.len ?_) hb1
      unfold bM;rw[c1,c2]
      cases fS ss (bK f.ty) with
      |none=>exact .refl _
      |some t=>exact lC _ _ _ _
     cases hs:fS ss (bK f.ty) with
     |none=>
      have hv:bM (b8 ss N) ss o f=o++[bK f.ty]:=by unfold bM;rw[c1,c2,hs];rfl
      rw[hv] at ho
      rw[hs] at hx1
      simp only[Option.map_none] at hx1
      simp(maxSteps:=9^6)-dsimp only[go_sem,hg,↓q1,aS,j1,ht,c1,hm,mk1,mv1,hx1]
      refine ⟨by omega,by simp at hb;omega,by omega,aE (i+1,o++[bK f.ty]) 8 ⟨by simp only;omega,ho,by have:=oM o [bK f.ty] ss;simp only;omega⟩ (by simp only;omega) ?_ ?_⟩
      · simp -dsimp only[go_sem]<;>simp
      · simp -dsimp only[go_sem]<;>simp
     |some d=>
      have hv:bM (b8 ss N) ss o f=b8 ss N d (o++[bK f.ty]):=by unfold bM;rw[c1,c2,hs];rfl
      rw[hv] at ho hb1
      rw[hs] at hx1
      simp only[Option.map_some] at hx1
      have hd:d.ok:=h2 d (List.mem_of_find?_eq_some hs)
      have hfl:=yZ c2 hs
      simp(maxSteps:=9^6)-dsimp only[go_sem,hg,↓q1,aS,j1,ht,c1,hm,mk1,mv1,hx1,aH]
      refine ⟨by omega,by simp at hb;omega,CK (o:=o++[bK f.ty]) (ks':=ks') (vs':=vs') (by simp[go_sem]) h1 h2 hd (by omega) hb1 ?_⟩
      simp(maxSteps:=9^6)-dsimp only[go_sem]
      refine ⟨by omega,aE (i+1,b8 ss N d (o++[bK f.ty])) 8 ⟨by simp only;omega,ho,by have:=(lC ss N d (o++[bK f.ty])).fresh (ss:=ss);simp only;omega⟩ (by simp only;omega) ?_ ?_⟩
      · simp -dsimp only[go_sem]<;>simp
      · simp -dsimp only[go_sem]<;>simp
  · have hg:decide ((i:Int)<(t.fs.length:Int))=false:=by simp;omega
    obtain rfl:i=t.fs.length:=by omega
    rw[List.drop_length] at ho
    simp only[List.foldl_nil] at ho
    simp -dsimp only[go_sem,hg]
    rw[<-ho] at hK
    exact .sel [0,1,2,3,4,5,6,7] (by simp) (by simp) rfl (.done (by simp -dsimp only[go_sem];simpa[go_sem] using hK))
end Go.Proofs.YthpbnmebjocbeaaGreat
namespace Go.Proofs
open Go.Shelf
def Tryz.lays190_ren:Go.Shelf.Ren:=⟨fun|190=>145|125=>159|258=>158|128=>171|129=>172|302=>162|303=>163|304=>164|305=>165|306=>166|307=>167|308=>168|309=>169|310=>170|333=>174|329=>175|330=>176|334=>177|335=>178|336=>179|344=>180|n=>n,fun|31=>116|9=>9|3=>3|46=>134|0=>0|51=>216|53=>83|4=>4|183=>209|182=>208|131=>193|5=>5|218=>218|222=>221|228=>223|229=>224|n=>n,fun|n=>n⟩
theorem Tryz.lays190:Go.Proofs.Lays.n190 Tryz.prog Tryz.lays190_ren:={
 mixed:=by kernel_rfl
 f125:=Tryz.func159.trans (congrArg some (by kernel_rfl))
 f128:=Tryz.func171.trans (congrArg some (by kernel_rfl))
 f129:=Tryz.func172.trans (congrArg some (by kernel_rfl))
 f190:=Tryz.func145.trans (congrArg some (by kernel_rfl))
 f258:=Tryz.func158.trans (congrArg some (by kernel_rfl))
 f302:=Tryz.func162.trans (congrArg some (by kernel_rfl))
 f303:=Tryz.func163.trans (congrArg some (by kernel_rfl))
 f304:=Tryz.func164.trans (congrArg some (by kernel_rfl))
 f305:=Tryz.func165.trans (congrArg some (by kernel_rfl))
 f306:=Tryz.func166.trans (congrArg some (by kernel_rfl))
 f307:=Tryz.func167.trans (congrArg some (by kernel_rfl))
 f308:=Tryz.func168.trans (congrArg some (by kernel_rfl))
 f309:=Tryz.func169.trans (congrArg some (by kernel_rfl))
 f310:=Tryz.func170.trans (congrArg some (by kernel_rfl))
 f329:=Tryz.func175.trans (congrArg some (by kernel_rfl))
 f330:=Tryz.func176.trans (congrArg some (by kernel_rfl))
 f333:=Tryz.func174.trans (congrArg some (by kernel_rfl))
 f334:=Tryz.func177.trans (congrArg some (by kernel_rfl))
 f335:=Tryz.func178.trans (congrArg some (by kernel_rfl))
 f336:=Tryz.func179.trans (congrArg some (by kernel_rfl))
 f344:=Tryz.func180.trans (congrArg some (by kernel_rfl))
 t0:=Tryz.underlying0
 a0:=Tryz.isAgg0
 z0:=Tryz.sizeOf0
 v0:=Tryz.zeroValue0
 t3:=Tryz.underlying3
 a3:=Tryz.isAgg3
 z3:=Tryz.sizeOf3
 v3:=Tryz.zeroValue3
 t4:=Tryz.underlying4
 a4:=Tryz.isAgg4
 z4:=Tryz.sizeOf4
 v4:=Tryz.zeroValue4
 t5:=Tryz.underlying5
 a5:=Tryz.isAgg5
 z5:=Tryz.sizeOf5
 v5:=Tryz.zeroValue5
 t9:=Tryz.underlying9
 a9:=Tryz.isAgg9
 z9:=Tryz.sizeOf9
 v9:=Tryz.zeroValue9
 t31:=Tryz.underlying116
 a31:=Tryz.isAgg116
 z31:=Tryz.sizeOf116
 v31:=Tryz.zeroValue116
 t46:=Tryz.underlying134
 a46:=Tryz.isAgg134
 z46:=Tryz.sizeOf134
 v46:=Tryz.zeroValue134
 t51:=Tryz.underlying216
 a51:=Tryz.isAgg216
 z51:=Tryz.sizeOf216
 v51:=Tryz.zeroValue216
 t53:=Tryz.underlying83
 a53:=Tryz.isAgg83
 z53:=Tryz.sizeOf83
 v53:=Tryz.zeroValue83
 t131:=Tryz.underlying193
 a131:=Tryz.isAgg193
 z131:=Tryz.sizeOf193
 v131:=Tryz.zeroValue193
 t182:=Tryz.underlying208
 a182:=Tryz.isAgg208
 z182:=Tryz.sizeOf208
 v182:=Tryz.zeroValue208
 t183:=Tryz.underlying209
 a183:=Tryz.isAgg209
 z183:=Tryz.sizeOf209
 v183:=Tryz.zeroValue209
 t218:=Tryz.underlying218
 a218:=Tryz.isAgg218
 z218:=Tryz.sizeOf218
 v218:=Tryz.zeroValue218
 t222:=Tryz.underlying221
 a222:=Tryz.isAgg221
 z222:=Tryz.sizeOf221
 v222:=Tryz.zeroValue221
 t228:=Tryz.underlying223
 a228:=Tryz.isAgg223
 z228:=Tryz.sizeOf223
 v228:=Tryz.zeroValue223
 t229:=Tryz.underlying224
 a229:=Tryz.isAgg224
 z229:=Tryz.sizeOf224
 v229:=Tryz.zeroValue224 }
end Go.Proofs
namespace Go.Proofs.YthpbnmebjocbeaaGreat
open Go.W Go.Sort
def eR (l:List ByteArray):List ByteArray:=((l.map bl).mergeSort fun x y=>decide (x<=y)).map mk
theorem nP (l:List ByteArray):(eR l).length=l.length:=by simp[eR]
theorem s0 (w:World) (os:Array Obj) {k:Nat} (h:k<w.heap.size):(grow w os).heap[k]? = w.heap[k]?:=by
 simp[grow,Array.getElem?_append_left h]
theorem KH (enc:List UInt8->Value) (w:World) (b:Nat) (d:Array (List UInt8)) {cur:Array Value} {T:TypeId} {p:Nat×Nat} (h:w.heap[b]? = some (.cells cur T p)):(putRow enc w b 0 d).heap[b]? = some (.cells (putCells enc 0 d cur) T p):=by
 unfold putRow mapBlock
 simp[Array.getElem?_modify,h,onCells]
theorem BY (enc:List UInt8->Value) (w:World) {b k:Nat} (d:Array (List UInt8)) (h:k≠b):(putRow enc w b 0 d).heap[k]? = w.heap[k]?:=by
 unfold putRow mapBlock
 simp[Array.getElem?_modify,Ne.symm h]
def aJF:W.Spec:=fun av H K=>∃l:List ByteArray,av=[.va (.c1 (.sl 0 l.length))]/\H=[.row (l.map bF) 9 1]/\l.length<=1000000000/\K (.tu []) [.row ((eR l).map bF) 9 1]
theorem RM {l:List ByteArray} {K:S->Hp->Prop} (h:l.length<=1000000000) (hK:K (.tu []) [.row ((eR l).map bF) 9 1]):aJF [.va (.c1 (.sl 0 l.length))] [.row (l.map bF) 9 1] K:=⟨l,rfl,rfl,h,hK⟩
theorem w8 (l:List ByteArray):(l.map bF).flatten=l.map fun x=>C.vl (.string x):=by
 induction l with
 |nil=>rfl
 |cons x l ih=>rw[List.map_cons,List.flatten_cons,ih];rfl
theorem aEJ {l:List ByteArray} {vs:List Value} {ro:RO} (h:All2 (C.fv ro) (l.map bF).flatten vs):vs=l.map Value.string:=by
 rw[w8] at h
 refine List.ext_getElem? fun i=>?_
 obtain ⟨h1,h2⟩:=h
 rw[List.length_map] at h1
 rw[List.getElem?_map]
 rcases bB i l.length with hi|hi
 · obtain ⟨x,hx⟩:∃x,l[i]? = some x:=⟨_,aU hi⟩
   obtain ⟨v,hv⟩:∃v,vs[i]? = some v:=⟨_,aU (by omega)⟩
   have:=h2 i _ v (by rw[List.getElem?_map,hx];rfl) hv
   rw[hv,hx];exact congrArg some this
 · rw[List.getElem?_eq_none (by omega),List.getElem?_eq_none hi];rfl
theorem aL0:Meets Tryz.prog 145 aJF:=by
 refine ⟨by kernel_rfl,fun av vs E ro w K hlen hrel hR hs _=>?_⟩
 obtain ⟨l,rfl,hH,hl,hK⟩:=hs
 match E,hH with
 |[(g,blk)],hH=>
  obtain rfl:blk=.row (l.map bF) 9 1:=by simpa[hp] using hH
  match vs,hlen with
  |[v0],_=>
   have r0:=hrel 0 _ _ rfl rfl
   have hon:=hR.own 0 g _ rfl
   obtain ⟨o1,o2,o3,o4,o5,o6,o7⟩:=hon
   rw[List.length_map] at o2 o5
   obtain ⟨g',hg',_,_,_,hv0⟩:=r0
   obtain rfl:g=g':=by simpa[gm] using hg'
   obtain rfl:=hv0 o2.symm
   have hvs:=aEJ o6
   obtain ⟨l1,l2⟩:=o5
   rcases Nat.eq_zero_or_pos l.length with h0|h0
   · obtain rfl:=List.eq_nil_of_length_eq_zero h0
     refine (Any.slices_Sort_string_none Tryz.lays190 _ _ w).mono ?_
     rintro e w' ⟨rfl,rfl⟩
     rw[show eR []=[] by simp[eR]] at hK
     exact ⟨.tu [],_,[(g,.row ([].map bF) 9 1)],ro,rfl,⟨[],rfl,.nil⟩,hK,hR⟩
   rcases l2 with ⟨_,h1⟩|⟨b,cap,cur,hsl,_,hb,hcap,hmax,hcs,htk⟩
   · omega
   have hob:g.ob=some b:=by
    cases hgo:g.ob with
    |none=>rw[hgo] at hsl;simp[bH] at hsl
    |some b'=>rw[hgo] at hsl;simp[bH] at hsl;rw[hsl.1]
   have hgc:g.cap=cap:=by simp at hsl;exact hsl.2
   have hbs:b<w.heap.size:=by
    rcases bB b w.heap.size with h'|h'
    · exact h'
    · rw[Array.getElem?_eq_none h'] at hb;cases hb
   have hcell:∀k,k<l.length->w.cell? ⟨b,k,none⟩=(l.map Value.string)[k]?:=fun k hk=>by
    rw[<-hvs,<-htk,List.getElem?_take,if_pos (by omega)]
    simp[World.cell?,hb]
   rw[hob,hgc]
   have key:=Any.slices_Sort_string Tryz.lays190 b 0 cap (l.map bl) w (fun j hj=>by
    have hj':j<l.length:=by simpa using hj
    refine ⟨?_,by simp[World.frozen?,hb]⟩
    rw[Nat.zero_add,hcell j hj']
    simp[hj']
    exact (gW _).symm) hbs (by simp;omega)
   rw[List.length_map] at key
   refine key.mono ?_
   rintro e w' ⟨rfl,n,os,rfl⟩
   obtain ⟨D,hD⟩:∃D,D=(l.map bl).mergeSort fun x y=>decide (x<=y):=⟨_,rfl⟩
   have hDl:D.length=l.length:=by rw[hD];simp
   have hsD:eR l=D.map mk:=by rw[hD];rfl
   rw[<-hD]
   obtain ⟨W',hW⟩:∃W',W'=grow (putRow encStr (Sort.ahead w n) b 0 D.toArray) os:=⟨_,rfl⟩
   have hmod:(putRow encStr (Sort.ahead w n) b 0 D.toArray).heap.size=w.heap.size:=by simp[putRow,mapBlock,Sort.ahead]
   have hb':W'.heap[b]? = some (.cells (putCells encStr 0 D.toArray cur) 9 (0,0)):=by
    rw[hW,s0 _ _ (by rw[hmod];exact hbs)]
    exact KH encStr _ b D.toArray hb
   have hne:∀k,k≠b->k<w.heap.size->W'.heap[k]? = w.heap[k]?:=fun k h1 h2=>by
    rw[hW,s0 _ _ (by rw[hmod];exact h2),BY encStr _ D.toArray h1];rfl
   have hsz:w.heap.size<=W'.heap.size:=by rw[hW];simp[hmod]
   have hrest:W'.os=w.os/\W'.tape=w.tape/\W'.output=w.output:=by rw[hW];exact ⟨rfl,rfl,rfl⟩
   rw[<-hW]
   clear hW
   have htk':(putCells encStr 0 D.toArray cur).toList.take l.length=(eR l).map Value.string:=by
    have hsl':(eR l).length=l.length:=nP l
    refine List.ext_getElem? fun k=>?_
    rw[List.getElem?_take,List.getElem?_map]
    rcases bB k l.length with hk|hk
    · rw[if_pos hk,hsD]
      have h1:k<cur.size:=by omega
      have h2:k<D.length:=by omega
      simp[putCells,h1,hDl]
      rw[if_pos hk,aU h2];rfl
    · rw[if_neg (by omega),List.getElem?_eq_none (by omega)];rfl
   have hown:B.On (gm [(⟨some b,true,l.length,cap,g.T,(eR l).map Value.string⟩,.row ((eR l).map bF) 9 1)]) ro W' ⟨some b,true,l.length,cap,g.T,(eR l).map Value.string⟩ (.row ((eR l).map bF) 9 1):=by
    have hsl':(eR l).length=l.length:=nP l
    refine ⟨rfl,by rw[List.length_map,hsl'],fun x hx=>?_,fun c hc=>?_,⟨?_,.inr ⟨b,cap,putCells encStr 0 D.toArray cur,?_,Nat.zero_le _,hb',?_,hmax,by simp[putCells];omega,?_⟩⟩,?_,fun b' _=>(by show 0<cap;omega)⟩
    · obtain ⟨y,_,rfl⟩:=List.mem_map.1 hx;rfl
    · rw[w8] at hc;obtain ⟨y,_,rfl⟩:=List.mem_map.1 hc;rfl
    · simp
    · simp[bH]
    · rw[List.length_map,hsl'];exact hcap
    · rw[List.length_map,hsl',Nat.mul_one];exact htk'
    · rw[w8]
      refine ⟨by simp,fun i x y hx hy=>?_⟩
      rw[List.getElem?_map] at hx hy
      cases hi:(eR l)[i]? with
      |none=>rw[hi] at hx;cases hx
      |some z=>rw[hi] at hx hy;cases hx;cases hy;rfl
   have hpb:b∈dH [(g,.row (l.map bF) 9 1)]:=by
    rcases hR.par 0 b g _ rfl hob rfl with h|h
    · exact absurd h (Nat.not_le.2 hbs)
    · exact h
   refine ⟨.tu [],_,[(⟨some b,true,l.length,cap,g.T,(eR l).map Value.string⟩,.row ((eR l).map bF) 9 1)],ro,rfl,⟨[],rfl,.nil⟩,hK,?_⟩
   refine ⟨fun n gn bn hn=>?_,fun n m gn gm' bn bm b' hn hm h1 h2 l1 l2=>?_,fun b' off v hv n gn bn hn hgb=>?_,fun b' off v hv=>?_,hR.ro0,hR.rob,fun n b' gn bn hn hgb hl=>?_,?_,hsz,fun k hk hkb=>hne k (fun e=>hkb (e ▸ hpb)) hk,hrest.1,hrest.2.1,hrest.2.2⟩
   · match n,hn with
     |0,hn=>cases hn;exact hown
     |n+1,hn=>cases hn
   · match n,m,hn,hm with
     |0,0,_,_=>rfl
     |n+1,_,hn,_=>cases hn
     |_,m+1,_,hm=>cases hm
   · match n,hn with
     |0,hn=>
      cases hn
      have hbb:b=b':=by simpa using hgb
      subst hbb
      exact absurd (hR.apart b off v hv 0 g _ rfl hob) (by simp[B.live])
     |n+1,hn=>cases hn
   · have hne':b'≠b:=fun e=>by
      subst e
      exact absurd (hR.apart b' off v hv 0 g _ rfl hob) (by simp[B.live])
     have:=hR.rd b' off v hv
     rcases bB b' w.heap.size with h'|h'
     · rw[World.cell?_of_block (hne b' hne' h')]
       exact this
     · simp[World.cell?,Array.getElem?_eq_none h'] at this
   · match n,hn with
     |0,hn=>
      cases hn
      have:b=b':=by simpa using hgb
      subst this;exact .inr hpb
     |n+1,hn=>cases hn
   · intro n g2 h2
     match n,h2 with
     |0,h2=>
      cases h2
      exact ⟨_,rfl,o1.symm,.inl ⟨hob.symm,o2.symm,hgc.symm⟩⟩
     |n+1,h2=>cases h2
end Go.Proofs.YthpbnmebjocbeaaGreat
namespace Go.Proofs.YthpbnmebjocbeaaGreat
open Go.W
def gC (ss:List St) (n:ByteArray):List ByteArray:=b8 ss (ss.length+1) ((fS ss n).getD default) []
def cP (ss:List St) (n:ByteArray):List ByteArray:=eR (gC ss n)
theorem yF (ss:List St) (o:List ByteArray):fresh ss o<=ss.length:=by
 induction ss with
 |nil=>exact Nat.le_refl _
 |cons s ss ih=>simp only[fresh,List.length_cons];cases bW o s.nm<;>simp only[bE,a8]<;>omega
theorem St.ok_default:(default:St).ok:=⟨by decide,by decide,fun f h=>by cases h⟩
def aJP:W.Spec:=fun av H K=>∃(ss:List St) (n:ByteArray) (ks:List Value) (vs:List St) (ks':List Value) (vs':List En),av=[mO,tS n]/\H=fM ks vs ks' vs'/\
 kU ks vs ss/\(∀s∈ss,s.ok)/\(gC ss n).length<=1000000000/\K (.va (.c1 (.fz ((cP ss n).map bF)))) (fM ks vs ks' vs')
theorem aFA {ss:List St} {n:ByteArray} {ks:List Value} {vs:List St} {ks':List Value} {vs':List En} {K:S->Hp->Prop} (h1:kU ks vs ss) (h2:∀s∈ss,s.ok) (h3:(gC ss n).length<=1000000000) (hK:K (.va (.c1 (.fz ((cP ss n).map bF)))) (fM ks vs ks' vs')) :
 aJP [mO,tS n] (fM ks vs ks' vs') K:=⟨ss,n,ks,vs,ks',vs',rfl,rfl,h1,h2,h3,hK⟩
theorem aOW:Meets Tryz.prog 111 aJP:=by
 refine dW 0 (t:=fun N=>fun av H K=>∃(ss:List St) (n:ByteArray) (ks:List Value) (vs:List St) (ks':List Value) (vs':List En),av=[mO,tS n]/\H=fM ks vs ks' vs'/\
  kU ks vs ss/\(∀s∈ss,s.ok)/\ss.length=N/\(gC ss n).length<=1000000000/\K (.va (.c1 (.fz ((cP ss n).map bF)))) (fM ks vs ks' vs')) (fun N=>?_) fun av H K ⟨ss,n,ks,vs,ks',vs',e1,e2,h1,h2,h3,hK⟩=>⟨ss.length,ss,n,ks,vs,ks',vs',e1,e2,h1,h2,rfl,h3,hK⟩
 refine aF Tryz.func111 aPD 2 (by rw[Tryz.ntmps111];decide) (aC (Q7 (N+1)) (aC aL0 (aB _))) (fun av H K h=>by obtain ⟨_,_,_,_,_,_,rfl,_⟩:=h;rfl) ?_
 rintro av H K ⟨ss,n,ks,vs,ks',vs',rfl,rfl,h1,h2,rfl,h3,hK⟩
 have hx:=h1 n
 simp -dsimp only[go_sem,XN,VR]
 refine .nilc 5 0 9 1 [.vl (.slice none 0 0)] 116 rfl rfl (.done ?_)
 cases hs:fS ss n with
 |none=>
  rw[hs] at hx
  simp only[Option.map_none] at hx
  simp -dsimp only[go_sem,hx]
  have hF:gC ss n=b8 ss (ss.length+1) default []:=by unfold gC;rw[hs];rfl
  have hU:cP ss n=eR (b8 ss (ss.length+1) default []):=by unfold cP;rw[hF]
  rw[hF] at h3
  rw[hU] at hK
  have hfr:=yF ss []
  refine CK (ss:=ss) (t:=default) (ks:=ks) (vs:=vs) (ks':=ks') (vs':=vs') (o:=[]) rfl h1 h2 St.ok_default (by omega) h3 ?_
  generalize b8 ss (ss.length+1) default []=o at h3 hK
  simp -dsimp only[go_sem]
  refine RM h3 ?_
  simp -dsimp only[go_sem]
  rw[<-nP o]
  refine .pub 7 _ _ _ rfl (.sel [0,1] (by simp) (by simp[b5]) rfl (.done ?_))
  simp -dsimp only[go_sem,b5];exact hK
 |some d=>
  rw[hs] at hx
  simp only[Option.map_some] at hx
  simp -dsimp only[go_sem,hx,aH]
  have hF:gC ss n=b8 ss (ss.length+1) d []:=by unfold gC;rw[hs];rfl
  have hU:cP ss n=eR (b8 ss (ss.length+1) d []):=by unfold cP;rw[hF]
  rw[hF] at h3
  rw[hU] at hK
  have hfr:=yF ss []
  refine CK (ss:=ss) (t:=d) (ks:=ks) (vs:=vs) (ks':=ks') (vs':=vs') (o:=[]) rfl h1 h2 (h2 d (List.mem_of_find?_eq_some hs)) (by omega) h3 ?_
  generalize b8 ss (ss.length+1) d []=o at h3 hK
  simp -dsimp only[go_sem]
  refine RM h3 ?_
  simp -dsimp only[go_sem]
  rw[<-nP o]
  refine .pub 7 _ _ _ rfl (.sel [0,1] (by simp) (by simp[b5]) rfl (.done ?_))
  simp -dsimp only[go_sem,b5];exact hK
mutual
def bN:Ty->Nat×Ty
 |.mk k s n e=>bif k==5 then EO e (.mk k s n e) else (0,.mk k s n e)
def EO:List Ty->Ty->Nat×Ty
 |[],d=>(0,d)
 |u::_,_=>((bN u).1+1,(bN u).2)
end
def bU (dp:ByteArray->Int) (t:Ty):Int:=(bN t).1+bif (bN t).2.k==6 then dp (bN t).2.n else 0
def fB (dp:ByteArray->Int) (fs:List Fl):Int:=fs.foldl (fun m f=>max m (bU dp f.ty)) 0
def dN (ss:List St):Nat->ByteArray->Int
 |0,_=>1
 |N+1,n=>fB (dN ss N) ((fS ss n).getD default).fs+1
inductive LOk:Ty->Prop
 |stop {k s n e}:(k==5)=false->LOk (.mk k s n e)
 |list {s n u r}:LOk u->LOk (.mk 5 s n (u::r))
abbrev nW (d:Int):A:=.c1 (.vl (.int .i64 d))
@[go_sem] theorem aYD (f:Nat->Option Nat) (l:List Int):(l.map nW).map (A.ren f)=l.map nW:=by rw[List.map_map];rfl
@[go_sem] theorem aXF (n:Nat) (xs:List (List C)) (l:List Int):(l.map nW).map (A.pub n xs)=l.map nW:=by rw[List.map_map];rfl
structure Dp (ss:List St) (D:ByteArray->Int) (r:ByteArray->Nat):Prop where
 ok:∀s∈ss,s.ok
 eq:∀n t,fS ss n=some t->D n=fB D t.fs+1
 lo:∀n,0<=D n
 hi:∀n,D n<=1000000000000
 ls:∀n t,fS ss n=some t->∀f∈t.fs,LOk f.ty
 rf:∀n t,fS ss n=some t->∀f∈t.fs,((bN f.ty).2.k==6)=true->∃u,fS ss (bN f.ty).2.n=some u/\r (bN f.ty).2.n<r n
def vF (D:ByteArray->Int) (ms:List ByteArray) (ds:List Int):Prop:=ms.length=ds.length/\∀n v,fN (gJ ms) (ds.map nW) (.string n)=some v->v=nW (D n)
abbrev NE (ks:List Value) (vs:List St) (ks':List Value) (vs':List En) (ms:List ByteArray) (ds:List Int):Hp:=
 [.map .string ks (vs.map iG),.map .string ks' (vs'.map iW),.cells [.mp 0,.mp 1] 124,.map .string (gJ ms) (ds.map nW),.cells [.mp 3] 191,.cells [.fn 146 [(false,[.pt 4 0]),(false,[.pt 5 0]),(false,[.pt 2 0])]] 192]
def aLJ (N:Nat):W.Spec:=fun av H K=>∃(ss:List St) (D:ByteArray->Int) (r:ByteArray->Nat) (t:St) (ks:List Value) (vs:List St) (ks':List Value) (vs':List En) (ms:List ByteArray) (ds:List Int),
 av=[.va (.gs (aH t)),.va (.c1 (.pt 4 0)),.va (.c1 (.pt 5 0)),.va (.c1 (.pt 2 0))]/\H=NE ks vs ks' vs' ms ds/\
 kU ks vs ss/\Dp ss D r/\fS ss t.nm=some t/\r t.nm<N/\vF D ms ds/\∀ms' ds',vF D ms' ds'->K (iS .i64 (D t.nm)) (NE ks vs ks' vs' ms' ds')
theorem RK {D:ByteArray->Int} {ms:List ByteArray} {ds:List Int} (h:vF D ms ds) (n:ByteArray):fN (gJ ms) (ds.map nW) (.string n)=none\/fN (gJ ms) (ds.map nW) (.string n)=some (nW (D n)):=by
 cases hm:fN (gJ ms) (ds.map nW) (.string n) with
 |none=>exact .inl rfl
 |some v=>rw[h.2 n v hm];exact .inr rfl
theorem QX {D:ByteArray->Int} {ms:List ByteArray} {ds:List Int} (h:vF D ms ds) (n:ByteArray):∃ms' ds',iE (gJ ms) (.string n)=gJ ms'/\jA (gJ ms) (ds.map nW) (.string n) (nW (D n))=ds'.map nW/\vF D ms' ds':=by
 obtain ⟨ms',ds',h1,h2,h3,h4⟩:=IQ nW h.1 n (D n)
 refine ⟨ms',ds',h1,h2,h3,fun k v hk=>?_⟩
 rw[h4] at hk
 by_cases e:k=n
 · subst e;simp at hk;exact hk.symm
 · simp[e] at hk;exact h.2 k v hk
abbrev gF (D:ByteArray->Int):Int->Fl->Int:=fun m f=>max m (bU D f.ty)
theorem zA (D:ByteArray->Int):∀(l:List Fl) (m:Int),m<=l.foldl (gF D) m
 |[],_=>Int.le_refl _
 |f::l,m=>by
  have:=zA D l (max m (bU D f.ty))
  show m<=l.foldl (gF D) (max m (bU D f.ty));omega
theorem aA9 {D:ByteArray->Int} {l:List Fl} {i:Nat} {f:Fl} (hx:l[i]? = some f) (m:Int):(l.drop i).foldl (gF D) m=(l.drop (i+1)).foldl (gF D) (max m (bU D f.ty)):=by
 obtain ⟨h,rfl⟩:=bJ.1 hx
 rw[List.drop_eq_getElem_cons h];rfl
theorem aJ3:∀N,Meets Tryz.prog 146 (aLJ N)
 |0=>⟨by kernel_rfl,by rintro xs vs E ro w K _ _ _ ⟨_,_,_,_,_,_,_,_,_,_,_,_,_,_,_,h,_⟩;exact absurd h (Nat.not_lt_zero _)⟩
 |N+1=>by
  refine aF Tryz.func146 aM7 4 (by rw[Tryz.ntmps146];decide) (aC (aJ3 N) (aB _)) (fun av H K h=>by obtain ⟨_,_,_,_,_,_,_,_,_,_,rfl,_⟩:=h;rfl) ?_
  rintro av H K ⟨ss,D,r,t,ks,vs,ks',vs',ms,ds,rfl,rfl,h1,h2,ht,hr,hk,hK⟩
  have htok:=h2.ok t (List.mem_of_find?_eq_some ht)
  obtain ⟨_,hl,hfs⟩:=htok
  rcases RK hk t.nm with hm|hm
  · simp(maxSteps:=9^6)-dsimp only[go_sem,aH,OP,NN,hm]
    have hD:=h2.eq t.nm t ht
    have hDh:=h2.hi t.nm
    refine aL (α:=Nat×Int×List ByteArray×List Int) (fun z=>[(1,.va (.c1 (.pt 4 0))),(2,.va (.c1 (.pt 5 0))),(3,.va (.c1 (.pt 2 0))),(4,.va (.c1 (.pt 6 0))),(8,iS .i64 z.2.1),(23,.va (.c1 (.fz (t.fs.map aS)))),(24,iS .i64 t.fs.length),(25,iS .i64 z.1)])
     (fun z=>NE ks vs ks' vs' z.2.2.1 z.2.2.2++[.cells (aH t) 48])
     (fun z=>z.1<=t.fs.length/\0<=z.2.1/\(t.fs.drop z.1).foldl (gF D) z.2.1=fB D t.fs/\vF D z.2.2.1 z.2.2.2) (fun z=>t.fs.length-z.1) (0,0,ms,ds) 7 ⟨Nat.zero_le _,Int.le_refl _,rfl,hk⟩ ?_ ?_ ?_
    · simp -dsimp only[go_sem]<;>simp
    · simp -dsimp only[go_sem,aH]<;>simp
    clear hk hm
    rintro ⟨i,m,ms,ds⟩ ⟨hi,hm0,ho,hk⟩
    simp only at hi hm0 ho hk ⊢
    have hmb:m<=1000000000000:=by have:=zA D (t.fs.drop i) m;rw[ho] at this;omega
    rcases bB i t.fs.length with hlt|hge
    · have hg:decide ((i:Int)<(t.fs.length:Int))=true:=by simp;omega
      obtain ⟨f,hx⟩:∃nm,t.fs[i]? = some nm:=⟨_,aU hlt⟩
      have q1:=aT (row:=aS) hx
      have hf:f.ok:=hfs f (bY hx)
      rw[aA9 hx] at ho
      have hfb:bU D f.ty<=1000000000000:=by have:=zA D (t.fs.drop (i+1)) (max m (bU D f.ty));rw[ho] at this;omega
      simp(maxSteps:=9^6)-dsimp only[go_sem,hg,↓q1,aS,j1]
      have hlo:=h2.ls t.nm t ht f (bY hx)
      refine ⟨by omega,⟨uK _,dE _⟩,by rw[dE];exact Nat.le_refl _,?_⟩
      refine aL (α:=Nat×Ty) (fun z=>[(1,.va (.c1 (.pt 4 0))),(2,.va (.c1 (.pt 5 0))),(3,.va (.c1 (.pt 2 0))),(4,.va (.c1 (.pt 6 0))),(8,iS .i64 m),(11,iS .i64 z.1),(12,.va (.c1 (.pt 8 0))),(23,.va (.c1 (.fz (t.fs.map aS)))),(24,iS .i64 t.fs.length),(25,iS .i64 i)])
       (fun z=>NE ks vs ks' vs' ms ds++[.cells (aH t) 48,.cells (aS f) 52,.cells (aQ z.2) 42])
       (fun z=>LOk z.2/\z.1+(bN z.2).1=(bN f.ty).1/\(bN z.2).2=(bN f.ty).2) (fun z=>z.2.h) (0,f.ty) 9 ⟨hlo,by simp,rfl⟩ ?_ ?_ ?_
      · simp -dsimp only[go_sem]<;>simp
      · simp -dsimp only[go_sem,aH,aS,dE]<;>simp
      rintro ⟨n,u⟩ ⟨hu1,hu2,hu3⟩
      simp only at hu1 hu2 hu3 ⊢
      have hlv:((bN f.ty).1:Int)<=1000000000000:=by
       have hd0:=h2.lo (bN f.ty).2.n
       unfold bU at hfb
       cases hq:(bN f.ty).2.k==6<;>rw[hq] at hfb<;>simp only[bE,a8] at hfb<;>omega
      cases hu1 with
      |list hv=>
       rename_i s' n' v r'
       have hl5:bN (.mk 5 s' n' (v::r'))=((bN v).1+1,(bN v).2):=by simp[bN,EO]
       rw[hl5] at hu2 hu3
       simp(maxSteps:=9^6)-dsimp only[go_sem,aQ,aY]
       refine ⟨by omega,⟨by omega,fun r hr=>by subst hr;exact dE v⟩,fun r hr=>?_⟩
       subst hr
       simp -dsimp only[go_sem,dE]
       refine ⟨uK v,aE (n+1,v) 9 ⟨hv,by simp only at hu2 ⊢;omega,hu3⟩ (by simp only[Ty.h,Ty.hs];omega) ?_ ?_⟩
       · simp -dsimp only[go_sem]<;>simp
       · simp -dsimp only[go_sem,aH,aS]<;>simp
      |stop hk5=>
       rename_i k' s' n' e'
       have hl0:bN (.mk k' s' n' e')=(0,.mk k' s' n' e'):=by rw[bN,hk5];rfl
       rw[hl0] at hu2 hu3
       simp only[Nat.add_zero] at hu2
       have hfd:bU D f.ty=(n:Int)+bif k'==6 then D n' else 0:=by unfold bU;rw[<-hu2,<-hu3];rfl
       cases k6:k'==6 with
       |false=>
        rw[k6,a8,Int.add_zero] at hfd
        rw[hfd] at ho
        simp(maxSteps:=9^6)-dsimp only[go_sem,aQ,aY,hk5,k6]
        refine ⟨by omega,aE (i+1,max m (n:Int),ms,ds) 7 ⟨by simp only;omega,by simp only;omega,ho,hk⟩ (by simp only;omega) ?_ ?_⟩
        · simp -dsimp only[go_sem]<;>simp
        · simp -dsimp only[go_sem,aH]<;>simp
       |true=>
        rw[k6,bE] at hfd
        rw[hfd] at ho
        obtain ⟨w,hw,hrw⟩:=h2.rf t.nm t ht f (bY hx) (by rw[<-hu3];exact k6)
        rw[<-hu3] at hw hrw
        have hx1:=h1 n'
        rw[show fS ss n'=some w from hw] at hx1
        simp only[Option.map_some] at hx1
        simp(maxSteps:=9^6)-dsimp only[go_sem,aQ,aY,hk5,k6,hx1,aH]
        have hwn:w.nm=n':=by have:=List.find?_some hw;simp only[decide_eq_true_eq] at this;exact this
        refine ⟨ss,D,r,w,ks,vs,ks',vs',ms,ds,rfl,rfl,h1,h2,by rw[hwn];exact hw,by rw[hwn];exact Nat.lt_of_lt_of_le hrw (Nat.le_of_lt_succ hr),hk,fun ms' ds' hk'=>?_⟩
        rw[hwn]
        have hd0:=h2.lo n'
        have hd1:=h2.hi n'
        simp(maxSteps:=9^6)-dsimp only[go_sem]
        refine ⟨by omega,by omega,aE (i+1,max m ((n:Int)+D n'),ms',ds') 7 ⟨by simp only;omega,by simp only;omega,ho,hk'⟩ (by simp only;omega) ?_ ?_⟩
        · simp -dsimp only[go_sem]<;>simp
        · simp -dsimp only[go_sem,aH]<;>simp
    · have hg:decide ((i:Int)<(t.fs.length:Int))=false:=by simp;omega
      obtain rfl:i=t.fs.length:=by omega
      rw[List.drop_length] at ho
      simp only[List.foldl_nil] at ho
      obtain ⟨ms',ds',p1,p2,p3⟩:=QX hk t.nm
      have e1:m+1=D t.nm:=by omega
      simp(maxSteps:=9^6)-dsimp only[go_sem,hg,aH,e1,p1,p2]
      refine ⟨by have:=h2.lo t.nm;omega,by have:=h2.lo t.nm;omega,.sel [0,1,2,3,4,5] (by simp) (by simp) rfl (.done (by simp -dsimp only[go_sem];simpa[go_sem] using hK ms' ds' p3))⟩
  · simp(maxSteps:=9^6)-dsimp only[go_sem,aH,OP,NN,hm]
    exact .sel [0,1,2,3,4,5] (by simp) (by simp) rfl (.done (by simp -dsimp only[go_sem];simpa[go_sem] using hK ms ds hk))
def aKM:W.Spec:=fun av H K=>∃(ss:List St) (D:ByteArray->Int) (r:ByteArray->Nat) (t:St) (ks:List Value) (vs:List St) (ks':List Value) (vs':List En),av=[mO,.va (.gs (aH t))]/\H=fM ks vs ks' vs'/\
 kU ks vs ss/\Dp ss D r/\fS ss t.nm=some t/\K (iS .i64 (D t.nm)) (fM ks vs ks' vs')
theorem aEB {ss:List St} {D:ByteArray->Int} {r:ByteArray->Nat} {t:St} {ks:List Value} {vs:List St} {ks':List Value} {vs':List En} {K:S->Hp->Prop} (h1:kU ks vs ss) (h2:Dp ss D r) (h3:fS ss t.nm=some t) (hK:K (iS .i64 (D t.nm)) (fM ks vs ks' vs')) :
 aKM [mO,.va (.gs (aH t))] (fM ks vs ks' vs') K:=⟨ss,D,r,t,ks,vs,ks',vs',rfl,rfl,h1,h2,h3,hK⟩
theorem aKK:Meets Tryz.prog 112 aKM:=by
 refine dW 0 (t:=fun N=>fun av H K=>∃(ss:List St) (D:ByteArray->Int) (r:ByteArray->Nat) (t:St) (ks:List Value) (vs:List St) (ks':List Value) (vs':List En),av=[mO,.va (.gs (aH t))]/\H=fM ks vs ks' vs'/\
  kU ks vs ss/\Dp ss D r/\fS ss t.nm=some t/\r t.nm<N/\K (iS .i64 (D t.nm)) (fM ks vs ks' vs')) (fun N=>?_) fun av H K ⟨ss,D,r,t,ks,vs,ks',vs',e1,e2,h1,h2,h3,hK⟩=>⟨r t.nm+1,ss,D,r,t,ks,vs,ks',vs',e1,e2,h1,h2,h3,Nat.lt_succ_self _,hK⟩
 refine aF Tryz.func112 aNX 2 (by rw[Tryz.ntmps112];decide) (aC (aJ3 N) (aB _)) (fun av H K h=>by obtain ⟨_,_,_,_,_,_,_,_,rfl,_⟩:=h;rfl) ?_
 rintro av H K ⟨ss,D,r,t,ks,vs,ks',vs',rfl,rfl,h1,h2,ht,hr,hK⟩
 simp -dsimp only[go_sem,aH,W8,Z6]
 refine ⟨ss,D,r,t,ks,vs,ks',vs',[],[],rfl,rfl,h1,h2,ht,hr,⟨rfl,fun n v h=>by cases h⟩,fun ms ds _=>?_⟩
 simp -dsimp only[go_sem]
 exact .sel [0,1] (by simp) (by simp) rfl (.done (by simp -dsimp only[go_sem];exact hK))
def CM (t:St) (b:ByteArray):Prop:=∃f∈t.fs,bQ f.ty=true/\bK f.ty=b
def dS (ss:List St) (a b:ByteArray):Prop:=CM ((fS ss a).getD default) b
inductive Reach (ss:List St):ByteArray->ByteArray->Prop
 |one {a b:ByteArray}:dS ss a b->Reach ss a b
 |more {a b c:ByteArray}:Reach ss a b->dS ss b c->Reach ss a c
theorem Reach.head {ss:List St} {a b c:ByteArray} (h:dS ss a b) (r:Reach ss b c):Reach ss a c:=by
 induction r with
 |one h2=>exact .more (.one h) h2
 |more _ h2 ih=>exact .more ih h2
theorem Reach.trans {ss:List St} {a b c:ByteArray} (h:Reach ss a b) (r:Reach ss b c):Reach ss a c:=by
 induction r with
 |one h2=>exact .more h h2
 |more _ h2 ih=>exact .more ih h2
theorem Reach.first {ss:List St} {a c:ByteArray} (r:Reach ss a c):∃b,dS ss a b/\(c=b\/Reach ss b c):=by
 induction r with
 |one h=>exact ⟨_,h,.inl rfl⟩
 |more _ h2 ih=>
  obtain ⟨b,h3,h4⟩:=ih
  refine ⟨b,h3,.inr ?_⟩
  rcases h4 with rfl|h4
  · exact .one h2
  · exact .more h4 h2
theorem u1 {o:List ByteArray} {n:ByteArray}:bW o n=false ↔ n ∉ o:=by
 rw[<-Bool.not_eq_true,pG]
theorem UJ (ss:List St) {N:Nat} (ih:∀t o,fresh ss o<N->(∀b,CM t b->b∈b8 ss N t o)/\∀x∈b8 ss N t o,x ∉ o->∀y,dS ss x y->y∈b8 ss N t o) (o:List ByteArray) (f:Fl) (h:fresh ss o<N+1) :
 (bQ f.ty=true->bK f.ty∈bM (b8 ss N) ss o f)/\∀x∈bM (b8 ss N) ss o f,x ∉ o->∀y,dS ss x y->y∈bM (b8 ss N) ss o f:=by
 cases c1:bQ f.ty with
 |false=>
  have:bM (b8 ss N) ss o f=o:=by unfold bM;rw[c1];rfl
  rw[this];exact ⟨fun h=>by simp at h,fun x hx hn=>absurd hx hn⟩
 |true=>
 cases c2:bW o (bK f.ty) with
 |true=>
  have:bM (b8 ss N) ss o f=o:=by unfold bM;rw[c1,c2];rfl
  rw[this];exact ⟨fun _=>(pG _ _).1 c2,fun x hx hn=>absurd hx hn⟩
 |false=>
  cases hs:fS ss (bK f.ty) with
  |none=>
   have:bM (b8 ss N) ss o f=o++[bK f.ty]:=by unfold bM;rw[c1,c2,hs];rfl
   rw[this]
   refine ⟨fun _=>by simp,fun x hx hn y hy=>?_⟩
   have:x=bK f.ty:=by simpa[hn] using hx
   subst this
   unfold dS at hy;rw[hs] at hy
   obtain ⟨g,hg,_⟩:=hy;cases hg
  |some d=>
   have:bM (b8 ss N) ss o f=b8 ss N d (o++[bK f.ty]):=by unfold bM;rw[c1,c2,hs];rfl
   rw[this]
   have hl:=yZ c2 hs
   obtain ⟨i1,i2⟩:=ih d (o++[bK f.ty]) (by omega)
   obtain ⟨q,hq⟩:=lC ss N d (o++[bK f.ty])
   refine ⟨fun _=>by rw[hq];simp,fun x hx hn y hy=>?_⟩
   by_cases hxn:x=bK f.ty
   · subst hxn
     unfold dS at hy;rw[hs] at hy
     exact i1 y hy
   · exact i2 x hx (by simp[hn,hxn]) y hy
theorem GL (ss:List St) {N:Nat} (ih:∀t o,fresh ss o<N->(∀b,CM t b->b∈b8 ss N t o)/\∀x∈b8 ss N t o,x ∉ o->∀y,dS ss x y->y∈b8 ss N t o):∀(l:List Fl) (o:List ByteArray),fresh ss o<N+1->
 (∀f∈l,bQ f.ty=true->bK f.ty∈l.foldl (bM (b8 ss N) ss) o)/\∀x∈l.foldl (bM (b8 ss N) ss) o,x ∉ o->∀y,dS ss x y->y∈l.foldl (bM (b8 ss N) ss) o
 |[],o,_=>⟨fun f h=>(List.not_mem_nil h).elim,fun x hx hn=>absurd hx hn⟩
 |f::l,o,h=>by
  obtain ⟨s1,s2⟩:=UJ ss ih o f h
  have hp:=oO (lC ss N) ss o f
  obtain ⟨r1,r2⟩:=GL ss ih l (bM (b8 ss N) ss o f) (by have:=hp.fresh (ss:=ss);omega)
  obtain ⟨q,hq⟩:=rA (fun o f=>oO (lC ss N) ss o f) l (bM (b8 ss N) ss o f)
  have hin:∀x,x∈bM (b8 ss N) ss o f->x∈l.foldl (bM (b8 ss N) ss) (bM (b8 ss N) ss o f):=fun x hx=>by rw[hq];simp[hx]
  rw[List.foldl_cons]
  refine ⟨fun g hg hn=>?_,fun x hx hn y hy=>?_⟩
  · rcases List.mem_cons.1 hg with rfl|hg
    · exact hin _ (s1 hn)
    · exact r1 g hg hn
  · by_cases hx2:x∈bM (b8 ss N) ss o f
    · exact hin _ (s2 x hx2 hn y hy)
    · exact r2 x hx hx2 y hy
theorem PM (ss:List St):∀(N:Nat) (t:St) (o:List ByteArray),fresh ss o<N->(∀b,CM t b->b∈b8 ss N t o)/\∀x∈b8 ss N t o,x ∉ o->∀y,dS ss x y->y∈b8 ss N t o
 |0,_,_,h=>absurd h (Nat.not_lt_zero _)
 |N+1,t,o,h=>by
  obtain ⟨r1,r2⟩:=GL ss (PM ss N) t.fs o h
  exact ⟨fun b ⟨f,hf,hn,hb⟩=>hb ▸ r1 f hf hn,r2⟩
theorem E5 (ss:List St):∀(N:Nat) (t:St) (o:List ByteArray),∀x∈b8 ss N t o,x∈o\/∃b,CM t b/\(x=b\/Reach ss b x)
 |0,_,o=>fun x hx=>.inl hx
 |N+1,t,o=>by
  have step:∀(o:List ByteArray) (f:Fl),∀x∈bM (b8 ss N) ss o f,x∈o\/(bQ f.ty=true/\(x=bK f.ty\/Reach ss (bK f.ty) x)):=fun o f x hx=>by
   cases c1:bQ f.ty with
   |false=>
    have:bM (b8 ss N) ss o f=o:=by unfold bM;rw[c1];rfl
    rw[this] at hx;exact .inl hx
   |true=>
   cases c2:bW o (bK f.ty) with
   |true=>
    have:bM (b8 ss N) ss o f=o:=by unfold bM;rw[c1,c2];rfl
    rw[this] at hx;exact .inl hx
   |false=>
    cases hs:fS ss (bK f.ty) with
    |none=>
     have:bM (b8 ss N) ss o f=o++[bK f.ty]:=by unfold bM;rw[c1,c2,hs];rfl
     rw[this] at hx
     rcases List.mem_append.1 hx with h|h
     · exact .inl h
     · exact .inr ⟨rfl,.inl (by simpa using h)⟩
    |some d=>
     have:bM (b8 ss N) ss o f=b8 ss N d (o++[bK f.ty]):=by unfold bM;rw[c1,c2,hs];rfl
     rw[this] at hx
     rcases E5 ss N d _ x hx with h|⟨b,hb,h⟩
     · rcases List.mem_append.1 h with h|h
       · exact .inl h
       · exact .inr ⟨rfl,.inl (by simpa using h)⟩
     · have hr:dS ss (bK f.ty) b:=by unfold dS;rw[hs];exact hb
       refine .inr ⟨rfl,.inr ?_⟩
       rcases h with rfl|h
       · exact .one hr
       · exact .head hr h
  have fold:∀(l:List Fl) (o:List ByteArray),∀x∈l.foldl (bM (b8 ss N) ss) o,x∈o\/∃f∈l,bQ f.ty=true/\(x=bK f.ty\/Reach ss (bK f.ty) x):=by
   intro l
   induction l with
   |nil=>exact fun o x hx=>.inl hx
   |cons f l ih=>
    intro o x hx
    rw[List.foldl_cons] at hx
    rcases ih _ x hx with h|⟨g,hg,h⟩
    · rcases step o f x h with h|h
      · exact .inl h
      · exact .inr ⟨f,List.mem_cons_self,h⟩
    · exact .inr ⟨g,List.mem_cons_of_mem _ hg,h⟩
  intro x hx
  rcases fold t.fs o x hx with h|⟨f,hf,hn,h⟩
  · exact .inl h
  · exact .inr ⟨bK f.ty,⟨f,hf,hn,rfl⟩,h⟩
theorem EQ (ss:List St):∀(N:Nat) (t:St) (o:List ByteArray),o.Nodup->(b8 ss N t o).Nodup
 |0,_,_=>id
 |N+1,t,o=>by
  have step:∀(o:List ByteArray) (f:Fl),o.Nodup->(bM (b8 ss N) ss o f).Nodup:=fun o f ho=>by
   have app:bW o (bK f.ty)=false->(o++[bK f.ty]).Nodup:=fun c2=>by
    rw[u1] at c2
    rw[List.nodup_append]
    exact ⟨ho,by simp,fun a ha b hb=>by simp at hb;subst hb;exact fun e=>c2 (e ▸ ha)⟩
   unfold bM
   cases c1:bQ f.ty with
   |false=>exact ho
   |true=>
   cases c2:bW o (bK f.ty) with
   |true=>exact ho
   |false=>
    cases hs:fS ss (bK f.ty) with
    |none=>exact app c2
    |some d=>exact EQ ss N d _ (app c2)
  show o.Nodup->(t.fs.foldl (bM (b8 ss N) ss) o).Nodup
  generalize t.fs=l
  induction l generalizing o with
  |nil=>exact id
  |cons f l ih=>exact fun h=>ih _ (step o f h)
theorem jH (ss:List St) (n x:ByteArray):x∈gC ss n ↔ Reach ss n x:=by
 unfold gC
 constructor
 · intro h
   rcases E5 ss _ _ _ x h with h|⟨b,hb,h⟩
   · cases h
   · rcases h with rfl|h
     · exact .one hb
     · exact .head hb h
 · intro h
   obtain ⟨c1,c2⟩:=PM ss (ss.length+1) ((fS ss n).getD default) [] (Nat.lt_succ_of_le (yF ss []))
   induction h with
   |one h=>exact c1 _ h
   |more _ h2 ih=>exact c2 _ ih (by simp) _ h2
theorem tF (ss:List St) (n:ByteArray):(gC ss n).Nodup:=EQ ss _ _ _ .nil
theorem SK {l:List ByteArray} {x:ByteArray}:x∈eR l ↔ x∈l:=by
 unfold eR
 rw[List.mem_map]
 constructor
 · rintro ⟨y,hy,rfl⟩
   rw[List.mem_mergeSort,List.mem_map] at hy
   obtain ⟨z,hz,rfl⟩:=hy
   rw[gW];exact hz
 · intro h
   exact ⟨bl x,by rw[List.mem_mergeSort];exact List.mem_map_of_mem h,gW x⟩
theorem D9 {ss:List St} {n x:ByteArray}:x∈cP ss n ↔ Reach ss n x:=by unfold cP;rw[SK,jH]
theorem tV (ss:List St) (n:ByteArray):(cP ss n).length=(gC ss n).length:=nP _
structure Gd (ss:List St) (es:List En):Prop where
 ok:∀s∈ss,s.ok
 n:ss.length<=16
 m:es.length<=16
 val:∀s∈ss,∀f∈s.fs,valF ss es f.ty=true
 lv:∀s∈ss,∀f∈s.fs,(bN f.ty).1<=1000000000
 nd:∀s∈ss,fS ss s.nm=some s
def tM (ss:List St):Prop:=∀s∈ss,bW (cP ss s.nm) s.nm=false
theorem yO {ss:List St} {es:List En} {s:Int} {n:ByteArray} {e:List Ty} (h:valF ss es (.mk 5 s n e)=true):∃u,e=[u]/\valF ss es u=true:=by
 rw[valF] at h
 simp only[show ((5:Int)==1)=false from rfl,show ((5:Int)==2)=false from rfl,show ((5:Int)==3)=false from rfl,show ((5:Int)==4)=false from rfl,show ((5:Int)==5)=true from rfl,bE,a8,Bool.and_eq_true] at h
 obtain ⟨_,h⟩:=h
 match e,h with
 |[],h=>simp[kL] at h
 |[u],h=>exact ⟨u,rfl,by simpa[kL] using h⟩
 |u::v::r,h=>simp[kL] at h
theorem AJ (ss:List St) (es:List En):∀(N:Nat) (t:Ty),t.h<=N->valF ss es t=true->LOk t/\eG t=(bN t).2/\((eG t).k==5)=false/\valF ss es (eG t)=true
 |0,t,h,_=>absurd h (by have:=t.h_pos;omega)
 |N+1,.mk k s n e,h,hv=>by
  cases k5:k==5 with
  |true=>
   obtain rfl:k=5:=by simpa using k5
   obtain ⟨u,rfl,hu⟩:=yO hv
   obtain ⟨i1,i2,i3,i4⟩:=AJ ss es N u (by rw[Ty.h,Ty.hs,Ty.hs] at h;omega) hu
   rw[tN]
   exact ⟨.list i1,by rw[i2];simp[bN,EO],i3,i4⟩
  |false=>
   have h1:eG (.mk k s n e)=.mk k s n e:=qP (by rw[k5];rfl)
   rw[h1]
   exact ⟨.stop k5,by rw[bN,k5];rfl,k5,hv⟩
theorem aKO {ss:List St} {es:List En} {t:Ty} (hv:valF ss es t=true) (hn:bQ t=true):cD ss (bK t)=true\/c8 es (bK t)=true:=by
 obtain ⟨_,_,_,h⟩:=AJ ss es t.h t (Nat.le_refl _) hv
 unfold bQ at hn
 unfold bK
 revert h hn
 generalize eG t=u
 cases u with
 |mk k s n e=>
 intro hn h
 simp only[Ty.k,Bool.or_eq_true,beq_iff_eq] at hn
 rcases hn with rfl|rfl
 · left;rw[valF] at h;simp at h;exact h.1.1
 · right;rw[valF] at h;simp at h;exact h.1.1
theorem aCA {ss:List St} {es:List En} {t:Ty} (hv:valF ss es t=true) (hk:((bN t).2.k==6)=true):bQ t=true/\bK t=(bN t).2.n/\cD ss (bN t).2.n=true/\LOk t:=by
 obtain ⟨h1,h2,_,h⟩:=AJ ss es t.h t (Nat.le_refl _) hv
 unfold bQ bK
 rw[h2] at h ⊢
 refine ⟨by rw[hk];rfl,rfl,?_,h1⟩
 revert h hk
 generalize (bN t).2=u
 cases u with
 |mk k s n e=>
 intro hk h
 obtain rfl:k=6:=by simpa[Ty.k] using hk
 rw[valF] at h;simp at h;exact h.1.1
theorem f5 {ss:List St} {n:ByteArray} {t:St} (h:fS ss n=some t):t∈ss/\t.nm=n:=⟨List.mem_of_find?_eq_some h,by have:=List.find?_some h;simpa using this⟩
theorem DW {ss:List En} {n:ByteArray} {t:En} (h:d8 ss n=some t):t∈ss/\t.nm=n:=⟨List.mem_of_find?_eq_some h,by have:=List.find?_some h;simpa using this⟩
theorem aBI {ss:List St} {a b:ByteArray} (h:dS ss a b):∃t f,fS ss a=some t/\t∈ss/\f∈t.fs/\bQ f.ty=true/\bK f.ty=b:=by
 obtain ⟨f,hf,hn,hb⟩:=h
 cases hs:fS ss a with
 |none=>rw[hs] at hf;cases hf
 |some t=>rw[hs] at hf;exact ⟨t,f,rfl,(f5 hs).1,hf,hn,hb⟩
theorem UC {ss:List St} {es:List En} (g:Gd ss es) {a b:ByteArray} (h:Reach ss a b):cD ss b=true\/c8 es b=true:=by
 have:∃c,dS ss c b:=by cases h with
  |one h=>exact ⟨_,h⟩
  |more _ h=>exact ⟨_,h⟩
 obtain ⟨c,h⟩:=this
 obtain ⟨t,f,_,ht,hf,hn,rfl⟩:=aBI h
 exact aKO (g.val t ht f hf) hn
theorem tK {α:Type} [DecidableEq α]:∀{l m:List α},l.Nodup->(∀x∈l,x∈m)->l.length<=m.length
 |[],_,_,_=>Nat.zero_le _
 |x::l,m,h,hs=>by
  have h2:=List.nodup_cons.1 h
  have hx:=hs x List.mem_cons_self
  have:=tK (m:=m.erase x) h2.2 fun y hy=>(List.mem_erase_of_ne (fun e=>h2.1 (by rw[<-e];exact hy))).2 (hs y (List.mem_cons_of_mem _ hy))
  rw[List.length_erase_of_mem hx] at this
  have hp:=List.length_pos_of_mem hx
  simp only[List.length_cons];omega
theorem Gd.vlen {ss:List St} {es:List En} (g:Gd ss es) (n:ByteArray):(gC ss n).length<=32:=by
 have h:=tK (m:=ss.map (·.nm)++es.map (·.nm)) (tF ss n) fun x hx=>by
  rw[jH] at hx
  rw[List.mem_append,List.mem_map,List.mem_map]
  rcases UC g hx with h|h
  · left;unfold cD at h;rw[List.any_eq_true] at h;obtain ⟨t,h1,h2⟩:=h;exact ⟨t,h1,of_decide_eq_true h2⟩
  · right;unfold c8 at h;rw[List.any_eq_true] at h;obtain ⟨t,h1,h2⟩:=h;exact ⟨t,h1,of_decide_eq_true h2⟩
 have h1:=g.n
 have h2:=g.m
 simp only[List.length_append,List.length_map] at h
 omega
def rN (ss:List St) (n:ByteArray):Nat:=ss.countP fun s=>bW (gC ss n) s.nm
theorem E4 {α:Type} {p q:α->Bool}:∀{l:List α},(∀x∈l,p x=true->q x=true)->(∃x∈l,q x=true/\p x=false)->l.countP p<l.countP q
 |[],_,⟨_,h,_⟩=>by cases h
 |y::l,h,⟨x,hx,h1,h2⟩=>by
  have hm:=List.countP_mono_left fun z hz=>h z (List.mem_cons_of_mem _ hz)
  have hy:=h y List.mem_cons_self
  rw[List.countP_cons,List.countP_cons]
  rcases List.mem_cons.1 hx with rfl|hx
  · rw[h1,h2];simp;omega
  · have:=E4 (fun z hz=>h z (List.mem_cons_of_mem _ hz)) ⟨x,hx,h1,h2⟩
    cases hp:p y with
    |true=>rw[hy hp];simp;exact this
    |false=>cases q y<;>simp<;>omega
theorem M9 (ss:List St) (n:ByteArray):rN ss n<=ss.length:=List.countP_le_length
theorem CN {ss:List St} {n m:ByteArray} {u:St} (h:dS ss n m) (hu:fS ss m=some u) (ha:tM ss):rN ss m<rN ss n:=by
 obtain ⟨h1,h2⟩:=f5 hu
 refine E4 (fun s _ hs=>?_) ⟨u,h1,?_,?_⟩
 · rw[pG,jH] at hs ⊢;exact .head h hs
 · rw[pG,jH,h2];exact .one h
 · rw[u1,jH,<-D9,<-u1]
   have:=ha u h1
   rw[h2] at this ⊢;exact this
theorem L8 {dp:ByteArray->Int} {B:Int} (hB:0<=B) {l:List Fl} (h:∀f∈l,bU dp f.ty<=B):fB dp l<=B:=by
 have key:∀(l:List Fl) (m:Int),m<=B->(∀f∈l,bU dp f.ty<=B)->l.foldl (gF dp) m<=B:=by
  intro l
  induction l with
  |nil=>exact fun m hm _=>hm
  |cons f l ih=>exact fun m hm h=>ih _ (by have:=h f List.mem_cons_self;show max m (bU dp f.ty)<=B;omega) fun g hg=>h g (List.mem_cons_of_mem _ hg)
 exact key l 0 hB h
theorem jT (dp:ByteArray->Int) (l:List Fl):0<=fB dp l:=zA dp l 0
theorem MT {dp:ByteArray->Int} {l:List Fl} {f:Fl} (h:f∈l):bU dp f.ty<=fB dp l:=by
 have key:∀(l:List Fl) (m:Int),f∈l->bU dp f.ty<=l.foldl (gF dp) m:=by
  intro l
  induction l with
  |nil=>exact fun m h=>by cases h
  |cons g l ih=>
   intro m h
   rcases List.mem_cons.1 h with rfl|h
   · refine Int.le_trans ?_ (zA dp l (max m (bU dp f.ty)))
     omega
   · exact ih _ h
 exact key l 0 h
theorem rE {dp dq:ByteArray->Int} {l:List Fl} (h:∀f∈l,bU dp f.ty=bU dq f.ty):fB dp l=fB dq l:=by
 have key:∀(l:List Fl) (m:Int),(∀f∈l,bU dp f.ty=bU dq f.ty)->l.foldl (gF dp) m=l.foldl (gF dq) m:=by
  intro l
  induction l with
  |nil=>exact fun _ _=>rfl
  |cons f l ih=>exact fun m h=>by rw[List.foldl_cons,List.foldl_cons,gF,h f List.mem_cons_self];exact ih _ fun g hg=>h g (List.mem_cons_of_mem _ hg)
 exact key l 0 h
def dK:Nat:=99
def dD (ss:List St) (n:ByteArray):Int:=dN ss (dK+1) n
theorem aAW (ss:List St) (N:Nat) (n:ByteArray):dN ss (N+1) n=fB (dN ss N) ((fS ss n).getD default).fs+1:=rfl
theorem Y8:dK=99:=rfl
theorem RZ (ss:List St) (n:ByteArray):dD ss n=dN ss (dK+1) n:=rfl
attribute [irreducible] dK
theorem aE4 (ss:List St):∀(N:Nat) (n:ByteArray),1<=dN ss N n
 |0,_=>Int.le_refl _
 |N+1,n=>by have:=jT (dN ss N) ((fS ss n).getD default).fs;rw[dN];omega
theorem aAM {ss:List St} {es:List En} (g:Gd ss es):∀(N:Nat) (n:ByteArray),dN ss N n<=1+N*1000000001
 |0,_=>by rw[dN];omega
 |N+1,n=>by
  have:fB (dN ss N) ((fS ss n).getD default).fs<=1000000001+N*1000000001:=by
   refine L8 (by omega) fun f hf=>?_
   cases hs:fS ss n with
   |none=>rw[hs] at hf;cases hf
   |some t=>
    rw[hs] at hf
    have h1:=g.lv t (f5 hs).1 f hf
    have h2:=aAM g N (bN f.ty).2.n
    unfold bU
    cases (bN f.ty).2.k==6<;>simp only[bE,a8]<;>omega
  rw[dN];omega
theorem CX {ss:List St} {es:List En} (g:Gd ss es) {n:ByteArray} {t:St} (hs:fS ss n=some t) {f:Fl} (hf:f∈t.fs) (hk:((bN f.ty).2.k==6)=true):dS ss n (bN f.ty).2.n/\∃u,fS ss (bN f.ty).2.n=some u:=by
 obtain ⟨h1,h2,h3,_⟩:=aCA (g.val t (f5 hs).1 f hf) hk
 refine ⟨⟨f,by rw[hs];exact hf,h1,h2⟩,?_⟩
 rw[<-pQ] at h3
 exact Option.isSome_iff_exists.1 h3
theorem EJ {ss:List St} {es:List En} (g:Gd ss es) (ha:tM ss):∀(N:Nat) (n:ByteArray),rN ss n<N->dN ss (N+1) n=dN ss N n
 |0,_,h=>absurd h (Nat.not_lt_zero _)
 |N+1,n,h=>by
  rw[dN,dN]
  congr 1
  refine rE fun f hf=>?_
  cases hs:fS ss n with
  |none=>rw[hs] at hf;cases hf
  |some t=>
   rw[hs] at hf
   unfold bU
   cases hk:(bN f.ty).2.k==6 with
   |false=>rfl
   |true=>
    obtain ⟨h1,u,h2⟩:=CX g hs hf hk
    have:=CN h1 h2 ha
    rw[EJ g ha N _ (by omega)]
theorem GE (ss:List St) (n:ByteArray):0<=dD ss n:=Int.le_trans (by decide) (aE4 ss (dK+1) n)
theorem ND {ss:List St} {es:List En} (g:Gd ss es) (n:ByteArray):dD ss n<=1000000000000:=by
 refine Int.le_trans (aAM g (dK+1) n) ?_
 have:=Y8
 generalize dK=k at *
 subst this
 decide
theorem aLR {ss:List St} {es:List En} (g:Gd ss es) (ha:tM ss) (f:Fl):bU (dN ss dK) f.ty=bU (dD ss) f.ty:=by
 have h2:=M9 ss (bN f.ty).2.n
 have h3:=g.n
 have h4:=Y8
 have h5:=EJ g ha dK (bN f.ty).2.n (by omega)
 unfold bU
 rw[RZ,h5]
theorem FZ {ss:List St} {es:List En} (g:Gd ss es) (ha:tM ss) {n:ByteArray} {t:St} (hs:fS ss n=some t):dD ss n=fB (dD ss) t.fs+1:=by
 have h1:=aAW ss dK n
 have h2:fB (dN ss dK) t.fs=fB (dD ss) t.fs:=rE fun f _=>aLR g ha f
 rw[hs,Option.getD_some,h2] at h1
 rw[RZ]
 exact h1
theorem Gd.dp {ss:List St} {es:List En} (g:Gd ss es) (ha:tM ss):Dp ss (dD ss) (rN ss):=by
 refine ⟨g.ok,fun n t hs=>FZ g ha hs,GE ss,ND g,fun n t hs f hf=>(AJ ss es _ _ (Nat.le_refl _) (g.val t (f5 hs).1 f hf)).1,fun n t hs f hf hk=>?_⟩
 obtain ⟨h1,u,h2⟩:=CX g hs hf hk
 exact ⟨u,h2,CN h1 h2 ha⟩
def iZ (ss:List St):Int:=bif ss.any (fun t=>bW (cP ss t.nm) t.nm) then 19 else bif ss.any (fun t=>decide (6<dD ss t.nm)) then 9 else 0
def aFQ:W.Spec:=fun av H K=>∃(s:Sc) (ks:List Value) (vs:List St) (ks':List Value) (vs':List En),av=[.va (.gs (aD s)),mO]/\H=fM ks vs ks' vs'/\
 kU ks vs s.ss/\Gd s.ss s.es/\s.ok/\K (iS .i64 (iZ s.ss)) (fM ks vs ks' vs')
theorem aDN {s:Sc} {ks:List Value} {vs:List St} {ks':List Value} {vs':List En} {K:S->Hp->Prop} (h1:kU ks vs s.ss) (h2:Gd s.ss s.es) (h3:s.ok) (hK:K (iS .i64 (iZ s.ss)) (fM ks vs ks' vs')) :
 aFQ [.va (.gs (aD s)),mO] (fM ks vs ks' vs') K:=⟨s,ks,vs,ks',vs',rfl,rfl,h1,h2,h3,hK⟩
theorem iX {α:Type} {l:List α} {p:α->Bool} (h:l.any p=false):∀x∈l,p x=false:=fun x hx=>by
 rw[List.any_eq_false] at h;simpa using h x hx
theorem UR:Meets Tryz.prog 73 aFQ:=by
 refine aF Tryz.func73 aTV 2 (by rw[Tryz.ntmps73];decide) (aC aOW (aG AR (aC aKK (aB _)))) (fun av H K h=>by obtain ⟨_,_,_,_,_,rfl,_⟩:=h;rfl) ?_
 rintro av H K ⟨s,ks,vs,ks',vs',rfl,rfl,h1,hg,hs,hK⟩
 have fin:∀(x:Int) (R:Hp),iZ s.ss=x->W.Fin 2 K (iS .i64 x) (.map .string ks (vs.map iG)::.map .string ks' (vs'.map iW)::R):=fun x R h=>by
  rw[h] at hK
  exact .sel [0,1] (by simp) (by simp) rfl (.done (by simp -dsimp only[go_sem];simpa using hK))
 obtain ⟨_,_,hls,_,hss⟩:=hs
 simp -dsimp only[go_sem,aD,aG1,aKV]
 refine aL (α:=Nat) (fun i=>[(2,.va (.c1 (.pt 2 0))),(3,.va (.c1 (.pt 3 0))),(10,.va (.c1 (.fz (s.ss.map aH)))),(11,iS .i64 s.ss.length),(12,iS .i64 i)]) (fun _=>[.map .string ks (vs.map iG),.map .string ks' (vs'.map iW),.cells (aD s) 25,.cells [.mp 0,.mp 1] 124])
  (fun i=>i<=s.ss.length/\(s.ss.drop i).any (fun t=>bW (cP s.ss t.nm) t.nm)=s.ss.any (fun t=>bW (cP s.ss t.nm) t.nm)) (fun i=>s.ss.length-i) 0 4 ⟨Nat.zero_le _,rfl⟩ ?_ ?_ ?_
 · simp -dsimp only[go_sem]<;>simp
 · simp -dsimp only[go_sem,aD]<;>simp
 rintro i ⟨hi,ho⟩
 rcases bB i s.ss.length with hlt|hge
 · have hgi:decide ((i:Int)<(s.ss.length:Int))=true:=by simp;omega
   obtain ⟨t,hx⟩:∃t,s.ss[i]? = some t:=⟨_,aU hlt⟩
   have q1:=aT (row:=aH) hx
   rw[cL hx] at ho
   have hv:=hg.vlen t.nm
   have hbs:sB ((cP s.ss t.nm).map bF):=m8 (by rw[tV];omega)
   simp(maxSteps:=9^6)-dsimp only[go_sem,hgi,↓q1,aH,aD]
   refine ⟨by omega,aFA h1 hss (by omega) ?_⟩
   simp(maxSteps:=9^6)-dsimp only[go_sem,hbs]
   cases hc:bW (cP s.ss t.nm) t.nm with
   |true=>
    rw[hc,Bool.true_or] at ho
    simp -dsimp only[go_sem]
    exact fin 19 _ (by unfold iZ;rw[<-ho];rfl)
   |false=>
    rw[hc,Bool.false_or] at ho
    simp -dsimp only[go_sem]
    refine ⟨by omega,aE (i+1) 4 ⟨by omega,ho⟩ (by omega) ?_ ?_⟩
    · simp -dsimp only[go_sem]<;>simp
    · simp -dsimp only[go_sem,aD]<;>simp
 · have hgi:decide ((i:Int)<(s.ss.length:Int))=false:=by simp;omega
   obtain rfl:i=s.ss.length:=by omega
   rw[eH] at ho
   have ha:tM s.ss:=fun t ht=>iX ho.symm t ht
   have hD:=hg.dp ha
   have hF:iZ s.ss=bif s.ss.any (fun t=>decide (6<dD s.ss t.nm)) then 9 else 0:=by unfold iZ;rw[<-ho];rfl
   simp -dsimp only[go_sem,hgi,aD]
   refine aL (α:=Nat) (fun i=>[(3,.va (.c1 (.pt 3 0))),(25,.va (.c1 (.fz (s.ss.map aH)))),(26,iS .i64 s.ss.length),(27,iS .i64 i)]) (fun _=>[.map .string ks (vs.map iG),.map .string ks' (vs'.map iW),.cells (aD s) 25,.cells [.mp 0,.mp 1] 124])
    (fun i=>i<=s.ss.length/\(s.ss.drop i).any (fun t=>decide (6<dD s.ss t.nm))=s.ss.any (fun t=>decide (6<dD s.ss t.nm))) (fun i=>s.ss.length-i) 0 4 ⟨Nat.zero_le _,rfl⟩ ?_ ?_ ?_
   · simp -dsimp only[go_sem]<;>simp
   · simp -dsimp only[go_sem,aD]<;>simp
   clear ho
   rintro i ⟨hi,ho⟩
   rcases bB i s.ss.length with hlt|hge
   · have hgi:decide ((i:Int)<(s.ss.length:Int))=true:=by simp;omega
     obtain ⟨t,hx⟩:∃t,s.ss[i]? = some t:=⟨_,aU hlt⟩
     have q1:=aT (row:=aH) hx
     rw[cL hx] at ho
     have hnd:=hg.nd t (bY hx)
     simp(maxSteps:=9^6)-dsimp only[go_sem,hgi,↓q1,aH,aD]
     refine ⟨by omega,aEB h1 hD hnd ?_⟩
     simp(maxSteps:=9^6)-dsimp only[go_sem]
     cases hc:decide (6<dD s.ss t.nm) with
     |true=>
      rw[hc,Bool.true_or] at ho
      simp -dsimp only[go_sem]
      exact fin 9 _ (by rw[hF,<-ho];rfl)
     |false=>
      rw[hc,Bool.false_or] at ho
      simp -dsimp only[go_sem]
      refine ⟨by omega,aE (i+1) 4 ⟨by omega,ho⟩ (by omega) ?_ ?_⟩
      · simp -dsimp only[go_sem]<;>simp
      · simp -dsimp only[go_sem,aD]<;>simp
   · have hgi:decide ((i:Int)<(s.ss.length:Int))=false:=by simp;omega
     obtain rfl:i=s.ss.length:=by omega
     rw[eH] at ho
     simp -dsimp only[go_sem,hgi,aD]
     exact fin 0 _ (by rw[hF,<-ho];rfl)
def fO (s:Sc) (i:Nat):Int:=match s.es[i]? with
 |some e=>bif !(oL (bl e.nm)) then 5 else bif c8 (s.es.take i) e.nm then 7 else l9 e
 |none=>0
def gG (s:Sc) (i:Nat):Int:=match s.ss[i]? with
 |some t=>bif gT s i t.nm != 0 then gT s i t.nm else n7 s.ss s.es t
 |none=>0
def t8 (s:Sc):Int:=fE (fO s) (s.es.length-0) 0
def s4 (s:Sc):Int:=fE (gG s) (s.ss.length-0) 0
def bI (s:Sc):Int:=bif decide (s.ver<1)||decide (999<s.ver) then 4 else bif cG s then 3 else bif t8 s != 0 then t8 s else bif s4 s != 0 then s4 s else iZ s.ss
inductive TySm:Ty->Prop
 |mk {k s:Int} {n:ByteArray} {e:List Ty}:e.length<=1000000000->(∀t∈e,TySm t)->TySm (.mk k s n e)
structure Sc.fit (s:Sc):Prop where
 ok:s.ok
 lv:∀t∈s.ss,∀f∈t.fs,(bN f.ty).1<=1000000000
 sm:∀t∈s.ss,t.fs.length<=1000000000/\∀f∈t.fs,TySm f.ty
 en:∀e∈s.es,e.ns.length<=1000000000/\e.vs.length<=1000000000
theorem P7 {f:Nat->Int} {m:Nat}:∀(k i:Nat),i+k=m->fE f (m-i) i=0->∀j,i<=j->j<m->f j=0
 |0,i,h,_=>fun j h1 h2=>by omega
 |k+1,i,h,h0=>fun j h1 h2=>by
  have hi:i<m:=by omega
  by_cases e:f i=0
  · rw[mS hi e] at h0
    rcases bB i j with h3|h3
    · exact P7 k (i+1) (by omega) h0 j h3 h2
    · obtain rfl:i=j:=by omega
      exact e
  · rw[kQ hi e] at h0;exact absurd h0 e
theorem lS {f:Nat->Int} {m:Nat} (h:fE f (m-0) 0=0):∀j,j<m->f j=0:=fun j hj=>P7 m 0 (by omega) h j (Nat.zero_le _) hj
theorem UB {ss:List St} {i:Nat} {t:St} (hx:ss[i]? = some t) (h:cD (ss.take i) t.nm=false):fS ss t.nm=some t:=by
 obtain ⟨hl,ht⟩:=bJ.1 hx
 have h1:(ss.take i).find? (fun s=>decide (s.nm=t.nm))=none:=by
  rw[List.find?_eq_none]
  intro x hx
  have:=iX h x hx
  simpa using this
 have h2:ss=ss.take i++(t::ss.drop (i+1)):=by rw[<-ht,<-List.drop_eq_getElem_cons hl,List.take_append_drop]
 unfold fS
 rw[h2,List.find?_append,h1]
 simp
theorem aB5 {ss:List St} {es:List En} {t:St} (h:n7 ss es t=0):∀f∈t.fs,(1<=f.num/\f.num<=127)/\cO (bl f.nm)=true/\valF ss es f.ty=true:=fun f hf=>by
 obtain ⟨i,hi⟩:=List.mem_iff_getElem?.1 hf
 have:=lS h i (bJ.1 hi).1
 unfold jN at this
 rw[hi] at this
 simp only at this
 cases c1:decide (f.num<1)||decide (127<f.num) with
 |true=>rw[c1] at this;simp at this
 |false=>
 rw[c1] at this
 simp only[a8] at this
 revert this
 generalize (decide (0<(i:Int))&&(match t.fs[i-1]? with|some g=>decide (f.num<=g.num)|none=>false))=b
 intro this
 cases b with
 |true=>simp at this
 |false=>
 simp only[a8] at this
 simp only[Bool.or_eq_false_iff,decide_eq_false_iff_not] at c1
 refine ⟨by omega,?_⟩
 cases c2:cO (bl f.nm) with
 |false=>rw[c2] at this;simp at this
 |true=>
 rw[c2] at this
 cases c3:(t.fs.take i).any (fun g=>decide (g.nm=f.nm)) with
 |true=>rw[c3] at this;simp at this
 |false=>
 rw[c3] at this
 cases c4:valF ss es f.ty with
 |false=>rw[c4] at this;simp at this
 |true=>exact ⟨rfl,rfl⟩
theorem aCC {s:Sc} {i:Nat} {n:ByteArray} (h:gT s i n=0):oL (bl n)=true/\c8 s.es n=false/\cD (s.ss.take i) n=false:=by
 unfold gT at h
 cases c1:oL (bl n) with
 |false=>rw[c1] at h;simp at h
 |true=>
 rw[c1] at h
 cases c2:c8 s.es n with
 |true=>rw[c2] at h;simp at h
 |false=>
 rw[c2] at h
 cases c3:cD (s.ss.take i) n with
 |true=>rw[c3] at h;simp at h
 |false=>exact ⟨rfl,rfl,rfl⟩
theorem KQ {s:Sc} {i:Nat} {t:St} (hx:s.ss[i]? = some t) (h:gG s i=0):gT s i t.nm=0/\n7 s.ss s.es t=0:=by
 unfold gG at h
 rw[hx] at h
 simp only at h
 by_cases e:gT s i t.nm=0
 · rw[e] at h;exact ⟨e,by simpa using h⟩
 · rw[show (gT s i t.nm != 0)=true by simpa using e] at h
   exact absurd h e
theorem L2 {s:Sc} {i:Nat} {t:En} (hx:s.es[i]? = some t) (h:fO s i=0):oL (bl t.nm)=true/\c8 (s.es.take i) t.nm=false/\l9 t=0:=by
 unfold fO at h
 rw[hx] at h
 simp only at h
 cases c1:oL (bl t.nm) with
 |false=>rw[c1] at h;simp at h
 |true=>
 rw[c1] at h
 cases c2:c8 (s.es.take i) t.nm with
 |true=>rw[c2] at h;simp at h
 |false=>
 rw[c2] at h
 exact ⟨rfl,rfl,by simpa using h⟩
theorem wT {s:Sc} (h:cG s=false):s.es.length<=16/\s.es.length+s.ss.length<=16/\(∀e∈s.es,e.ns.length<=16)/\∀t∈s.ss,t.fs.length<=16:=by
 unfold cG at h
 simp only[Bool.or_eq_false_iff,decide_eq_false_iff_not] at h
 obtain ⟨⟨⟨h1,h2⟩,h3⟩,h4⟩:=h
 refine ⟨by omega,by omega,fun e he=>?_,fun t ht=>?_⟩
 · have:=iX h3 e he;simp at this;exact this
 · have:=iX h4 t ht;simp at this;exact this
theorem CG {s:Sc} (hf:s.fit) (h1:cG s=false) (h2:s4 s=0):Gd s.ss s.es:=by
 obtain ⟨l1,l2,l3,l4⟩:=wT h1
 have key:∀t∈s.ss,∃i,s.ss[i]? = some t/\gT s i t.nm=0/\n7 s.ss s.es t=0:=fun t ht=>by
  obtain ⟨i,hi⟩:=List.mem_iff_getElem?.1 ht
  exact ⟨i,hi,KQ hi (lS h2 i (bJ.1 hi).1)⟩
 refine ⟨hf.ok.ss,by omega,by omega,fun t ht f hm=>?_,hf.lv,fun t ht=>?_⟩
 · obtain ⟨i,hi,c1,c2⟩:=key t ht
   exact (aB5 c2 f hm).2.2
 · obtain ⟨i,hi,c1,c2⟩:=key t ht
   exact UB hi (aCC c1).2.2
def gK (r:List C):Prop:=∃s:Sc,r=aD s/\s.fit
theorem fJ {s:Sc} (h:s.fit):gK (aD s):=⟨s,rfl,h⟩
noncomputable def ckFn:Fun:=pF gK C.sc fun s=>.int .i64 (bI s)
attribute [go_sem] ckFn
theorem n3 {a b:Int} (h:a≠0):(bif a != 0 then a else b)=a:=by rw[bne,beq_eq_false_iff_ne.2 h];rfl
theorem qD {a b:Int} (h:a=0):(bif a != 0 then a else b)=b:=by rw[h];rfl
theorem aHL:Meets Tryz.prog 39 ckFn.sp:=by
 refine aF Tryz.func39 aU7 1 (by rw[Tryz.ntmps39];decide) (aG aFI (aG EL (aG NU (aC S4 (aG NL (aC GW (aC UR (aB _)))))))) lG ?_
 rintro av H K ⟨⟨h,rfl⟩,hK⟩
 obtain ⟨_,rfl,s,rfl,hs⟩:=f7 h
 have hK:K (iS .i64 (bI s)) []:=by
  have:ckFn.val [.va (.gs (aD s))]=iA .i64 (bI s):=by simp -dsimp only[go_sem]
  rw[this] at hK;exact hK
 clear h
 have hfit:=hs
 have hsc:tH (aD s):=LX hs.ok
 obtain ⟨⟨hv,hle,hls,hes,hss⟩,hlv,_,_⟩:=hs
 have fin:∀(x:Int) (R:Hp),bI s=x->W.Fin 0 K (iS .i64 x) R:=fun x R h1=>by
  rw[h1] at hK
  exact .z ((by simpa[go_sem] using hK))
 have hsc':=hsc
 simp only[aD] at hsc'
 have hdec:C.sc [.vl (.int .i64 s.ver),.fz (s.es.map aZ),.fz (s.ss.map aH)]=s:=dF s
 simp(maxSteps:=9^6)-dsimp only[go_sem,aD,aJX,aJT,hsc',hdec]
 refine ⟨fun h1=>fin 4 _ (by unfold bI;rw[h1];rfl),fun c1=>⟨fun h1=>fin 3 _ (by unfold bI;rw[c1,h1];rfl),fun c2=>?_⟩⟩
 have hF:bI s=bif t8 s != 0 then t8 s else bif s4 s != 0 then s4 s else iZ s.ss:=by unfold bI;rw[c1,c2];rfl
 refine aL (α:=Nat) (fun i=>[(1,.va (.c1 (.pt 0 0))),(24,.va (.c1 (.fz (s.es.map aZ)))),(25,iS .i64 s.es.length),(26,iS .i64 i)]) (fun _=>[.cells (aD s) 25])
  (fun i=>i<=s.es.length/\fE (fO s) (s.es.length-i) i=t8 s) (fun i=>s.es.length-i) 0 1 ⟨Nat.zero_le _,rfl⟩ ?_ ?_ ?_
 · simp -dsimp only[go_sem]<;>simp
 · simp -dsimp only[go_sem,aD]<;>simp
 rintro i ⟨hi,ho⟩
 rcases bB i s.es.length with hlt|hge
 · have hg:decide ((i:Int)<(s.es.length:Int))=true:=by simp;omega
   obtain ⟨e,hx⟩:∃e,s.es[i]? = some e:=⟨_,aU hlt⟩
   have q1:=aT (row:=aZ) hx
   have he:e.ok:=hes e (bY hx)
   have hie:OM (aZ e):=aCH he
   have hie':=hie
   simp only[aZ] at hie'
   have hed:C.en [.vl (.string e.nm),.fz (e.ns.map bF),.fz (e.vs.map cK)]=e:=aGB e
   have hA:fO s i=bif !(oL (bl e.nm)) then 5 else bif c8 (s.es.take i) e.nm then 7 else l9 e:=by unfold fO;rw[hx]
   have fin':∀(x:Int) (R:Hp),fO s i=x->x≠0->W.Fin 0 K (iS .i64 x) R:=fun x R h1 h2=>fin x R (by
    rw[hF,<-ho,kQ hlt (by rw[h1];exact h2),h1];exact n3 h2)
   have dM:fO s i=0->fE (fO s) (s.es.length-(i+1)) (i+1)=t8 s:=fun h1=>by rw[<-ho,mS hlt h1]
   simp(maxSteps:=9^6)-dsimp only[go_sem,hg,↓q1,aZ,aD]
   refine ⟨by omega,fun h1=>fin' 5 _ (by rw[hA,h1];rfl) (by decide),fun c3=>?_⟩
   rw[c3] at hA
   simp only[a8] at hA
   have hlj:=nR s.es i
   simp -dsimp only[gE aCX]
   refine ⟨by simp;omega,?_⟩
   generalize hm:s.es.take i=m at *
   refine aL (α:=Nat) (fun j=>[(1,.va (.c1 (.pt 0 0))),(4,.va (.c1 (.pt 1 0))),(24,.va (.c1 (.fz (s.es.map aZ)))),(25,iS .i64 s.es.length),(26,iS .i64 i),(38,.va (.c1 (.fz (m.map aZ)))),(39,iS .i64 m.length),(40,iS .i64 j)]) (fun _=>[.cells (aD s) 25,.cells (aZ e) 118])
    (fun j=>j<=m.length/\c8 (m.drop j) e.nm=c8 m e.nm) (fun j=>m.length-j) 0 2 ⟨Nat.zero_le _,rfl⟩ ?_ ?_ ?_
   · simp -dsimp only[go_sem]<;>simp
     rw[<-hm];exact ⟨List.map_take.symm,by simp⟩
   · simp -dsimp only[go_sem,aD,aZ]<;>simp
   rintro j ⟨hj,ho2⟩
   rcases bB j m.length with hjt|hjg
   · have hgj:decide ((j:Int)<(m.length:Int))=true:=by simp;omega
     obtain ⟨d,hd⟩:∃e,m[j]? = some e:=⟨_,aU hjt⟩
     have q5:=aT (row:=aZ) hd
     rw[c8,cL hd] at ho2
     simp(maxSteps:=9^6)-dsimp only[go_sem,hgj,↓q5,aZ,aD,cN]
     and_intros
     all_goals first
      |omega
      |skip
     · intro hc
       rw[hc,Bool.true_or] at ho2
       exact fin' 7 _ (by rw[hA,<-ho2];rfl) (by decide)
     · intro hc
       rw[hc,Bool.false_or] at ho2
       refine ⟨by omega,aE (j+1) 2 ⟨by omega,ho2⟩ (by omega) ?_ ?_⟩
       · simp -dsimp only[go_sem]<;>simp
       · simp -dsimp only[go_sem,aD,aZ]<;>simp
   · have hgj:decide ((j:Int)<(m.length:Int))=false:=by simp;omega
     obtain rfl:j=m.length:=by omega
     rw[c8,eH] at ho2
     rw[<-ho2] at hA
     simp only[a8] at hA
     simp(maxSteps:=9^6)-dsimp only[go_sem,hgj,aZ,aD,hie',hed]
     refine ⟨fun h1=>fin' _ _ hA (by simpa using h1),fun h1=>?_⟩
     refine ⟨by omega,aE (i+1) 1 ⟨by omega,dM (by rw[hA];simpa using h1)⟩ (by omega) ?_ ?_⟩
     · simp -dsimp only[go_sem]<;>simp
     · simp -dsimp only[go_sem,aD]<;>simp
 · have hg:decide ((i:Int)<(s.es.length:Int))=false:=by simp;omega
   obtain rfl:i=s.es.length:=by omega
   rw[mC] at ho
   rw[qD ho.symm] at hF
   simp(maxSteps:=9^6)-dsimp only[go_sem,hg,aD]
   refine aKF hfit.ok fun ks vs ks' vs' x1 x2=>?_
   simp(maxSteps:=9^6)-dsimp only[go_sem]
   clear hi hge hg
   refine aL (α:=Nat) (fun i=>[(1,.va (.c1 (.pt 0 0))),(8,.va (.c1 (.pt 3 0))),(59,.va (.c1 (.fz (s.ss.map aH)))),(60,iS .i64 s.ss.length),(61,iS .i64 i)]) (fun _=>[.cells (aD s) 25,.map .string ks (vs.map iG),.map .string ks' (vs'.map iW),.cells [.mp 1,.mp 2] 124])
    (fun i=>i<=s.ss.length/\fE (gG s) (s.ss.length-i) i=s4 s) (fun i=>s.ss.length-i) 0 4 ⟨Nat.zero_le _,rfl⟩ ?_ ?_ ?_
   · simp -dsimp only[go_sem]<;>simp
   · simp -dsimp only[go_sem,aD]<;>simp
   clear ho
   rintro i ⟨hi,ho⟩
   rcases bB i s.ss.length with hlt|hge
   · have hg:decide ((i:Int)<(s.ss.length:Int))=true:=by simp;omega
     obtain ⟨t,hx⟩:∃e,s.ss[i]? = some e:=⟨_,aU hlt⟩
     have q1:=aT (row:=aH) hx
     have ht:t.ok:=hss t (bY hx)
     have hA:gG s i=bif gT s i t.nm != 0 then gT s i t.nm else n7 s.ss s.es t:=by unfold gG;rw[hx]
     have fin':∀(x:Int) (R:Hp),gG s i=x->x≠0->W.Fin 0 K (iS .i64 x) R:=fun x R h1 h2=>fin x R (by
      rw[hF,<-ho,kQ hlt (by rw[h1];exact h2),h1];exact n3 h2)
     have dM:gG s i=0->fE (gG s) (s.ss.length-(i+1)) (i+1)=s4 s:=fun h1=>by rw[<-ho,mS hlt h1]
     have q0:decide (0<=(i:Int))=true:=by simp
     simp(maxSteps:=9^6)-dsimp only[go_sem,hg,↓q1,aH,aD,hsc',hdec,Int.toNat_natCast]
     refine ⟨by omega,⟨by omega,by omega⟩,fun h1=>fin' _ _ (by rw[hA];exact n3 (by simpa using h1)) (by simpa using h1),fun h1=>?_⟩
     have h1:gT s i t.nm=0:=by simpa using h1
     rw[qD h1] at hA
     refine aEX x1 x2 ht ?_
     simp(maxSteps:=9^6)-dsimp only[go_sem]
     refine ⟨fun h1=>fin' _ _ hA (by simpa using h1),fun h1=>?_⟩
     refine ⟨by omega,aE (i+1) 4 ⟨by omega,dM (by rw[hA];simpa using h1)⟩ (by omega) ?_ ?_⟩
     · simp -dsimp only[go_sem]<;>simp
     · simp -dsimp only[go_sem,aD]<;>simp
   · have hg:decide ((i:Int)<(s.ss.length:Int))=false:=by simp;omega
     obtain rfl:i=s.ss.length:=by omega
     rw[mC] at ho
     rw[qD ho.symm] at hF
     simp(maxSteps:=9^6)-dsimp only[go_sem,hg,aD]
     refine aDN x1 (CG hfit c2 ho.symm) hfit.ok ?_
     simp(maxSteps:=9^6)-dsimp only[go_sem]
     exact fin _ _ hF
def FK (p:List C->Prop):List S->Prop:=fun av=>match av with
 |[.va (.gs r),.va (.c1 (.vl (.string _)))]=>p r
 |_=>False
theorem rT {p:List C->Prop} {av:List S} (h:FK p av):∃r n,av=[.va (.gs r),tS n]/\p r:=by
 unfold FK at h
 split at h
 · exact ⟨_,_,rfl,h⟩
 · exact h.elim
def WS {α:Type} (d:List C->α) (f:α->ByteArray->A):List S->A:=fun av=>match av with
 |[.va (.gs r),.va (.c1 (.vl (.string n)))]=>f (d r) n
 |_=>.gs []
noncomputable def UY {α:Type} (p:List C->Prop) (d:List C->α) (f:α->ByteArray->A) (hf:∀a n,(f a n).flat):Fun:=⟨FK p,WS d f,fun av h=>by obtain ⟨r,n,rfl,_⟩:=rT h;exact hf _ _⟩
theorem SL {α:Type} {p:List C->Prop} {d:List C->α} {f:α->ByteArray->A} {hf:∀a n,(f a n).flat}:∀av H K,(UY p d f hf).sp av H K->av.length=2:=fun av H K h=>by obtain ⟨r,n,rfl,_⟩:=rT h.1.1;rfl
attribute [go_sem] UY FK WS
def okS (s:Sc) (n:ByteArray):Bool:=bI s==0&&cD s.ss n
def aKB (N:Nat):W.Spec:=fun av H K=>∃t:Ty,av=[.va (.gs (aQ t))]/\H=[]/\TyOk t/\TySm t/\t.h<=N/\K (.va (.gs (aQ t))) []
theorem QN {N:Nat} {t:Ty} {K:S->Hp->Prop} (h1:TyOk t) (h2:TySm t) (h3:t.h<=N) (hK:K (.va (.gs (aQ t))) []):aKB N [.va (.gs (aQ t))] [] K:=⟨t,rfl,rfl,h1,h2,h3,hK⟩
theorem dB {α:Type} {l:List α} {i:Nat} {x:α} (h:l[i]? = some x):l.take (i+1)=l.take i++[x]:=by rw[List.take_add_one,h];rfl
theorem Q8 (t:Ty):∀c∈aQ t,c.shut=true/\c.one:=by rw[aR];simp[go_sem,C.shut]
theorem D5:∀N,Meets Tryz.prog 137 (aKB N)
 |0=>⟨by kernel_rfl,by rintro xs vs E ro w K _ _ _ ⟨t,_,_,_,_,h,_⟩;have:=t.h_pos;omega⟩
 |N+1=>by
  refine aF Tryz.func137 aN7 1 (by rw[Tryz.ntmps137];decide) (aC (D5 N) (aB _)) (fun av H K h=>by obtain ⟨_,rfl,_⟩:=h;rfl) ?_
  rintro av H K ⟨⟨k,s,n,e⟩,rfl,rfl,h1,h2,h3,hK⟩
  have hle:=h1.len
  have hoe:=h1.e
  obtain ⟨hl,hse⟩:e.length<=1000000000/\∀t∈e,TySm t:=by cases h2;exact ⟨by assumption,by assumption⟩
  simp only[Ty.e] at hle hoe
  simp(maxSteps:=9^6)-dsimp only[go_sem,aQ,aY,VQ,W2]
  refine cM (α:=Nat) (fun i=>[(2,.va (.c1 (.pt 1 0))),(3,.va (.c1 (.pt 2 0))),(14,.va (.c1 (.fz (e.map aQ)))),(15,iS .i64 e.length),(16,iS .i64 i)]) (fun i=>[.cells (aQ (.mk k s n e)) 42,.cells [.vl (.int .i64 0),.vl (.int .i64 0),.vl (.string (mk [])),.vl (.slice none 0 0)] 42,.cells [.vl (.int .i64 k),.vl (.int .i64 s),.vl (.string n),.sl 3 i] 42,.row ((e.take i).map aQ) 42 4])
   (fun i=>i<=e.length) (fun i=>e.length-i) (.nilc 2 3 42 4 [.vl (.int .i64 k),.vl (.int .i64 s),.vl (.string n),.vl (.slice none 0 0)] 42 rfl rfl (jD 0 4 (Nat.zero_le _) ?_ ?_)) ?_
  · simp -dsimp only[go_sem]<;>simp
  · simp -dsimp only[go_sem,aQ,aY]<;>simp
  intro i hi
  have hz:(e.take i).length=i:=by rw[List.length_take];omega
  rcases bB i e.length with hlt|hge
  · have hg:decide ((i:Int)<(e.length:Int))=true:=by simp;omega
    obtain ⟨u,hx⟩:∃t,e[i]? = some t:=⟨_,aU hlt⟩
    have q1:=aT (row:=aQ) hx
    have hu:=bY hx
    simp(maxSteps:=9^6)-dsimp only[go_sem,hg,↓q1,dE]
    refine ⟨by omega,uK u,QN (hoe u hu) (hse u hu) ?_ ?_⟩
    · have:=Ty.hs_mem hu;rw[Ty.h] at h3;omega
    simp(maxSteps:=9^6)-dsimp only[go_sem,dE]
    refine ⟨Q8 u,Q8 u,hz,by omega,by omega,aE (i+1) 4 (by omega) (by omega) ?_ ?_⟩
    · simp -dsimp only[go_sem]<;>simp
    · simp -dsimp only[go_sem,aQ,aY,dB hx]<;>simp
  · have hg:decide ((i:Int)<(e.length:Int))=false:=by simp;omega
    obtain rfl:i=e.length:=by omega
    rw[List.take_length]
    simp(maxSteps:=9^6)-dsimp only[go_sem,hg]
    refine .pub 3 _ _ _ rfl (.sel [] (by simp) (by simp[b5]) rfl (.done ?_))
    simp -dsimp only[go_sem,b5]
    simpa[aQ,aY] using hK
def aHH:W.Spec:=fun av H K=>∃f:Fl,av=[.va (.gs (aS f))]/\H=[]/\f.ok/\TySm f.ty/\K (.va (.gs (aS f))) []
theorem QC {f:Fl} {K:S->Hp->Prop} (h1:f.ok) (h2:TySm f.ty) (hK:K (.va (.gs (aS f))) []):aHH [.va (.gs (aS f))] [] K:=⟨f,rfl,rfl,h1,h2,hK⟩
theorem y4:Meets Tryz.prog 96 aHH:=by
 refine dW 0 (t:=fun N=>fun av H K=>∃f:Fl,av=[.va (.gs (aS f))]/\H=[]/\f.ok/\TySm f.ty/\f.ty.h=N/\K (.va (.gs (aS f))) []) (fun N=>?_) fun av H K ⟨f,e1,e2,h1,h2,hK⟩=>⟨f.ty.h,f,e1,e2,h1,h2,rfl,hK⟩
 refine aF Tryz.func96 aSC 1 (by rw[Tryz.ntmps96];decide) (aC (D5 N) (aB _)) (fun av H K h=>by obtain ⟨_,rfl,_⟩:=h;rfl) ?_
 rintro av H K ⟨f,rfl,rfl,h1,h2,rfl,hK⟩
 simp(maxSteps:=9^6)-dsimp only[go_sem,aS,aH4,aGR,j1]
 refine QN h1.ty h2 (Nat.le_refl _) ?_
 simp(maxSteps:=9^6)-dsimp only[go_sem,aR]
 exact .z ((by simpa[go_sem,aS] using hK))
def XJ:W.Spec:=fun av H K=>∃t:St,av=[.va (.gs (aH t))]/\H=[]/\t.ok/\(t.fs.length<=1000000000/\∀f∈t.fs,TySm f.ty)/\K (.va (.gs (aH t))) []
theorem aF3 {t:St} {K:S->Hp->Prop} (h1:t.ok) (h2:t.fs.length<=1000000000/\∀f∈t.fs,TySm f.ty) (hK:K (.va (.gs (aH t))) []):XJ [.va (.gs (aH t))] [] K:=⟨t,rfl,rfl,h1,h2,hK⟩
theorem KI:Meets Tryz.prog 74 XJ:=by
 refine aF Tryz.func74 aTH 1 (by rw[Tryz.ntmps74];decide) (aC y4 (aB _)) (fun av H K h=>by obtain ⟨_,rfl,_⟩:=h;rfl) ?_
 rintro av H K ⟨⟨n,l⟩,rfl,rfl,h1,⟨hl,hse⟩,hK⟩
 obtain ⟨hn,_,hfs⟩:=h1
 simp only at hn hl hse hfs
 simp(maxSteps:=9^6)-dsimp only[go_sem,aH,aD6,aKZ]
 refine cM (α:=Nat) (fun i=>[(2,.va (.c1 (.pt 1 0))),(3,.va (.c1 (.pt 2 0))),(10,.va (.c1 (.fz (l.map aS)))),(11,iS .i64 l.length),(12,iS .i64 i)]) (fun i=>[.cells (aH ⟨n,l⟩) 48,.cells [.vl (.string (mk [])),.vl (.slice none 0 0)] 48,.cells [.vl (.string n),.sl 3 i] 48,.row ((l.take i).map aS) 52 7])
  (fun i=>i<=l.length) (fun i=>l.length-i) (.nilc 2 1 52 7 [.vl (.string n),.vl (.slice none 0 0)] 48 rfl rfl (jD 0 4 (Nat.zero_le _) ?_ ?_)) ?_
 · simp -dsimp only[go_sem]<;>simp
 · simp -dsimp only[go_sem,aH]<;>simp
 intro i hi
 have hz:(l.take i).length=i:=by rw[List.length_take];omega
 rcases bB i l.length with hlt|hge
 · have hg:decide ((i:Int)<(l.length:Int))=true:=by simp;omega
   obtain ⟨u,hx⟩:∃t,l[i]? = some t:=⟨_,aU hlt⟩
   have q1:=aT (row:=aS) hx
   have hu:=bY hx
   have hcd:aS u=[.vl (.int .i64 u.num),.vl (.string u.nm),.vl (.int .i64 u.ty.k),.vl (.int .i64 u.ty.s),.vl (.string u.ty.n),.fz (u.ty.e.map aQ),.vl (.bool u.opt)]:=rfl
   simp(maxSteps:=9^6)-dsimp only[go_sem,hg,↓q1,aS]
   refine ⟨by omega,QC (hfs u hu) (hse u hu) ?_⟩
   simp(maxSteps:=9^6)-dsimp only[go_sem,aS]
   refine ⟨hz,by omega,by omega,aE (i+1) 4 (by omega) (by omega) ?_ ?_⟩
   · simp -dsimp only[go_sem]<;>simp
   · simp -dsimp only[go_sem,aH,dB hx]<;>simp[aS]
 · have hg:decide ((i:Int)<(l.length:Int))=false:=by simp;omega
   obtain rfl:i=l.length:=by omega
   rw[List.take_length]
   simp(maxSteps:=9^6)-dsimp only[go_sem,hg]
   refine .pub 3 _ _ _ rfl (.sel [] (by simp) (by simp[b5]) rfl (.done ?_))
   simp -dsimp only[go_sem,b5]
   simpa[aH] using hK
theorem iQ {α:Type} {l:List α} {i:Nat} {x:α} (hx:l[i]? = some x) (p:α->Bool):(l.drop i).find? p=bif p x then some x else (l.drop (i+1)).find? p:=by
 obtain ⟨h,rfl⟩:=bJ.1 hx
 rw[List.drop_eq_getElem_cons h,List.find?_cons]
 cases p l[i]<;>rfl
def uQ:W.Spec:=fun av H K=>∃(s:Sc) (n:ByteArray),av=[.va (.gs (aD s)),tS n]/\H=[]/\s.fit/\K (.tu [.gs (aH ((fS s.ss n).getD default)),bA (cD s.ss n)]) []
theorem fU {s:Sc} {n:ByteArray} {K:S->Hp->Prop} (h:s.fit) (hK:K (.tu [.gs (aH ((fS s.ss n).getD default)),bA (cD s.ss n)]) []):uQ [.va (.gs (aD s)),tS n] [] K:=⟨s,n,rfl,rfl,h,hK⟩
theorem BH:aH default=[.vl (.string (mk [])),.fz []]:=rfl
theorem pK:aS default=[.vl (.int .i64 0),.vl (.string (mk [])),.vl (.int .i64 0),.vl (.int .i64 0),.vl (.string (mk [])),.fz [],.vl (.bool false)]:=rfl
theorem lL:Meets Tryz.prog 40 uQ:=by
 refine aF Tryz.func40 aR6 2 (by rw[Tryz.ntmps40];decide) (aC KI (aB _)) (fun av H K h=>by obtain ⟨_,_,rfl,_⟩:=h;rfl) ?_
 rintro av H K ⟨s,n,rfl,rfl,hs,hK⟩
 rw[<-pQ] at hK
 have hl:=hs.ok.ls
 simp -dsimp only[go_sem,aD,aJR,aJ9]
 refine aL (α:=Nat) (fun i=>[(1,tS n),(2,.va (.c1 (.pt 0 0))),(4,.va (.c1 (.pt 1 0))),(9,.va (.c1 (.fz (s.ss.map aH)))),(10,iS .i64 s.ss.length),(11,iS .i64 i)]) (fun _=>[.cells (aD s) 25,.cells [.vl (.string (mk [])),.vl (.slice none 0 0)] 48])
  (fun i=>i<=s.ss.length/\fS (s.ss.drop i) n=fS s.ss n) (fun i=>s.ss.length-i) 0 2 ⟨Nat.zero_le _,rfl⟩ ?_ ?_ ?_
 · simp[go_sem]
 · simp[go_sem,aD]
 rintro i ⟨hi,ho⟩
 rcases bB i s.ss.length with hlt|hge
 · have hg:decide ((i:Int)<(s.ss.length:Int))=true:=by simp;omega
   obtain ⟨t,hx⟩:∃e,s.ss[i]? = some e:=⟨_,aU hlt⟩
   have q2:=aT (row:=aH) hx
   have htm:=bY hx
   rw[fS,iQ hx] at ho
   cases hc:decide (t.nm=n) with
   |true=>
    rw[hc,bE] at ho
    rw[<-ho] at hK
    simp(maxSteps:=9^6)-dsimp only[go_sem,hg,↓q2,aH,aD,cN,hc]
    refine ⟨by omega,aF3 (hs.ok.ss t htm) (hs.sm t htm) ?_⟩
    simp(maxSteps:=9^6)-dsimp only[go_sem,aH]
    exact .z ((by simpa[go_sem,aH] using hK))
   |false=>
    rw[hc,a8] at ho
    simp(maxSteps:=9^6)-dsimp only[go_sem,hg,↓q2,aH,aD,cN,hc]
    refine ⟨by omega,by omega,aE (i+1) 2 ⟨by omega,ho⟩ (by omega) ?_ ?_⟩
    · simp[go_sem]
    · simp[go_sem,aD]
 · have hg:decide ((i:Int)<(s.ss.length:Int))=false:=by simp;omega
   obtain rfl:i=s.ss.length:=by omega
   rw[List.drop_length] at ho
   rw[<-ho] at hK
   simp -dsimp only[go_sem,hg,aD]
   exact .z ((by simpa[go_sem,fS,BH] using hK))
def fF (l:List Fl) (k:Int):Option Fl:=l.find? fun f=>decide (f.num=k)
def sE:W.Spec:=fun av H K=>∃(t:St) (k:Int),av=[.va (.gs (aH t)),iS .i64 k]/\H=[]/\t.ok/\(∀f∈t.fs,TySm f.ty)/\K (.tu [.gs (aS ((fF t.fs k).getD default)),bA (fF t.fs k).isSome]) []
theorem u4 {t:St} {k:Int} {K:S->Hp->Prop} (h:t.ok) (h2:∀f∈t.fs,TySm f.ty) (hK:K (.tu [.gs (aS ((fF t.fs k).getD default)),bA (fF t.fs k).isSome]) []):sE [.va (.gs (aH t)),iS .i64 k] [] K:=⟨t,k,rfl,rfl,h,h2,hK⟩
theorem s8:Meets Tryz.prog 54 sE:=by
 refine aF Tryz.func54 aTZ 2 (by rw[Tryz.ntmps54];decide) (aC y4 (aB _)) (fun av H K h=>by obtain ⟨_,_,rfl,_⟩:=h;rfl) ?_
 rintro av H K ⟨s,n,rfl,rfl,hs,hsm,hK⟩
 have hl:=hs.len
 simp -dsimp only[go_sem,aH,aKP,aFZ]
 refine aL (α:=Nat) (fun i=>[(1,iS .i64 n),(2,.va (.c1 (.pt 0 0))),(4,.va (.c1 (.pt 1 0))),(9,.va (.c1 (.fz (s.fs.map aS)))),(10,iS .i64 s.fs.length),(11,iS .i64 i)]) (fun _=>[.cells (aH s) 48,.cells [.vl (.int .i64 0),.vl (.string (mk [])),.vl (.int .i64 0),.vl (.int .i64 0),.vl (.string (mk [])),.vl (.slice none 0 0),.vl (.bool false)] 52])
  (fun i=>i<=s.fs.length/\fF (s.fs.drop i) n=fF s.fs n) (fun i=>s.fs.length-i) 0 2 ⟨Nat.zero_le _,rfl⟩ ?_ ?_ ?_
 · simp[go_sem]
 · simp[go_sem,aH]
 rintro i ⟨hi,ho⟩
 rcases bB i s.fs.length with hlt|hge
 · have hg:decide ((i:Int)<(s.fs.length:Int))=true:=by simp;omega
   obtain ⟨t,hx⟩:∃e,s.fs[i]? = some e:=⟨_,aU hlt⟩
   have q2:=aT (row:=aS) hx
   have htm:=bY hx
   rw[fF,iQ hx] at ho
   have hq:(t.num==n)=decide (t.num=n):=rfl
   cases hc:decide (t.num=n) with
   |true=>
    rw[hc,bE] at ho
    rw[<-ho] at hK
    simp(maxSteps:=9^6)-dsimp only[go_sem,hg,↓q2,aS,aH,hq,hc]
    refine ⟨by omega,QC (hs.fs t htm) (hsm t htm) ?_⟩
    simp(maxSteps:=9^6)-dsimp only[go_sem,aS]
    exact .z ((by simpa[go_sem,aS] using hK))
   |false=>
    rw[hc,a8] at ho
    simp(maxSteps:=9^6)-dsimp only[go_sem,hg,↓q2,aS,aH,hq,hc]
    refine ⟨by omega,by omega,aE (i+1) 2 ⟨by omega,ho⟩ (by omega) ?_ ?_⟩
    · simp[go_sem]
    · simp[go_sem,aH]
 · have hg:decide ((i:Int)<(s.fs.length:Int))=false:=by simp;omega
   obtain rfl:i=s.fs.length:=by omega
   rw[List.drop_length] at ho
   rw[<-ho] at hK
   simp -dsimp only[go_sem,hg,aH]
   exact .z ((by simpa[go_sem,fF,pK] using hK))
@[go_sem] theorem aX2 (t:Ty) (H:Hp):(aQ t).map (C.bor H)=aQ t:=by rw[aR];rfl
end Go.Proofs.YthpbnmebjocbeaaGreat
namespace Go.Proofs.YthpbnmebjocbeaaGreat
def uL:Nat->Nat->List UInt8
 |0,_=>[]
 |f+1,n=>bif decide (n<128) then [n.toUInt8] else (n % 128+128).toUInt8::uL f (n / 128)
theorem gP {f n:Nat} (hf:0<f) (h:n<128):uL f n=[n.toUInt8]:=by
 obtain ⟨g,rfl⟩:∃g,f=g+1:=⟨f-1,by omega⟩
 rw[uL,decide_eq_true h];rfl
theorem i5 {f n:Nat} (h:¬ n<128):uL (f+1) n=(n % 128+128).toUInt8::uL f (n / 128):=by
 rw[uL,decide_eq_false h];rfl
theorem aO7:∀x:Nat,x<256->bits BinOp.or IntKind.u8 (x:Int) 128=((x % 128+128:Nat):Int):=by decide +kernel
theorem aLP (w:World) (b k:Nat) (hk:k+1<=10):(Instr.sliceAt 133 (.pointer (some ⟨b,0,none⟩)) none (some (.int .i64 ((k:Int)+1))) none).run Tryz.prog w=.ok (.slice (some ⟨b,0,none⟩) (k+1) 10) w:=by
 have e:((k:Int)+1).toNat=k+1:=by omega
 simp[Instr.sliceAt,Instr.sureAddr,run_underlying Tryz.underlying133,Instr.sliceBounds,run_sliceBound,e,(by omega:(0:Int)<=(k:Int)+1),(by omega:(k:Int)+1<=10),Addr.add]
theorem TY (N:Nat) (h1:N<2^64) (w:World) :
 Calls Tryz.prog 46 #[.int .u64 N] w fun e w'=>e=.returned (.string ⟨(uL 10 N).toArray⟩)/\∃C,w'=w.alloc (.cells C 133 (0,0)):=by
 go_enter Tryz.func46,Tryz.ntmps46
 go_wp2
 go_loopw [0,4] (fun n k w'=>∃(m k':Nat) (C:Array Value) (pre:List UInt8),n=.int .u64 m/\k=.int .i64 k'/\w'=w.alloc (.cells C 133 (0,0))/\C.size=10/\pre.length=k'/\(∀(j:Nat) (c:UInt8),pre[j]? = some c->C[j]? = some (.int .u8 c.toNat))/\uL 10 N=pre++uL (10-k') m/\k'<=9/\m<128 ^ (10-k')) (fun n _ w'=>match n with | .int _ m=>m.toNat|_=>0)
 case atStart=>refine ⟨N,0,_,[],rfl,rfl,rfl,rfl,rfl,fun j c h=>by simp at h,rfl,by omega,by omega⟩
 case round=>
  obtain ⟨m,k,C,pre,rfl,rfl,rfl,hC,hpl,hp,hu,hk,hm⟩:=hrel
  have hck:∃u,C[k]? = some u:=⟨_,Array.getElem?_eq_getElem (by omega)⟩
  obtain ⟨u,hck⟩:=hck
  by_cases hlt:m<128
  · have hsl:=aLP
    have hcv:(convert 114 9 (.slice (some ⟨w.heap.size,0,none⟩) (k+1) 10)).run Tryz.prog (w.alloc (.cells (C.setIfInBounds k (.int .u8 m)) 133 (0,0)))=.ok (.string ⟨(uL 10 N).toArray⟩) (w.alloc (.cells (C.setIfInBounds k (.int .u8 m)) 133 (0,0))):=by
     have hul:uL 10 N=pre++[m.toUInt8]:=by rw[hu,gP (by omega) hlt]
     have hl:(pre++[m.toUInt8]).length=k+1:=by simp[hpl]
     have:=run_convert_bytes_back (P:=Tryz.prog) (w.alloc (.cells (C.setIfInBounds k (.int .u8 m)) 133 (0,0))) 114 9 5 ⟨w.heap.size,0,none⟩ 10 (pre++[m.toUInt8]) Tryz.underlying114 Tryz.underlying5 Tryz.underlying9 (fun j hj=>by
      have e0:(⟨w.heap.size,0,none⟩:Addr).add j=⟨w.heap.size,j,none⟩:=by simp[Addr.add];omega
      rw[e0,World.cell?_alloc_mark]
      rcases Nat.lt_or_ge j k with h|h
      · have hx:pre[j]? = some pre[j]:=List.getElem?_eq_getElem (by omega)
        rw[List.getElem_append_left (by omega),Array.getElem?_setIfInBounds_ne (by omega)]
        exact hp j _ hx
      · obtain rfl:j=k:=by omega
        rw[List.getElem_append_right (by omega)]
        simp[hC,show j<10 by omega,Nat.mod_eq_of_lt (show m<256 by omega)])
     rw[hl] at this
     rw[hul];exact this
    go_wp2
    go_ret
    exact ⟨by rw[hu];rfl,_,rfl⟩
  · have hge:(128:Int)<=m:=by omega
    have hk8:k<=8:=by
     rcases Nat.lt_or_ge k 9 with h|h
     · omega
     · have:k=9:=by omega
       subst this;simp at hm;omega
    go_wp2
    refine ⟨⟨m / 128,k+1,_,pre++[(m % 128+128).toUInt8],by simp,by simp,rfl,by simp[hC],by simp[hpl],fun j c hc=>?_,?_,by omega,?_⟩,?_⟩
    · rcases Nat.lt_or_ge j k with h|h
      · rw[List.getElem?_append_left (by omega)] at hc
        rw[Array.getElem?_setIfInBounds_ne (by omega)]
        exact hp j c hc
      · have hj:=(List.getElem?_eq_some_iff.1 hc).1
        obtain rfl:j=k:=by simp[hpl] at hj;omega
        rw[List.getElem?_append_right (by omega),hpl] at hc
        simp at hc
        subst hc
        have e1:((m:Int) % 256)=((m % 256:Nat):Int):=by omega
        rw[e1,aO7 _ (Nat.mod_lt _ (by decide))]
        have e2:m % 256 % 128=m % 128:=by omega
        simp[hC,show j<10 by omega,e2]
        omega
    · rw[hu,show 10-k=10-(k+1)+1 by omega,i5 hlt,List.append_assoc];rfl
    · have:128 ^ (10-k)=128 ^ (10-(k+1))*128:=by rw[<-Nat.pow_succ];congr 1;omega
      rw[this] at hm
      exact Nat.div_lt_of_lt_mul (by rw[Nat.mul_comm];exact hm)
    · show ((m:Int) / 128).toNat<(m:Int).toNat
      omega
end Go.Proofs.YthpbnmebjocbeaaGreat
