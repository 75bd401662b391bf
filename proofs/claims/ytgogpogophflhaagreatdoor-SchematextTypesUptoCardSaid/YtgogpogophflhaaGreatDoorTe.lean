/- Lemmas and walks for the proof. -/
import Derived.Test.YtgogpogophflhaaGreatDoorTd
import Derived.Test.YtgogpogophflhaaGreatDoorProg
import Derived.ChangeStays
import Derived.Deep.Slices
import Derived.JoinedCond
import Derived.KernelRfl
import Derived.Test.YtgogpogophflhaaGreatDoorRows
set_option maxRecDepth 100000
set_option maxHeartbeats 8000000
namespace Go.Proofs.YtgogpogophflhaaGreatDoor
open Go.W
def DB:PC:=.gh (.ord  [.q (.v 53 8),.q (.v 54 8),.q (.q 55 (.nc (.t 54))),.q (.q 56 (.fa 3 (.t 55))),.q (.q 57 (.fa 1 (.t 56))),.q (.l 58 (.ld1 (.t 57))),.q (.v 59 8),.m (.a 60 (.cl 39 [(.t 59)] [2,1,3,4])),.rc (.v 53 8),.rc (.v 54 8),.rc (.q 55 (.nc (.t 54))),.rc (.q 56 (.fa 3 (.t 55))),.rc (.q 57 (.fa 1 (.t 56))),.rc (.l 58 (.ld1 (.t 57))),.m (.e 61 (.bsl 62 3 [(.t 60)])),.rc (.v 53 8),.rc (.v 54 8),.rc (.q 55 (.nc (.t 54))),.rc (.q 56 (.fa 3 (.t 55))),.rc (.q 57 (.fa 1 (.t 56))),.rc (.l 58 (.ld1 (.t 57))),.m (.e 62 (.ap 62 3 64 (.t 58) (.t 61))),.rc (.v 53 8),.q (.q 63 (.nc (.t 53))),.q (.q 64 (.fa 3 (.t 63))),.q (.q 65 (.fa 1 (.t 64))),.m (.s (.st 1 (.t 65) (.t 62)))])
@[go_sem ↓] theorem WY:cF DB:=cJ _
def BU:PC:=.gh (.ord  [.q (.v 69 8),.q (.v 70 8),.q (.q 71 (.nc (.t 70))),.q (.q 72 (.fa 3 (.t 71))),.q (.q 73 (.fa 2 (.t 72))),.q (.l 74 (.ld1 (.t 73))),.q (.v 75 8),.m (.a 76 (.cl 40 [(.t 75)] [2,1,3,4])),.rc (.v 69 8),.rc (.v 70 8),.rc (.q 71 (.nc (.t 70))),.rc (.q 72 (.fa 3 (.t 71))),.rc (.q 73 (.fa 2 (.t 72))),.rc (.l 74 (.ld1 (.t 73))),.m (.e 77 (.bsl 56 2 [(.t 76)])),.rc (.v 69 8),.rc (.v 70 8),.rc (.q 71 (.nc (.t 70))),.rc (.q 72 (.fa 3 (.t 71))),.rc (.q 73 (.fa 2 (.t 72))),.rc (.l 74 (.ld1 (.t 73))),.m (.e 78 (.ap 56 2 40 (.t 74) (.t 77))),.rc (.v 69 8),.q (.q 79 (.nc (.t 69))),.q (.q 80 (.fa 3 (.t 79))),.q (.q 81 (.fa 2 (.t 80))),.m (.s (.st 1 (.t 81) (.t 78)))])
@[go_sem ↓] theorem WV:cF BU:=cJ _
def BQ:PC:=.gh (.reg [.v 48 8,.a 49 (.cl 35 [(.t 48)] [2,1,3,4])])
@[go_sem ↓] theorem U3:cF BQ:=cJ _
def lQ:PC:=.seq (.seq (.gh (.reg [.v 93 8,.q 94 (.nc (.t 93)),.q 95 (.fa 3 (.t 94)),.l 96 (.ldn 3 (.t 95)),.a 97 (.cq 31 [(.t 96)]),.v 9 97])) (.seq (.reg [.v 98 9,.q 99 (.bin .neq true (.t 98) (.i 0))]) (.cond (.t 99) (.seq (.reg [.q 100 (.bd [(.int .i64 0),(.slice none 0 0),(.slice none 0 0)] []),.v 101 9,.s (.st 3 (.t 2) (.t 100)),.v 3 101,.q 4 (.mv (.i 0))]) .ret) .skip))) (.seq (.reg [.v 102 8,.q 103 (.nc (.t 102)),.q 104 (.fa 3 (.t 103)),.l 105 (.ldn 3 (.t 104)),.s (.st 3 (.t 2) (.t 105)),.q 3 (.mv (.i 0)),.q 4 (.mv (.i 0))]) .ret)
@[go_sem ↓] theorem VN:cF lQ:=cJ _
def AZ:PC:=.seq (.seq (.gh (.reg [.v 82 8,.q 83 (.nc (.t 82)),.q 84 (.fa 1 (.t 83)),.l 85 (.ld1 (.t 84))])) (.cond (.t 85) (.seq (.ord  [.q (.q 86 (.bd [(.int .i64 0),(.slice none 0 0),(.slice none 0 0)] [])),.q (.v 87 8),.q (.q 88 (.nc (.t 87))),.q (.q 89 (.fa 2 (.t 88))),.q (.l 90 (.ld1 (.t 89))),.m (.s (.st 3 (.t 2) (.t 86))),.rc (.v 87 8),.rc (.q 88 (.nc (.t 87))),.rc (.q 89 (.fa 2 (.t 88))),.rc (.l 90 (.ld1 (.t 89))),.m (.q 3 (.mv (.i 2))),.rc (.v 87 8),.rc (.q 88 (.nc (.t 87))),.rc (.q 89 (.fa 2 (.t 88))),.rc (.l 90 (.ld1 (.t 89))),.m (.v 4 90)]) .ret) .skip)) (.seq (.reg [.v 91 8,.a 92 (.cl 41 [(.t 91)] [0])]) (lQ))
@[go_sem ↓] theorem WR:cF AZ:=cJ _
def E8:PC:=.seq (.gh (.reg [.v 35 8,.a 36 (.cl 37 [(.t 35),(.k (.string (mk [59])))] [2,1,3,4])])) (.seq (.block 0 (.loop (.seq (.seq (.reg [.v 37 8,.q 38 (.nc (.t 37)),.q 39 (.fa 1 (.t 38)),.l 40 (.ld1 (.t 39)),.q 41 (.not (.t 40)),.v 42 41,⟨some 43,(some (42,true)),.q (.mv (.t 5))⟩,⟨some 44,(some (42,true)),.cl 38 [(.t 43)] [1]⟩,⟨some 45,(some (42,true)),.q (.fld1 0 (.t 44))⟩,⟨some 46,(some (42,true)),.q (.bin .neq true (.t 45) (.i 0))⟩,.a 47 (.pick (.t 42) (.t 46) (.k (.bool false)))]) (.cond (.t 47) .skip (.exit 0))) (.block 1 (.block 2 (.seq (.reg [.v 51 8,.a 52 (.cl 34 [(.t 51),(.k (.string (mk [101,110,117,109])))] [2,1,3,4]),.v 50 52]) (.cond (.t 50) (DB) (.seq (.reg [.v 67 8,.a 68 (.cl 34 [(.t 67),(.k (.string (mk [115,116,114,117,99,116])))] [2,1,3,4]),.v 66 68]) (.cond (.t 66) (BU) (BQ)))))))))) (AZ))
@[go_sem ↓] theorem X4:cF E8:=cJ _
def D6:PC:=.seq (.gh (.reg [.v 29 8,.v 30 8,.a 31 (.cl 36 [(.t 30),(.k (.bool false))] [2,1,3,4]),.q 32 (.nc (.t 29)),.q 33 (.fa 3 (.t 32)),.q 34 (.fa 0 (.t 33)),.s (.st 1 (.t 34) (.t 31))])) (E8)
@[go_sem ↓] theorem XT:cF D6:=cJ _
def E5:PC:=.seq (.seq (.gh (.reg [.v 24 8,.a 25 (.cl 34 [(.t 24),(.k (.string (mk [118,101,114,115,105,111,110])))] [2,1,3,4]),.q 26 (.not (.t 25))])) (.cond (.t 26) (.reg [.v 27 8,.a 28 (.cl 35 [(.t 27)] [2,1,3,4])]) .skip)) (D6)
@[go_sem ↓] theorem XJ:cF E5:=cJ _
def M0:PC:=.seq (.reg [.e 2 (.al (.agg #[(.int .i64 0),(.slice none 0 0),(.slice none 0 0)]) 25),.q 3 (.mv (.i 0)),.q 4 (.mv (.i 0))]) (.seq (.reg [.v 11 0,.a 12 (.cl 33 [(.t 11)] []),.v 10 12,.q 13 (.ex (.t 10) 0),.q 14 (.ex (.t 10) 1),.q 15 (.ex (.t 10) 2),.v 5 13,.v 6 14,.v 7 15]) (.seq (.seq (.reg [.v 16 6,.q 17 (.bin .neq true (.t 16) (.i 0))]) (.cond (.t 17) (.seq (.reg [.q 18 (.bd [(.int .i64 0),(.slice none 0 0),(.slice none 0 0)] []),.v 19 6,.v 20 7,.s (.st 3 (.t 2) (.t 18)),.v 3 19,.v 4 20]) .ret) .skip)) (.seq (.reg [.v 21 5,.q 22 (.bd [(.pointer none),(.bool false),(.int .i64 0),(.int .i64 0),(.slice none 0 0),(.slice none 0 0)] [(0,1,(.t 21))]),.e 23 (.bx 70 (.t 22)),.v 8 23]) (E5))))
def jW:List RV:=[.ld (.ldn 3 (.t 2)),.mv (.t 3),.mv (.t 4)]
theorem U4:aY Tryz.prog true ⟨fun r k=>if r=5/\k=1 then .own [2,1,3,4] else if r=6/\k=1 then .own [2,1,3,4] else if r=7/\k=2 then .own [2,1,3,4] else if r=8/\k=1 then .own [2,1,3,4] else if r=9/\k=7 then .own [1] else if r=11/\k=1 then .own [2,1,3,4] else if r=12/\k=7 then .own [2,1,3,4] else if r=13/\k=1 then .own [2,1,3,4] else if r=14/\k=7 then .own [2,1,3,4] else if r=10/\k=1 then .own [2,1,3,4] else if r=17/\k=1 then .own [0] else if r=18/\k=4 then .q else .own [],fun r=>[5,7,8,15,18,10,12,14].contains r⟩ Tryz.f12=some (M0,jW):=by kernel_rfl
def pO:PC:=.gh (.ord  [.q (.v 53 8),.q (.v 54 8),.q (.q 55 (.nc (.t 54))),.q (.q 56 (.fa 3 (.t 55))),.q (.q 57 (.fa 1 (.t 56))),.q (.l 58 (.ld1 (.t 57))),.q (.v 59 8),.m (.a 60 (.cl 39 [(.t 59)] [2,1,3,4])),.rc (.v 53 8),.rc (.v 54 8),.rc (.q 55 (.nc (.t 54))),.rc (.q 56 (.fa 3 (.t 55))),.rc (.q 57 (.fa 1 (.t 56))),.rc (.l 58 (.ld1 (.t 57))),.m (.e 61 (.bsl 62 3 [(.t 60)])),.rc (.v 53 8),.rc (.v 54 8),.rc (.q 55 (.nc (.t 54))),.rc (.q 56 (.fa 3 (.t 55))),.rc (.q 57 (.fa 1 (.t 56))),.rc (.l 58 (.ld1 (.t 57))),.m (.e 62 (.ap 62 3 64 (.t 58) (.t 61))),.rc (.v 53 8),.q (.q 63 (.nc (.t 53))),.q (.q 64 (.fa 3 (.t 63))),.q (.q 65 (.fa 1 (.t 64))),.m (.s (.st 1 (.t 65) (.t 62)))])
@[go_sem ↓] theorem UY:cF pO:=cJ _
def pL:PC:=.gh (.ord  [.q (.v 69 8),.q (.v 70 8),.q (.q 71 (.nc (.t 70))),.q (.q 72 (.fa 3 (.t 71))),.q (.q 73 (.fa 2 (.t 72))),.q (.l 74 (.ld1 (.t 73))),.q (.v 75 8),.m (.a 76 (.cl 40 [(.t 75)] [2,1,3,4])),.rc (.v 69 8),.rc (.v 70 8),.rc (.q 71 (.nc (.t 70))),.rc (.q 72 (.fa 3 (.t 71))),.rc (.q 73 (.fa 2 (.t 72))),.rc (.l 74 (.ld1 (.t 73))),.m (.e 77 (.bsl 56 2 [(.t 76)])),.rc (.v 69 8),.rc (.v 70 8),.rc (.q 71 (.nc (.t 70))),.rc (.q 72 (.fa 3 (.t 71))),.rc (.q 73 (.fa 2 (.t 72))),.rc (.l 74 (.ld1 (.t 73))),.m (.e 78 (.ap 56 2 40 (.t 74) (.t 77))),.rc (.v 69 8),.q (.q 79 (.nc (.t 69))),.q (.q 80 (.fa 3 (.t 79))),.q (.q 81 (.fa 2 (.t 80))),.m (.s (.st 1 (.t 81) (.t 78)))])
@[go_sem ↓] theorem UU:cF pL:=cJ _
def qJ:PC:=.gh (.reg [.v 48 8,.a 49 (.cl 35 [(.t 48)] [2,1,3,4])])
@[go_sem ↓] theorem UW:cF qJ:=cJ _
def pcG12m_15:PC:=.seq (.seq (.gh (.reg [.v 82 8,.q 83 (.nc (.t 82)),.q 84 (.fa 1 (.t 83)),.l 85 (.ld1 (.t 84))])) (.cond (.t 85) (.seq (.ord  [.q (.q 86 (.bd [(.int .i64 0),(.slice none 0 0),(.slice none 0 0)] [])),.q (.v 87 8),.q (.q 88 (.nc (.t 87))),.q (.q 89 (.fa 2 (.t 88))),.q (.l 90 (.ld1 (.t 89))),.m (.s (.st 3 (.t 2) (.t 86))),.rc (.v 87 8),.rc (.q 88 (.nc (.t 87))),.rc (.q 89 (.fa 2 (.t 88))),.rc (.l 90 (.ld1 (.t 89))),.m (.q 3 (.mv (.i 2))),.rc (.v 87 8),.rc (.q 88 (.nc (.t 87))),.rc (.q 89 (.fa 2 (.t 88))),.rc (.l 90 (.ld1 (.t 89))),.m (.v 4 90)]) .ret) .skip)) .skip
@[go_sem ↓] theorem UV:cF pcG12m_15:=cJ _
def sS:PC:=.seq (.gh (.reg [.v 35 8,.a 36 (.cl 37 [(.t 35),(.k (.string (mk [59])))] [2,1,3,4])])) (.seq (.block 0 (.loop (.seq (.seq (.reg [.v 37 8,.q 38 (.nc (.t 37)),.q 39 (.fa 1 (.t 38)),.l 40 (.ld1 (.t 39)),.q 41 (.not (.t 40)),.v 42 41,⟨some 43,(some (42,true)),.q (.mv (.t 5))⟩,⟨some 44,(some (42,true)),.cl 38 [(.t 43)] [1]⟩,⟨some 45,(some (42,true)),.q (.fld1 0 (.t 44))⟩,⟨some 46,(some (42,true)),.q (.bin .neq true (.t 45) (.i 0))⟩,.a 47 (.pick (.t 42) (.t 46) (.k (.bool false)))]) (.cond (.t 47) .skip (.exit 0))) (.block 1 (.block 2 (.seq (.reg [.v 51 8,.a 52 (.cl 34 [(.t 51),(.k (.string (mk [101,110,117,109])))] [2,1,3,4]),.v 50 52]) (.cond (.t 50) (pO) (.seq (.reg [.v 67 8,.a 68 (.cl 34 [(.t 67),(.k (.string (mk [115,116,114,117,99,116])))] [2,1,3,4]),.v 66 68]) (.cond (.t 66) (pL) (qJ)))))))))) (pcG12m_15))
@[go_sem ↓] theorem WJ:cF sS:=cJ _
def pcG12m_7:PC:=.seq (.gh (.reg [.v 29 8,.v 30 8,.a 31 (.cl 36 [(.t 30),(.k (.bool false))] [2,1,3,4]),.q 32 (.nc (.t 29)),.q 33 (.fa 3 (.t 32)),.q 34 (.fa 0 (.t 33)),.s (.st 1 (.t 34) (.t 31))])) (sS)
@[go_sem ↓] theorem W7:cF pcG12m_7:=cJ _
def sV:PC:=.seq (.seq (.gh (.reg [.v 24 8,.a 25 (.cl 34 [(.t 24),(.k (.string (mk [118,101,114,115,105,111,110])))] [2,1,3,4]),.q 26 (.not (.t 25))])) (.cond (.t 26) (.reg [.v 27 8,.a 28 (.cl 35 [(.t 27)] [2,1,3,4])]) .skip)) (pcG12m_7)
@[go_sem ↓] theorem VP:cF sV:=cJ _
def uL:PC:=.seq (.reg [.e 2 (.al (.agg #[(.int .i64 0),(.slice none 0 0),(.slice none 0 0)]) 25),.q 3 (.mv (.i 0)),.q 4 (.mv (.i 0))]) (.seq (.reg [.v 11 0,.a 12 (.cl 33 [(.t 11)] []),.v 10 12,.q 13 (.ex (.t 10) 0),.q 14 (.ex (.t 10) 1),.q 15 (.ex (.t 10) 2),.v 5 13,.v 6 14,.v 7 15]) (.seq (.seq (.reg [.v 16 6,.q 17 (.bin .neq true (.t 16) (.i 0))]) (.cond (.t 17) (.seq (.reg [.q 18 (.bd [(.int .i64 0),(.slice none 0 0),(.slice none 0 0)] []),.v 19 6,.v 20 7,.s (.st 3 (.t 2) (.t 18)),.v 3 19,.v 4 20]) .ret) .skip)) (.seq (.reg [.v 21 5,.q 22 (.bd [(.pointer none),(.bool false),(.int .i64 0),(.int .i64 0),(.slice none 0 0),(.slice none 0 0)] [(0,1,(.t 21))]),.e 23 (.bx 70 (.t 22)),.v 8 23]) (sV))))
theorem QZ:rB 9 M0=some (uL,lQ):=by kernel_rfl
def pcG18_17:PC:=.seq (.seq (.gh (.reg [.v 61 10,.q 62 (.bin .gtr true (.t 61) (.i 6))])) (.cond (.t 62) (.seq (.reg [.q 63 (.bd [(.int .i64 0),(.int .i64 0),(.string (mk [])),(.slice none 0 0)] []),.s (.st 4 (.t 2) (.t 63)),.q 3 (.mv (.i 9)),.q 4 (.mv (.i 0))]) .ret) .skip)) (.seq (.reg [.l 64 (.ldn 4 (.t 9)),.s (.st 4 (.t 2) (.t 64)),.q 3 (.mv (.i 0)),.q 4 (.mv (.i 0))]) .ret)
@[go_sem ↓] theorem U5:cF pcG18_17:=cJ _
def pcG18_8:PC:=.seq (.seq (.gh (.reg [.v 41 8,.q 42 (.nc (.t 41)),.q 43 (.fa 1 (.t 42)),.l 44 (.ld1 (.t 43))])) (.cond (.t 44) (.seq (.ord  [.q (.q 45 (.bd [(.int .i64 0),(.int .i64 0),(.string (mk [])),(.slice none 0 0)] [])),.q (.v 46 8),.q (.q 47 (.nc (.t 46))),.q (.q 48 (.fa 2 (.t 47))),.q (.l 49 (.ld1 (.t 48))),.m (.s (.st 4 (.t 2) (.t 45))),.rc (.v 46 8),.rc (.q 47 (.nc (.t 46))),.rc (.q 48 (.fa 2 (.t 47))),.rc (.l 49 (.ld1 (.t 48))),.m (.q 3 (.mv (.i 2))),.rc (.v 46 8),.rc (.q 47 (.nc (.t 46))),.rc (.q 48 (.fa 2 (.t 47))),.rc (.l 49 (.ld1 (.t 48))),.m (.v 4 49)]) .ret) .skip)) (.seq (.reg [.q 10 (.mv (.i 0))]) (.seq (.seq (.reg [.l 50 (.ldn 4 (.t 9)),.e 11 (.al (.agg #[(.int .i64 0),(.int .i64 0),(.string (mk [])),(.slice none 0 0)]) 37),.s (.st 4 (.t 11) (.t 50))]) (.block 0 (.loop (.seq (.seq (.reg [.q 51 (.fa 0 (.t 11)),.l 52 (.ld1 (.t 51)),.q 53 (.bin .eql true (.t 52) (.i 5))]) (.cond (.t 53) .skip (.exit 0))) (.seq (.block 1 (.reg [.v 58 10,.q 59 (.bin .add true (.t 58) (.i 1)),.v 10 59])) (.seq (.seq (.reg [.l 60 (.ldn 4 (.t 11))]) (.reg [.e 11 (.al (.agg #[(.int .i64 0),(.int .i64 0),(.string (mk [])),(.slice none 0 0)]) 37),.s (.st 4 (.t 11) (.t 60))])) (.reg [.q 54 (.fa 3 (.t 11)),.l 55 (.ld1 (.t 54)),.l 56 (.ia 4 (.t 55) (.i 0)),.l 57 (.ldn 4 (.t 56)),.s (.st 4 (.t 11) (.t 57))]))))))) (pcG18_17)))
@[go_sem ↓] theorem XG:cF pcG18_8:=cJ _
def wY:PC:=.seq (.gh (.reg [.v 26 8,.a 27 (.cl 55 [(.t 26)] [2,1,3,4]),.e 9 (.al (.agg #[(.int .i64 0),(.int .i64 0),(.string (mk [])),(.slice none 0 0)]) 37),.s (.st 4 (.t 9) (.t 27))])) (.seq (.seq (.reg [.v 28 8,.q 29 (.nc (.t 28)),.q 30 (.fa 1 (.t 29)),.l 31 (.ld1 (.t 30)),.q 32 (.not (.t 31)),.v 33 32,⟨some 34,(some (33,true)),.q (.mv (.t 5))⟩,⟨some 35,(some (33,true)),.cl 38 [(.t 34)] [1]⟩,⟨some 36,(some (33,true)),.q (.fld1 0 (.t 35))⟩,⟨some 37,(some (33,true)),.q (.bin .neq true (.t 36) (.i 0))⟩,.a 38 (.pick (.t 33) (.t 37) (.k (.bool false)))]) (.cond (.t 38) (.reg [.v 39 8,.a 40 (.cl 35 [(.t 39)] [2,1,3,4])]) .skip)) (pcG18_8))
@[go_sem ↓] theorem X3:cF wY:=cJ _
def M3:PC:=.seq (.reg [.e 2 (.al (.agg #[(.int .i64 0),(.int .i64 0),(.string (mk [])),(.slice none 0 0)]) 37),.q 3 (.mv (.i 0)),.q 4 (.mv (.i 0))]) (.seq (.reg [.v 13 0,.a 14 (.cl 33 [(.t 13)] []),.v 12 14,.q 15 (.ex (.t 12) 0),.q 16 (.ex (.t 12) 1),.q 17 (.ex (.t 12) 2),.v 5 15,.v 6 16,.v 7 17]) (.seq (.seq (.reg [.v 18 6,.q 19 (.bin .neq true (.t 18) (.i 0))]) (.cond (.t 19) (.seq (.reg [.q 20 (.bd [(.int .i64 0),(.int .i64 0),(.string (mk [])),(.slice none 0 0)] []),.v 21 6,.v 22 7,.s (.st 4 (.t 2) (.t 20)),.v 3 21,.v 4 22]) .ret) .skip)) (.seq (.reg [.v 23 5,.q 24 (.bd [(.pointer none),(.bool false),(.int .i64 0),(.int .i64 0),(.slice none 0 0),(.slice none 0 0)] [(0,1,(.t 23))]),.e 25 (.bx 70 (.t 24)),.v 8 25]) (wY))))
def qU:List RV:=[.ld (.ldn 4 (.t 2)),.mv (.t 3),.mv (.t 4)]
theorem WH:aY Tryz.prog true ⟨fun r k=>if r=5/\k=1 then .own [2,1,3,4] else if r=6/\k=7 then .own [1] else if r=7/\k=1 then .own [2,1,3,4] else .own [],fun r=>[5,8,17].contains r⟩ Tryz.f18=some (M3,qU):=by kernel_rfl
attribute [-go_sem] d4 fR d6 iD eN gX
def G0:List UInt8:=[118,101,114,115,105,111,110]
def hJ:List UInt8:=[101,110,117,109]
def kE:List UInt8:=[115,116,114,117,99,116]
def vX (w:List UInt8) (ts:List Tk) (z:Fs):Fs:=bif aT 1 w ts z then ⟨false,z.off,dP ts z.n⟩ else dQ ts z
theorem PO {w:List UInt8} {ts:List Tk} {z:Fs} (h:z.n < ts.length):z.n<=(vX w ts z).n/\(vX w ts z).n < ts.length:=by
 unfold vX
 cases aT 1 w ts z
 · rw [aF,iM]; exact ⟨Nat.le_refl _,h⟩
 · exact lT h
def mH (ts:List Tk):Nat->List En->List St->Fs->(List En × List St) × Fs
 | 0,a,b,z=>((a,b),z)
 | f + 1,a,b,z=>bif z.bad || (aW ts z.n).k == 0 then ((a,b),z) else
  bif aT 1 hJ ts z then mH ts f (a ++ [(gU ts (a6 1 hJ ts z)).1]) b (gU ts (a6 1 hJ ts z)).2
  else bif aT 1 kE ts z then mH ts f a (b ++ [(iJ ts (a6 1 kE ts z)).1]) (iJ ts (a6 1 kE ts z)).2
  else ((a,b),dQ ts z)
theorem tJ (ts:List Tk) (f:Nat) (a:List En) (b:List St) (z:Fs):mH ts (f + 1) a b z=bif z.bad || (aW ts z.n).k == 0 then ((a,b),z) else
 bif aT 1 hJ ts z then mH ts f (a ++ [(gU ts (a6 1 hJ ts z)).1]) b (gU ts (a6 1 hJ ts z)).2
 else bif aT 1 kE ts z then mH ts f a (b ++ [(iJ ts (a6 1 kE ts z)).1]) (iJ ts (a6 1 kE ts z)).2
 else ((a,b),dQ ts z):=rfl
def CP (ts:List Tk):Fs:=vX G0 ts ⟨false,0,0⟩
def XW (ts:List Tk):Int:=gV false ts (CP ts)
def R7 (ts:List Tk):Fs:=bW [59] ts (gT false ts (CP ts))
def E7 (ts:List Tk):(List En × List St) × Fs:=mH ts (ts.length + 1) [] [] (R7 ts)
def L3 (ts:List Tk):Sc:=⟨XW ts,(E7 ts).1.1,(E7 ts).1.2.map (oB ((E7 ts).1.1.map En.nm))⟩
def I8:Sc:=⟨0,[],[]⟩
def AK (x:List UInt8):Sc × Int × Int:=
 bif (aP x).err != 0 then (I8,(aP x).err,(aP x).off) else
 bif (E7 (aP x).toks).2.bad then (I8,2,(E7 (aP x).toks).2.off) else
 bif eH (L3 (aP x).toks) != 0 then (I8,eH (L3 (aP x).toks),0) else (L3 (aP x).toks,0,0)
theorem GZ {ts:List Tk} (h:Tks ts):∀ (f:Nat) (a:List En) (b:List St) (z:Fs),z.n < ts.length->(∀ x ∈ a,EnP x)->(∀ x ∈ b,StP x)->
 ((∀ x ∈ (mH ts f a b z).1.1,EnP x)/\∀ x ∈ (mH ts f a b z).1.2,StP x)/\(mH ts f a b z).1.1.length<=a.length + f/\(mH ts f a b z).1.2.length<=b.length + f
 | 0,a,b,z,_,ha,hb=>⟨⟨ha,hb⟩,Nat.le_refl _,Nat.le_refl _⟩
 | f + 1,a,b,z,hn,ha,hb=>by
  rw [tJ]
  cases z.bad || (aW ts z.n).k == 0
  · cases aT 1 hJ ts z
    · cases aT 1 kE ts z
      · refine ⟨⟨ha,hb⟩,?_,?_⟩<;>(simp only [aF]; omega)
      · have h1:=eK (k:=1) (w:=kE) hn
        have ih:=GZ h f a (b ++ [(iJ ts (a6 1 kE ts z)).1]) _ (MU h1.2).2 ha fun x hx=>by
         rcases List.mem_append.1 hx with hx | hx
         · exact hb x hx
         · rw [List.mem_singleton.1 hx]; exact WS h h1.2
        rw [aF,aF,aL]
        refine ⟨ih.1,?_,?_⟩
        · have:=ih.2.1; omega
        · have:=ih.2.2; rw [List.length_append,List.length_singleton] at this; omega
    · have h1:=eK (k:=1) (w:=hJ) hn
      have ih:=GZ h f (a ++ [(gU ts (a6 1 hJ ts z)).1]) b _ (NK h1.2).2 (fun x hx=>by
       rcases List.mem_append.1 hx with hx | hx
       · exact ha x hx
       · rw [List.mem_singleton.1 hx]; exact WT h h1.2) hb
      rw [aF,aL]
      refine ⟨ih.1,?_,?_⟩
      · have:=ih.2.1; rw [List.length_append,List.length_singleton] at this; omega
      · have:=ih.2.2; omega
  · refine ⟨⟨ha,hb⟩,?_,?_⟩<;>(simp only [aL]; omega)
theorem VW {ts:List Tk} (h:Tks ts):(CP ts).n < ts.length:=(PO (z:=⟨false,0,0⟩) h.e.pos).2
def nX:W.Spec:=fun av H K=>∃ x,av=[tS x]/\H=[]/\K (.tu [.gs (aO (AK (bl x)).1),iA .i64 (AK (bl x)).2.1,iA .i64 (AK (bl x)).2.2]) []
noncomputable def iF:cN:=[(33,.s gX),(34,.s qQ),(35,.s kZ),(36,.s lK),(37,.s kY),(38,.s (d4 123)),(39,.s FL),(40,.s GK),(31,.f ckFn)]
theorem F2:eS Tryz.prog iF:=aA RA (aA C0 (aA lN (aA vC (aA tR (aA mK (aA TG (aA JQ (aN H9 (aB _)))))))))
theorem OB:sp iF 33=gX:=rfl
theorem NW:sp iF 34=qQ:=rfl
theorem O9:sp iF 35=kZ:=rfl
theorem O6:sp iF 36=lK:=rfl
theorem OR:sp iF 37=kY:=rfl
theorem PF:sp iF 38=d4 123:=rfl
theorem PE:sp iF 39=FL:=rfl
theorem PU:sp iF 40=GK:=rfl
theorem N2:i6 iF 31=some ckFn:=rfl
theorem I0 {x:ByteArray} {K:S->Hp->Prop} (h:(aP (bl x)).err=0) (hK:K (.tu [.c1 (.pt 0 0),iA .i64 0,iA .i64 0]) [dT 123 (aP (bl x)).toks 0]):gX [tS x] [] K:=⟨fun _=>hK,fun h'=>absurd h h'⟩
theorem ER {x:ByteArray} {K:S->Hp->Prop} (h:(aP (bl x)).err ≠ 0) (hK:K (.tu [.c1 (.vl (.pointer none)),iA .i64 (aP (bl x)).err,iA .i64 (aP (bl x)).off]) []):gX [tS x] [] K:=⟨fun h'=>absurd h' h,fun _=>hK⟩
abbrev zSc:B:=.cells [.vl (.int .i64 0),.vl (.slice none 0 0),.vl (.slice none 0 0)] 25
abbrev CI (b1:B) (ver:Int) (z:Fs) (es:List En) (ss:List St):Hp:=[zSc,b1,.cells (XH ver z.bad z.off es.length ss.length) 70,.row (es.map bB) 62 3,.row (ss.map aR) 56 2]
abbrev F9:Fr:=cU [(2,.va (.c1 (.pt 0 0))),(8,.va (.c1 (.pt 2 0)))]
def qE (K:S->Hp->Prop) (fr:Fr) (H:Hp):Prop:=∃ b1 ver z es ss,fr 2=.va (.c1 (.pt 0 0))/\fr 8=.va (.c1 (.pt 2 0))/\H=CI b1 ver z es ss/\(es.length<=1000000/\ss.length<=1000000/\∀ s ∈ ss,s.fs.length<=1000000/\∀ f ∈ s.fs,∃ d t0,yZ d t0 f.ty)/\
 vc iF 0 lQ F9 (CI .dead ver z es (ss.map (oB (es.map En.nm)))) (eT 0 jW K)
theorem wL:j8 Tryz.prog 41=true:=by kernel_rfl
theorem O1 (hs:∀ av K,nX av [] K->vc iF 0 uL (rQ av) [] (pQ (qE K) (eT 0 jW K))):Meets Tryz.prog 12 nX:=by
 have hb:Tryz.f12.body=some _:=rfl
 refine IX (n:=9) Tryz.func12 hb U4 rfl QZ F2 (fun av H K h=>?_) (fun av H K h=>?_) (Mid:=qE) hs ?_
 · obtain ⟨x,rfl,_⟩:=h
   rw [Tryz.ntmps12]
   show 1<=_
   decide
 · obtain ⟨x,rfl,rfl,_⟩:=h
   exact ⟨rfl,fun y hy=>⟨_,List.mem_singleton.1 hy⟩⟩
 intro K w0 ro0 fr E ro a w h0 hM hf hR hG Q hQ
 obtain ⟨b1,ver,z,es,ss,h2,h8,hH,⟨l1,l2,l3⟩,hv⟩:=hM
 match E,hH with
 | [(g0,k0),(g1,k1),(g2,k2),(g3,k3),(g4,k4)],hH=>
 simp only [hp,List.map_cons,List.map_nil,List.cons.injEq,and_true] at hH
 obtain ⟨rfl,rfl,rfl,rfl,rfl⟩:=hH
 have hRs:=VU hR h0 fun s hs f hf=>(l3 s hs).2 f hf
 obtain ⟨bp,hbp,c3,c4,c5⟩:=KF hR
 have s8:=hf.slot 8
 rw [h8] at s8
 obtain ⟨gg,bb,e1,e2,e3,e4⟩:=s8
 obtain rfl:g2=gg:=a7 e1
 rw [hbp] at e3
 obtain rfl:=a7 e3
 refine OO (v:=.pointer (some ⟨bp,0,none⟩)) rfl rfl rfl rfl rfl e4 (by rw [hf.size,Tryz.ntmps12]; decide) wL
  (BI w bp ver g3.ob g4.ob g3.cap g4.cap es ss (es.map En.nm) ro hRs l1 l2 (fun s hs=>(l3 s hs).1) c3 c4 c5) ?_
 rintro e w' ⟨rfl,L,hL,hC,hD⟩
 refine ⟨_,rfl,?_⟩
 have hT:=Y3 hR h0 rfl hL hC hD
 refine hQ F9 _ (mA L ro) _ w' ?hv ⟨by simp only [Act.put]; simpa using hf.size,fun i=>?_,hf.defers⟩ hT
 case hv=>exact hv
 have s2:=hf.slot 2
 rw [h2] at s2
 unfold F9
 by_cases i2:i=2
 · subst i2
   rw [show cU [(2,S.va (.c1 (.pt 0 0))),(8,.va (.c1 (.pt 2 0)))] 2=.va (.c1 (.pt 0 0)) from rfl]
   simp only [Act.put]
   rw [Array.getD_eq_getD_getElem?,Array.getElem?_setIfInBounds_ne (by decide),Array.getElem?_setIfInBounds_ne (by decide),<-Array.getD_eq_getD_getElem?]
   exact s2
 · by_cases i8:i=8
   · subst i8
     rw [show cU [(2,S.va (.c1 (.pt 0 0))),(8,.va (.c1 (.pt 2 0)))] 8=.va (.c1 (.pt 2 0)) from rfl]
     simp only [Act.put]
     rw [Array.getD_eq_getD_getElem?,Array.getElem?_setIfInBounds_ne (by decide),Array.getElem?_setIfInBounds_ne (by decide),<-Array.getD_eq_getD_getElem?]
     have s8:=hf.slot 8
     rw [h8] at s8
     exact s8
   · have:cU [(2,S.va (.c1 (.pt 0 0))),(8,.va (.c1 (.pt 2 0)))] i=.un:=by
      simp [cU,put,i2,i8]
     rw [this]; trivial
end Go.Proofs.YtgogpogophflhaaGreatDoor
namespace Go.Proofs.YtgogpogophflhaaGreatDoor
open Go.W
attribute [-go_sem] d4 fR d6 iD eN gX
attribute [local go_sem] OB NW O9 O6 OR PF PE PU N2
@[local go_sem] theorem aCU (Mid:Fr->Hp->Prop) (K:Ex->Fr->Hp->Prop) (fr:Fr) (H:Hp):pQ Mid K .r fr H=K .r fr H:=rfl
@[local go_sem] theorem aEH (Mid:Fr->Hp->Prop) (K:Ex->Fr->Hp->Prop) (fr:Fr) (H:Hp):pQ Mid K .n fr H=Mid fr H:=rfl
theorem FD {ts:List Tk}:∀ (f:Nat) (a:List En) (b:List St) (z:Fs),z.bad=true->mH ts f a b z=((a,b),z)
 | 0,_,_,_,_=>rfl
 | f + 1,a,b,z,h=>by rw [tJ,h,Bool.true_or,aL]
abbrev pM (ver:Int) (es:List En) (ss:List St) (ts:List Tk) (z:Fs):Hp:=[.cells [.pt 1 0,.vl (.bool z.bad),.vl (.int .i64 z.off),.vl (.int .i64 ver),.sl 2 es.length,.sl 3 ss.length] 70,dT 123 ts z.n,.row (es.map bB) 62 3,.row (ss.map aR) 56 2]
theorem AM {s:W.Spec} {ver:Int} {es:List En} {ss:List St} {ts:List Tk} {z:Fs} {av:List S} {K:S->Hp->Prop} (h:s av (pH ⟨ver,es.map bB,ss.map aR⟩ ts z) K):s av (pM ver es ss ts z) K:=by
 have e:pH ⟨ver,es.map bB,ss.map aR⟩ ts z=pM ver es ss ts z:=by simp [pH,pM]
 rw [<-e]; exact h
theorem OA:∀ av K,nX av [] K->vc iF 0 uL (rQ av) [] (pQ (qE K) (eT 0 jW K)):=by
 rintro av K ⟨x,rfl,-,hK⟩
 unfold AK at hK
 simp (maxSteps:=9^6) -dsimp only [go_sem,uL,jW]
 by_cases hx:(aP (bl x)).err=0
 case neg=>
  refine ER hx ?_
  have hx':((aP (bl x)).err != 0)=true:=bne_iff_ne.2 hx
  rw [hx',aL] at hK
  simp (maxSteps:=9^6) -dsimp only [go_sem,hx']
  refine .sel [] (by simp) (by simp [cG]) rfl (.done ?_)
  simp (maxSteps:=9^6) -dsimp only [go_sem,cG]
  exact hK
 case pos=>
  refine I0 hx ?_
  have hx':((aP (bl x)).err != 0)=false:=by rw [hx]; rfl
  rw [hx',aF] at hK
  have ht:=BW hx
  generalize (aP (bl x)).toks=ts at *
  simp (maxSteps:=9^6) -dsimp only [go_sem]
  refine ⟨fun h=>(by cases h),fun _=>a8 rfl ?_⟩
  refine .nilc 2 4 62 3 _ _ rfl rfl ?_
  refine .nilc 2 5 56 2 _ _ rfl rfl (.done ?_)
  simp (maxSteps:=9^6) -dsimp only [go_sem,sV]
  have t7:vc iF 0 pcG12m_7.ungh (cU [(2,.va (.c1 (.pt 0 0))),(5,.va (.c1 (.pt 1 0))),(8,.va (.c1 (.pt 2 0)))]) (CI (dT 123 ts (CP ts).n) 0 (CP ts) [] []) (pQ (qE K) (eT 0 jW K)):=by
   have hn1:=VW ht
   have hle:=ht.e.le
   unfold L3 E7 R7 XW at hK
   generalize CP ts=z1 at *
   simp (maxSteps:=9^6) -dsimp only [go_sem,pcG12m_7,jW]
   refine rO (o:=⟨0,[],[]⟩) (z:=z1) ht hn1 ?_
   simp (maxSteps:=9^6) -dsimp only [go_sem]
   have hn2:=(mC (c:=false) hn1).2
   have hvi:=u9 (c:=false) ht hn1
   generalize gV false ts z1=ver at *
   generalize gT false ts z1=z2 at *
   refine a8 rfl (.done ?_)
   simp (maxSteps:=9^6) -dsimp only [go_sem,sS]
   refine fI (o:=⟨ver,[],[]⟩) (z:=z2) ht hn2 ?_
   rw [show bl (mk [59])=[59] from rfl]
   have hn3:=(cK (w:=[59]) hn2).2
   generalize bW [59] ts z2=z3 at *
   simp (maxSteps:=9^6) -dsimp only [go_sem]
   refine b8 (α:=Nat × List En × List St × Fs) (fun x=>[(2,.va (.c1 (.pt 0 0))),(5,.va (.c1 (.pt 1 0))),(8,.va (.c1 (.pt 2 0)))])
    (fun x=>CI (dT 123 ts x.2.2.2.n) ver x.2.2.2 x.2.1 x.2.2.1)
    (fun x=>x.2.2.2.n < ts.length/\x.2.1.length + x.1<=ts.length + 1/\x.2.2.1.length + x.1<=ts.length + 1/\(x.2.2.2.bad=true\/ts.length < x.2.2.2.n + x.1)/\mH ts x.1 x.2.1 x.2.2.1 x.2.2.2=mH ts (ts.length + 1) [] [] z3)
    (fun x=>x.1) (fN (ts.length + 1,[],[],z3) 5 ⟨hn3,by simp,by simp,Or.inr (by simp only; omega),rfl⟩ ?_ ?_) ?_
   · simp -dsimp only [go_sem]<;>simp
   · simp -dsimp only [go_sem]<;>simp
   rintro ⟨f,es,ss,z⟩ ⟨h1,h2,h2',h3,h4⟩
   simp only at h1 h2 h2' h3 h4
   have fin:∀ z',mH ts (ts.length + 1) [] [] z3=((es,ss),z')->vc iF 0 pcG12m_15.ungh (cU [(2,.va (.c1 (.pt 0 0))),(8,.va (.c1 (.pt 2 0)))]) (CI (dT 123 ts z'.n) ver z' es ss) (pQ (qE K) (eT 0 jW K)):=fun z' e=>by
    have hP:=GZ ht (ts.length + 1) [] [] z3 hn3 (fun x hx=>by cases hx) fun x hx=>by cases hx
    rw [e] at hK hP
    obtain ⟨⟨p1,p2⟩,p3,p4⟩:=hP
    simp only [List.length_nil,Nat.zero_add] at p1 p2 p3 p4 hK
    simp (maxSteps:=9^6) -dsimp only [go_sem,pcG12m_15,jW]
    refine ⟨fun hb=>?_,fun hb=>?_⟩
    · rw [hb,aL] at hK
      refine .sel [] (by simp) (by simp [cG]) rfl (.done ?_)
      simp (maxSteps:=9^6) -dsimp only [go_sem,cG]
      exact hK
    rw [hb,aF] at hK
    refine ⟨_,ver,z',es,ss,rfl,rfl,rfl,⟨by omega,by omega,fun s hs=>⟨by have:=(p2 s hs).l; omega,fun f hf=>((p2 s hs).f f hf).t.wrp⟩⟩,?_⟩
    have hP:ScP ⟨ver,es,ss.map (oB (es.map En.nm))⟩:=⟨hvi,by simp only; omega,by simp only [List.length_map]; omega,p1,fun t ht=>by
     obtain ⟨s,hs,rfl⟩:=List.mem_map.1 ht
     exact (p2 s hs).rs _⟩
    generalize ss.map (oB (es.map En.nm))=rr at *
    refine a8 rfl (.pub 3 _ _ _ rfl (.pub 4 _ _ _ rfl (.done ?_)))
    simp (maxSteps:=9^6) -dsimp only [go_sem,lQ,jW,cG]
    refine ⟨⟨_,rfl,hP.fit⟩,?_⟩
    rw [show C.sc [C.vl (Value.int IntKind.i64 ver),C.fz (List.map bB es),C.fz (List.map aR rr)]=⟨ver,es,rr⟩ from p7 ⟨ver,es,rr⟩]
    refine ⟨fun hc=>?_,fun hc=>?_⟩
    · rw [hc,aL] at hK
      refine .sel [] (by simp) (by simp [cG]) rfl (.done ?_)
      simp (maxSteps:=9^6) -dsimp only [go_sem,cG]
      exact hK
    · rw [hc,aF] at hK
      refine .sel [] (by simp) (by simp [cG]) rfl (.done ?_)
      simp (maxSteps:=9^6) -dsimp only [go_sem,cG]
      exact hK
   obtain ⟨bb,oo,n⟩:=z
   cases bb with
   | true=>
    rw [FD _ _ _ _ rfl] at h4
    simp (maxSteps:=9^6) -dsimp only [go_sem]
    refine cB 5 (fin _ h4.symm) ?_ ?_
    · simp -dsimp only [go_sem]<;>simp
    · simp -dsimp only [go_sem]<;>simp
   | false=>
   have h3:ts.length < n + f:=by
    rcases h3 with h3 | h3
    · cases h3
    · exact h3
   simp only at h1
   obtain ⟨f,rfl⟩:∃ g,f=g + 1:=⟨f - 1,by omega⟩
   rw [tJ,Bool.false_or] at h4
   simp (maxSteps:=9^6) -dsimp only [go_sem]
   refine jH ht.e h1 ?_
   simp only at h4
   cases hk:(aW ts n).k == 0 with
   | true=>
    rw [hk,aL] at h4
    have hk':((aW ts n).k != 0)=false:=by rw [bne,hk]; rfl
    simp (maxSteps:=9^6) -dsimp only [go_sem,iP,hk']
    refine cB 5 (fin _ h4.symm) ?_ ?_
    · simp -dsimp only [go_sem]<;>simp
    · simp -dsimp only [go_sem]<;>simp
   | false=>
   rw [hk,aF] at h4
   have hk':((aW ts n).k != 0)=true:=by rw [bne,hk]; rfl
   clear fin
   simp (maxSteps:=9^6) -dsimp only [go_sem,iP,hk']
   refine AM (z:=⟨false,oo,n⟩) (fQ ht h1 ?_)
   rw [show bl (mk [101,110,117,109])=hJ from rfl]
   cases he:aT 1 hJ ts ⟨false,oo,n⟩ with
   | true=>
    rw [he,aL] at h4
    obtain ⟨q1,q2,q3⟩:=rE (by decide) ht.e h1 he
    have e1:a6 1 hJ ts ⟨false,oo,n⟩=⟨false,oo,n + 1⟩:=by unfold a6; rw [he,q1]; rfl
    rw [e1] at h4 ⊢
    simp (maxSteps:=9^6) -dsimp only [go_sem]
    refine a8 rfl (.done ?_)
    simp (maxSteps:=9^6) -dsimp only [go_sem,pO]
    refine AM (z:=⟨false,oo,n + 1⟩) (RS ht q2 ?_)
    have g1:=NK (z:=⟨false,oo,n + 1⟩) q2
    generalize gU ts ⟨false,oo,n + 1⟩=r at *
    obtain ⟨en,z4⟩:=r
    simp only at h4 g1 ⊢
    simp (maxSteps:=9^6) -dsimp only [go_sem,bB]
    refine ⟨by omega,?_⟩
    refine aG (f,es ++ [en],ss,z4) 5 ⟨g1.2,?_,?_,.inr ?_,h4⟩ (by simp) ?_ ?_
    · simp only [List.length_append,List.length_singleton]; omega
    · simp only; omega
    · simp only at g1 ⊢; omega
    · simp -dsimp only [go_sem]<;>simp
    · simp -dsimp only [go_sem,bB]<;>simp [bB]
   | false=>
   rw [he,aF] at h4
   rw [fC he]
   simp (maxSteps:=9^6) -dsimp only [go_sem]
   refine AM (z:=⟨false,oo,n⟩) (fQ ht h1 ?_)
   rw [show bl (mk [115,116,114,117,99,116])=kE from rfl]
   cases hs:aT 1 kE ts ⟨false,oo,n⟩ with
   | true=>
    rw [hs,aL] at h4
    obtain ⟨q1,q2,q3⟩:=rE (by decide) ht.e h1 hs
    have e1:a6 1 kE ts ⟨false,oo,n⟩=⟨false,oo,n + 1⟩:=by unfold a6; rw [hs,q1]; rfl
    rw [e1] at h4 ⊢
    simp (maxSteps:=9^6) -dsimp only [go_sem]
    refine a8 rfl (.done ?_)
    simp (maxSteps:=9^6) -dsimp only [go_sem,pL]
    refine AM (z:=⟨false,oo,n + 1⟩) (Q6 ht q2 ?_)
    have g1:=MU (z:=⟨false,oo,n + 1⟩) q2
    generalize iJ ts ⟨false,oo,n + 1⟩=r at *
    obtain ⟨st,z4⟩:=r
    simp only at h4 g1 ⊢
    simp (maxSteps:=9^6) -dsimp only [go_sem,aR]
    refine ⟨by omega,?_⟩
    refine aG (f,es,ss ++ [st],z4) 5 ⟨g1.2,?_,?_,.inr ?_,h4⟩ (by simp) ?_ ?_
    · simp only; omega
    · simp only [List.length_append,List.length_singleton]; omega
    · simp only at g1 ⊢; omega
    · simp -dsimp only [go_sem]<;>simp
    · simp -dsimp only [go_sem,aR]<;>simp [aR]
   | false=>
   rw [hs,aF] at h4
   rw [fC hs]
   simp (maxSteps:=9^6) -dsimp only [go_sem]
   refine a8 rfl (.done ?_)
   simp (maxSteps:=9^6) -dsimp only [go_sem,qJ]
   refine AM (z:=⟨false,oo,n⟩) (gA ht h1 ?_)
   simp (maxSteps:=9^6) -dsimp only [go_sem]
   refine aG (f,es,ss,dQ ts ⟨false,oo,n⟩) 5 ⟨h1,?_,?_,.inl rfl,?_⟩ (by simp) ?_ ?_
   · simp only; omega
   · simp only; omega
   · rw [<-h4]; exact FD _ _ _ _ rfl
   · simp -dsimp only [go_sem]<;>simp
   · simp -dsimp only [go_sem]<;>simp
  refine fQ (o:=⟨0,[],[]⟩) (z:=⟨false,0,0⟩) ht ht.e.pos ?_
  rw [show bl (mk [118,101,114,115,105,111,110])=G0 from rfl]
  unfold CP vX at t7
  cases hk:aT 1 G0 ts ⟨false,0,0⟩ with
  | true=>
   rw [hk,aL] at t7
   have hF:a6 1 G0 ts ⟨false,0,0⟩=⟨false,0,dP ts 0⟩:=by unfold a6; rw [hk]; rfl
   rw [hF]
   simp (maxSteps:=9^6) -dsimp only [go_sem]
   refine cB 5 t7 ?_ ?_
   · simp -dsimp only [go_sem]<;>simp
   · simp -dsimp only [go_sem]<;>simp
  | false=>
   rw [hk,aF] at t7
   rw [fC hk]
   simp (maxSteps:=9^6) -dsimp only [go_sem]
   refine gA (o:=⟨0,[],[]⟩) (z:=⟨false,0,0⟩) ht ht.e.pos ?_
   simp (maxSteps:=9^6) -dsimp only [go_sem]
   refine cB 5 t7 ?_ ?_
   · simp -dsimp only [go_sem]<;>simp
   · simp -dsimp only [go_sem]<;>simp
theorem TT:Meets Tryz.prog 12 nX:=O1 OA
end Go.Proofs.YtgogpogophflhaaGreatDoor
namespace Go.Proofs.YtgogpogophflhaaGreatDoor
open Go.W
attribute [-go_sem] d4 fR d6 iD eN gX
def UB:Ty:=.mk 0 0 (mk []) []
def kG (ts:List Tk) (z:Fs):Fs:=bif !z.bad && (aW ts z.n).k != 0 then dQ ts z else z
def yA (ts:List Tk):Ty × Fs:=((kB ts ⟨false,0,0⟩).1,kG ts (kB ts ⟨false,0,0⟩).2)
def C7 (x:List UInt8):Ty × Int × Int:=
 bif (aP x).err != 0 then (UB,(aP x).err,(aP x).off) else
 bif (yA (aP x).toks).2.bad then (UB,2,(yA (aP x).toks).2.off) else
 bif decide (6 < (bP (yA (aP x).toks).1).1) then (UB,9,0) else ((yA (aP x).toks).1,0,0)
def zZ:W.Spec:=fun av H K=>∃ x,av=[tS x]/\H=[]/\K (.tu [.gs (aM (C7 (bl x)).1),iA .i64 (C7 (bl x)).2.1,iA .i64 (C7 (bl x)).2.2]) []
theorem tL {t0:Ty} (h:t0.k ≠ 5):∀ d:List Int,bP (bJ d t0)=(d.length,t0)
 | []=>by
  cases t0 with
  | mk k s n e=>
   show bP (.mk k s n e)=(0,.mk k s n e)
   have h:k ≠ 5:=h
   rw [bP,beq_eq_false_iff_ne.2 h]; rfl
 | s :: d=>by
  show bP (.mk 5 s (mk []) [bJ d t0])=_
  rw [show bP (.mk 5 s (mk []) [bJ d t0])=((bP (bJ d t0)).1 + 1,(bP (bJ d t0)).2) by simp [bP,B6],tL h d,List.length_cons]
noncomputable abbrev X5:cN:=[(33,.s gX),(35,.s kZ),(38,.s (d4 123)),(55,.s (B8 kB))]
theorem O7:Meets Tryz.prog 18 zZ:=by
 refine aI Tryz.func18 WH 1 (by rw [Tryz.ntmps18]; decide) (aA RA (aA lN (aA mK (aA HL (aB _))))) (fun av H K h=>by obtain ⟨_,rfl,_⟩:=h; rfl) ?_
 rintro av H K ⟨x,rfl,rfl,hK⟩
 unfold C7 at hK
 simp (maxSteps:=9^6) -dsimp only [go_sem,M3,qU]
 by_cases hx:(aP (bl x)).err=0
 case neg=>
  refine ER hx ?_
  have hx':((aP (bl x)).err != 0)=true:=bne_iff_ne.2 hx
  rw [hx',aL] at hK
  simp (maxSteps:=9^6) -dsimp only [go_sem,hx']
  refine .sel [] (by simp) (by simp [cG]) rfl (.done ?_)
  simp (maxSteps:=9^6) -dsimp only [go_sem,cG]
  exact hK
 refine I0 hx ?_
 have hx':((aP (bl x)).err != 0)=false:=by rw [hx]; rfl
 rw [hx',aF] at hK
 have ht:=BW hx
 generalize (aP (bl x)).toks=ts at *
 unfold yA at hK
 have hTP:=FB (z:=⟨false,0,0⟩) ht ht.e.pos
 have hn1:=GJ (z:=⟨false,0,0⟩) ht.e.pos
 simp (maxSteps:=9^6) -dsimp only [go_sem]
 refine ⟨fun h=>(by cases h),fun _=>a8 rfl ?_⟩
 refine .nilc 2 4 62 3 _ _ rfl rfl ?_
 refine .nilc 2 5 56 2 _ _ rfl rfl (.done ?_)
 simp (maxSteps:=9^6) -dsimp only [go_sem,wY]
 refine C5 (o:=⟨0,[],[]⟩) (z:=⟨false,0,0⟩) ht ht.e.pos ?_
 generalize kB ts ⟨false,0,0⟩=r at *
 obtain ⟨t,z⟩:=r
 simp only at hTP hn1 hK ⊢
 have t8:vc X5 0 pcG18_8.ungh (cU [(2,.va (.c1 (.pt 0 0))),(8,.va (.c1 (.pt 2 0))),(9,.va (.c1 (.pt 5 0)))])
  [.cells [.vl (.int .i64 0),.vl (.int .i64 0),.vl (.string (mk [])),.vl (.slice none 0 0)] 37,dT 123 ts (kG ts z).n,.cells [.pt 1 0,.vl (.bool (kG ts z).bad),.vl (.int .i64 (kG ts z).off),.vl (.int .i64 0),.sl 3 0,.sl 4 0] 70,.row [] 62 3,.row [] 56 2,.cells [.vl (.int .i64 t.k),.vl (.int .i64 t.s),.vl (.string t.n),.fz (t.e.map aM)] 37] (eT 0 qU K):=by
  generalize kG ts z=y at *
  simp (maxSteps:=9^6) -dsimp only [go_sem,pcG18_8,qU]
  refine ⟨fun hb=>?_,fun hb=>?_⟩
  · rw [hb,aL] at hK
    refine .sel [] (by simp) (by simp [cG]) rfl (.done ?_)
    simp (maxSteps:=9^6) -dsimp only [go_sem,cG]
    exact hK
  rw [hb,aF] at hK
  obtain ⟨dd,tt,hw1,hw2,hw3⟩:=hTP.wrp
  have hd4:=hTP.ok.2.2
  have hlv:(bP t).1=dd.length:=by rw [hw1,tL hw2]
  have t17:vc X5 0 pcG18_17.ungh (cU [(2,.va (.c1 (.pt 0 0))),(9,.va (.c1 (.pt 5 0))),(10,iS .i64 dd.length)])
   [.cells [.vl (.int .i64 0),.vl (.int .i64 0),.vl (.string (mk [])),.vl (.slice none 0 0)] 37,dT 123 ts y.n,.cells [.pt 1 0,.vl (.bool y.bad),.vl (.int .i64 y.off),.vl (.int .i64 0),.sl 3 0,.sl 4 0] 70,.row [] 62 3,.row [] 56 2,.cells [.vl (.int .i64 t.k),.vl (.int .i64 t.s),.vl (.string t.n),.fz (t.e.map aM)] 37,.cells (aM tt) 37] (eT 0 qU K):=by
   rw [hlv] at hK
   simp (maxSteps:=9^6) -dsimp only [go_sem,pcG18_17,qU]
   refine ⟨fun hc=>?_,fun hc=>?_⟩
   · rw [show decide (6 < dd.length)=true from decide_eq_true (by have:=of_decide_eq_true hc; omega),aL] at hK
     refine .sel [] (by simp) (by simp [cG]) rfl (.done ?_)
     simp (maxSteps:=9^6) -dsimp only [go_sem,cG]
     exact hK
   · rw [show decide (6 < dd.length)=false from decide_eq_false (by have:=of_decide_eq_false hc; omega),aF] at hK
     refine .sel [] (by simp) (by simp [cG]) rfl (.done ?_)
     simp (maxSteps:=9^6) -dsimp only [go_sem,cG]
     rw [aQ t] at hK
     exact hK
  refine b8 (α:=Nat × List Int) (fun x=>[(2,.va (.c1 (.pt 0 0))),(9,.va (.c1 (.pt 5 0))),(10,iS .i64 x.1),(11,.va (.c1 (.pt 6 0)))])
   (fun x=>[.cells [.vl (.int .i64 0),.vl (.int .i64 0),.vl (.string (mk [])),.vl (.slice none 0 0)] 37,dT 123 ts y.n,.cells [.pt 1 0,.vl (.bool y.bad),.vl (.int .i64 y.off),.vl (.int .i64 0),.sl 3 0,.sl 4 0] 70,.row [] 62 3,.row [] 56 2,.cells [.vl (.int .i64 t.k),.vl (.int .i64 t.s),.vl (.string t.n),.fz (t.e.map aM)] 37,.cells (aM (bJ x.2 tt)) 37])
   (fun x=>x.1 + x.2.length=dd.length)
   (fun x=>x.2.length) (fN (0,dd) 7 (by simp) ?_ ?_) ?_
  · simp -dsimp only [go_sem]<;>simp
  · simp -dsimp only [go_sem]<;>simp [<-hw1,aQ t]
  rintro ⟨m,l⟩ h1
  simp only at h1
  have hdl:dd.length<=4002:=by omega
  cases l with
  | nil=>
   simp only [List.length_nil,Nat.add_zero] at h1
   have hk5:(tt.k == 5)=false:=beq_eq_false_iff_ne.2 hw2
   show vc _ _ _ _ _ _
   simp only [show bJ [] tt=tt from rfl,aQ tt]
   simp (maxSteps:=9^6) -dsimp only [go_sem,hk5]
   refine cB 7 t17 ?_ ?_
   · simp -dsimp only [go_sem,h1]<;>simp [h1]
   · simp -dsimp only [go_sem]<;>simp [aQ tt]
  | cons s l=>
   simp only [show bJ (s :: l) tt=.mk 5 s (mk []) [bJ l tt] from rfl,aQ (.mk 5 s (mk []) [bJ l tt])]
   simp (maxSteps:=9^6) -dsimp only [go_sem]
   simp only [List.length_cons] at h1
   refine ⟨fun _=>⟨by omega,⟨⟨by omega,by simp [Ty.e]⟩,fun x hx=>bM x⟩,fun x hx=>?_⟩,fun h=>(by cases h)⟩
   obtain rfl:bJ l tt=x:=by simpa [Ty.e] using hx
   refine ⟨by rw [bM]; decide,⟨fun c hc=>(iW _ c hc).2,bM _⟩,by rw [bM]; decide,?_⟩
   refine KC (m + 1,l) [0,1,2,3,4,5,7] (by simp only; omega) (by simp) (by decide) (by simp) rfl ?_
   refine ⟨?_,?_⟩
   · simp -dsimp only [go_sem]<;>simp
   · simp -dsimp only [go_sem,aQ]<;>simp
 simp (maxSteps:=9^6) -dsimp only [go_sem,aQ t]
 have e1:∀ b,z.bad=b->(⟨b,z.off,z.n⟩:Fs)=z:=fun b h=>by subst h; rfl
 cases hb:z.bad with
 | true=>
  refine ⟨fun h=>(by cases h),fun _=>cB 6 t8 ?_ ?_⟩
  · simp -dsimp only [go_sem]<;>simp
  · rw [show kG ts z=z by unfold kG; rw [hb]; rfl]
    simp -dsimp only [go_sem,hb]<;>simp
 | false=>
  refine ⟨fun _=>jH ht.e hn1.2 ?_,fun h=>(by cases h)⟩
  cases hk:(aW ts z.n).k != 0 with
  | true=>
   simp (maxSteps:=9^6) -dsimp only [go_sem,iP,hk]
   refine gA (o:=⟨0,[],[]⟩) (z:=⟨false,z.off,z.n⟩) ht hn1.2 ?_
   rw [e1 false hb]
   simp (maxSteps:=9^6) -dsimp only [go_sem]
   rw [show kG ts z=dQ ts z by unfold kG; rw [hb,hk]; rfl] at t8
   refine cB 6 t8 ?_ ?_
   · simp -dsimp only [go_sem]<;>simp
   · simp -dsimp only [go_sem]<;>simp
  | false=>
   simp (maxSteps:=9^6) -dsimp only [go_sem,iP,hk]
   rw [show kG ts z=z by unfold kG; rw [hb,hk]; rfl] at t8
   refine cB 6 t8 ?_ ?_
   · simp -dsimp only [go_sem]<;>simp
   · simp -dsimp only [go_sem,hb]<;>simp
end Go.Proofs.YtgogpogophflhaaGreatDoor
namespace Go.Proofs.YtgogpogophflhaaGreatDoor
open Go.W
def HH (n:Int):Tx:=⟨2,[],n,0⟩
def gC (t:Ty) (g:List UInt8):lV:=
 bif t.k == 1 then [(g,mG fM)] else bif t.k == 3 then [(g,mG (wUint ++ aX t.s))] else bif t.k == 2 then [(g,mG (wInt ++ aX t.s))]
 else bif t.k == 4 then [(g,mG wText),([],v8 91),([],HH t.s),([],v8 93)] else [(g,mG (bl t.n))]
def iE:Nat->Ty->List UInt8->lV
 | 0,t,g=>gC t g
 | f + 1,t,g=>bif t.k == 5 then (g,mG dU) :: ([],v8 91) :: ([],HH t.s) :: ([],v8 93) :: ([32],mG rW) :: iE f (t.e.headD default) [32] else gC t g
inductive PlK (t:Ty):Prop
 | b (k:t.k=1) (s:t.s=0) (n:bl t.n=[])
 | u (k:t.k=3) (s:t.s=8\/t.s=16\/t.s=32) (n:bl t.n=[])
 | i (k:t.k=2) (s:t.s=8\/t.s=16\/t.s=32\/t.s=64) (n:bl t.n=[])
 | x (k:t.k=4) (s:0<=t.s) (n:bl t.n=[])
 | n (k:t.k=6\/t.k=7) (s:t.s=0) (m:bL (bl t.n)=true) (c:gP (bl t.n)=true)
theorem iC {t:Ty} (h:f0 t ≠ []):t.e=[]/\PlK t:=by
 unfold f0 EN BB at h
 cases c0:decide (0 < (t.e.length:Int)) with
 | true=>rw [c0] at h; exact absurd rfl h
 | false=>
 rw [c0,aF] at h
 have he:t.e=[]:=List.eq_nil_of_length_eq_zero (by have:=of_decide_eq_false c0; omega)
 refine ⟨he,?_⟩
 cases c1:t.k == 1 with
 | true=>
  rw [c1,aL] at h
  cases c:t.s == 0 && bl t.n == []
  · rw [c] at h; exact absurd rfl h
  · rw [Bool.and_eq_true] at c
    exact .b (eq_of_beq c1) (eq_of_beq c.1) (eq_of_beq c.2)
 | false=>
 rw [c1,aF] at h
 cases c3:t.k == 3 with
 | true=>
  rw [c3,aL] at h
  have hk:=eq_of_beq c3
  cases c:bl t.n == [] && (t.s == 8 || t.s == 16 || t.s == 32 || (t.s == 64 && t.k == 2))
  · rw [c] at h; exact absurd rfl h
  · rw [hk] at c
    simp at c
    refine .u hk ?_ c.1
    rcases c.2 with (h | h) | h
    · exact .inl h
    · exact .inr (.inl h)
    · exact .inr (.inr h)
 | false=>
 rw [c3,aF] at h
 cases c2:t.k == 2 with
 | true=>
  rw [c2,aL] at h
  have hk:=eq_of_beq c2
  cases c:bl t.n == [] && (t.s == 8 || t.s == 16 || t.s == 32 || (t.s == 64 && true))
  · rw [c] at h; exact absurd rfl h
  · simp at c
    refine .i hk ?_ c.1
    rcases c.2 with ((h | h) | h) | h
    · exact .inl h
    · exact .inr (.inl h)
    · exact .inr (.inr (.inl h))
    · exact .inr (.inr (.inr h))
 | false=>
 rw [c2,aF] at h
 cases c4:t.k == 4 with
 | true=>
  rw [c4,aL] at h
  cases c:decide (0<=t.s) && bl t.n == []
  · rw [c] at h; exact absurd rfl h
  · rw [Bool.and_eq_true] at c
    exact .x (eq_of_beq c4) (of_decide_eq_true c.1) (eq_of_beq c.2)
 | false=>
 rw [c4,aF] at h
 cases c6:t.k == 6 || t.k == 7 with
 | false=>rw [c6] at h; exact absurd rfl h
 | true=>
  rw [c6,aL] at h
  cases c:t.s == 0 && bL (bl t.n) && gP (bl t.n)
  · rw [c] at h; exact absurd rfl h
  · rw [Bool.and_eq_true,Bool.and_eq_true] at c
    rw [Bool.or_eq_true] at c6
    exact .n (c6.imp eq_of_beq eq_of_beq) (eq_of_beq c.1.1) c.1.2 c.2
theorem IC {t:Ty} (h:f0 t ≠ []) (g:List UInt8):cY (gC t g)=g ++ f0 t:=by
 obtain ⟨he,hp⟩:=iC h
 have h0:decide (0 < (t.e.length:Int))=false:=by rw [he]; rfl
 unfold gC f0 EN BB
 rw [h0]
 cases hp with
 | b k s n=>rw [k,s,n]; simp [cY,mG,kJ,jR]
 | u k s n=>rw [k,n]; rcases s with s | s | s<;>rw [s]<;>simp [cY,mG,kJ,jR]
 | i k s n=>rw [k,n]; rcases s with s | s | s | s<;>rw [s]<;>simp [cY,mG,kJ,jR]
 | x k s n=>rw [k,n,decide_eq_true s]; simp [cY,mG,v8,HH,kJ,jR]
 | n k s m c=>rw [s,m,c]; rcases k with k | k<;>rw [k]<;>simp [cY,mG,kJ,jR]
theorem C9:∀ (f:Nat) (t:Ty) (g:List UInt8),cA f t ≠ []->cY (iE f t g)=g ++ cA f t
 | 0,t,g,h=>by
  cases hk:t.k == 5
  · rw [fT hk] at h ⊢; exact IC h g
  · rw [nN hk] at h; exact absurd rfl h
 | f + 1,t,g,h=>by
  cases hk:t.k == 5
  · rw [fT hk] at h ⊢; rw [iE,hk,aF]; exact IC h g
  · rw [gE hk] at h ⊢
    cases c:decide (t.s < 0) || !(bl t.n == []) || (t.e.length:Int) != 1 with
    | true=>rw [c] at h; exact absurd rfl h
    | false=>
     rw [c,aF] at h
     rw [aF]
     cases q:cA f (t.e.headD default) == [] with
     | true=>rw [q] at h; exact absurd rfl h
     | false=>
      have ih:=C9 f (t.e.headD default) [32] fun e=>by rw [e] at q; cases q
      rw [iE,hk,aL,aF]
      generalize t.e.headD default=u at *
      simp [cY,ih,mG,v8,HH,kJ,jR,nF,wOfs,dU,rW]
theorem I1 (n:Int):n=8\/n=16\/n=32\/n=64->bL (wInt ++ aX n)=true/\bL (wUint ++ aX n)=true:=fun h=>by
 rcases h with h | h | h | h<;>rw [h]<;>exact ⟨by kernel_rfl,by kernel_rfl⟩
theorem DQ {n:Int} {g:List UInt8} {r:lV} (hg:xO g) (h:bU n) (hr:gI r) (hs:l9 (cY r)):gI ((g,HH n) :: r):=by
 refine ⟨hg,⟨h.1,h.2,by show 0<=100000; decide⟩,?_,fun _=>hs,hr⟩
 rfl
theorem D9 {t:Ty} (h:f0 t ≠ []) (ht:bU t.s) {g:List UInt8} {r:lV} (hg:xO g) (hr:gI r) (hs:l9 (cY r)):gI (gC t g ++ r):=by
 obtain ⟨_,hp⟩:=iC h
 have sm:∀ {c:UInt8} {r:lV},bG c=false->(c == 45)=false->l9 (cY (([],v8 c) :: r)):=fun h1 h2=>sU h1 h2
 unfold gC
 cases hp with
 | b k s n=>rw [k]; exact iG hg (by kernel_rfl) hr hs
 | u k s n=>rw [k]; exact iG hg (I1 t.s (by omega)).2 hr hs
 | i k s n=>rw [k]; exact iG hg (I1 t.s s).1 hr hs
 | x k s n=>rw [k]; exact iG hg (by kernel_rfl) (oH jJ (by decide) (DQ jJ ht (oH jJ (by decide) hr) (sm (by decide) (by decide)))) (sm (by decide) (by decide))
 | n k s m c=>rcases k with k | k<;>rw [k]<;>exact iG hg m hr hs
theorem E4:∀ (f:Nat) (t:Ty) (g:List UInt8) (r:lV),cA f t ≠ []->TyOk t->xO g->gI r->l9 (cY r)->gI (iE f t g ++ r)
 | 0,t,g,r,h,ht,hg,hr,hs=>by
  cases hk:t.k == 5
  · rw [fT hk] at h; exact D9 h ht.s hg hr hs
  · rw [nN hk] at h; exact absurd rfl h
 | f + 1,t,g,r,h,ht,hg,hr,hs=>by
  cases hk:t.k == 5
  · rw [fT hk] at h; rw [iE,hk,aF]; exact D9 h ht.s hg hr hs
  · rw [gE hk] at h
    cases c:decide (t.s < 0) || !(bl t.n == []) || (t.e.length:Int) != 1 with
    | true=>rw [c] at h; exact absurd rfl h
    | false=>
     rw [c,aF] at h
     cases q:cA f (t.e.headD default) == [] with
     | true=>rw [q] at h; exact absurd rfl h
     | false=>
      have hu:TyOk (t.e.headD default):=by
       simp only [Bool.or_eq_false_iff,bne_eq_false_iff_eq] at c
       match he:t.e with
       | []=>rw [he] at c; simp at c
       | a :: r=>exact ht.e a (by rw [he]; exact List.mem_cons_self ..)
      have ih:=E4 f (t.e.headD default) [32] r (fun e=>by rw [e] at q; cases q) hu H3 hr hs
      rw [iE,hk,aL]
      have sm:∀ {c:UInt8} {r:lV},bG c=false->(c == 45)=false->l9 (cY (([],v8 c) :: r)):=fun h1 h2=>sU h1 h2
      have sp:l9 (cY (iE f (t.e.headD default) [32] ++ r)):=by
       rw [BZ,C9 _ _ _ fun e=>by rw [e] at q; cases q]
       exact sU (by decide) (by decide)
      exact iG hg (by kernel_rfl) (oH jJ (by decide) (DQ jJ ht.s (oH jJ (by decide) (iG H3 (by kernel_rfl) ih sp)) (sm (by decide) (by decide)))) (sm (by decide) (by decide))
section
variable {ts:List Tk} {n:Nat} {o:Int} {R:List oV}
theorem aH {k k' m:Int} {x w:List UInt8} (h:(ts.map cO).drop n=(k,x,m) :: R):aT k' w ts ⟨false,o,n⟩=(k == k' && x == w):=by
 obtain ⟨_,h1,h2,_⟩:=eM h
 unfold aT eU
 simp only [h1,h2,Bool.not_false,Bool.true_and]
theorem fX {k m:Int} {x:List UInt8} (h:(ts.map cO).drop n=(k,x,m) :: R) (hR:R ≠ []):a6 k x ts ⟨false,o,n⟩=⟨false,o,n + 1⟩:=by
 unfold a6
 rw [aH h,beq_self_eq_true,beq_self_eq_true,(m5 h hR).2]; rfl
theorem D4 {c:UInt8} (h:(ts.map cO).drop n=nP c :: R) (hR:R ≠ []):bW [c] ts ⟨false,o,n⟩=⟨false,o,n + 1⟩:=by
 unfold bW
 rw [aH h,beq_self_eq_true,beq_self_eq_true,(m5 h hR).2]; rfl
theorem M8 {c:Bool} {m:Int} (h:(ts.map cO).drop n=(2,[],m) :: R) (hR:R ≠ []) (hc:c=true->0<=m):gV c ts ⟨false,o,n⟩=m/\gT c ts ⟨false,o,n⟩=⟨false,o,n + 1⟩:=by
 obtain ⟨_,h1,_,h3,_⟩:=eM h
 have e:kH c ts ⟨false,o,n⟩=true:=by
  unfold kH
  simp only [h1,h3]
  cases c
  · rfl
  · simp [hc rfl]
 unfold gV gT
 rw [e]
 exact ⟨h3,by simp only [aL,(m5 h hR).2]⟩
theorem uH {m:Int} (h:(ts.map cO).drop n=nP 91 :: (2,[],m) :: nP 93 :: R) (hR:R ≠ []) (hm:0<=m):jB ts ⟨false,o,n⟩=m/\iY ts ⟨false,o,n⟩=⟨false,o,n + 3⟩:=by
 have h1:=(eM h).2.2.2.2
 have h2:=(eM h1).2.2.2.2
 unfold jB iY
 rw [D4 h (by simp),(M8 h1 (by simp) fun _=>hm).1,(M8 h1 (by simp) fun _=>hm).2,D4 h2 hR]
 exact ⟨rfl,rfl⟩
theorem DZ {x:List UInt8} (h:(ts.map cO).drop n=(1,x,0) :: R) (hR:R ≠ []) (hc:gP x=true):dC true ts ⟨false,o,n⟩=mk x/\cH true ts ⟨false,o,n⟩=⟨false,o,n + 1⟩:=by
 obtain ⟨_,h1,h2,_,_⟩:=eM h
 have e:gY true ts ⟨false,o,n⟩=true:=by
  unfold gY
  unfold gP at hc
  simp only [h1,h2,beq_self_eq_true,Bool.not_false,Bool.not_true,Bool.false_or,Bool.true_and]
  exact hc
 unfold dC cH
 rw [e]
 exact ⟨by simp only [aL,h2],by simp only [aL,(m5 h hR).2]⟩
end
theorem H0 {x w:List UInt8} {b:UInt8} {r:List UInt8} (hc:gP x=true) (hw:w=b :: r) (hb:97<=b):(x == w)=false:=by
 subst hw
 cases x with
 | nil=>rfl
 | cons a l=>
  rw [beq_eq_false_iff_ne]
  intro h
  obtain ⟨rfl,_⟩:=List.cons.inj h
  unfold gP at hc
  rw [Bool.and_eq_true] at hc
  have:=UInt8.le_iff_toNat_le.1 (of_decide_eq_true hc.2)
  have h2:=UInt8.le_iff_toNat_le.1 hb
  have e1:(90:UInt8).toNat=90:=rfl
  have e2:(97:UInt8).toNat=97:=rfl
  omega
theorem tW {t:Ty} (h:bl t.n=[]):t.n=mk []:=by
 have:t.n.data.toList=[]:=h
 cases hn:t.n with
 | mk d=>
  rw [hn] at this
  rw [mk]
  congr 1
  exact Array.toList_inj.1 (by rw [this])
theorem W3 (ts:List Tk) (z:Fs):iU ts z=bif aT 1 fM ts z then (.mk 1 0 (mk []) [],a6 1 fM ts z) else bif aT 1 wText ts z then (.mk 4 (jB ts (a6 1 wText ts z)) (mk []) [],iY ts (a6 1 wText ts z)) else
 bif aT 1 [105,110,116,56] ts z then (.mk 2 8 (mk []) [],a6 1 [105,110,116,56] ts z) else bif aT 1 [117,105,110,116,56] ts z then (.mk 3 8 (mk []) [],a6 1 [117,105,110,116,56] ts z) else
 bif aT 1 [105,110,116,49,54] ts z then (.mk 2 16 (mk []) [],a6 1 [105,110,116,49,54] ts z) else bif aT 1 [117,105,110,116,49,54] ts z then (.mk 3 16 (mk []) [],a6 1 [117,105,110,116,49,54] ts z) else
 bif aT 1 [105,110,116,51,50] ts z then (.mk 2 32 (mk []) [],a6 1 [105,110,116,51,50] ts z) else bif aT 1 [117,105,110,116,51,50] ts z then (.mk 3 32 (mk []) [],a6 1 [117,105,110,116,51,50] ts z) else
 bif aT 1 [105,110,116,54,52] ts z then (.mk 2 64 (mk []) [],a6 1 [105,110,116,54,52] ts z) else (.mk 6 0 (dC true ts z) [],cH true ts z):=by
 unfold iU
 simp only [szs,l7,pS,lZ,P5,JJ,KZ,SX]
 rfl
theorem T9 {ts:List Tk} {n:Nat} {o:Int} {R:List oV} {t:Ty} {g:List UInt8} (hp:f0 t ≠ []) (h:(ts.map cO).drop n=kL (gC t g) ++ R) (hR:R ≠ []):iU ts ⟨false,o,n⟩=(fU t,⟨false,o,n + (gC t g).length⟩):=by
 obtain ⟨he,hk⟩:=iC hp
 obtain ⟨k,s,nm,e⟩:=t
 have he:e=[]:=he
 subst he
 unfold gC at h ⊢
 rw [W3]
 cases hk with
 | b h1 h2 h3=>
  obtain rfl:k=1:=h1
  obtain rfl:s=0:=h2
  obtain rfl:nm=mk []:=tW h3
  have h:(ts.map cO).drop n=(1,fM,0) :: R:=h
  rw [aH h,fX h hR]
  rfl
 | u h1 h2 h3=>
  obtain rfl:k=3:=h1
  obtain rfl:nm=mk []:=tW h3
  have h2:s=8\/s=16\/s=32:=h2
  rcases h2 with rfl | rfl | rfl
  · have h:(ts.map cO).drop n=(1,wUint ++ aX 8,0) :: R:=h
    rw [P5] at h
    have h:(ts.map cO).drop n=(1,[117,105,110,116,56],0) :: R:=h
    rw [aH h,aH h,aH h,aH h,aH h,aH h,aH h,aH h,aH h,fX h hR]
    rfl
  · have h:(ts.map cO).drop n=(1,wUint ++ aX 16,0) :: R:=h
    rw [JJ] at h
    have h:(ts.map cO).drop n=(1,[117,105,110,116,49,54],0) :: R:=h
    rw [aH h,aH h,aH h,aH h,aH h,aH h,aH h,aH h,aH h,fX h hR]
    rfl
  · have h:(ts.map cO).drop n=(1,wUint ++ aX 32,0) :: R:=h
    rw [KZ] at h
    have h:(ts.map cO).drop n=(1,[117,105,110,116,51,50],0) :: R:=h
    rw [aH h,aH h,aH h,aH h,aH h,aH h,aH h,aH h,aH h,fX h hR]
    rfl
 | i h1 h2 h3=>
  obtain rfl:k=2:=h1
  obtain rfl:nm=mk []:=tW h3
  have h2:s=8\/s=16\/s=32\/s=64:=h2
  rcases h2 with rfl | rfl | rfl | rfl
  · have h:(ts.map cO).drop n=(1,wInt ++ aX 8,0) :: R:=h
    rw [P5] at h
    have h:(ts.map cO).drop n=(1,[105,110,116,56],0) :: R:=h
    rw [aH h,aH h,aH h,aH h,aH h,aH h,aH h,aH h,aH h,fX h hR]
    rfl
  · have h:(ts.map cO).drop n=(1,wInt ++ aX 16,0) :: R:=h
    rw [JJ] at h
    have h:(ts.map cO).drop n=(1,[105,110,116,49,54],0) :: R:=h
    rw [aH h,aH h,aH h,aH h,aH h,aH h,aH h,aH h,aH h,fX h hR]
    rfl
  · have h:(ts.map cO).drop n=(1,wInt ++ aX 32,0) :: R:=h
    rw [KZ] at h
    have h:(ts.map cO).drop n=(1,[105,110,116,51,50],0) :: R:=h
    rw [aH h,aH h,aH h,aH h,aH h,aH h,aH h,aH h,aH h,fX h hR]
    rfl
  · have h:(ts.map cO).drop n=(1,wInt ++ aX 64,0) :: R:=h
    rw [SX] at h
    have h:(ts.map cO).drop n=(1,[105,110,116,54,52],0) :: R:=h
    rw [aH h,aH h,aH h,aH h,aH h,aH h,aH h,aH h,aH h,fX h hR]
    rfl
 | x h1 h2 h3=>
  obtain rfl:k=4:=h1
  obtain rfl:nm=mk []:=tW h3
  have h:(ts.map cO).drop n=(1,wText,0) :: nP 91 :: (2,[],s) :: nP 93 :: R:=h
  rw [aH h,aH h,fX h (by simp),(uH (eM h).2.2.2.2 hR h2).1,(uH (eM h).2.2.2.2 hR h2).2]
  rfl
 | n h1 h2 h3 h4=>
  obtain rfl:s=0:=h2
  have h1:k=6\/k=7:=h1
  have h4:gP (bl nm)=true:=h4
  have hb:mk (bl nm)=nm:=rfl
  have c:∀ {w:List UInt8} {b:UInt8} {r:List UInt8},w=b :: r->97<=b->(bl nm == w)=false:=fun h1 h2=>H0 h4 h1 h2
  have h:(ts.map cO).drop n=(1,bl nm,0) :: R:=by rcases h1 with rfl | rfl<;>exact h
  rw [aH h,aH h,aH h,aH h,aH h,aH h,aH h,aH h,aH h,(DZ h hR h4).1,(DZ h hR h4).2]
  rw [c (w:=fM) rfl (by decide),c (w:=wText) rfl (by decide),c (w:=[105,110,116,56]) rfl (by decide),c (w:=[117,105,110,116,56]) rfl (by decide),c (w:=[105,110,116,49,54]) rfl (by decide),c (w:=[117,105,110,116,49,54]) rfl (by decide),c (w:=[105,110,116,51,50]) rfl (by decide),c (w:=[117,105,110,116,51,50]) rfl (by decide),c (w:=[105,110,116,54,52]) rfl (by decide)]
  rcases h1 with rfl | rfl<;>rfl
structure EnG (e:En):Prop where
 n:gM (bl e.nm)=true
 p:0 < e.ns.length
 l:e.ns.length=e.vs.length
 m:e.ns.length<=16
 a:∀ n ∈ e.ns,bL (bl n)=true
 b:∀ v ∈ e.vs,0<=v/\v<=127
structure StG (ss:List St) (es:List En) (t:St):Prop where
 n:gM (bl t.nm)=true
 m:t.fs.length<=16
 f:∀ f ∈ t.fs,(1<=f.num/\f.num<=127)/\bL (bl f.nm)=true/\valF ss es f.ty=true
structure ScG (s:Sc):Prop where
 v:1<=s.ver/\s.ver<=999
 l:s.es.length<=16/\s.ss.length<=16
 a:∀ e ∈ s.es,EnG e
 b:∀ t ∈ s.ss,StG s.ss s.es t
theorem NO {e:En} {k:Nat} {n:ByteArray} {v:Int} (h1:e.ns[k]? = some n) (h2:e.vs[k]? = some v) (h:jN e k=0):bL (bl n)=true/\0<=v/\v<=127:=by
 unfold jN at h
 rw [h1,h2] at h
 simp only at h
 cases c1:bL (bl n) with
 | false=>rw [c1] at h; simp at h
 | true=>
 rw [c1] at h
 simp only [Bool.not_true,aF] at h
 cases c2:cD (e.ns.take k) n with
 | true=>rw [c2] at h; simp at h
 | false=>
 rw [c2,aF] at h
 cases c3:decide (v < 0) || decide (127 < v) with
 | true=>rw [c3] at h; simp at h
 | false=>
 simp only [Bool.or_eq_false_iff,decide_eq_false_iff_not] at c3
 exact ⟨rfl,by omega,by omega⟩
theorem OE {e:En} (h:m6 e=0):0 < e.ns.length/\e.ns.length=e.vs.length/\∀ i < e.ns.length,jN e i=0:=by
 unfold m6 at h
 cases c:decide (e.ns.length=0) || decide (e.ns.length ≠ e.vs.length) with
 | true=>rw [c] at h; simp at h
 | false=>
 rw [c,aF] at h
 simp only [Bool.or_eq_false_iff,decide_eq_false_iff_not,Decidable.not_not] at c
 exact ⟨by omega,c.2,nL (m:=e.ns.length) h⟩
theorem OH {s:Sc} (hf:s.fit) (h:eH s=0):ScG s:=by
 obtain ⟨_,_,h2,h3,h4,h5,h6,_⟩:=FS hf h
 obtain ⟨l1,l2,l3,l4⟩:=sA h4
 refine ⟨⟨h5,h6⟩,⟨l1,by omega⟩,fun e he=>?_,fun t ht=>?_⟩
 · obtain ⟨i,hi⟩:=List.mem_iff_getElem?.1 he
   obtain ⟨n1,_,n3⟩:=O3 hi (nL h2 i (aV.1 hi).1)
   obtain ⟨g1,g2,g3⟩:=OE n3
   refine ⟨n1,g1,g2,l3 e he,fun n hn=>?_,fun v hv=>?_⟩
   · obtain ⟨k,hk⟩:=List.mem_iff_getElem?.1 hn
     have hl:=(aV.1 hk).1
     exact (NO hk (aZ (l:=e.vs) (i:=k) (by omega)) (g3 k hl)).1
   · obtain ⟨k,hk⟩:=List.mem_iff_getElem?.1 hv
     have hl:=(aV.1 hk).1
     exact (NO (aZ (l:=e.ns) (i:=k) (by omega)) hk (g3 k (by omega))).2
 · obtain ⟨i,hi⟩:=List.mem_iff_getElem?.1 ht
   obtain ⟨n1,n2⟩:=DK hi (nL h3 i (aV.1 hi).1)
   exact ⟨(EE n1).1,l4 t ht,fun f hf=>D5 n2 f hf⟩
theorem HX {x:List UInt8} (h:gM x=true):bL x=true:=by unfold gM at h; rw [Bool.and_eq_true] at h; exact h.1
def x5:Nat->List ByteArray->List Int->List UInt8
 | k,n :: ns,v :: vs=>(bif decide (0 < (k:Int)) then [44,32] else []) ++ (bl n ++ ([32,61,32] ++ aX v)) ++ x5 (k + 1) ns vs
 | _,_,_=>[]
def wEnumB:List UInt8:=[101,110,117,109,32]
def wStB:List UInt8:=[115,116,114,117,99,116,32]
def wVerB:List UInt8:=[118,101,114,115,105,111,110,32]
def DU (e:En):List UInt8:=wEnumB ++ (bl e.nm ++ [32,123,32]) ++ (x5 0 e.ns e.vs ++ [32,125,10])
def sG (f:Fl):List UInt8:=[32,32] ++ (aX f.num ++ ([32] ++ (bl f.nm ++ ([58,32] ++ cA 6 f.ty)))) ++ ((bif f.opt then [63] else []) ++ [59,10])
def zH (t:St):List UInt8:=wStB ++ (bl t.nm ++ [32,123,10]) ++ (t.fs.flatMap sG ++ [125,10])
def m7 (s:Sc):List UInt8:=bif eH s != 0 then [] else wVerB ++ (aX s.ver ++ [59,10]) ++ (s.es.flatMap DU ++ s.ss.flatMap zH)
noncomputable def fmFn:Fun:=o8 zT C.sc fun s=>.string (mk (m7 s))
attribute [go_sem] fmFn
theorem m0:∀ (f:Nat) (t:Ty),TyOk t->(cA f t).length<=30 + 31 * f:=fun f=>by
 induction f with
 | zero=>
  intro t ht
  cases h:t.k == 5
  · rw [fT h]; exact w7 ht.s
  · rw [nN h]; exact Nat.zero_le _
 | succ f ih=>
  intro t ht
  cases h:t.k == 5
  · rw [fT h]; have:=w7 ht.s; omega
  · rw [gE h]
    cases c:decide (t.s < 0) || !(bl t.n == []) || (t.e.length:Int) != 1
    · rw [aF]
      refine fA (Nat.zero_le _) ?_
      have hd:(aX t.s).length<=21:=eW ht.s.1 ht.s.2
      have hu:TyOk (t.e.headD default):=by
       simp only [Bool.or_eq_false_iff,bne_eq_false_iff_eq] at c
       match he:t.e with
       | []=>rw [he] at c; simp at c
       | a :: r=>exact ht.e a (by rw [he]; exact List.mem_cons_self ..)
      have:=ih _ hu
      simp only [nF,List.length_append,show wOfs.length=5 from rfl,List.length_cons,List.length_nil]
      omega
    · exact Nat.zero_le _
theorem J6 (k:Nat) (n:ByteArray) (ns:List ByteArray) (v:Int) (vs:List Int):x5 k (n :: ns) (v :: vs)=(bif decide (0 < (k:Int)) then [44,32] else []) ++ (bl n ++ ([32,61,32] ++ aX v)) ++ x5 (k + 1) ns vs:=rfl
theorem PB:Meets Tryz.prog 10 fmFn.sp:=by
 refine aI Tryz.func10 YL 1 (by rw [Tryz.ntmps10]; decide) (aN zR (aN CK (aN H9 (aB _)))) iI ?_
 rintro av H K ⟨⟨h,rfl⟩,hK⟩
 obtain ⟨_,rfl,s,rfl,hs⟩:=eC h
 have hK:K (tS (mk (m7 s))) []:=by
  have:fmFn.val [.va (.gs (aO s))]=tA (mk (m7 s)):=by simp -dsimp only [go_sem]
  rw [this] at hK; exact hK
 clear h
 have fin:∀ (x:List UInt8) (R:Hp),m7 s=x->W.Fin 0 K (tS (mk x)) R:=fun x R h1=>by
  rw [h1] at hK
  exact .z (hK)
 simp (maxSteps:=9^6) -dsimp only [go_sem,aO,P6,TV]
 rw [show C.sc [C.vl (Value.int IntKind.i64 s.ver),C.fz (List.map bB s.es),C.fz (List.map aR s.ss)]=s from p7 s]
 refine ⟨⟨_,rfl,hs⟩,fun hc=>fin _ _ (by unfold m7; rw [hc]; rfl),fun hc=>?_⟩
 have g:=OH hs (bne_eq_false_iff_eq.1 hc)
 have hfm:m7 s=wVerB ++ (aX s.ver ++ [59,10]) ++ (s.es.flatMap DU ++ s.ss.flatMap zH):=by unfold m7; rw [hc]; rfl
 have hvi:=hs.ok.ver
 have hdv:(aX s.ver).length<=21:=eW hvi.1 hvi.2
 have hl16:=g.l
 refine ⟨⟨hvi.1,hvi.2⟩,by omega,by omega,?_⟩
 refine b8 (α:=Nat × List UInt8) (fun z=>[(1,.va (.c1 (.pt 0 0))),(2,tS (mk [])),(3,tS (mk z.2)),(21,.va (.c1 (.fz (s.es.map bB)))),(22,iS .i64 s.es.length),(23,iS .i64 z.1)]) (fun z=>[.cells (aO s) 25])
  (fun z=>z.1<=s.es.length/\m7 s=z.2 ++ ((s.es.drop z.1).flatMap DU ++ s.ss.flatMap zH)/\z.2.length<=40 + 1000 * z.1) (fun z=>s.es.length - z.1) (fN (0,wVerB ++ (aX s.ver ++ [59,10])) 1 ⟨Nat.zero_le _,hfm,?_⟩ ?_ ?_) ?_
 · simp only [List.length_append,show wVerB.length=8 from rfl,List.length_cons,List.length_nil]; omega
 · simp -dsimp only [go_sem,wVerB]<;>simp
 · simp -dsimp only [go_sem,aO]<;>simp
 rintro ⟨i,out⟩ ⟨hi,ho,hol⟩
 simp only at hi ho hol
 rcases b5 i s.es.length with hlt | hge
 · have hg:decide ((i:Int) < (s.es.length:Int))=true:=by simp; omega
   obtain ⟨e,he⟩:∃ a,s.es[i]? = some a:=⟨_,aZ hlt⟩
   have ge:=g.a e (bO he)
   have q1:=bN (row:=bB) he
   have hnl:=iB (HX ge.n)
   have hnl':=ge.m
   have hvl:=ge.l
   rw [List.drop_eq_getElem_cons hlt,show s.es[i]=e from (aV.1 he).2,List.flatMap_cons] at ho
   simp (maxSteps:=9^6) -dsimp only [go_sem,aO,hg,↓q1,bB]
   refine ⟨by omega,by omega,by omega,by omega,?_⟩
   have hg0:=hg
   refine b8 (α:=Nat × List UInt8) (fun z=>[(1,.va (.c1 (.pt 0 0))),(2,tS (mk [])),(3,tS (mk z.2)),(21,.va (.c1 (.fz (s.es.map bB)))),(22,iS .i64 s.es.length),(23,iS .i64 i),(5,.va (.c1 (.pt 1 0))),(34,.va (.c1 (.fz (e.ns.map cP)))),(35,iS .i64 e.ns.length),(36,iS .i64 z.1)]) (fun z=>[.cells (aO s) 25,.cells (bB e) 62])
    (fun z=>z.1<=e.ns.length/\m7 s=z.2 ++ (x5 z.1 (e.ns.drop z.1) (e.vs.drop z.1) ++ ([32,125,10] ++ ((s.es.drop (i + 1)).flatMap DU ++ s.ss.flatMap zH)))/\z.2.length<=100 + 1000 * i + 50 * z.1) (fun z=>e.ns.length - z.1) (fN (0,out ++ (wEnumB ++ (bl e.nm ++ [32,123,32]))) 2 ⟨Nat.zero_le _,?_,?_⟩ ?_ ?_) ?_
   · rw [ho]; simp [DU]
   · simp only [List.length_append,show wEnumB.length=5 from rfl,List.length_cons,List.length_nil]; omega
   · simp -dsimp only [go_sem,wEnumB]<;>simp
   · simp -dsimp only [go_sem,aO,bB]<;>simp
   clear ho hol
   rintro ⟨k,out⟩ ⟨hk,ho,hol⟩
   simp only at hk ho hol
   rcases b5 k e.ns.length with hkt | hkg
   · have hg:decide ((k:Int) < (e.ns.length:Int))=true:=by simp; omega
     obtain ⟨n,hn⟩:∃ a,e.ns[k]? = some a:=⟨_,aZ hkt⟩
     obtain ⟨v,hv⟩:∃ a,e.vs[k]? = some a:=⟨_,aZ (by omega)⟩
     have q1:=bN (row:=cP) hn
     have q2:=bN (row:=iL) hv
     have hnn:=iB (ge.a n (bO hn))
     have hvv:=ge.b v (bO hv)
     have hdl:(aX v).length<=21:=eW (by omega) (by omega)
     rw [List.drop_eq_getElem_cons hkt,show e.ns[k]=n from (aV.1 hn).2,List.drop_eq_getElem_cons (show k < e.vs.length by omega),show e.vs[k]=v from (aV.1 hv).2,J6] at ho
     simp (maxSteps:=9^6) -dsimp only [go_sem,aO,hg,↓q1,↓q2,bB]
     have hE:∀ (o:List UInt8),(k=0->o=out)->(0 < k->o=out ++ [44,32])->m7 s=o ++ (bl n ++ ([32,61,32] ++ aX v)) ++ (x5 (k + 1) (e.ns.drop (k + 1)) (e.vs.drop (k + 1)) ++ ([32,125,10] ++ ((s.es.drop (i + 1)).flatMap DU ++ s.ss.flatMap zH))):=fun o h0 h1=>by
      rw [ho]
      rcases Nat.eq_zero_or_pos k with hz | hz
      · rw [h0 hz,decide_eq_false (show ¬ 0 < (k:Int) by omega)]; simp
      · rw [h1 hz,decide_eq_true (show 0 < (k:Int) by omega)]; simp
     refine ⟨by omega,fun hc=>⟨by omega,by omega,by omega,by omega,by omega,by omega,by omega,?_⟩,fun hc=>⟨by omega,by omega,by omega,by omega,by omega,by omega,?_⟩⟩
     · have hk0:0 < k:=by have:=of_decide_eq_true hc; omega
       refine aG (k + 1,(out ++ [44,32]) ++ (bl n ++ ([32,61,32] ++ aX v))) 2 ⟨hkt,hE _ (fun h=>by omega) fun _=>rfl,?_⟩ (by simp only; omega) ?_ ?_
       · simp only [List.length_append,List.length_cons,List.length_nil]; omega
       · simp -dsimp only [go_sem]<;>simp
       · simp -dsimp only [go_sem,aO,bB]<;>simp
     · have hk0:k=0:=by have:=of_decide_eq_false hc; omega
       refine aG (k + 1,out ++ (bl n ++ ([32,61,32] ++ aX v))) 2 ⟨hkt,hE _ (fun _=>rfl) fun h=>by omega,?_⟩ (by simp only; omega) ?_ ?_
       · simp only [List.length_append,List.length_cons,List.length_nil]; omega
       · simp -dsimp only [go_sem]<;>simp
       · simp -dsimp only [go_sem,aO,bB]<;>simp
   · obtain rfl:k=e.ns.length:=by omega
     have hg:decide ((e.ns.length:Int) < (e.ns.length:Int))=false:=by simp
     simp (maxSteps:=9^6) -dsimp only [go_sem,aO,hg,bB]
     rw [List.drop_length,show x5 e.ns.length [] (e.vs.drop e.ns.length)=[] by unfold x5; rfl] at ho
     refine ⟨by omega,by omega,?_⟩
     refine aG (i + 1,out ++ [32,125,10]) 1 ⟨hlt,by rw [ho]; simp,?_⟩ (by simp only; omega) ?_ ?_
     · simp only [List.length_append,List.length_cons,List.length_nil]; omega
     · simp -dsimp only [go_sem]<;>simp
     · simp -dsimp only [go_sem,aO,bB]<;>simp
 · obtain rfl:i=s.es.length:=by omega
   have hg:decide ((s.es.length:Int) < (s.es.length:Int))=false:=by simp
   simp (maxSteps:=9^6) -dsimp only [go_sem,aO,hg]
   rw [List.drop_length,List.flatMap_nil,List.nil_append] at ho
   refine b8 (α:=Nat × List UInt8) (fun z=>[(1,.va (.c1 (.pt 0 0))),(2,tS (mk [])),(3,tS (mk z.2)),(61,.va (.c1 (.fz (s.ss.map aR)))),(62,iS .i64 s.ss.length),(63,iS .i64 z.1)]) (fun z=>[.cells (aO s) 25])
    (fun z=>z.1<=s.ss.length/\m7 s=z.2 ++ (s.ss.drop z.1).flatMap zH/\z.2.length<=20000 + 10000 * z.1) (fun z=>s.ss.length - z.1) (fN (0,out) 1 ⟨Nat.zero_le _,ho,?_⟩ ?_ ?_) ?_
   · simp only; omega
   · simp -dsimp only [go_sem]<;>simp
   · simp -dsimp only [go_sem,aO]<;>simp
   clear ho hol
   rintro ⟨i,out⟩ ⟨hi,ho,hol⟩
   simp only at hi ho hol
   rcases b5 i s.ss.length with hlt | hge
   · have hg:decide ((i:Int) < (s.ss.length:Int))=true:=by simp; omega
     obtain ⟨t,ht⟩:∃ a,s.ss[i]? = some a:=⟨_,aZ hlt⟩
     have gt:=g.b t (bO ht)
     have hok:=hs.ok.ss t (bO ht)
     have q1:=bN (row:=aR) ht
     have hnl:=iB (HX gt.n)
     have hml:=gt.m
     rw [List.drop_eq_getElem_cons hlt,show s.ss[i]=t from (aV.1 ht).2,List.flatMap_cons] at ho
     simp (maxSteps:=9^6) -dsimp only [go_sem,aO,hg,↓q1,aR]
     refine ⟨by omega,by omega,by omega,by omega,?_⟩
     refine b8 (α:=Nat × List UInt8) (fun z=>[(1,.va (.c1 (.pt 0 0))),(2,tS (mk [])),(3,tS (mk z.2)),(61,.va (.c1 (.fz (s.ss.map aR)))),(62,iS .i64 s.ss.length),(63,iS .i64 i),(9,.va (.c1 (.pt 1 0))),(74,.va (.c1 (.fz (t.fs.map bR)))),(75,iS .i64 t.fs.length),(76,iS .i64 z.1)]) (fun z=>[.cells (aO s) 25,.cells (aR t) 56])
      (fun z=>z.1<=t.fs.length/\m7 s=z.2 ++ ((t.fs.drop z.1).flatMap sG ++ ([125,10] ++ (s.ss.drop (i + 1)).flatMap zH))/\z.2.length<=20100 + 10000 * i + 500 * z.1) (fun z=>t.fs.length - z.1) (fN (0,out ++ (wStB ++ (bl t.nm ++ [32,123,10]))) 2 ⟨Nat.zero_le _,?_,?_⟩ ?_ ?_) ?_
     · rw [ho]; simp [zH]
     · simp only [List.length_append,show wStB.length=7 from rfl,List.length_cons,List.length_nil]; omega
     · simp -dsimp only [go_sem,wStB]<;>simp
     · simp -dsimp only [go_sem,aO,aR]<;>simp
     clear ho hol
     rintro ⟨k,out⟩ ⟨hk,ho,hol⟩
     simp only at hk ho hol
     rcases b5 k t.fs.length with hkt | hkg
     · have hg:decide ((k:Int) < (t.fs.length:Int))=true:=by simp; omega
       obtain ⟨f,hf⟩:∃ a,t.fs[k]? = some a:=⟨_,aZ hkt⟩
       have q1:=bN (row:=bR) hf
       obtain ⟨gf1,gf2,gf3⟩:=gt.f f (bO hf)
       have hfo:=hok.fs f (bO hf)
       have hnn:=iB gf2
       have hdl:(aX f.num).length<=21:=eW (by omega) (by omega)
       have htl:=m0 6 f.ty hfo.ty
       rw [List.drop_eq_getElem_cons hkt,show t.fs[k]=f from (aV.1 hf).2,List.flatMap_cons] at ho
       simp (maxSteps:=9^6) -dsimp only [go_sem,aO,hg,↓q1,aR,bR,mJ]
       refine ⟨by omega,by omega,by omega,by omega,by omega,by omega,⟨_,rfl,hfo.ty⟩,by omega,by omega,fun hc=>⟨by omega,by omega,by omega,?_⟩,fun hc=>⟨by omega,by omega,?_⟩⟩
       · refine aG (k + 1,out ++ sG f) 2 ⟨hkt,by rw [ho]; simp,?_⟩ (by simp only; omega) ?_ ?_
         · unfold sG; rw [hc]; simp only [aL,List.length_append,List.length_cons,List.length_nil]; omega
         · simp -dsimp only [go_sem,sG,hc]<;>simp [sG,hc]
         · simp -dsimp only [go_sem,aO,aR]<;>simp
       · refine aG (k + 1,out ++ sG f) 2 ⟨hkt,by rw [ho]; simp,?_⟩ (by simp only; omega) ?_ ?_
         · unfold sG; rw [hc]; simp only [aF,List.length_append,List.length_cons,List.length_nil]; omega
         · simp -dsimp only [go_sem,sG,hc]<;>simp [sG,hc]
         · simp -dsimp only [go_sem,aO,aR]<;>simp
     · obtain rfl:k=t.fs.length:=by omega
       have hg:decide ((t.fs.length:Int) < (t.fs.length:Int))=false:=by simp
       simp (maxSteps:=9^6) -dsimp only [go_sem,aO,hg,aR]
       rw [List.drop_length,List.flatMap_nil,List.nil_append] at ho
       refine ⟨by omega,by omega,?_⟩
       refine aG (i + 1,out ++ [125,10]) 1 ⟨hlt,by rw [ho]; simp,?_⟩ (by simp only; omega) ?_ ?_
       · simp only [List.length_append,List.length_cons,List.length_nil]; omega
       · simp -dsimp only [go_sem]<;>simp
       · simp -dsimp only [go_sem,aO,aR]<;>simp
   · obtain rfl:i=s.ss.length:=by omega
     have hg:decide ((s.ss.length:Int) < (s.ss.length:Int))=false:=by simp
     simp (maxSteps:=9^6) -dsimp only [go_sem,aO,hg]
     refine fin _ _ ?_
     rw [ho,List.drop_length,List.flatMap_nil,List.append_nil]
theorem y8 {ts:List Tk} {n:Nat} {o:Int} {R:List oV} {t:Ty} {g:List UInt8} (hp:f0 t ≠ []) (h:(ts.map cO).drop n=kL (gC t g) ++ R):aT 1 dU ts ⟨false,o,n⟩=false:=by
 obtain ⟨he,hk⟩:=iC hp
 obtain ⟨k,s,nm,e⟩:=t
 unfold gC at h
 cases hk with
 | b h1 h2 h3=>
  obtain rfl:k=1:=h1
  have h:(ts.map cO).drop n=(1,fM,0) :: R:=h
  rw [aH h]; rfl
 | u h1 h2 h3=>
  obtain rfl:k=3:=h1
  have h:(ts.map cO).drop n=(1,wUint ++ aX s,0) :: R:=h
  rw [aH h,beq_self_eq_true,Bool.true_and]; rfl
 | i h1 h2 h3=>
  obtain rfl:k=2:=h1
  have h:(ts.map cO).drop n=(1,wInt ++ aX s,0) :: R:=h
  rw [aH h,beq_self_eq_true,Bool.true_and]; rfl
 | x h1 h2 h3=>
  obtain rfl:k=4:=h1
  have h:(ts.map cO).drop n=(1,wText,0) :: nP 91 :: (2,[],s) :: nP 93 :: R:=h
  rw [aH h]; rfl
 | n h1 h2 h3 h4=>
  have h1:k=6\/k=7:=h1
  have h4:gP (bl nm)=true:=h4
  have h:(ts.map cO).drop n=(1,bl nm,0) :: R:=by rcases h1 with rfl | rfl<;>exact h
  rw [aH h,H0 (w:=dU) h4 rfl (by decide)]; rfl
theorem W6 {ts:List Tk} {n:Nat} {o:Int} {R:List oV} (h:(ts.map cO).drop n=(1,rW,0) :: R) (hR:R ≠ []):qA ts ⟨false,o,n⟩=⟨false,o,n + 1⟩:=by
 unfold qA
 rw [aH h,beq_self_eq_true,beq_self_eq_true,(m5 h hR).2]; rfl
theorem PZ {f:Nat} {t:Ty} {g:List UInt8} {R:List oV} (hR:R ≠ []):kL (iE f t g) ++ R ≠ []:=by
 intro h
 exact hR (List.append_eq_nil_iff.1 h).2
theorem V5 {ts:List Tk} {o:Int} {R:List oV} (hR:R ≠ []):∀ (f:Nat) (t:Ty) (g:List UInt8) (n:Nat) (d:List Int) (F:Nat),cA f t ≠ []->(ts.map cO).drop n=kL (iE f t g) ++ R->n<=ts.length->ts.length < n + F->
 ∃ ds leaf g' m,jY ts F d ⟨false,o,n⟩=(d ++ ds,⟨false,o,m⟩)/\f0 leaf ≠ []/\(ts.map cO).drop m=kL (gC leaf g') ++ R/\fU t=bJ ds (fU leaf)/\ds.length<=f:=fun f=>by
 induction f with
 | zero=>
  intro t g n d F hx h hn hF
  obtain ⟨F,rfl⟩:∃ G,F=G + 1:=⟨F - 1,by omega⟩
  cases hk:t.k == 5
  · rw [fT hk] at hx
    refine ⟨[],t,g,n,?_,hx,h,rfl,Nat.le_refl _⟩
    rw [jF,y8 hx h,List.append_nil]; rfl
  · rw [nN hk] at hx; exact absurd rfl hx
 | succ f ih=>
  intro t g n d F hx h hn hF
  obtain ⟨F,rfl⟩:∃ G,F=G + 1:=⟨F - 1,by omega⟩
  cases hk:t.k == 5
  · rw [fT hk] at hx
    rw [iE,hk,aF] at h
    refine ⟨[],t,g,n,?_,hx,h,rfl,Nat.zero_le _⟩
    rw [jF,y8 hx h,List.append_nil]; rfl
  · rw [gE hk] at hx
    cases c:decide (t.s < 0) || !(bl t.n == []) || (t.e.length:Int) != 1 with
    | true=>rw [c] at hx; exact absurd rfl hx
    | false=>
     rw [c,aF] at hx
     cases q:cA f (t.e.headD default) == [] with
     | true=>rw [q] at hx; exact absurd rfl hx
     | false=>
      rw [iE,hk,aL] at h
      simp only [Bool.or_eq_false_iff,bne_eq_false_iff_eq,decide_eq_false_iff_not,Bool.not_eq_false'] at c
      obtain ⟨⟨c1,c2⟩,c3⟩:=c
      obtain ⟨k,s,nm,e⟩:=t
      obtain rfl:k=5:=eq_of_beq hk
      obtain rfl:nm=mk []:=tW (eq_of_beq c2)
      have c3:(e.length:Int)=1:=c3
      obtain ⟨u,rfl⟩:∃ u,e=[u]:=by
       match e,c3 with
       | [u],_=>exact ⟨u,rfl⟩
       | [],h=>simp at h
       | _ :: _ :: _,h=>simp at h; omega
      have q:(cA f u == [])=false:=q
      have h:(ts.map cO).drop n=(1,dU,0) :: nP 91 :: (2,[],s) :: nP 93 :: (1,rW,0) :: (kL (iE f u [32]) ++ R):=h
      have c1:0<=s:=by have:¬ s < 0:=c1; omega
      have h1:=(eM h).2.2.2.2
      have h4:(ts.map cO).drop (n + 1 + 3)=(1,rW,0) :: (kL (iE f u [32]) ++ R):=by
       have:=(eM (eM (eM h1).2.2.2.2).2.2.2.2).2.2.2.2
       exact this
      have h5:=(eM h4).2.2.2.2
      obtain ⟨ds,leaf,g',m,k1,k2,k3,k4,k5⟩:=ih u [32] (n + 1 + 3 + 1) (d ++ [s]) F (fun e=>by rw [e] at q; cases q) h5 (by have:=(eM h4).1; omega) (by omega)
      refine ⟨s :: ds,leaf,g',m,?_,k2,k3,?_,by simp; omega⟩
      · rw [jF,aH h,beq_self_eq_true,beq_self_eq_true,fX h (by simp),(uH h1 (by simp) c1).1,(uH h1 (by simp) c1).2,W6 h4 (PZ hR)]
        show jY ts F (d ++ [s]) ⟨false,o,n + 1 + 3 + 1⟩=_
        rw [k1,List.append_assoc]; rfl
      · show Ty.mk 5 s (mk []) [fU u]=Ty.mk 5 s (mk []) [bJ ds (fU leaf)]
        rw [k4]
theorem OC {t:Ty} (h:f0 t ≠ []):(fU t).k ≠ 5:=by
 obtain ⟨_,hk⟩:=iC h
 obtain ⟨k,s,nm,e⟩:=t
 show (bif k == 7 then 6 else k) ≠ 5
 cases hk with
 | b h1 _ _=>obtain rfl:k=1:=h1; decide
 | u h1 _ _=>obtain rfl:k=3:=h1; decide
 | i h1 _ _=>obtain rfl:k=2:=h1; decide
 | x h1 _ _=>obtain rfl:k=4:=h1; decide
 | n h1 _ _ _=>rcases (h1:k=6\/k=7) with rfl | rfl<;>decide
theorem PW {t:Ty} (ht:TyOk t) (hx:cA 6 t ≠ []):C7 (cA 6 t)=(fU t,0,0):=by
 have hs:=C9 6 t [] hx
 rw [List.nil_append] at hs
 have hok:=E4 6 t [] [] hx ht jJ trivial fun c hc=>by cases hc
 rw [List.append_nil] at hok
 have hl:=m0 6 t ht
 obtain ⟨e1,e2⟩:=J8 hok (by rw [hs]; omega)
 rw [hs] at e1 e2
 have hx':=hx
 generalize cA 6 t=x at e1 e2 ⊢
 have hT:=BW e1
 unfold C7
 rw [e1]
 show (bif (yA (aP x).toks).2.bad then _ else _)=_
 generalize (aP x).toks=ts at *
 have h0:(ts.map cO).drop 0=kL (iE 6 t []) ++ [(0,[],0)]:=e2
 obtain ⟨ds,leaf,g',m,k1,k2,k3,k4,k5⟩:=V5 (o:=0) (R:=[(0,[],0)]) (by simp) 6 t [] 0 [] (ts.length + 1) hx h0 (Nat.zero_le _) (by omega)
 have k6:kB ts ⟨false,0,0⟩=(fU t,⟨false,0,m + (gC leaf g').length⟩):=by
  unfold kB
  rw [k1]
  simp only [List.nil_append]
  rw [T9 k2 k3 (by simp),<-k4]
 have k7:(ts.map cO).drop (m + (gC leaf g').length)=[(0,[],0)]:=by
  have:=RW k3
  rw [show (kL (gC leaf g')).length=(gC leaf g').length from List.length_map ..] at this
  exact this
 have k8:yA ts=(fU t,⟨false,0,m + (gC leaf g').length⟩):=by
  unfold yA kG
  rw [k6]
  simp only [(eM k7).2.1]
  rfl
 rw [k8]
 show (bif decide (6 < (bP (fU t)).1) then _ else _)=_
 rw [k4,tL (OC k2),decide_eq_false (show ¬ 6 < ds.length by omega)]
 rfl
def RX:PC:=.seq (.reg [.e 1 (.bx 37 (.t 0)),.q 2 (.mv (.k (.string (mk []))))]) (.seq (.reg [.l 3 (.ldn 4 (.t 1)),.a 4 (.cq 54 [(.t 3),(.i 6)]),.v 2 4]) .ret)
def QV:List RV:=[.mv (.t 2)]
theorem ZR:aY Tryz.prog true ⟨fun r k=>if r=1/\k=1 then .q else .own [],fun _=>false⟩ Tryz.f17=some (RX,QV):=by kernel_rfl
def P9:PC:=.seq (.reg [.e 2 (.bx 37 (.t 0)),.e 3 (.bx 37 (.t 1)),.q 4 (.mv (.k (.bool false)))]) (.seq (.seq (.reg [.q 6 (.fa 0 (.t 2)),.l 7 (.ld1 (.t 6)),.q 8 (.fa 0 (.t 3)),.l 9 (.ld1 (.t 8)),.q 10 (.bin .neq true (.t 7) (.t 9)),.v 11 10,⟨some 12,(some (11,false)),.q (.fa 1 (.t 2))⟩,⟨some 13,(some (11,false)),.l (.ld1 (.t 12))⟩,⟨some 14,(some (11,false)),.q (.fa 1 (.t 3))⟩,⟨some 15,(some (11,false)),.l (.ld1 (.t 14))⟩,⟨some 16,(some (11,false)),.q (.bin .neq true (.t 13) (.t 15))⟩,.a 17 (.pick (.t 11) (.k (.bool true)) (.t 16)),.v 18 17,⟨some 19,(some (18,false)),.q (.fa 2 (.t 2))⟩,⟨some 20,(some (18,false)),.l (.ld1 (.t 19))⟩,⟨some 21,(some (18,false)),.q (.fa 2 (.t 3))⟩,⟨some 22,(some (18,false)),.l (.ld1 (.t 21))⟩,⟨some 23,(some (18,false)),.q (.bin .neq true (.t 20) (.t 22))⟩,.a 24 (.pick (.t 18) (.k (.bool true)) (.t 23)),.v 25 24,⟨some 26,(some (25,false)),.q (.fa 3 (.t 2))⟩,⟨some 27,(some (25,false)),.l (.ld1 (.t 26))⟩,⟨some 28,(some (25,false)),.q (.lnL (.t 27))⟩,⟨some 29,(some (25,false)),.q (.fa 3 (.t 3))⟩,⟨some 30,(some (25,false)),.l (.ld1 (.t 29))⟩,⟨some 31,(some (25,false)),.q (.lnL (.t 30))⟩,⟨some 32,(some (25,false)),.q (.bin .neq true (.t 28) (.t 31))⟩,.a 33 (.pick (.t 25) (.k (.bool true)) (.t 32))]) (.cond (.t 33) (.seq (.reg [.q 4 (.mv (.k (.bool false)))]) .ret) .skip)) (.seq (.seq (.reg [.q 5 (.mv (.i 0))]) (.block 0 (.loop (.seq (.seq (.reg [.v 34 5,.q 35 (.fa 3 (.t 2)),.l 36 (.ld1 (.t 35)),.q 37 (.lnL (.t 36)),.q 38 (.bin .lss true (.t 34) (.t 37))]) (.cond (.t 38) .skip (.exit 0))) (.seq (.block 1 (.seq (.reg [.q 41 (.fa 3 (.t 2)),.l 42 (.ld1 (.t 41)),.v 43 5,.l 44 (.ia 4 (.t 42) (.t 43)),.l 45 (.ldn 4 (.t 44)),.q 46 (.fa 3 (.t 3)),.l 47 (.ld1 (.t 46)),.v 48 5,.l 49 (.ia 4 (.t 47) (.t 48)),.l 50 (.ldn 4 (.t 49)),.a 51 (.cq 19 [(.t 45),(.t 50)]),.q 52 (.not (.t 51))]) (.cond (.t 52) (.seq (.reg [.q 4 (.mv (.k (.bool false)))]) .ret) .skip))) (.reg [.v 39 5,.q 40 (.bin .add true (.t 39) (.i 1)),.v 5 40])))))) (.seq (.reg [.q 4 (.mv (.k (.bool true)))]) .ret)))
def TC:List RV:=[.mv (.t 4)]
theorem YE:aY Tryz.prog true ⟨fun r k=>if r=6/\k=10 then .q else .own [],fun _=>false⟩ Tryz.f19=some (P9,TC):=by kernel_rfl
def P3:PC:=.seq (.reg [.q 2 (.mv (.k (.string (mk []))))]) (.seq (.seq (.reg [.v 3 0,.q 4 (.bin .lss true (.t 3) (.i 0))]) (.cond (.t 4) (.seq (.reg [.v 5 0,.q 6 (.bin .add true (.t 5) (.i 1)),.q 7 (.neg false (.t 6)),.q 8 (.cvt .u64 (.t 7)),.q 9 (.bin .add true (.t 8) (.k (.int .u64 1))),.a 10 (.cq 85 [(.t 9)]),.q 11 (.bin .add true (.k (.string (mk [45]))) (.t 10)),.v 2 11]) .ret) .skip)) (.seq (.reg [.v 12 0,.q 13 (.cvt .u64 (.t 12)),.a 14 (.cq 85 [(.t 13)]),.v 2 14]) .ret))
def TL:List RV:=[.mv (.t 2)]
theorem Z6:aY Tryz.prog true ⟨fun r k=>if r=2/\k=5 then .q else if r=3/\k=2 then .q else .own [],fun _=>false⟩ Tryz.f44=some (P3,TL):=by kernel_rfl
def LJ:PC:=.seq (.reg [.e 2 (.bx 37 (.t 0)),.q 4 (.mv (.k (.string (mk []))))]) (.seq (.seq (.reg [.q 6 (.fa 0 (.t 2)),.l 7 (.ld1 (.t 6)),.q 8 (.bin .neq true (.t 7) (.i 5)),.v 9 8,⟨some 10,(some (9,true)),.q (.fa 3 (.t 2))⟩,⟨some 11,(some (9,true)),.l (.ld1 (.t 10))⟩,⟨some 12,(some (9,true)),.q (.lnL (.t 11))⟩,⟨some 13,(some (9,true)),.q (.bin .gtr true (.t 12) (.i 0))⟩,.a 14 (.pick (.t 9) (.t 13) (.k (.bool false))),.v 15 14,⟨some 16,(some (15,false)),.q (.fa 0 (.t 2))⟩,⟨some 17,(some (15,false)),.l (.ld1 (.t 16))⟩,⟨some 18,(some (15,false)),.q (.bin .neq true (.t 17) (.i 6))⟩,⟨some 19,(some (15,false)),.q (.mv (.t 18))⟩,⟨some 20,(some (19,true)),.q (.fa 0 (.t 2))⟩,⟨some 21,(some (19,true)),.l (.ld1 (.t 20))⟩,⟨some 22,(some (19,true)),.q (.bin .neq true (.t 21) (.i 7))⟩,⟨some 23,(some (15,false)),.pick (.t 19) (.t 22) (.k (.bool false))⟩,⟨some 24,(some (15,false)),.q (.mv (.t 23))⟩,⟨some 25,(some (24,true)),.q (.fa 2 (.t 2))⟩,⟨some 26,(some (24,true)),.l (.ld1 (.t 25))⟩,⟨some 27,(some (24,true)),.q (.bin .neq true (.t 26) (.k (.string (mk []))))⟩,⟨some 28,(some (15,false)),.pick (.t 24) (.t 27) (.k (.bool false))⟩,.a 29 (.pick (.t 15) (.k (.bool true)) (.t 28))]) (.cond (.t 29) (.seq (.reg [.q 4 (.mv (.k (.string (mk []))))]) .ret) .skip)) (.seq (.seq (.reg [.q 30 (.fa 0 (.t 2)),.l 31 (.ld1 (.t 30))]) (.block 0 (.seq (.reg [.q 33 (.bin .eql true (.t 31) (.i 1)),.v 32 33]) (.cond (.t 32) (.seq (.reg [.q 34 (.fa 1 (.t 2)),.l 35 (.ld1 (.t 34)),.q 36 (.bin .eql true (.t 35) (.i 0))]) (.cond (.t 36) (.seq (.reg [.q 4 (.mv (.k (.string (mk [98,111,111,108]))))]) .ret) .skip)) (.seq (.reg [.q 38 (.bin .eql true (.t 31) (.i 2)),.v 37 38]) (.cond (.t 37) (.seq (.reg [.q 39 (.fa 1 (.t 2)),.l 40 (.ld1 (.t 39)),.q 41 (.bin .eql true (.t 40) (.i 8)),.v 42 41,⟨some 43,(some (42,false)),.q (.fa 1 (.t 2))⟩,⟨some 44,(some (42,false)),.l (.ld1 (.t 43))⟩,⟨some 45,(some (42,false)),.q (.bin .eql true (.t 44) (.i 16))⟩,.a 46 (.pick (.t 42) (.k (.bool true)) (.t 45)),.v 47 46,⟨some 48,(some (47,false)),.q (.fa 1 (.t 2))⟩,⟨some 49,(some (47,false)),.l (.ld1 (.t 48))⟩,⟨some 50,(some (47,false)),.q (.bin .eql true (.t 49) (.i 32))⟩,.a 51 (.pick (.t 47) (.k (.bool true)) (.t 50)),.v 52 51,⟨some 53,(some (52,false)),.q (.fa 1 (.t 2))⟩,⟨some 54,(some (52,false)),.l (.ld1 (.t 53))⟩,⟨some 55,(some (52,false)),.q (.bin .eql true (.t 54) (.i 64))⟩,.a 56 (.pick (.t 52) (.k (.bool true)) (.t 55))]) (.cond (.t 56) (.seq (.reg [.q 57 (.fa 1 (.t 2)),.l 58 (.ld1 (.t 57)),.a 59 (.cq 44 [(.t 58)]),.q 60 (.bin .add true (.k (.string (mk [105,110,116]))) (.t 59)),.v 4 60]) .ret) .skip)) (.seq (.reg [.q 62 (.bin .eql true (.t 31) (.i 3)),.v 61 62]) (.cond (.t 61) (.seq (.reg [.q 63 (.fa 1 (.t 2)),.l 64 (.ld1 (.t 63)),.q 65 (.bin .eql true (.t 64) (.i 8)),.v 66 65,⟨some 67,(some (66,false)),.q (.fa 1 (.t 2))⟩,⟨some 68,(some (66,false)),.l (.ld1 (.t 67))⟩,⟨some 69,(some (66,false)),.q (.bin .eql true (.t 68) (.i 16))⟩,.a 70 (.pick (.t 66) (.k (.bool true)) (.t 69)),.v 71 70,⟨some 72,(some (71,false)),.q (.fa 1 (.t 2))⟩,⟨some 73,(some (71,false)),.l (.ld1 (.t 72))⟩,⟨some 74,(some (71,false)),.q (.bin .eql true (.t 73) (.i 32))⟩,.a 75 (.pick (.t 71) (.k (.bool true)) (.t 74))]) (.cond (.t 75) (.seq (.reg [.q 76 (.fa 1 (.t 2)),.l 77 (.ld1 (.t 76)),.a 78 (.cq 44 [(.t 77)]),.q 79 (.bin .add true (.k (.string (mk [117,105,110,116]))) (.t 78)),.v 4 79]) .ret) .skip)) (.seq (.reg [.q 81 (.bin .eql true (.t 31) (.i 4)),.v 80 81]) (.cond (.t 80) (.seq (.reg [.q 82 (.fa 1 (.t 2)),.l 83 (.ld1 (.t 82)),.q 84 (.bin .geq true (.t 83) (.i 0))]) (.cond (.t 84) (.seq (.reg [.q 85 (.fa 1 (.t 2)),.l 86 (.ld1 (.t 85)),.a 87 (.cq 44 [(.t 86)]),.q 88 (.bin .add true (.k (.string (mk [116,101,120,116,91]))) (.t 87)),.q 89 (.bin .add true (.t 88) (.k (.string (mk [93])))),.v 4 89]) .ret) .skip)) (.seq (.reg [.q 91 (.bin .eql true (.t 31) (.i 5)),.v 90 91]) (.cond (.t 90) (.seq (.seq (.reg [.q 92 (.fa 1 (.t 2)),.l 93 (.ld1 (.t 92)),.q 94 (.bin .lss true (.t 93) (.i 0)),.v 95 94,⟨some 96,(some (95,false)),.q (.fa 3 (.t 2))⟩,⟨some 97,(some (95,false)),.l (.ld1 (.t 96))⟩,⟨some 98,(some (95,false)),.q (.lnL (.t 97))⟩,⟨some 99,(some (95,false)),.q (.bin .neq true (.t 98) (.i 1))⟩,.a 100 (.pick (.t 95) (.k (.bool true)) (.t 99)),.v 101 100,⟨some 102,(some (101,false)),.q (.mv (.t 1))⟩,⟨some 103,(some (101,false)),.q (.bin .eql true (.t 102) (.i 0))⟩,.a 104 (.pick (.t 101) (.k (.bool true)) (.t 103))]) (.cond (.t 104) (.seq (.reg [.q 4 (.mv (.k (.string (mk []))))]) .ret) .skip)) (.seq (.reg [.q 105 (.fa 3 (.t 2)),.l 106 (.ld1 (.t 105)),.l 107 (.ia 4 (.t 106) (.i 0)),.l 108 (.ldn 4 (.t 107)),.v 109 1,.q 110 (.bin .sub true (.t 109) (.i 1)),.a 111 (.cq 54 [(.t 108),(.t 110)]),.v 5 111]) (.seq (.reg [.v 112 5,.q 113 (.bin .neq true (.t 112) (.k (.string (mk []))))]) (.cond (.t 113) (.seq (.reg [.q 114 (.fa 1 (.t 2)),.l 115 (.ld1 (.t 114)),.a 116 (.cq 44 [(.t 115)]),.q 117 (.bin .add true (.k (.string (mk [108,105,115,116,91]))) (.t 116)),.q 118 (.bin .add true (.t 117) (.k (.string (mk [93,32,111,102,32])))),.v 119 5,.q 120 (.bin .add true (.t 118) (.t 119)),.v 4 120]) .ret) .skip)))) (.seq (.seq (.reg [.q 122 (.bin .eql true (.t 31) (.i 6)),.v 121 122]) (.cond (.t 121) .skip (.reg [.q 123 (.bin .eql true (.t 31) (.i 7)),.v 121 123]))) (.cond (.t 121) (.seq (.reg [.q 124 (.fa 1 (.t 2)),.l 125 (.ld1 (.t 124)),.q 126 (.bin .eql true (.t 125) (.i 0)),.v 127 126,⟨some 128,(some (127,true)),.q (.fa 2 (.t 2))⟩,⟨some 129,(some (127,true)),.l (.ld1 (.t 128))⟩,⟨some 130,(some (127,true)),.cq 96 [(.t 129)]⟩,.a 131 (.pick (.t 127) (.t 130) (.k (.bool false)))]) (.cond (.t 131) (.seq (.reg [.q 132 (.fa 2 (.t 2)),.l 133 (.ld1 (.t 132)),.v 4 133]) .ret) .skip)) .skip)))))))))))))) (.seq (.reg [.q 4 (.mv (.k (.string (mk []))))]) .ret)))
def JX:List RV:=[.mv (.t 4)]
theorem RZ:aY Tryz.prog true ⟨fun r k=>if r=9/\k=2 then .q else if r=12/\k=2 then .q else if r=15/\k=2 then .q else if r=19/\k=6 then .q else if r=21/\k=2 then .q else if r=24/\k=6 then .q else .own [],fun _=>false⟩ Tryz.f54=some (LJ,JX):=by kernel_rfl
def T6:PC:=.seq (.reg [.q 2 (.mv (.k (.string (mk []))))]) (.seq (.reg [.v 4 0,.q 5 (.bin .rem true (.t 4) (.k (.int .u64 10))),.q 6 (.bin .add true (.k (.int .u64 48)) (.t 5)),.q 7 (.cvt .u8 (.t 6)),.e 8 (.bsl 5 1 [(.t 7)]),.q 9 (.b2s (.t 8)),.v 3 9]) (.seq (.seq (.reg [.v 10 0,.q 11 (.bin .quo true (.t 10) (.k (.int .u64 10))),.v 0 11]) (.block 0 (.loop (.seq (.seq (.reg [.v 12 0,.q 13 (.bin .gtr true (.t 12) (.k (.int .u64 0)))]) (.cond (.t 13) .skip (.exit 0))) (.seq (.block 1 (.reg [.v 16 0,.q 17 (.bin .rem true (.t 16) (.k (.int .u64 10))),.q 18 (.bin .add true (.k (.int .u64 48)) (.t 17)),.q 19 (.cvt .u8 (.t 18)),.e 20 (.bsl 5 1 [(.t 19)]),.q 21 (.b2s (.t 20)),.v 22 3,.q 23 (.bin .add true (.t 21) (.t 22)),.v 3 23])) (.reg [.v 14 0,.q 15 (.bin .quo true (.t 14) (.k (.int .u64 10))),.v 0 15])))))) (.seq (.reg [.v 24 3,.v 2 24]) .ret)))
def S1:List RV:=[.mv (.t 2)]
theorem Y0:aY Tryz.prog true ⟨fun _ _=>.own [],fun _=>false⟩ Tryz.f85=some (T6,S1):=by kernel_rfl
def SZ:PC:=.seq (.reg [.q 2 (.mv (.k (.bool false)))]) (.seq (.seq (.reg [.v 5 0,.q 6 (.lnS (.t 5)),.q 7 (.bin .lss true (.t 6) (.i 1)),.v 8 7,⟨some 9,(some (8,false)),.q (.mv (.t 0))⟩,⟨some 10,(some (8,false)),.q (.lnS (.t 9))⟩,⟨some 11,(some (8,false)),.q (.bin .gtr true (.t 10) (.i 16))⟩,.a 12 (.pick (.t 8) (.k (.bool true)) (.t 11)),.v 13 12,⟨some 14,(some (13,false)),.q (.mv (.t 0))⟩,⟨some 15,(some (13,false)),.ix (.t 14) (.i 0)⟩,⟨some 16,(some (13,false)),.q (.bin .lss true (.t 15) (.k (.int .u8 65)))⟩,.a 17 (.pick (.t 13) (.k (.bool true)) (.t 16)),.v 18 17,⟨some 19,(some (18,false)),.q (.mv (.t 0))⟩,⟨some 20,(some (18,false)),.ix (.t 19) (.i 0)⟩,⟨some 21,(some (18,false)),.q (.bin .gtr true (.t 20) (.k (.int .u8 90)))⟩,.a 22 (.pick (.t 18) (.k (.bool true)) (.t 21))]) (.cond (.t 22) (.seq (.reg [.q 2 (.mv (.k (.bool false)))]) .ret) .skip)) (.seq (.seq (.reg [.q 3 (.mv (.i 0))]) (.block 0 (.loop (.seq (.seq (.reg [.v 23 3,.v 24 0,.q 25 (.lnS (.t 24)),.q 26 (.bin .lss true (.t 23) (.t 25))]) (.cond (.t 26) .skip (.exit 0))) (.seq (.block 1 (.seq (.reg [.v 29 0,.v 30 3,.a 31 (.ix (.t 29) (.t 30)),.v 4 31]) (.seq (.reg [.v 32 4,.q 33 (.bin .geq true (.t 32) (.k (.int .u8 97))),.v 34 33,⟨some 35,(some (34,true)),.q (.mv (.t 4))⟩,⟨some 36,(some (34,true)),.q (.bin .leq true (.t 35) (.k (.int .u8 122)))⟩,.a 37 (.pick (.t 34) (.t 36) (.k (.bool false))),.v 38 37,⟨some 39,(some (38,false)),.q (.mv (.t 4))⟩,⟨some 40,(some (38,false)),.q (.bin .geq true (.t 39) (.k (.int .u8 65)))⟩,⟨some 41,(some (38,false)),.q (.mv (.t 40))⟩,⟨some 42,(some (41,true)),.q (.mv (.t 4))⟩,⟨some 43,(some (41,true)),.q (.bin .leq true (.t 42) (.k (.int .u8 90)))⟩,⟨some 44,(some (38,false)),.pick (.t 41) (.t 43) (.k (.bool false))⟩,.a 45 (.pick (.t 38) (.k (.bool true)) (.t 44)),.v 46 45,⟨some 47,(some (46,false)),.q (.mv (.t 4))⟩,⟨some 48,(some (46,false)),.q (.bin .geq true (.t 47) (.k (.int .u8 48)))⟩,⟨some 49,(some (46,false)),.q (.mv (.t 48))⟩,⟨some 50,(some (49,true)),.q (.mv (.t 4))⟩,⟨some 51,(some (49,true)),.q (.bin .leq true (.t 50) (.k (.int .u8 57)))⟩,⟨some 52,(some (46,false)),.pick (.t 49) (.t 51) (.k (.bool false))⟩,.a 53 (.pick (.t 46) (.k (.bool true)) (.t 52)),.v 54 53,⟨some 55,(some (54,false)),.q (.mv (.t 4))⟩,⟨some 56,(some (54,false)),.q (.bin .eql true (.t 55) (.k (.int .u8 95)))⟩,.a 57 (.pick (.t 54) (.k (.bool true)) (.t 56)),.q 58 (.not (.t 57))]) (.cond (.t 58) (.seq (.reg [.q 2 (.mv (.k (.bool false)))]) .ret) .skip)))) (.reg [.v 27 3,.q 28 (.bin .add true (.t 27) (.i 1)),.v 3 28])))))) (.seq (.reg [.q 2 (.mv (.k (.bool true)))]) .ret)))
def R9:List RV:=[.mv (.t 2)]
theorem YD:aY Tryz.prog true ⟨fun _ _=>.own [],fun _=>false⟩ Tryz.f96=some (SZ,R9):=by kernel_rfl
def uZ:List S->Prop:=fun av=>match av with
 | [.va (.c1 (.vl (.int .u64 n)))]=>0<=n/\n<=18446744073709551615
 | _=>False
theorem mV {av:List S} (h:uZ av):∃ n:Nat,av=[iS .u64 n]/\n<=18446744073709551615:=by
 unfold uZ at h
 split at h
 · rename_i n
   exact ⟨n.toNat,by rw [Int.toNat_of_nonneg h.1],by omega⟩
 · exact h.elim
def JA:List S->A:=fun av=>match av with
 | [.va (.c1 (.vl (.int .u64 n)))]=>tA (mk (digs n.toNat))
 | _=>.gs []
def dgFn8:Fun:=⟨uZ,JA,fun av h=>by obtain ⟨_,rfl,_⟩:=mV h; trivial⟩
theorem IU:∀ av H K,dgFn8.sp av H K->av.length=1:=fun av H K h=>by obtain ⟨_,rfl,_⟩:=mV h.1.1; rfl
attribute [go_sem] dgFn8 uZ JA
theorem K6 (n:Nat):(n:Int).tmod 10=((n % 10:Nat):Int):=rfl
theorem wI (n:Nat):(n:Int).tdiv 10=((n / 10:Nat):Int):=rfl
theorem TS (n:Nat):jM [[C.vl (Value.int IntKind.u8 (IntKind.u8.wrap (48 + (n:Int).tmod 10)))]]=[(48 + n % 10).toUInt8]:=by
 have hm:=Nat.mod_lt n (show 0 < 10 by decide)
 rw [K6]
 have hw:IntKind.u8.wrap (48 + ((n % 10:Nat):Int))=48 + ((n % 10:Nat):Int):=lJ (by simp [inr,IntKind.min,IntKind.max,IntKind.signed,IntKind.bits]; omega)
 rw [hw]
 show [UInt8.ofNat (48 + ((n % 10:Nat):Int)).toNat]=_
 rw [show (48 + ((n % 10:Nat):Int)).toNat=48 + n % 10 by omega]
theorem JU:Meets Tryz.prog 85 dgFn8.sp:=by
 refine aI Tryz.func85 Y0 1 (by rw [Tryz.ntmps85]; decide) (aB _) IU ?_
 rintro av H K ⟨⟨h,rfl⟩,hK⟩
 obtain ⟨n,rfl,hn⟩:=mV h
 have hK:K (tS (mk (digs n))) []:=hK
 clear h
 have fin:∀ (x:List UInt8) (R:Hp),digs n=x->W.Fin 0 K (tS (mk x)) R:=fun x R h=>by
  rw [h] at hK
  exact .z (hK)
 simp (maxSteps:=9^6) -dsimp only [go_sem,T6,S1]
 refine ⟨by decide,by rw [K6]; omega,rfl,⟨by decide,by rw [wI]; omega,by rw [wI]; omega⟩,?_⟩
 refine b8 (α:=Nat × List UInt8) (fun z=>[(0,iS .u64 z.1),(2,tS (mk [])),(3,tS (mk z.2))]) (fun _=>[]) (fun z=>z.1<=18446744073709551615/\rC false z.1 ++ z.2=digs n) (fun z=>z.1) (fN (n / 10,[(48 + n % 10).toUInt8]) 0 ⟨by simp only; omega,?_⟩ ?_ rfl) ?_
 · have:=wB (f:=true) (u:=n) rfl
   simp only [rC,Bool.true_or,aL] at this ⊢
   exact this.symm
 · simp -dsimp only [go_sem,wI,TS]<;>simp
 rintro ⟨u,acc⟩ ⟨hu,hr⟩
 simp only at hu hr
 have hl:=oJ 19 n (by omega)
 rw [<-hr,List.length_append] at hl
 simp (maxSteps:=9^6) -dsimp only [go_sem]
 rcases Nat.eq_zero_or_pos u with h0 | h0
 · subst h0
   refine ⟨fun h=>(by simp at h),fun _=>fin _ _ ?_⟩
   rw [<-hr]; simp [rC]
 · refine ⟨fun _=>⟨by decide,by rw [K6]; omega,rfl,by simp [jM]; omega,⟨by decide,by rw [wI]; omega,by rw [wI]; omega⟩,?_⟩,fun h=>(by have:=of_decide_eq_false h; omega)⟩
   rw [wB (f:=false) (u:=u) (by simp; omega),List.append_assoc] at hr
   refine aG (u / 10,[(48 + u % 10).toUInt8] ++ acc) 0 ⟨by simp only; omega,hr⟩ (by simp only; omega) ?_ rfl
   simp -dsimp only [go_sem,wI,TS]<;>simp
theorem xP:Meets Tryz.prog 44 itFn.sp:=by
 refine aI Tryz.func44 Z6 1 (by rw [Tryz.ntmps44]; decide) (aN JU (aB _)) (fun av H K h=>by obtain ⟨_,rfl,_⟩:=kT h.1.1; rfl) ?_
 rintro av H K ⟨⟨h,rfl⟩,hK⟩
 obtain ⟨n,rfl,h0,h1⟩:=kT h
 have hK:K (tS (mk (aX n))) []:=hK
 clear h
 have fin:∀ (x:List UInt8) (R:Hp),aX n=x->W.Fin 0 K (tS (mk x)) R:=fun x R h=>by
  rw [h] at hK
  exact .z (hK)
 have w:∀ m:Int,IntKind.u64.wrap m=m % 18446744073709551616:=fun m=>by simp [IntKind.wrap,IntKind.signed,IntKind.bits]
 have hl:=oJ 19 n.natAbs (by omega)
 simp (maxSteps:=9^6) -dsimp only [go_sem,P3,TL,w]
 refine ⟨fun hc=>?_,fun hc=>?_⟩
 · have hn:=of_decide_eq_true hc
   have hw:IntKind.i64.wrap (0 - (n + 1))=0 - (n + 1):=lJ (by simp [inr,IntKind.min,IntKind.max,IntKind.signed,IntKind.bits]; omega)
   have e:(0 - (n + 1)) % 18446744073709551616 + 1=(n.natAbs:Int):=by omega
   rw [hw,e]
   refine ⟨by omega,by omega,by omega,?_,fin _ _ ?_⟩
   · rw [Int.toNat_natCast]; omega
   · unfold aX; rw [hc,Int.toNat_natCast]; rfl
 · have hn:=of_decide_eq_false hc
   have e:n % 18446744073709551616=(n.natAbs:Int):=by omega
   rw [e]
   refine ⟨by omega,fin _ _ ?_⟩
   unfold aX; rw [hc,Int.toNat_natCast]; rfl
theorem pT (l:List UInt8):gM l=(bL l && gP l):=by
 unfold gM
 cases l with
 | nil=>rfl
 | cons c r=>
  have e1:decide (65<=(c.toNat:Int))=decide (65<=c):=decide_eq_decide.2 (by rw [UInt8.le_iff_toNat_le]; exact Int.ofNat_le (m:=65))
  have e2:decide ((c.toNat:Int)<=90)=decide (c<=90):=decide_eq_decide.2 (show ((c.toNat:Int)<=((90:Nat):Int)) ↔ c<=90 from Int.ofNat_le.trans (UInt8.le_iff_toNat_le (b:=90)).symm)
  simp only [e1,e2,gP]
theorem DM:Meets Tryz.prog 96 (tU fun l=>.bool (gM l)).sp:=by
 refine aI Tryz.func96 YD 1 (by rw [Tryz.ntmps96]; decide) (aB _) qF ?_
 rintro xs H K ⟨⟨h,rfl⟩,hK⟩
 obtain ⟨s,rfl⟩:=gR h
 have hK':K (bS (gM (bl s))) []:=hK
 clear hK h
 have fin:∀ (x:Bool) (R:Hp),gM (bl s)=x->W.Fin 0 K (bS x) R:=fun x R h=>by
  rw [h] at hK'
  exact .z (hK')
 simp (maxSteps:=9^6) -dsimp only [go_sem,SZ,R9]
 generalize hg:(decide (((bl s).length:Int) < 1) || decide (16 < ((bl s).length:Int)))=g
 cases g with
 | true=>
  have hf:gM (bl s)=false:=by
   rw [pT]
   rw [Bool.or_eq_true] at hg
   rcases hg with h | h
   · have:=of_decide_eq_true h
     have:bl s=[]:=List.eq_nil_of_length_eq_zero (by omega)
     rw [this]; rfl
   · have:=of_decide_eq_true h
     rw [pX (by omega)]; rfl
  exact ⟨fun h=>(by cases h),fun c _=>⟨fun h=>(by simp at h),fun c1 _=>⟨fun _=>fin _ _ hf,fun h=>(by simp at h)⟩⟩⟩
 | false=>
 simp only [Bool.or_eq_false_iff,decide_eq_false_iff_not] at hg
 refine ⟨fun _=>by omega,fun c hc=>?_⟩
 have hc:=hc rfl
 have hcap:gP (bl s)=(decide (65<=c) && decide (c<=90)):=by
  cases hl:bl s with
  | nil=>rw [hl] at hc; cases hc
  | cons d r=>rw [hl] at hc; obtain rfl:=a7 hc; rfl
 have e1:decide ((c.toNat:Int) < 65)=!decide (65<=c):=by
  have:(65<=c) ↔ 65<=c.toNat:=UInt8.le_iff_toNat_le
  rw [Bool.eq_iff_iff]; simp [this]; omega
 have e2:decide (90 < (c.toNat:Int))=!decide (c<=90):=by
  have:(c<=90) ↔ c.toNat<=90:=UInt8.le_iff_toNat_le
  rw [Bool.eq_iff_iff]; simp [this]; omega
 refine ⟨fun _=>by omega,fun c1 hc1=>⟨fun h=>fin _ _ ?_,fun h=>?_⟩⟩
 · rw [pT,hcap]
   rw [e1,Bool.false_or] at h hc1
   cases h65:decide (65<=c)
   · simp
   · rw [h65] at h hc1
     obtain rfl:c=c1:=by rw [hc] at hc1; exact a7 (hc1 rfl)
     rw [e2] at h
     simp at h
     simp [h]
 have hcc:gP (bl s)=true:=by
  rw [hcap]
  rw [e1,Bool.false_or] at h hc1
  cases h65:decide (65<=c)
  · rw [h65] at h; simp at h
  · rw [h65] at h hc1
    obtain rfl:c=c1:=by rw [hc] at hc1; exact a7 (hc1 rfl)
    rw [e2] at h
    simp at h
    simp [h]
 have hlet:cM c.toNat=true:=by
  rw [hcap,Bool.and_eq_true] at hcc
  have h1:65<=c.toNat:=UInt8.le_iff_toNat_le.1 (of_decide_eq_true hcc.1)
  have h2:c.toNat<=90:=UInt8.le_iff_toNat_le.1 (of_decide_eq_true hcc.2)
  unfold cM
  simp; omega
 have htn:gM (bl s)=bL (bl s):=by rw [pT,hcc,Bool.and_true]
 clear h hc1
 refine bK (α:=Nat) (fun i=>[(0,tS s),(3,iS .i64 i)]) (fun i=>[]) (fun i=>i<=(bl s).length/\∀ (j:Nat) (x:UInt8),j < i->(bl s)[j]? = some x->bG x=true) (fun i=>(bl s).length - i) 0 0 ⟨by omega,by omega⟩ ?_ ?_ ?_
 · simp -dsimp only [go_sem]; simp
 · simp [go_sem]
 rintro i ⟨hi,ha⟩
 rcases b5 i (bl s).length with hlt | hge
 · have hgd:decide ((i:Int) < ((bl s).length:Int))=true:=by simp; omega
   obtain ⟨d,hd⟩:∃ d,(bl s)[i]? = some d:=⟨_,aZ hlt⟩
   simp (maxSteps:=9^6) -dsimp only [go_sem,hgd]
   refine ⟨by omega,fun x hx=>⟨fun h1 h2=>by rw [h1,h2]; rfl,fun h1 h2=>by rw [h1,h2]; rfl,fun h=>fin _ _ (by rw [htn]; exact EU hx h),fun h=>⟨by omega,?_⟩⟩⟩
   refine aG (i + 1) 0 ⟨by omega,fun j y hj hy=>?_⟩ (by omega) ?_ rfl
   · rcases b5 j i with h4 | h4
     · exact ha j y h4 hy
     · obtain rfl:j=i:=by omega
       rw [hx] at hy; obtain rfl:=a7 hy
       rw [Bool.not_eq_false'] at h
       exact h
   · simp -dsimp only [go_sem]<;>simp
 · have hgd:decide ((i:Int) < ((bl s).length:Int))=false:=by simp; omega
   simp (maxSteps:=9^6) -dsimp only [go_sem,hgd]
   refine fin _ _ ?_
   rw [htn]
   exact zF hc (by omega) hlet fun j x hx=>ha j x (by have:=(aV.1 hx).1; omega) hx
def zW (N:Nat):List S->Prop:=fun av=>match av with
 | [.va (.gs r),.va (.c1 (.vl (.int .i64 n)))]=>iT r/\0<=n/\n<=N
 | _=>False
theorem kM {N:Nat} {av:List S} (h:zW N av):∃ (t:Ty) (n:Nat),av=[.va (.gs (aM t)),iS .i64 n]/\TyOk t/\n<=N:=by
 unfold zW at h
 split at h
 · rename_i n
   obtain ⟨⟨t,rfl,ht⟩,h1,h2⟩:=h
   exact ⟨t,n.toNat,by rw [Int.toNat_of_nonneg h1],ht,by omega⟩
 · exact h.elim
noncomputable def MK:List S->A:=fun av=>match av with
 | [.va (.gs r),.va (.c1 (.vl (.int .i64 n)))]=>tA (mk (cA n.toNat (C.ty r)))
 | _=>.gs []
noncomputable def CR (N:Nat):Fun:=⟨zW N,MK,fun av h=>by obtain ⟨_,_,rfl,_⟩:=kM h; trivial⟩
theorem AL {N:Nat}:∀ av H K,(CR N).sp av H K->av.length=2:=fun av H K h=>by obtain ⟨_,_,rfl,_⟩:=kM h.1.1; rfl
attribute [go_sem] CR zW MK
def mB (t:Ty) (r:List UInt8):List UInt8:=
 bif t.k != 5 && decide (0 < (t.e.length:Int)) || t.k != 6 && t.k != 7 && !(bl t.n == []) then [] else
 bif t.k == 1 then bif t.s == 0 then fM else [] else
 bif t.k == 2 then bif t.s == 8 || t.s == 16 || t.s == 32 || t.s == 64 then wInt ++ aX t.s else [] else
 bif t.k == 3 then bif t.s == 8 || t.s == 16 || t.s == 32 then wUint ++ aX t.s else [] else
 bif t.k == 4 then bif decide (0<=t.s) then wText ++ [91] ++ aX t.s ++ [93] else [] else
 bif t.k == 5 then r else
 bif t.k == 6 || t.k == 7 then bif t.s == 0 && gM (bl t.n) then bl t.n else [] else []
theorem SJ {t:Ty} {r:List UInt8} (h:(t.k == 5)=false):mB t r=f0 t:=by
 have h5:(t.k != 5)=true:=by rw [bne,h]; rfl
 unfold mB f0 EN BB
 rw [h,h5,Bool.true_and]
 cases c0:decide (0 < (t.e.length:Int))
 · rw [Bool.false_or,aF]
   by_cases k1:t.k=1
   · rw [k1]; cases bl t.n == []<;>simp
   by_cases k2:t.k=2
   · rw [k2]; cases bl t.n == []<;>simp
   by_cases k3:t.k=3
   · rw [k3]; cases bl t.n == []<;>simp
   by_cases k4:t.k=4
   · rw [k4]; cases bl t.n == []<;>simp
   by_cases k6:t.k=6
   · rw [k6,pT,<-Bool.and_assoc]; rfl
   by_cases k7:t.k=7
   · rw [k7,pT,<-Bool.and_assoc]; rfl
   rw [beq_eq_false_iff_ne.2 k1,beq_eq_false_iff_ne.2 k2,beq_eq_false_iff_ne.2 k3,beq_eq_false_iff_ne.2 k4,beq_eq_false_iff_ne.2 k6,beq_eq_false_iff_ne.2 k7]
   cases bl t.n == []<;>simp
 · rfl
theorem H6 {n:Nat} {t:Ty}:mB t (bif decide (t.s < 0) || (t.e.length:Int) != 1 || (n:Int) == 0 then [] else bif cA (n - 1) (t.e.headD default) == [] then [] else nF t.s ++ cA (n - 1) (t.e.headD default))=cA n t:=by
 cases h:t.k == 5
 · rw [SJ h,fT h]
 · have hk:t.k=5:=eq_of_beq h
   unfold mB
   rw [hk]
   cases n with
   | zero=>
    rw [nN h]
    cases bl t.n == []<;>simp
   | succ n=>
    rw [gE h,show (((n + 1:Nat):Int) == 0)=false from beq_eq_false_iff_ne.2 (by omega),Bool.or_false,Nat.add_sub_cancel]
    cases bl t.n == []<;>cases decide (t.s < 0)<;>simp
theorem J0:∀ N,N<=6->Meets Tryz.prog 54 (CR N).sp:=fun N=>by
 induction N with
 | zero=>
  intro _
  refine aI Tryz.func54 RZ 2 (by rw [Tryz.ntmps54]; decide) (aN xP (aN DM (aB _))) AL ?_
  rintro av H K ⟨⟨h,rfl⟩,hK⟩
  obtain ⟨t,n,rfl,hs,hn⟩:=kM h
  have hK:K (tS (mk (cA n t))) []:=by
   have:(CR 0).val [.va (.gs (aM t)),iS .i64 n]=tA (mk (cA n t)):=by simp -dsimp only [go_sem]
   rw [this] at hK; exact hK
  clear h
  have fin:∀ (x:List UInt8) (R:Hp),cA n t=x->W.Fin 0 K (tS (mk x)) R:=fun x R h1=>by
   rw [h1] at hK
   exact .z (hK)
  have hsn:bU t.s:=hs.s
  have hd:(aX t.s).length<=21:=eW hsn.1 hsn.2
  rw [<-H6] at fin
  have hel:∀ x,t.e[0]? = some x->t.e.headD default=x:=fun x hx=>by
   cases hu:t.e with
   | nil=>rw [hu] at hx; cases hx
   | cons a r=>rw [hu] at hx; exact a7 hx
  have hnn:((n:Int) - 1).toNat=n - 1:=by omega
  have htl:∀ x,t.e[0]? = some x->(cA (n - 1) x).length<=30 + 31 * (n - 1):=fun x hx=>m0 _ _ (hs.e _ (bO hx))
  simp (maxSteps:=9^6) -dsimp only [go_sem,LJ,JX,aQ t]
  repeat' first | (intro _) | (refine And.intro ?_ ?_)
  all_goals first
   | exact hsn.1
   | exact hsn.2
   | omega
   | (refine fin _ _ ?_; unfold mB; simp only [*,aL,aF,Bool.or_true,Bool.true_or,Bool.or_false]; done)
   | (refine fin _ _ ?_; unfold mB; simp only [*,aL,aF,Bool.or_true,Bool.true_or,Bool.or_false]; rfl)
   | exact bM _
   | exact (iW _ _ (by assumption)).2
   | (rw [bM]; decide)
   | (rename_i a b; rw [a,b]; rfl)
   | (rename_i hc; simp only [Bool.or_eq_false_iff,bne_eq_false_iff_eq] at hc; omega)
   | exact fW (hs.e _ (bO ‹t.e[0]? = some _›))
   | (have hc:=‹(_ || _ || (n:Int) == 0)=false›; simp only [Bool.or_eq_false_iff,beq_eq_false_iff_ne] at hc; omega)
   | (rw [hnn]; have hc:=htl _ ‹t.e[0]? = some _›; omega)
   | (rw [hnn] at *; refine fin _ _ ?_; unfold mB; rw [hel _ ‹t.e[0]? = some _›]; simp only [*,aL,aF,Bool.or_true,Bool.true_or,Bool.or_false,nF,wOfs]; simp; done)
   | (rw [hnn,Bool.not_eq_false'] at *; refine fin _ _ ?_; unfold mB; rw [hel _ ‹t.e[0]? = some _›]; simp only [*,aL,aF,Bool.or_true,Bool.true_or,Bool.or_false]; done)
   | (have hq:=‹(!_)=false›; rw [hnn,Bool.not_eq_false'] at hq; refine fin _ _ ?_; unfold mB; rw [hel _ ‹t.e[0]? = some _›]; simp only [*,aL,aF,Bool.or_true,Bool.true_or,Bool.or_false]; done)
   | (simp_all; done)
   | skip
 | succ N ih=>
  intro hN
  refine aI Tryz.func54 RZ 2 (by rw [Tryz.ntmps54]; decide) (aN (ih (by omega)) (aN xP (aN DM (aB _)))) AL ?_
  rintro av H K ⟨⟨h,rfl⟩,hK⟩
  obtain ⟨t,n,rfl,hs,hn⟩:=kM h
  have hK:K (tS (mk (cA n t))) []:=by
   have:(CR (N + 1)).val [.va (.gs (aM t)),iS .i64 n]=tA (mk (cA n t)):=by simp -dsimp only [go_sem]
   rw [this] at hK; exact hK
  clear h
  have fin:∀ (x:List UInt8) (R:Hp),cA n t=x->W.Fin 0 K (tS (mk x)) R:=fun x R h1=>by
   rw [h1] at hK
   exact .z (hK)
  have hsn:bU t.s:=hs.s
  have hd:(aX t.s).length<=21:=eW hsn.1 hsn.2
  rw [<-H6] at fin
  have hel:∀ x,t.e[0]? = some x->t.e.headD default=x:=fun x hx=>by
   cases hu:t.e with
   | nil=>rw [hu] at hx; cases hx
   | cons a r=>rw [hu] at hx; exact a7 hx
  have hnn:((n:Int) - 1).toNat=n - 1:=by omega
  have htl:∀ x,t.e[0]? = some x->(cA (n - 1) x).length<=30 + 31 * (n - 1):=fun x hx=>m0 _ _ (hs.e _ (bO hx))
  simp (maxSteps:=9^6) -dsimp only [go_sem,LJ,JX,aQ t]
  repeat' first | (intro _) | (refine And.intro ?_ ?_)
  all_goals first
   | exact hsn.1
   | exact hsn.2
   | omega
   | (refine fin _ _ ?_; unfold mB; simp only [*,aL,aF,Bool.or_true,Bool.true_or,Bool.or_false]; done)
   | (refine fin _ _ ?_; unfold mB; simp only [*,aL,aF,Bool.or_true,Bool.true_or,Bool.or_false]; rfl)
   | exact bM _
   | exact (iW _ _ (by assumption)).2
   | (rw [bM]; decide)
   | (rename_i a b; rw [a,b]; rfl)
   | (rename_i hc; simp only [Bool.or_eq_false_iff,bne_eq_false_iff_eq] at hc; omega)
   | exact fW (hs.e _ (bO ‹t.e[0]? = some _›))
   | (have hc:=‹(_ || _ || (n:Int) == 0)=false›; simp only [Bool.or_eq_false_iff,beq_eq_false_iff_ne] at hc; omega)
   | (rw [hnn]; have hc:=htl _ ‹t.e[0]? = some _›; omega)
   | (rw [hnn] at *; refine fin _ _ ?_; unfold mB; rw [hel _ ‹t.e[0]? = some _›]; simp only [*,aL,aF,Bool.or_true,Bool.true_or,Bool.or_false,nF,wOfs]; simp; done)
   | (rw [hnn,Bool.not_eq_false'] at *; refine fin _ _ ?_; unfold mB; rw [hel _ ‹t.e[0]? = some _›]; simp only [*,aL,aF,Bool.or_true,Bool.true_or,Bool.or_false]; done)
   | (have hq:=‹(!_)=false›; rw [hnn,Bool.not_eq_false'] at hq; refine fin _ _ ?_; unfold mB; rw [hel _ ‹t.e[0]? = some _›]; simp only [*,aL,aF,Bool.or_true,Bool.true_or,Bool.or_false]; done)
   | (simp_all; done)
   | skip
noncomputable def eqB {α:Type} (a b:α):Bool:=@decide (a=b) (Classical.propDecidable _)
mutual
def aAY:Ty->List ByteArray
 | .mk k _ n e=>bif k == 6 || k == 7 then [n] else LL e
def LL:List Ty->List ByteArray
 | []=>[]
 | t :: r=>aAY t ++ LL r
end
def kF (x:ByteArray):Bool->List ByteArray->List ByteArray
 | d,[]=>bif d then [] else [x]
 | d,y :: r=>bif !d && (Op.bytesLess (bl x) (bl y) || bl x == bl y) then (bif Op.bytesLess (bl x) (bl y) then x :: y :: kF x true r else y :: kF x true r) else y :: kF x d r
abbrev y9 (a b:ByteArray):Prop:=bl a < bl b
theorem QA (x:List UInt8):∀ y:List UInt8,Op.bytesLess x y=decide (x < y):=by
 induction x with
 | nil=>intro y; cases y<;>simp [Op.bytesLess]
 | cons a x ih=>
  intro y
  cases y with
  | nil=>simp [Op.bytesLess]
  | cons b y=>
   have:=ih y
   rw [Op.bytesLess,this,Bool.eq_iff_iff]
   simp [List.cons_lt_cons_iff]
theorem MW (a b:ByteArray):Op.bytesLess (bl a) (bl b)=decide (y9 a b):=QA _ _
theorem kQ (a:ByteArray):¬ y9 a a:=List.lt_irrefl _
theorem yY {a b c:ByteArray} (h:y9 a b) (h2:y9 b c):y9 a c:=List.lt_trans h h2
theorem HS {a b:ByteArray} (h:¬ y9 a b) (h2:a ≠ b):y9 b a:=by
 have h3:bl b<=bl a:=List.not_lt.1 h
 exact Std.lt_of_le_of_ne h3 (fun e=>h2 (v6 e.symm))
def Asc (l:List ByteArray):Prop:=l.Pairwise y9
theorem DR:∀ {a b:List ByteArray},Asc a->Asc b->(∀ x,x ∈ a ↔ x ∈ b)->a=b
 | [],[],_,_,_=>rfl
 | [],y :: b,_,_,h=>by have:=(h y).2 List.mem_cons_self; cases this
 | x :: a,[],_,_,h=>by have:=(h x).1 List.mem_cons_self; cases this
 | x :: a,y :: b,h1,h2,h=>by
  obtain ⟨p1,p2⟩:=List.pairwise_cons.1 h1
  obtain ⟨p3,p4⟩:=List.pairwise_cons.1 h2
  have e:x=y:=by
   rcases List.mem_cons.1 ((h x).1 List.mem_cons_self) with e | e
   · exact e
   · rcases List.mem_cons.1 ((h y).2 List.mem_cons_self) with e2 | e2
     · exact e2.symm
     · exact absurd (yY (p1 y e2) (p3 x e)) (kQ x)
  subst e
  rw [DR p2 p4 fun z=>?_]
  constructor
  · intro hz
    rcases List.mem_cons.1 ((h z).1 (List.mem_cons_of_mem _ hz)) with e | e
    · exact absurd (p1 z hz) (by rw [e]; exact kQ x)
    · exact e
  · intro hz
    rcases List.mem_cons.1 ((h z).2 (List.mem_cons_of_mem _ hz)) with e | e
    · exact absurd (p3 z hz) (by rw [e]; exact kQ x)
    · exact e
theorem Asc.nodup {l:List ByteArray} (h:Asc l):l.Nodup:=by
 unfold List.Nodup
 refine List.Pairwise.imp ?_ h
 intro a b h e
 subst e
 exact kQ a h
theorem pV (x:ByteArray):∀ l,kF x true l=l
 | []=>rfl
 | y :: r=>by rw [kF,pV x r]; rfl
theorem lB {x z:ByteArray}:∀ {l:List ByteArray},z ∈ kF x false l ↔ z=x\/z ∈ l
 | []=>by simp [kF]
 | y :: r=>by
  rw [kF,pV]
  cases c1:Op.bytesLess (bl x) (bl y) with
  | true=>simp
  | false=>
   cases c2:bl x == bl y with
   | true=>
    have:x=y:=v6 (by simpa using c2)
    subst this
    simp
   | false=>
    have:=lB (x:=x) (z:=z) (l:=r)
    simp [this]
    constructor
    · rintro (h | h | h)
      · exact .inr (.inl h)
      · exact .inl h
      · exact .inr (.inr h)
    · rintro (h | h | h)
      · exact .inr (.inl h)
      · exact .inl h
      · exact .inr (.inr h)
theorem BT {x:ByteArray}:∀ {l:List ByteArray},Asc l->Asc (kF x false l)
 | [],_=>by simp [kF,Asc]
 | y :: r,h=>by
  obtain ⟨p1,p2⟩:=List.pairwise_cons.1 h
  rw [kF,pV]
  cases c1:Op.bytesLess (bl x) (bl y) with
  | true=>
   rw [MW] at c1
   have c1:=of_decide_eq_true c1
   simp only [Bool.not_false,Bool.true_or,Bool.and_true,aL]
   refine List.pairwise_cons.2 ⟨fun z hz=>?_,h⟩
   rcases List.mem_cons.1 hz with rfl | hz
   · exact c1
   · exact yY c1 (p1 z hz)
  | false=>
   cases c2:bl x == bl y with
   | true=>exact h
   | false=>
    rw [MW] at c1
    have c1:=of_decide_eq_false c1
    have c2:x ≠ y:=fun e=>by subst e; simp at c2
    simp only [Bool.not_false,Bool.true_and,Bool.or_self,aF]
    refine List.pairwise_cons.2 ⟨fun z hz=>?_,BT p2⟩
    rcases lB.1 hz with rfl | hz
    · exact HS c1 c2
    · exact p1 z hz
theorem KM {l:List ByteArray} (h:l.Nodup):Asc (d7 l):=by
 have h1:((l.map bl).mergeSort fun x y=>decide (x<=y)).Pairwise fun a b=>decide (a<=b)=true:=
  List.pairwise_mergeSort (le:=fun (x y:List UInt8)=>decide (x<=y)) (fun (a b c:List UInt8) h1 h2=>decide_eq_true (List.le_trans (of_decide_eq_true h1) (of_decide_eq_true h2))) (fun (a b:List UInt8)=>by
   rcases List.le_total a b with h | h<;>simp [h]) _
 have h2:((l.map bl).mergeSort fun x y=>decide (x<=y)).Nodup:=by
  rw [(List.mergeSort_perm _ _).nodup_iff]
  exact List.Pairwise.map bl (fun a b (hab:a ≠ b) e=>hab (v6 e)) h
 unfold d7 Asc
 rw [List.pairwise_map]
 refine List.Pairwise.imp₂ (fun a b h1 h2=>?_) h1 h2
 exact Std.lt_of_le_of_ne (of_decide_eq_true h1) h2
theorem H4 (ss:List St) (n:ByteArray):Asc (d8 ss n):=KM (pJ ss n)
structure UI (ss:List St) (n:ByteArray) (i:Nat) (todo o:List ByteArray):Prop where
 hd:∃ r,todo=n :: r/\r.Nodup/\∀ x,x ∈ o ↔ x ∈ r
 rc:∀ x ∈ o,Reach ss n x
 dn:∀ j a,j < i->todo[j]? = some a->∀ y,dW ss a y->y ∈ o
 asc:Asc o
theorem HJ {ss:List St} {es:List En} (g:Gd ss es) {n:ByteArray} {l:List ByteArray} (h:l.Nodup) (hr:∀ x ∈ l,Reach ss n x):l.length<=32:=Nat.le_trans (pU h fun x hx=>(gK ss n x).2 (hr x hx)) (g.vlen n)
theorem UI.len {ss:List St} {es:List En} (g:Gd ss es) {n:ByteArray} {i:Nat} {todo o:List ByteArray} (h:UI ss n i todo o):todo.length<=33/\o.length<=32:=by
 obtain ⟨r,rfl,h1,h2⟩:=h.hd
 have:=HJ g h1 fun x hx=>h.rc x ((h2 x).2 hx)
 have:=HJ g h.asc.nodup h.rc
 simp only [List.length_cons]; omega
theorem UI.add {ss:List St} {n:ByteArray} {i:Nat} {todo o:List ByteArray} (h:UI ss n i todo o) {y:ByteArray} (hr:Reach ss n y) (hy:y ∉ o) (hi:i<=todo.length):UI ss n i (todo ++ [y]) (kF y false o):=by
 obtain ⟨r,rfl,h1,h2⟩:=h.hd
 refine ⟨⟨r ++ [y],by simp,?_,fun x=>?_⟩,fun x hx=>?_,fun j a hj ha z hz=>?_,BT h.asc⟩
 · rw [List.nodup_append]
   exact ⟨h1,by simp,fun a ha b hb=>by simp at hb; subst hb; exact fun e=>hy ((h2 b).2 (e ▸ ha))⟩
 · rw [lB,h2]; simp [or_comm]
 · rcases lB.1 hx with rfl | hx
   · exact hr
   · exact h.rc x hx
 · rw [List.getElem?_append_left (by omega)] at ha
   exact lB.2 (.inr (h.dn j a hj ha z hz))
theorem UI.next {ss:List St} {n:ByteArray} {i:Nat} {todo o:List ByteArray} (h:UI ss n i todo o) {a:ByteArray} (ha:todo[i]? = some a) (hy:∀ y,dW ss a y->y ∈ o):UI ss n (i + 1) todo o:=by
 refine ⟨h.hd,h.rc,fun j b hj hb y hyb=>?_,h.asc⟩
 rcases b5 j i with h4 | h4
 · exact h.dn j b h4 hb y hyb
 · obtain rfl:j=i:=by omega
   rw [ha] at hb; obtain rfl:=a7 hb
   exact hy y hyb
theorem UI.fin {ss:List St} {n:ByteArray} {todo o:List ByteArray} (h:UI ss n todo.length todo o):o=d8 ss n:=by
 refine DR h.asc (H4 ss n) fun x=>?_
 rw [x3]
 refine ⟨h.rc x,fun hx=>?_⟩
 obtain ⟨r,e,h1,h2⟩:=h.hd
 have hn:∀ y,dW ss n y->y ∈ o:=h.dn 0 n (by rw [e]; simp) (by rw [e]; rfl)
 induction hx with
 | one h=>exact hn _ h
 | more _ h3 ih=>
  obtain ⟨j,hj⟩:=List.mem_iff_getElem?.1 ((h2 _).1 ih)
  rename_i b c _
  have hj2:todo[j + 1]? = some b:=by rw [e]; simpa using hj
  exact h.dn (j + 1) _ (aV.1 hj2).1 hj2 _ h3
def lA:List St->List Int->ByteArray->Int
 | s :: ss,d :: ds,n=>bif decide (s.nm=n) then d else lA ss ds n
 | _,_,_=>0
theorem A9 {n:ByteArray}:∀ {ss:List St} {ds:List Int},fS ss n=none->lA ss ds n=0
 | [],_,_=>by simp [lA]
 | s :: ss,[],_=>by simp [lA]
 | s :: ss,d :: ds,h=>by
  unfold fS at h
  rw [List.find?_cons] at h
  rw [lA]
  cases hc:decide (s.nm=n) with
  | true=>rw [hc] at h; simp at h
  | false=>rw [hc] at h; exact A9 (ss:=ss) h
theorem C2 {n:ByteArray} {u:St}:∀ {ss:List St} {ds:List Int},ss.length=ds.length->fS ss n=some u->∃ j:Nat,ss[j]? = some u/\ds[j]? = some (lA ss ds n)
 | [],_,_,h=>by cases h
 | s :: ss,[],hl,_=>by simp at hl
 | s :: ss,d :: ds,hl,h=>by
  unfold fS at h
  rw [List.find?_cons] at h
  rw [lA]
  cases hc:decide (s.nm=n) with
  | true=>
   rw [hc] at h
   obtain rfl:s=u:=by simpa using h
   exact ⟨0,rfl,rfl⟩
  | false=>
   rw [hc] at h
   obtain ⟨j,h1,h2⟩:=C2 (ss:=ss) (ds:=ds) (by simpa using hl) h
   exact ⟨j + 1,by simpa using h1,by simpa using h2⟩
theorem JE {dp dq:ByteArray->Int} {l:List Fl} (h:∀ f ∈ l,c7 dp f.ty<=c7 dq f.ty):eZ dp l<=eZ dq l:=EO (mS _ _) fun f hf=>Int.le_trans (h f hf) (PL hf)
structure DI (ss:List St) (r i:Nat) (d:List Int):Prop where
 len:d.length=ss.length
 lo:∀ (j:Nat) (t:St) (v:Int),ss[j]? = some t->d[j]? = some v->0<=v/\v<=dD ss t.nm/\(nY ss t.nm < r->v=dD ss t.nm)/\(j < i->nY ss t.nm < r + 1->v=dD ss t.nm)
theorem DI.ix {ss:List St} {es:List En} (_g:Gd ss es) {r i:Nat} {d:List Int} (h:DI ss r i d) (n:ByteArray):0<=lA ss d n/\lA ss d n<=dD ss n/\((fS ss n).isSome=true->nY ss n < r->lA ss d n=dD ss n):=by
 cases hf:fS ss n with
 | none=>
  rw [A9 hf]
  exact ⟨Int.le_refl _,NU ss n,fun h=>by simp at h⟩
 | some u=>
  obtain ⟨j,h1,h2⟩:=C2 h.len.symm hf
  obtain ⟨a1,a2,a3,_⟩:=h.lo j u _ h1 h2
  obtain ⟨_,rfl⟩:=nB hf
  exact ⟨a1,a2,fun _ h=>a3 h⟩
theorem DI.all {ss:List St} {es:List En} (g:Gd ss es) {r i:Nat} {d:List Int} (h:DI ss r i d):∀ v ∈ d,0<=v/\v<=1000000000000:=fun v hv=>by
 obtain ⟨j,hj⟩:=List.mem_iff_getElem?.1 hv
 have hl:=(aV.1 hj).1
 obtain ⟨t,ht⟩:∃ t,ss[j]? = some t:=⟨_,aZ (by have:=h.len; omega)⟩
 obtain ⟨h1,h2,_⟩:=h.lo j t v ht hj
 have:=LM g t.nm
 omega
theorem DI.fd {ss:List St} {es:List En} (g:Gd ss es) {r i:Nat} {d:List Int} (h:DI ss r i d) (t:Ty):c7 (lA ss d) t<=c7 (dD ss) t:=by
 unfold c7
 have:=h.ix g (bP t).2.n
 cases (bP t).2.k == 6<;>simp only [aL,aF]<;>omega
theorem DI.set {ss:List St} {es:List En} (g:Gd ss es) (ha:yJ ss) {r i:Nat} {d:List Int} (h:DI ss r i d) {t:St} (ht:ss[i]? = some t):DI ss r (i + 1) (d.set i (1 + eZ (lA ss d) t.fs)):=by
 have htm:=bO ht
 have hD:=ML g ha (g.nd t htm)
 have hle:eZ (lA ss d) t.fs<=eZ (dD ss) t.fs:=JE fun f _=>h.fd g f.ty
 have heq:nY ss t.nm < r + 1->eZ (lA ss d) t.fs=eZ (dD ss) t.fs:=fun hr=>nV fun f hf=>by
  unfold c7
  cases hk:(bP f.ty).2.k == 6 with
  | false=>rfl
  | true=>
   obtain ⟨h1,u,h2⟩:=xB g (g.nd t htm) hf hk
   have h3:=w6 h1 h2 ha
   rw [(h.ix g _).2.2 (by rw [h2]; rfl) (by omega)]
 have hn:=mS (lA ss d) t.fs
 refine ⟨by rw [List.length_set]; exact h.len,fun j u v hu hv=>?_⟩
 rw [List.getElem?_set] at hv
 by_cases e:i=j
 · subst e
   rw [ht] at hu; obtain rfl:=a7 hu
   have hlt:i < d.length:=by have:=h.len; have:=(aV.1 ht).1; omega
   simp [hlt] at hv
   subst hv
   exact ⟨by omega,by omega,fun hr=>by rw [heq (by omega)]; omega,fun _ hr=>by rw [heq hr]; omega⟩
 · rw [if_neg e] at hv
   obtain ⟨a1,a2,a3,a4⟩:=h.lo j u v hu hv
   exact ⟨a1,a2,a3,fun hj hr=>a4 (by omega) hr⟩
theorem DI.up {ss:List St} {r:Nat} {d:List Int} (h:DI ss r ss.length d):DI ss (r + 1) 0 d:=⟨h.len,fun j t v ht hv=>by
 obtain ⟨a1,a2,_,a4⟩:=h.lo j t v ht hv
 exact ⟨a1,a2,fun hr=>a4 (aV.1 ht).1 hr,fun h=>absurd h (Nat.not_lt_zero _)⟩⟩
theorem DI.fin {ss:List St} {d:List Int} (h:DI ss (ss.length + 1) 0 d):d=ss.map fun t=>dD ss t.nm:=by
 refine List.ext_getElem? fun j=>?_
 rw [List.getElem?_map]
 cases ht:ss[j]? with
 | none=>
  rw [List.getElem?_eq_none_iff] at ht
  rw [List.getElem?_eq_none (by rw [h.len]; exact ht)]; rfl
 | some t=>
  obtain ⟨v,hv⟩:∃ v,d[j]? = some v:=⟨_,aZ (by rw [h.len]; exact (aV.1 ht).1)⟩
  obtain ⟨_,_,a3,_⟩:=h.lo j t v ht hv
  rw [hv,a3 (Nat.lt_succ_of_le (FI _ _))]; rfl
theorem RD:Meets Tryz.prog 17 txFn.sp:=by
 refine aI Tryz.func17 ZR 1 (by rw [Tryz.ntmps17]; decide) (aN (J0 6 (Nat.le_refl _)) (aB _)) iI ?_
 rintro av H K ⟨⟨h,rfl⟩,hK⟩
 obtain ⟨_,rfl,t,rfl,hs⟩:=eC h
 have hK:K (tS (mk (cA 6 t))) []:=by
  have:txFn.val [.va (.gs (aM t))]=tA (mk (cA 6 t)):=by simp -dsimp only [go_sem]
  rw [this] at hK; exact hK
 clear h
 simp (maxSteps:=9^6) -dsimp only [go_sem,RX,QV,aQ t]
 rw [show C.ty [C.vl (Value.int IntKind.i64 t.k),C.vl (Value.int IntKind.i64 t.s),C.vl (Value.string t.n),C.fz (List.map aM t.e)]=t by rw [<-aQ t]; exact jZ t]
 refine ⟨⟨⟨_,(aQ t).symm,hs⟩,by decide,by decide⟩,.z (hK)⟩
def txA:List UInt8:=[118,101,114,115,105,111,110,32,50,59,32,115,116,114,117,99,116,32,65,32,123,32,49,32,98,58,32,66,59,32,125,32,101,110,117,109,32,66,32,123,32,99,32,61,32,48,32,125]
def txB:List UInt8:=[118,101,114,115,105,111,110,32,49]
def exA:Sc:=⟨2,[⟨mk [66],[mk [99]],[0]⟩],[⟨mk [65],[⟨1,mk [98],.mk 7 0 (mk [66]) [],false⟩]⟩]⟩
def ID:Ty:=.mk 5 4 (mk []) [.mk 4 16 (mk []) []]
theorem SV:AK txA=(exA,0,0):=by kernel_rfl
theorem aAA:AK txB=(I8,2,9):=by kernel_rfl
theorem YI:cA 6 ID=[108,105,115,116,91,52,93,32,111,102,32,116,101,120,116,91,49,54,93]:=by kernel_rfl
theorem ZL:m7 exA=[118,101,114,115,105,111,110,32,50,59,10,101,110,117,109,32,66,32,123,32,99,32,61,32,48,32,125,10,115,116,114,117,99,116,32,65,32,123,10,32,32,49,32,98,58,32,66,59,10,125,10]:=by kernel_rfl
theorem N4:exA.fit:=by
 have h:=SV
 have hP:ScP exA:=⟨⟨by decide,by decide⟩,by decide,by decide,fun e he=>by
  rw [List.mem_singleton.1 he]
  exact ⟨by decide,by decide,by decide,fun n hn=>by rw [List.mem_singleton.1 hn]; decide,fun n hn=>by rw [List.mem_singleton.1 hn]; exact ⟨by decide,by decide⟩⟩,fun t ht=>by
  rw [List.mem_singleton.1 ht]
  exact ⟨by decide,by decide,fun f hf=>by
   rw [List.mem_singleton.1 hf]
   exact ⟨⟨by decide,by decide⟩,by decide,⟨[],_,rfl,⟨by decide,by decide⟩,by decide,rfl,by decide,⟨by decide,by decide⟩,by decide,fun s hs=>by cases hs⟩⟩⟩⟩
 exact hP.fit
theorem TR:TyOk ID:=.mk ⟨by decide,by decide⟩ ⟨by decide,by decide⟩ (by decide) (by decide) fun u hu=>by
 rw [List.mem_singleton.1 hu]
 exact .mk ⟨by decide,by decide⟩ ⟨by decide,by decide⟩ (by decide) (by decide) fun u hu=>by cases hu
theorem IH {x:ByteArray} {r:Sc × Int × Int} {K:S->Hp->Prop} (h:AK (bl x)=r) (hK:K (.tu [.gs (aO r.1),iA .i64 r.2.1,iA .i64 r.2.2]) []):nX [tS x] [] K:=⟨x,rfl,rfl,by rw [h]; exact hK⟩
noncomputable def NB:cN:=[(12,.s nX),(16,.f txFn),(10,.f fmFn)]
theorem RP:sp NB 12=nX:=rfl
theorem QC:i6 NB 16=some txFn:=rfl
theorem SO:i6 NB 10=some fmFn:=rfl
attribute [local go_sem] RP QC SO
theorem OI:Meets Tryz.prog 11 qTrue.sp:=by
 refine aI (Γ:=NB) Tryz.func11 aAH 0 (by rw [Tryz.ntmps11]; decide) (aA TT (aN CK (aN PB (aB _)))) IB ?_
 rintro av H K ⟨⟨h,rfl⟩,hK⟩
 obtain rfl:av=[]:=h
 have hK:K (bS true) []:=hK
 have fin:∀ R:Hp,W.Fin 0 K (bS true) R:=fun R=>.z ((by simpa [go_sem] using hK))
 clear hK
 simp (maxSteps:=9^6) -dsimp only [go_sem,SU,QB]
 refine IH SV ?_
 simp (maxSteps:=9^6) -dsimp only [go_sem,exA,aO,List.map_cons,List.map_nil]
 refine a8 rfl (.done ?_)
 simp (maxSteps:=9^6) -dsimp only [go_sem,z8]
 refine IH aAA ?_
 simp (maxSteps:=9^6) -dsimp only [go_sem,I8,aO,List.map_cons,List.map_nil]
 have g1:((0:Int) != 0)=false:=rfl
 have g2:((2:Int) != 2)=false:=rfl
 have g3:((9:Int) != 9)=false:=rfl
 have g4:((1:Int) != 1)=false:=rfl
 refine cB (up:=[(1,.va (.c1 (.pt 0 0))),(2,iS .i64 0),(5,iS .i64 2),(6,iS .i64 9)]) (Hs:=[.cells [.vl (.int .i64 2),.fz [[.vl (.string (mk [66])),.fz [cP (mk [99])],.fz [iL 0]]],.fz [[.vl (.string (mk [65])),.fz [[.vl (.int .i64 1),.vl (.string (mk [98])),.vl (.int .i64 7),.vl (.int .i64 0),.vl (.string (mk [66])),.fz [],.vl (.bool false)]]]]] 25]) 1 ?_ ?_ ?_
 · simp (maxSteps:=9^6) -dsimp only [go_sem,CO,g1,g2,g3,g4,List.length_cons,List.length_nil,Nat.zero_add,Int.ofNat_one,forall_eq']
   refine ⟨by decide,?_⟩
   refine cB (up:=[(1,.va (.c1 (.pt 0 0)))]) (Hs:=[.cells [.vl (.int .i64 2),.fz [[.vl (.string (mk [66])),.fz [cP (mk [99])],.fz [iL 0]]],.fz [[.vl (.string (mk [65])),.fz [[.vl (.int .i64 1),.vl (.string (mk [98])),.vl (.int .i64 7),.vl (.int .i64 0),.vl (.string (mk [66])),.fz [],.vl (.bool false)]]]]] 25]) 1 ?_ ?_ ?_
   · simp (maxSteps:=9^6) -dsimp only [go_sem,B9]
     refine a8 rfl (.opn 1 _ _ _ rfl (.nfr 1 _ _ _ rfl (.shu 1 _ _ _ rfl ?_ (.pub 1 _ _ _ rfl (.done ?_)))))
     · simp [C.nf,C.shut]
     have k1:iT [.vl (.int .i64 5),.vl (.int .i64 4),.vl (.string (mk [])),.fz [[.vl (.int .i64 4),.vl (.int .i64 16),.vl (.string (mk [])),.fz []]]]:=fW (t:=ID) TR
     have k2:C.ty [.vl (.int .i64 5),.vl (.int .i64 4),.vl (.string (mk [])),.fz [[.vl (.int .i64 4),.vl (.int .i64 16),.vl (.string (mk [])),.fz []]]]=ID:=jZ ID
     have k3:zT [.vl (.int .i64 2),.fz [[.vl (.string (mk [66])),.fz [cP (mk [99])],.fz [iL 0]]],.fz [[.vl (.string (mk [65])),.fz [[.vl (.int .i64 1),.vl (.string (mk [98])),.vl (.int .i64 7),.vl (.int .i64 0),.vl (.string (mk [66])),.fz [],.vl (.bool false)]]]]]:=K4 (s:=exA) N4
     have k4:C.sc [.vl (.int .i64 2),.fz [[.vl (.string (mk [66])),.fz [cP (mk [99])],.fz [iL 0]]],.fz [[.vl (.string (mk [65])),.fz [[.vl (.int .i64 1),.vl (.string (mk [98])),.vl (.int .i64 7),.vl (.int .i64 0),.vl (.string (mk [66])),.fz [],.vl (.bool false)]]]]]=exA:=p7 exA
     have e7:((7:Int) == 7)=true:=rfl
     simp (maxSteps:=9^6) -dsimp only [go_sem,cG,C.nf,C.pub,CJ,forall_eq',k1,k2,k3,k4,e7,YI,ZL,Bool.true_and,beq_self_eq_true]
     exact ⟨by decide,by decide,fin _⟩
   · simp -dsimp only [go_sem]<;>simp
   · simp -dsimp only [go_sem]<;>simp
 · simp -dsimp only [go_sem]<;>simp
 · simp -dsimp only [go_sem]<;>simp [bB,aR,bR]
   exact ⟨rfl,rfl,rfl,rfl⟩
theorem CM:∀ N,Meets Tryz.prog 19 (GT N).sp
 | 0=>⟨by kernel_rfl,by rintro xs vs E ro w K _ _ _ ⟨⟨h,_⟩,_⟩; obtain ⟨a,_,_,_,_,h⟩:=kR h; have:=a.h_pos; omega⟩
 | N + 1=>by
  refine aI Tryz.func19 YE 2 (by rw [Tryz.ntmps19]; decide) (aN (CM N) (aB _)) J5 ?_
  rintro av H K ⟨⟨h,rfl⟩,hK⟩
  obtain ⟨a,b,rfl,ha,hb,hh⟩:=kR h
  have hK:K (bS (pE a b)) []:=by
   have:(GT (N + 1)).val [.va (.gs (aM a)),.va (.gs (aM b))]=bA (pE a b):=by simp -dsimp only [go_sem]
   rw [this] at hK; exact hK
  clear h
  have fin:∀ (x:Bool) (R:Hp),pE a b=x->W.Fin 0 K (bS x) R:=fun x R h=>by
   rw [h] at hK
   exact .z ((by simpa [go_sem] using hK))
  obtain ⟨k,s,n,e⟩:=a
  obtain ⟨k',s',n',e'⟩:=b
  have hla:=ha.len
  have hoa:=ha.e
  have hob:=hb.e
  simp only [Ty.e] at hla hoa hob
  simp (maxSteps:=9^6) -dsimp only [go_sem,aM,bC,P9,TC,j4]
  refine ⟨fun h1=>fin false _ (HY fun he=>?_),fun h1=>?_⟩
  · obtain ⟨rfl,rfl,rfl,rfl⟩:=FK.1 he
    simp at h1
  simp only [Bool.or_eq_false_iff,bne_eq_false_iff_eq,Bool.not_eq_false',decide_eq_true_eq] at h1
  obtain ⟨⟨⟨rfl,rfl⟩,rfl⟩,hl⟩:=h1
  have hl:e.length=e'.length:=by omega
  refine bK (α:=Nat) (fun i=>[(2,.va (.c1 (.pt 0 0))),(3,.va (.c1 (.pt 1 0))),(5,iS .i64 i)]) (fun i=>[.cells (aM (.mk k s n e)) 37,.cells (aM (.mk k s n e')) 37])
   (fun i=>i<=e.length/\∀ j,j < i->e[j]? = e'[j]?) (fun i=>e.length - i) 0 2 ⟨Nat.zero_le _,fun j hj=>by omega⟩ ?_ ?_ ?_
  · simp -dsimp only [go_sem]<;>simp
  · simp -dsimp only [go_sem,aM,bC]<;>simp
  rintro i ⟨hi,ho⟩
  rcases b5 i e.length with hlt | hge
  · have hg:decide ((i:Int) < (e.length:Int))=true:=by simp; omega
    obtain ⟨u,hx⟩:∃ t,e[i]? = some t:=⟨_,aZ hlt⟩
    obtain ⟨v,hy⟩:∃ t,e'[i]? = some t:=⟨_,aZ (by omega)⟩
    have q1:=bN (row:=aM) hx
    have q2:=bN (row:=aM) hy
    have hu:iT (aM u):=fW (hoa u (bO hx))
    have hv:iT (aM v):=fW (hob v (bO hy))
    have huh:u.h<=N:=by have:=Ty.hs_mem (bO hx); rw [Ty.h] at hh; omega
    simp (maxSteps:=9^6) -dsimp only [go_sem,hg,aM,bC]
    simp (maxSteps:=9^6) -dsimp only [go_sem,bM,hu,hv,hx,hy,aC,forall_eq']
    refine ⟨by omega,by omega,huh,fun h1=>fin false _ (HY fun he=>?_),fun h1=>?_⟩
    · obtain ⟨_,_,_,rfl⟩:=FK.1 he
      rw [hx] at hy
      rw [AS (a7 hy)] at h1
      simp at h1
    · have h1:u=v:=PM.1 (by simpa using h1)
      subst h1
      refine ⟨by omega,aG (i + 1) 2 ⟨by omega,fun j hj=>?_⟩ (by omega) ?_ ?_⟩
      · rcases b5 j i with h4 | h4
        · exact ho j h4
        · obtain rfl:j=i:=by omega
          rw [hx,hy]
      · simp -dsimp only [go_sem]<;>simp
      · simp -dsimp only [go_sem,aM,bC]<;>simp
  · have hg:decide ((i:Int) < (e.length:Int))=false:=by simp; omega
    obtain rfl:i=e.length:=by omega
    simp (maxSteps:=9^6) -dsimp only [go_sem,hg,aM,bC]
    refine fin true _ (AS ?_)
    rw [FK]
    refine ⟨rfl,rfl,rfl,List.ext_getElem? fun j=>?_⟩
    rcases b5 j e.length with h4 | h4
    · exact ho j h4
    · rw [List.getElem?_eq_none h4,List.getElem?_eq_none (by omega)]
theorem PQ:Meets Tryz.prog 19 sFn.sp:=j5 0 CM fun av H K ⟨⟨h,e⟩,hK⟩=>by
 obtain ⟨a,b,rfl,ha,hb⟩:=yF h
 exact ⟨a.h,⟨⟨⟨fW ha,fW hb,by rw [jZ]; exact Nat.le_refl _⟩,e⟩,hK⟩⟩
theorem HU:∀ (f:Nat) (t:Ty),cA f t ≠ []->TySm t
 | 0,t,h=>by
  cases hk:t.k == 5
  · rw [fT hk] at h
    obtain ⟨k,s,n,e⟩:=t
    obtain rfl:e=[]:=(iC h).1
    exact .mk (by decide) fun u hu=>by cases hu
  · rw [nN hk] at h; exact absurd rfl h
 | f + 1,t,h=>by
  cases hk:t.k == 5
  · rw [fT hk] at h
    obtain ⟨k,s,n,e⟩:=t
    obtain rfl:e=[]:=(iC h).1
    exact .mk (by decide) fun u hu=>by cases hu
  · rw [gE hk] at h
    cases c:decide (t.s < 0) || !(bl t.n == []) || (t.e.length:Int) != 1 with
    | true=>rw [c] at h; exact absurd rfl h
    | false=>
     rw [c,aF] at h
     cases q:cA f (t.e.headD default) == [] with
     | true=>rw [q] at h; exact absurd rfl h
     | false=>
      simp only [Bool.or_eq_false_iff,bne_eq_false_iff_eq] at c
      obtain ⟨k,s,nm,e⟩:=t
      have c3:(e.length:Int)=1:=c.2
      obtain ⟨u,rfl⟩:∃ u,e=[u]:=by
       match e,c3 with
       | [u],_=>exact ⟨u,rfl⟩
       | [],h=>simp at h
       | _ :: _ :: _,h=>simp at h; omega
      exact .mk (by simp) fun v hv=>by
       rw [List.mem_singleton.1 hv]
       exact HU f u fun e=>by
        have q:(cA f u == [])=false:=q
        rw [e] at q; cases q
def MY:W.Spec:=fun av H K=>∃ t:Ty,av=[.va (.gs (aM t))]/\H=[]/\TyOk t/\TySm t/\K (.va (.gs (aM (fU t)))) []
theorem K3:Meets Tryz.prog 20 MY:=j5 0 xX fun _av _H _K ⟨t,e1,e2,h1,h2,hK⟩=>⟨t.h,t,e1,e2,h1,h2,Nat.le_refl _,hK⟩
theorem OW {t:Ty} {K:S->Hp->Prop} (h1:TyOk t) (h2:TySm t) (hK:K (.va (.gs (aM (fU t)))) []):MY [.va (.gs (aM t))] [] K:=⟨t,rfl,rfl,h1,h2,hK⟩
theorem TO {x:ByteArray} {r:Ty × Int × Int} {K:S->Hp->Prop} (h:C7 (bl x)=r) (hK:K (.tu [.gs (aM r.1),iA .i64 r.2.1,iA .i64 r.2.2]) []):zZ [tS x] [] K:=⟨x,rfl,rfl,by rw [h]; exact hK⟩
noncomputable def lyFn:Fun:=o8 iT C.ty fun _=>.bool true
attribute [go_sem] lyFn
noncomputable def s0:cN:=[(16,.f txFn),(17,.f txFn),(18,.s zZ),(19,.f sFn),(20,.s MY),(11,.f qTrue)]
theorem SA:i6 s0 16=some txFn:=rfl
theorem QO:i6 s0 17=some txFn:=rfl
theorem SQ:sp s0 18=zZ:=rfl
theorem QG:i6 s0 19=some sFn:=rfl
theorem Q0:sp s0 20=MY:=rfl
theorem TM:i6 s0 11=some qTrue:=rfl
attribute [local go_sem] SA QO SQ QG Q0 TM
theorem GI:Meets Tryz.prog 6 lyFn.sp:=by
 refine aI (Γ:=s0) Tryz.func6 ok6 1 (by rw [Tryz.ntmps6]; decide) (aN CK (aN RD (aA O7 (aN PQ (aA K3 (aN OI (aB _))))))) iI ?_
 rintro av H K ⟨⟨h,rfl⟩,hK⟩
 obtain ⟨_,rfl,t,rfl,hs⟩:=eC h
 have hK:K (bS true) []:=hK
 clear h
 have fin:∀ R:Hp,W.Fin 0 K (bS true) R:=fun R=>.z ((by simpa [go_sem] using hK))
 clear hK
 have k1:=fW hs
 have k2:=jZ t
 rw [aQ] at k1 k2
 have hl:=m0 6 t hs
 simp (maxSteps:=9^6) -dsimp only [go_sem,aQ t,XK,XE,k1,k2,bne_self_eq_false]
 refine ⟨fun _=>fin _,fun hc=>?_⟩
 rw [Bool.or_eq_false_iff] at hc
 have hx:cA 6 t ≠ []:=fun e=>by rw [e] at hc; cases hc.1
 refine TO (PW hs hx) ?_
 have s1:=fW (I4 t hs)
 have s2:=jZ (fU t)
 have s3:pE (fU t) (fU t)=true:=AS rfl
 simp (maxSteps:=9^6) -dsimp only [go_sem,bM]
 have g0:((0:Int) == 0)=true:=rfl
 refine ⟨fun c hc=>(iW _ c hc).2,cB (up:=[(1,.va (.c1 (.pt 0 0))),(4,.va (.c1 (.pt 1 0))),(5,iS .i64 0),(6,iS .i64 0)]) (Hs:=[.cells (aM t) 37,.cells (aM (fU t)) 37]) 2 ?_ ?_ ?_⟩
 · simp (maxSteps:=9^6) -dsimp only [go_sem,FY,g0,bM]
   refine OW hs (HU 6 t hx) ?_
   simp (maxSteps:=9^6) -dsimp only [go_sem,s1,s2,s3]
   exact fin _
 · simp -dsimp only [go_sem]<;>simp
 · simp -dsimp only [go_sem]<;>simp [aQ t]
end Go.Proofs.YtgogpogophflhaaGreatDoor
namespace Go.W
open Go.RowKit
def lE (W:World):RO:=⟨fun b off=>W.cell? ⟨b,off,none⟩,fun _=>0⟩
theorem RR (W:World):∀ (b off:Nat) (v:Value),lE W b off=some v->W.cell? ⟨b,off,none⟩=some v:=fun _ _ _ h=>h
theorem RK (ro:RO):FzR ro [] (.slice none 0 0):=
 FzR.mk [] 1 none none (fun h=>absurd rfl h) 0 (fun _=>.bool true) (by simp) (by simp) (by simp) (by simp) (by simp) (by simp) (by simp) (by simp)
def n9 (P:Program):Bool:=(List.range P.types.size).all fun t=>match P.underlying t with | some (.slice e)=>decide (0 < P.cellsOf e) | _=>true
section
variable {H:Type} {enc:TypeId × Value->H} {P:Program}
theorem I3 {W W':World} (h:Stay W W') {p:MemPlace} (hp:p.block < W.heap.size):W.sameAt W' p:=by
 cases p with
 | cell b off=>exact h.cell (a:=⟨b,off,none⟩) hp
 | map b=>exact h.keep b hp
theorem p6 {W W':World} {sp:Nat->Bool} (hl:laidOutB P=true) (hm:mapsRowed P=true) (hs:n9 P=true) (hst:Stay W W') :
 ∀ {ts:List TypeId} {vs:List Value} {ds:List (DataW H)} {ps:List MemPlace},(∀ t ∈ ts,t < P.types.size)->DataW.TrodAll enc P W 0 (fun _=>true) true ts vs ds ps->(∀ p ∈ ps,p.block < W.heap.size)->(∀ p ∈ ps,sp p.block=true)->
  DataW.TrodAll enc P W' 0 sp true ts vs ds ps
 | [],[],[],ps,_,h,_,_=>h
 | t :: ts,v :: vs,d :: ds,ps,ht,h,hb,hp=>by
  obtain ⟨p,q,⟨n,h1⟩,h2,rfl⟩:=h
  have hsz:∀ {t e:TypeId},t < P.types.size->P.underlying t=some (.slice e)->0 < P.cellsOf e:=fun {t e} ht hu=>by
   have:=List.all_eq_true.1 hs t (List.mem_range.2 ht)
   rw [hu] at this
   simpa using this
  exact ⟨p,q,⟨n,DataW.trod_stays (T:=(· < P.types.size)) (kids_rows hl hm) hsz (fun h=>by cases h) (ht t (by simp)) h1 (fun x hx=>I3 hst (hb x (by simp [hx]))) (fun x hx=>hp x (by simp [hx]))⟩,
   p6 hl hm hs hst (fun u hu=>ht u (by simp [hu])) h2 (fun x hx=>hb x (by simp [hx])) (fun x hx=>hp x (by simp [hx])),rfl⟩
 | [],_ :: _,_,_,_,h,_,_=>h.elim
 | [],[],_ :: _,_,_,h,_,_=>h.elim
 | _ :: _,[],_,_,_,h,_,_=>h.elim
 | _ :: _,_ :: _,[],_,_,h,_,_=>h.elim
theorem K0 {f:Func} {s:ChangeSpec} {apart fresh handsOn again:Bool} {W W':World} {args:Array Value} {ds gs:List (DataW H)} {before:List MemPlace} {tb:TypeId}
 (hl:laidOutB P=true) (hm:mapsRowed P=true) (hsr:n9 P=true) (hps:∀ t ∈ f.params.toList,t < P.types.size) (hrt:f.resultTypes=#[tb]) (htb:P.underlying tb=some .bool)
 (hvars:s.vars=[]) (hW:DataW.Whole enc P f.params.toList s.vars apart W args.toList ds gs before) (hfn:s.fn H (ds ++ gs)={ results:=[.lit (.bool true)],args:=ds,vars:=[] }) (hst:Stay W W') :
 s.post enc P f apart fresh handsOn again W args (.bool true) W':=by
 have hlt:∀ p ∈ before,p.block < W.heap.size:=fun p hp=>hW.lt p hp
 obtain ⟨p,q,hA,hV,hb,_,_⟩:=id hW
 have hq:q=[]:=by
  rw [hvars] at hV
  cases gs with
  | nil=>exact hV
  | cons g gs=>exact hV.elim
 subst hq
 have hbp:before=p:=by rw [hb]; simp
 refine A5 (pa:=p) (pv:=[]) hW (fun b sp hd=>?_) (fun sp hsp=>?_) (fun sp hsp=>?_) hb hst ?_
 · rw [hrt,hfn]
   exact ⟨[],[],⟨1,by simp [DataW.trod,Value.cells,htb]⟩,rfl,rfl⟩
 · rw [hfn]
   rw [hbp] at hlt hsp
   exact p6 hl hm hsr hst hps hA hlt hsp
 · rw [hfn,hvars]; rfl
 · intro j t r h1 h2
   rw [hrt] at h1 h2
   match j with
   | 0=>
    cases h1
    cases h2
    simp [Value.okWide,Cell.okWide,Cell.ok,htb]
   | j + 1=>cases h1
end
open Go.RowKit
inductive Fit (P:Program):TypeId->List C->Prop
 | int {t:TypeId} {k:IntKind} {n:Int}:P.underlying t=some (.int k)->(Lit.int k n).wf=true->Fit P t [.vl (.int k n)]
 | bool {t:TypeId} {b:Bool}:P.underlying t=some .bool->Fit P t [.vl (.bool b)]
 | str {t:TypeId} {s:ByteArray}:P.underlying t=some .string->s.size<=maxLen->Fit P t [.vl (.string s)]
 | sl {t e:TypeId} {xs:List (List C)}:P.underlying t=some (.slice e)->xs.length<=maxLen->(∀ r ∈ xs,Fit P e r)->Fit P t [.fz xs]
 | st {t:TypeId} {fs:Array Field} {parts:List (List C)}:P.underlying t=some (.struct fs)->parts.length=fs.size->(∀ (i:Nat) (f:Field) (p:List C),fs[i]? = some f->parts[i]? = some p->Fit P f.type p)->Fit P t parts.flatten
section
variable {P:Program} {t e:TypeId} {xs:List C}
theorem Fit.inv_int {k:IntKind} (ht:P.underlying t=some (.int k)) (h:Fit P t xs):∃ n:Int,xs=[.vl (.int k n)]/\(Lit.int k n).wf=true:=by
 cases h with
 | int h1 h2=>rw [ht] at h1; cases h1; exact ⟨_,rfl,h2⟩
 | bool h1=>rw [ht] at h1; cases h1
 | str h1=>rw [ht] at h1; cases h1
 | sl h1=>rw [ht] at h1; cases h1
 | st h1=>rw [ht] at h1; cases h1
theorem Fit.inv_str (ht:P.underlying t=some .string) (h:Fit P t xs):∃ s:ByteArray,xs=[.vl (.string s)]/\s.size<=maxLen:=by
 cases h with
 | int h1 h2=>rw [ht] at h1; cases h1
 | bool h1=>rw [ht] at h1; cases h1
 | str h1 h2=>exact ⟨_,rfl,h2⟩
 | sl h1=>rw [ht] at h1; cases h1
 | st h1=>rw [ht] at h1; cases h1
end
theorem Fit.rows {P:Program} {e:TypeId} {α:Type} {row:α->List C} {Q:α->Prop} {ys:List (List C)} (hi:∀ r,Fit P e r->∃ a,r=row a/\Q a) (h:∀ r ∈ ys,Fit P e r):∃ l:List α,ys=l.map row/\∀ a ∈ l,Q a:=by
 induction ys with
 | nil=>exact ⟨[],rfl,fun a h=>by cases h⟩
 | cons r ys ih=>
  obtain ⟨l,h1,h2⟩:=ih fun r hr=>h r (List.mem_cons_of_mem _ hr)
  obtain ⟨a,h3,h4⟩:=hi r (h r (by simp))
  refine ⟨a :: l,by rw [h1,h3]; rfl,fun x hx=>?_⟩
  rcases List.mem_cons.1 hx with rfl | hx
  · exact h4
  · exact h2 x hx
def DC (P:Program):Nat->List Field->Option Nat
 | o,[]=>some o
 | o,f :: r=>if f.offset=o then DC P (o + P.cellsOf f.type) r else none
def GP (P:Program) (ts:List TypeId):Bool:=ts.all fun t=>match P.underlying t with
 | some (.int _) | some .bool | some .string=>true
 | some (.slice e)=>ts.contains e && decide (0 < P.cellsOf e)
 | some (.struct fs)=>fs.toList.all (fun f=>ts.contains f.type) && DC P 0 fs.toList == some (P.cellsOf t)
 | _=>false
theorem SB {P:Program} {R:C->Value->Prop} {Q:Field->List C->Prop} {cs:List Value}:∀ (fs:List Field) (o:Nat),DC P o fs=some cs.length->
 (∀ (i:Nat) (f:Field),fs[i]? = some f->∃ p,Q f p/\All2 R p ((cs.drop f.offset).take (P.cellsOf f.type)))->
 ∃ parts:List (List C),parts.length=fs.length/\(∀ (i:Nat) (f:Field) (p:List C),fs[i]? = some f->parts[i]? = some p->Q f p)/\All2 R parts.flatten (cs.drop o)
 | [],o,ho,_=>by
  simp only [DC,aC] at ho
  subst ho
  exact ⟨[],rfl,fun i f p h=>by simp at h,by simpa using All2.nil⟩
 | f :: fs,o,ho,h=>by
  simp only [DC] at ho
  split at ho
  · rename_i hf
    obtain ⟨parts,h1,h2,h3⟩:=SB fs _ ho fun i f hf=>h (i + 1) f (by simpa using hf)
    obtain ⟨p,h4,h5⟩:=h 0 f rfl
    refine ⟨p :: parts,by simp [h1],fun i g q hg hq=>?_,?_⟩
    · cases i with
      | zero=>simp at hg hq; subst hg hq; exact h4
      | succ i=>exact h2 i g q (by simpa using hg) (by simpa using hq)
    · have:cs.drop o=(cs.drop f.offset).take (P.cellsOf f.type) ++ cs.drop (o + P.cellsOf f.type):=by
       rw [hf,<-List.drop_drop,List.take_append_drop]
      rw [List.flatten_cons,this]
      exact h5.app h3
  · cases ho
section
variable {H:Type} {enc:TypeId × Value->H} {P:Program} {W:World} {ts:List TypeId}
theorem HI {b off len cap sz:Nat} {oa:Option Addr} (hoa:len ≠ 0->oa=some ⟨b,off,none⟩) (hsz:0 < sz) (X:Nat->List C) (hl:∀ i,i < len->(X i).length=sz) (hc:len<=cap)
 (h:∀ i,i < len->∀ j c,(X i)[j]? = some c->∃ v,W.cell? ⟨b,off + (i * sz + j),none⟩=some v/\c.fv (lE W) v/\c.shut=true) :
 FzR (lE W) ((List.range len).map X) (.slice oa len cap):=by
 have hz:∀ x ∈ (List.range len).map X,x.length=sz:=fun x hx=>by
  obtain ⟨i,hi,rfl⟩:=List.mem_map.1 hx
  exact hl i (List.mem_range.1 hi)
 have hfl:∀ k c,((List.range len).map X).flatten[k]? = some c->∃ v,W.cell? ⟨b,off + k,none⟩=some v/\c.fv (lE W) v/\c.shut=true:=fun k c hk=>by
  have hkl:k < len * sz:=by
   have h1:=(aV.1 hk).1
   rw [hZ _ hz] at h1
   simpa using h1
  have hi:k / sz < len:=(Nat.div_lt_iff_lt_mul hsz).2 hkl
  have hj:=Nat.mod_lt k hsz
  have hg:=fP hz (i:=k / sz) (j:=k % sz) (by simpa using hi) hj
  rw [Nat.mul_comm,Nat.div_add_mod,hk] at hg
  have hxi:((List.range len).map X)[k / sz]? = some (X (k / sz)):=by simp [hi]
  rw [hxi,Option.bind_some] at hg
  have:=h (k / sz) hi (k % sz) c hg.symm
  rwa [Nat.mul_comm,Nat.div_add_mod] at this
 have hr:=FzR.mk (ro:=lE W) ((List.range len).map X) sz (some (b,off)) oa (fun hne=>hoa (fun e=>by subst e; simp at hne)) cap (fun k=>(W.cell? ⟨b,off + k,none⟩).getD undef) hz (by simpa using hc) (fun _=>rfl)
  (fun k c hk=>by
    obtain ⟨v,h2,_⟩:=hfl k c hk
    simp [lE,h2])
  (fun k v hk=>by
    obtain ⟨u,h1,h2,_⟩:=hfl k _ hk
    have:u=v:=h2
    simp [h1,this])
  (fun k ys hk=>by
    obtain ⟨u,h1,h2,_⟩:=hfl k _ hk
    have:FzR (lE W) ys u:=h2
    simpa [h1] using this)
  (fun c hc=>by
    obtain ⟨k,hk⟩:=List.mem_iff_getElem?.1 hc
    obtain ⟨u,_,_,h3⟩:=hfl k c hk
    exact h3)
  (fun _ _ _=>.inl rfl)
 simpa using hr
theorem TF {cs:List C} {vs:Array Value} (h:All2 (C.fv (lE W)) cs (Value.agg vs).cells.toList) (hs:∀ c ∈ cs,c.shut=true):(S.va (.gs cs)).rel (gm []) (lE W) (.agg vs):=
 ⟨vs.toList,by simp,⟨by simpa [Value.cells] using h.1,fun i c v hc hv=>(C.rel_shut (hs c (bO hc))).2 (h.2 i c v hc (by simpa [Value.cells] using hv))⟩⟩
end
end Go.W
namespace Go.Proofs.YtgogpogophflhaaGreatDoor
open Go.W
theorem v3:Tryz.prog.underlying 3=some (.int .i64):=by kernel_rfl
theorem v4:Tryz.prog.underlying 4=some .bool:=by kernel_rfl
theorem v9:Tryz.prog.underlying 9=some .string:=by kernel_rfl
theorem IK:Tryz.prog.underlying 35=some (.slice 37):=by kernel_rfl
theorem I9:Tryz.prog.underlying 37=some (.struct #[⟨"Kind",3,0,false,"","",0⟩,⟨"Size",3,1,false,"","",8⟩,⟨"Name",9,2,false,"","",16⟩,⟨"Elem",35,3,false,"","",32⟩]):=by kernel_rfl
theorem v53:Tryz.prog.underlying 64=some (.struct #[⟨"Number",3,0,false,"","",0⟩,⟨"Name",9,1,false,"","",8⟩,⟨"Type",37,2,false,"","",24⟩,⟨"Optional",4,6,false,"","",80⟩]):=by kernel_rfl
theorem PV {α:Type} {row:α->List C} {Q:α->Prop} {ys:List (List C)} (h:∀ r ∈ ys,∃ a,r=row a/\Q a):∃ l:List α,ys=l.map row/\∀ a ∈ l,Q a:=by
 induction ys with
 | nil=>exact ⟨[],rfl,fun a h=>by cases h⟩
 | cons r ys ih=>
  obtain ⟨l,h1,h2⟩:=ih fun r hr=>h r (List.mem_cons_of_mem _ hr)
  obtain ⟨a,h3,h4⟩:=h r List.mem_cons_self
  refine ⟨a :: l,by rw [h1,h3]; rfl,fun x hx=>?_⟩
  rcases List.mem_cons.1 hx with rfl | hx
  · exact h4
  · exact h2 x hx
theorem QH {n:Int} (h:(Lit.int .i64 n).wf=true):bU n:=by simpa [bU,Lit.wf,IntKind.min,IntKind.max,IntKind.signed,IntKind.bits] using h
theorem ZV {n:Nat} (h:n<=maxLen):n<=9223372036854775807:=by unfold maxLen at h; exact h
inductive Vl where
 | mk (k n:Int) (s:ByteArray) (l:List Vl) (f:List (Int × Vl))
instance:Inhabited Vl:=⟨.mk 0 0 ByteArray.empty [] []⟩
def Vl.k:Vl->Int | .mk k _ _ _ _=>k
def Vl.n:Vl->Int | .mk _ n _ _ _=>n
def Vl.s:Vl->ByteArray | .mk _ _ s _ _=>s
def Vl.l:Vl->List Vl | .mk _ _ _ l _=>l
def Vl.f:Vl->List (Int × Vl) | .mk _ _ _ _ f=>f
mutual
def xV:Vl->List C
 | .mk k n s l f=>[.vl (.int .i64 k),.vl (.int .i64 n),.vl (.string s),.fz (mX l),.fz (mR f)]
def mX:List Vl->List (List C)
 | []=>[]
 | v :: r=>xV v :: mX r
def mR:List (Int × Vl)->List (List C)
 | []=>[]
 | (i,v) :: r=>(.vl (.int .i64 i) :: xV v) :: mR r
end
mutual
theorem wQ:∀ {a b:Vl},xV a=xV b->a=b
 | .mk k n s l f,.mk k' n' s' l' f',h=>by
  rw [xV,xV] at h
  simp only [List.cons.injEq,C.vl.injEq,Value.int.injEq,Value.string.injEq,C.fz.injEq,true_and,and_true] at h
  obtain ⟨rfl,rfl,rfl,h4,h5⟩:=h
  rw [AB h4,A7 h5]
theorem AB:∀ {a b:List Vl},mX a=mX b->a=b
 | [],[],_=>rfl
 | [],_ :: _,h=>by rw [mX,mX] at h; cases h
 | _ :: _,[],h=>by rw [mX,mX] at h; cases h
 | x :: a,y :: b,h=>by
  rw [mX,mX] at h
  obtain ⟨h1,h2⟩:=List.cons.inj h
  rw [wQ h1,AB h2]
theorem A7:∀ {a b:List (Int × Vl)},mR a=mR b->a=b
 | [],[],_=>rfl
 | [],(_,_) :: _,h=>by rw [mR,mR] at h; cases h
 | (_,_) :: _,[],h=>by rw [mR,mR] at h; cases h
 | (i,x) :: a,(j,y) :: b,h=>by
  rw [mR,mR] at h
  obtain ⟨h1,h2⟩:=List.cons.inj h
  obtain ⟨h3,h4⟩:=List.cons.inj h1
  have e:i=j:=by simpa using h3
  rw [e,wQ h4,A7 h2]
end
noncomputable def C.vv:=oY xV
@[go_sem] theorem aEC (v:Vl):C.vv (xV v)=v:=jA wQ v
mutual
def Vl.h:Vl->Nat
 | .mk _ _ _ l f=>max (Vl.hl l) (Vl.hf f) + 1
def Vl.hl:List Vl->Nat
 | []=>0
 | v :: r=>max v.h (Vl.hl r)
def Vl.hf:List (Int × Vl)->Nat
 | []=>0
 | (_,v) :: r=>max v.h (Vl.hf r)
end
theorem Vl.h_pos (v:Vl):0 < v.h:=by cases v; rw [Vl.h]; omega
inductive VlOk:Vl->Prop
 | mk {k n:Int} {s:ByteArray} {l:List Vl} {f:List (Int × Vl)}:bU k->bU n->s.size<=9223372036854775807->l.length * 80<=140737488355328->f.length * 88<=140737488355328->(∀ v ∈ l,VlOk v)->(∀ x ∈ f,bU x.1)->(∀ x ∈ f,VlOk x.2)->VlOk (.mk k n s l f)
theorem VlOk.k {v:Vl} (h:VlOk v):bU v.k:=by cases h; assumption
theorem VlOk.n {v:Vl} (h:VlOk v):bU v.n:=by cases h; assumption
theorem VlOk.s {v:Vl} (h:VlOk v):v.s.size<=9223372036854775807:=by cases h; assumption
theorem VlOk.l {v:Vl} (h:VlOk v):∀ x ∈ v.l,VlOk x:=by cases h; assumption
theorem VlOk.fn {v:Vl} (h:VlOk v):∀ x ∈ v.f,bU x.1:=by cases h; assumption
theorem VlOk.f {v:Vl} (h:VlOk v):∀ x ∈ v.f,VlOk x.2:=by cases h; assumption
theorem sT {H:Type} {d:DataW H}:∀ {l:List (DataW H)},d ∈ l->Rows.uptoBulk d<=Rows.uptoBulkAll l
 | x :: r,h=>by
  simp only [Rows.uptoBulkAll]
  rcases List.mem_cons.1 h with rfl | e
  · omega
  · have:=sT e; omega
theorem CF {H:Type} (d:DataW H):0 < Rows.uptoBulk d:=by
 cases d with
 | lit l=>cases l<;>simp [Rows.uptoBulk]
 | _=>simp [Rows.uptoBulk]
theorem yU {H:Type}:∀ l:List (DataW H),l.length<=Rows.uptoBulkAll l
 | []=>Nat.zero_le _
 | d :: l=>by have:=yU l; have:=CF d; simp only [Rows.uptoBulkAll,List.length_cons]; omega
inductive FitB (P:Program):TypeId->List C->Nat->Prop
 | int {t:TypeId} {k:IntKind} {n:Int} {m:Nat}:P.underlying t=some (.int k)->(Lit.int k n).wf=true->FitB P t [.vl (.int k n)] m
 | bool {t:TypeId} {b:Bool} {m:Nat}:P.underlying t=some .bool->FitB P t [.vl (.bool b)] m
 | str {t:TypeId} {s:ByteArray} {m:Nat}:P.underlying t=some .string->s.size<=maxLen->FitB P t [.vl (.string s)] m
 | sl {t e:TypeId} {xs:List (List C)} {m:Nat}:P.underlying t=some (.slice e)->xs.length<=maxLen->xs.length<=m->(∀ r ∈ xs,FitB P e r m)->FitB P t [.fz xs] (m + 1)
 | st {t:TypeId} {fs:Array Field} {parts:List (List C)} {m:Nat}:P.underlying t=some (.struct fs)->parts.length=fs.size->(∀ (i:Nat) (f:Field) (p:List C),fs[i]? = some f->parts[i]? = some p->FitB P f.type p m)->FitB P t parts.flatten (m + 1)
theorem FitB.fit {P:Program} {t:TypeId} {xs:List C} {m:Nat} (h:FitB P t xs m):Fit P t xs:=by
 induction h with
 | int h1 h2=>exact .int h1 h2
 | bool h1=>exact .bool h1
 | str h1 h2=>exact .str h1 h2
 | sl h1 h2 _ _ ih=>exact .sl h1 h2 ih
 | st h1 h2 _ ih=>exact .st h1 h2 ih
theorem FitB.mono {P:Program} {t:TypeId} {xs:List C} {m:Nat} (h:FitB P t xs m):∀ {n:Nat},m<=n->FitB P t xs n:=by
 induction h with
 | int h1 h2=>exact fun _=>.int h1 h2
 | bool h1=>exact fun _=>.bool h1
 | str h1 h2=>exact fun _=>.str h1 h2
 | @sl t e xs m h1 h2 h3 _ ih=>
  intro n hn
  obtain ⟨n,rfl⟩:∃ k,n=k + 1:=⟨n - 1,by omega⟩
  exact .sl h1 h2 (by omega) fun r hr=>ih r hr (by omega)
 | @st t fs parts m h1 h2 _ ih=>
  intro n hn
  obtain ⟨n,rfl⟩:∃ k,n=k + 1:=⟨n - 1,by omega⟩
  exact .st h1 h2 fun i f p hf hp=>ih i f p hf hp (by omega)
section
variable {P:Program} {t e:TypeId} {xs:List C} {m:Nat}
end
section
variable {H:Type} {enc:TypeId × Value->H} {P:Program} {W:World} {ts:List TypeId}
theorem lC (hok:GP P ts=true):∀ (n:Nat) (t:TypeId) (cs:List Value) (y:DataW H × List MemPlace),t ∈ ts->DataW.trod enc P W 0 (fun _=>true) true n t cs=some y->
 ∃ xs,FitB P t xs (Rows.uptoBulk y.1)/\All2 (C.fv (lE W)) xs cs/\∀ c ∈ xs,c.shut=true
 | 0,t,cs,y,_,h=>by simp [DataW.trod] at h
 | n + 1,t,cs,y,ht,h=>by
  have h1:=List.all_eq_true.1 hok t ht
  split at h1
  · rename_i k hu
    obtain ⟨m,rfl,_,hw⟩:=DataW.trod_int hu h
    exact ⟨_,.int hu hw,.cons rfl .nil,fun c hc=>by simp at hc; subst hc; rfl⟩
  · rename_i hu
    obtain ⟨b,rfl,_⟩:=DataW.trod_bool hu h
    exact ⟨_,.bool hu,.cons rfl .nil,fun c hc=>by simp at hc; subst hc; rfl⟩
  · rename_i hu
    obtain ⟨s,rfl,_,hs⟩:=DataW.trod_string hu h
    exact ⟨_,.str hu hs,.cons rfl .nil,fun c hc=>by simp at hc; subst hc; rfl⟩
  · rename_i e hu
    simp only [Bool.and_eq_true,List.contains_iff_mem,decide_eq_true_eq] at h1
    obtain ⟨he,hpos⟩:=h1
    rcases DataW.trod_slice hu h with ⟨rfl,hy⟩ | ⟨a,len,cap,elems,rest,n',hn',rfl,hy,_,hl,hm,hel,hi,_⟩
    · refine ⟨_,(FitB.sl (m:=0) hu (Nat.zero_le _) (Nat.zero_le _) (fun r hr=>by cases hr)).mono (CF _),.cons (RK _) .nil,fun c hc=>by simp at hc; subst hc; rfl⟩
    · obtain rfl:n=n':=by omega
      subst hy
      have hbk:Rows.uptoBulk (DataW.slice (elems.map (·.1)) (rest.map (·.1)))=Rows.uptoBulkAll (elems.map (·.1)) + Rows.uptoBulkAll (rest.map (·.1)) + 1:=by simp only [Rows.uptoBulk]
      generalize hM:Rows.uptoBulkAll (elems.map (·.1)) + Rows.uptoBulkAll (rest.map (·.1))=M at hbk
      show ∃ xs,FitB P t xs (Rows.uptoBulk (DataW.slice (elems.map (·.1)) (rest.map (·.1))))/\_
      rw [hbk]
      have hlM:len<=M:=by
       have:=yU (elems.map (·.1))
       rw [List.length_map,hel] at this
       omega
      have hall:∀ i,i < len->∃ x:List C,FitB P e x M/\x.length=P.cellsOf e/\(∀ j c,x[j]? = some c->∃ v,W.cell? ((a.add (i * P.cellsOf e)).add j)=some v/\c.fv (lE W) v/\c.shut=true):=fun i hil=>by
       have h1:=hi i hil
       rw [aZ (by omega)] at h1
       obtain ⟨cs',h2,h3⟩:=Option.bind_eq_some_iff.1 h1
       obtain ⟨x,h4,h5,h6⟩:=lC hok n e cs' _ he h3
       obtain ⟨_,h7,h8⟩:=World.cells?_some h2
       refine ⟨x,h4.mono ?_,h5.1.trans h7,fun j c hj=>?_⟩
       · have:=sT (List.mem_map_of_mem (f:=(·.1)) (List.getElem_mem (show i < elems.length by omega)))
         omega
       obtain ⟨v,h9,h10⟩:=h5.get hj
       have hjl:j < P.cellsOf e:=by rw [<-h7,<-h5.1]; exact (aV.1 hj).1
       refine ⟨v,?_,h10,h6 c (bO hj)⟩
       have:=h8 j hjl
       rwa [h9] at this
      by_cases h0:len=0
      · subst h0
        refine ⟨[.fz []],.sl hu (Nat.zero_le _) (Nat.zero_le _) (fun r hr=>by cases hr),.cons ?_ .nil,fun c hc=>by simp at hc; subst hc; rfl⟩
        exact HI (b:=0) (off:=0) (fun h=>absurd rfl h) hpos (fun _=>[]) (fun i hi=>by omega) (Nat.zero_le _) (fun i hi=>by omega)
      · obtain ⟨x0,_,hx0l,hx0⟩:=hall 0 (by omega)
        have hsp:a.spot=none:=by
         have hx:∃ c,x0[0]? = some c:=⟨_,aZ (by omega)⟩
         obtain ⟨c,hc⟩:=hx
         obtain ⟨v,hv,_⟩:=hx0 0 c hc
         unfold World.cell? at hv
         split at hv
         · split at hv
           · cases hv
           · rename_i hs; simpa [Addr.add] using hs
         · cases hv
        obtain ⟨b,off,spot⟩:=a
        obtain rfl:spot=none:=hsp
        haveI:Inhabited (List C):=⟨[]⟩
        obtain ⟨X,hX⟩:=Go.Deep.choose_lt hall
        refine ⟨[.fz ((List.range len).map X)],.sl hu (by simp; omega) (by simpa using hlM) (fun r hr=>?_),.cons ?_ .nil,fun c hc=>by simp at hc; subst hc; rfl⟩
        · obtain ⟨i,hi,rfl⟩:=List.mem_map.1 hr
          exact (hX i (List.mem_range.1 hi)).1
        · exact HI (fun _=>rfl) hpos X (fun i hi=>(hX i hi).2.1) hl (fun i hi j c hj=>by
           obtain ⟨v,h2,h3⟩:=(hX i hi).2.2 j c hj
           exact ⟨v,by simpa [Go.WideShapes.add_plain,Nat.add_assoc] using h2,h3⟩)
  · rename_i fs hu
    simp only [Bool.and_eq_true,List.all_eq_true,List.contains_iff_mem,beq_iff_eq] at h1
    obtain ⟨hft,hof⟩:=h1
    obtain ⟨ys,n',hn,hy,hcl,hyl,hf⟩:=DataW.trod_struct hu h
    obtain rfl:n=n':=by omega
    subst hy
    show ∃ xs,FitB P t xs (Rows.uptoBulk (DataW.agg (ys.map (·.1))))/\_
    rw [show Rows.uptoBulk (DataW.agg (ys.map (·.1)))=Rows.uptoBulkAll (ys.map (·.1)) + 1 by simp only [Rows.uptoBulk]]
    obtain ⟨parts,k1,k2,k3⟩:=SB (P:=P) (R:=fun c v=>C.fv (lE W) c v/\c.shut=true) (Q:=fun f p=>FitB P f.type p (Rows.uptoBulkAll (ys.map (·.1)))) (cs:=cs) fs.toList 0 (by rw [hcl]; exact hof) (fun i f hfi=>by
     have hfi':fs[i]? = some f:=by simpa using hfi
     have h2:=hf i f hfi'
     have hil:i < fs.size:=(Array.getElem?_eq_some_iff.1 hfi').1
     rw [aZ (by omega)] at h2
     obtain ⟨x,h4,h5,h6⟩:=lC hok n f.type _ _ (hft f (bO hfi)) h2
     exact ⟨x,h4.mono (sT (List.mem_map_of_mem (f:=(·.1)) (List.getElem_mem (show i < ys.length by omega)))),⟨h5.1,fun j c v hc hv=>⟨h5.2 j c v hc hv,h6 c (bO hc)⟩⟩⟩)
    refine ⟨parts.flatten,.st hu (by simpa using k1) (fun i f p hfi hp=>k2 i f p (by simpa using hfi) hp),?_,fun c hc=>?_⟩
    · simpa using k3.imp (fun _ _ h=>h.1)
    · obtain ⟨j,hj⟩:=List.mem_iff_getElem?.1 hc
      obtain ⟨v,_,_,h3⟩:=k3.get hj
      exact h3
  · cases h1
theorem DH (hok:GP P ts=true) {t:TypeId} {v:Value} {d:DataW H} {ps:List MemPlace} (ht:t ∈ ts) (h:DataW.Trod enc P W 0 (fun _=>true) true t v d ps):∃ xs,FitB P t xs (Rows.uptoBulk d)/\All2 (C.fv (lE W)) xs v.cells.toList/\∀ c ∈ xs,c.shut=true:=by
 obtain ⟨n,h⟩:=h
 exact lC hok n t _ _ ht h
end
theorem WU:∀ {t:TypeId} {cs:List C} {m:Nat},FitB Tryz.prog t cs m->m<=1048576->(t=37->∃ a,cs=aM a/\TyOk a/\TySm a/\(bP a).1<=m)/\(t=35->∃ l:List Ty,cs=[.fz (l.map aM)]/\l.length<=m/\∀ a ∈ l,TyOk a/\TySm a/\(bP a).1 + 1<=m):=by
 intro t cs m h
 induction h with
 | int h1 _=>exact fun _=>⟨fun e=>(by rw [e,I9] at h1; cases h1),fun e=>(by rw [e,IK] at h1; cases h1)⟩
 | bool h1=>exact fun _=>⟨fun e=>(by rw [e,I9] at h1; cases h1),fun e=>(by rw [e,IK] at h1; cases h1)⟩
 | str h1 _=>exact fun _=>⟨fun e=>(by rw [e,I9] at h1; cases h1),fun e=>(by rw [e,IK] at h1; cases h1)⟩
 | @sl t e xs m h1 h2 h3 h4 ih=>
  intro hm
  refine ⟨fun e=>(by rw [e,I9] at h1; cases h1),fun e=>?_⟩
  subst e
  rw [IK] at h1
  cases h1
  obtain ⟨l,rfl,hl⟩:=PV (row:=aM) (Q:=fun a=>TyOk a/\TySm a/\(bP a).1<=m) fun r hr=>(ih r hr (by omega)).1 rfl
  exact ⟨l,rfl,by simp at h3; omega,fun a ha=>⟨(hl a ha).1,(hl a ha).2.1,Nat.succ_le_succ (hl a ha).2.2⟩⟩
 | @st t fs parts m h1 h2 h3 ih=>
  intro hm
  refine ⟨fun e=>?_,fun e=>(by rw [e,IK] at h1; cases h1)⟩
  subst e
  rw [I9] at h1
  cases h1
  match parts,h2 with
  | [p0,p1,p2,p3],_=>
   obtain ⟨k,rfl,hk⟩:=Fit.inv_int v3 (h3 0 _ p0 rfl rfl).fit
   obtain ⟨s,rfl,hs⟩:=Fit.inv_int v3 (h3 1 _ p1 rfl rfl).fit
   obtain ⟨n,rfl,hn⟩:=Fit.inv_str v9 (h3 2 _ p2 rfl rfl).fit
   obtain ⟨l,rfl,hl,ho⟩:=(ih 3 _ p3 rfl rfl (by omega)).2 rfl
   refine ⟨.mk k s n l,by rw [aM,bC]; rfl,.mk (QH hk) (QH hs) (ZV hn) (by omega) fun a ha=>(ho a ha).1,.mk (by omega) fun a ha=>(ho a ha).2.1,?_⟩
   rw [bP]
   cases k == 5 with
   | false=>exact Nat.zero_le _
   | true=>
    show (B6 l _).1<=m + 1
    cases l with
    | nil=>rw [B6]; exact Nat.zero_le _
    | cons u r=>rw [B6]; have:=(ho u List.mem_cons_self).2.2; show (bP u).1 + 1<=m + 1; omega
theorem RC (m:Nat) (hm:m<=1048576) (cs:List C) (h:FitB Tryz.prog 37 cs m):∃ a,cs=aM a/\TyOk a/\TySm a/\(bP a).1<=m:=(WU h hm).1 rfl
end Go.Proofs.YtgogpogophflhaaGreatDoor
