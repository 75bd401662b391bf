/- Lemmas and walks for the proof. -/
import Derived.Test.YtblfcdllimkbhaaGreatCb
import Derived.Test.YtblfcdllimkbhaaGreatProg
import Derived.Shelf.Strings.Search1
import Derived.Shelf.Small.Strs
import Derived.Shelf.Sort.Plain
import Derived.Shelf.Slices.In.SortNone
import Derived.WalkKit
import Derived.Laws.IdiomStrings
set_option maxRecDepth 100000
set_option maxHeartbeats 8000000
open Bool renaming false_eq_true→qQ,eq_iff_iff→fH,true_and→bF,false_and→bL,or_eq_true→fB,or_eq_false_iff→cY,true_or→cR,false_or→bK,not_eq_false'→nP,not_eq_true→lD,and_eq_true→bI,not_true→bN,or_true→oU,or_false→oV
open List renaming mem_cons→bU,mem_iff_getElem?→eN,getElem?_map→b9,mem_map→dO,map_cons→gC,map_map→fK,any_eq_true→iY,drop_eq_getElem_cons→cG,map_take→zH,length_take→eJ,any_cons→sZ,drop_length→dT,find?_isSome→aC7,length_eq_one_iff→lZ,getElem?_append_left→lY,find?_cons→nQ,drop_zero→zA,mem_of_find?_eq_some→fJ,foldl_nil→aDU,ext_getElem?→iF,length_map→cE,getElem?_eq_none→iE,getElem?_take→gW,length_cons→bP,find?_some→qM,foldl_cons→sI,mem_append→cL,mem_cons_self→eI,mem_cons_of_mem→eD,mem_mergeSort→aDV,countP_cons→aDW,take_length→eC
open Nat renaming le_refl→bE,le_trans→dM,zero_le→aP,eq_zero_or_pos→gK,lt_succ_self→UG,not_lt_zero→uF,lt_or_ge→T5
open Option renaming map_some→cQ,map_none→qL,isSome_iff_exists→oW
open Int renaming toNat_natCast→cP,toNat_of_nonneg→s0,le_refl→iC,le_trans→T4
open Array renaming getElem?_modify→qN,getElem?_eq_none→nT,getElem?_setIfInBounds_ne→aC1
namespace Go.W
abbrev J.a (d:Nat) (i:I):J:=⟨some d,none,i⟩
abbrev J.q (d:Nat) (i:QI):J:=⟨some d,none,.q i⟩
abbrev J.v (d i:Nat):J:=⟨some d,none,.q (.mv (.t i))⟩
abbrev J.l (d:Nat) (i:LI):J:=⟨some d,none,.l i⟩
abbrev J.e (d:Nat) (i:EI):J:=⟨some d,none,.e i⟩
abbrev J.s (i:EI):J:=⟨none,none,.e i⟩
abbrev O.i (n:Int):O:=.k (.int .i64 n)
abbrev a7 (p:PC):Prop:=∀(Γ:eX) (k0:Nat) (fr:Fr) (H:Hp) (K:Ex->Fr->Hp->Prop),vc Γ k0 p fr H K=vcn Γ k0 p fr H K ⟨⟩
abbrev gO:Array Value:=#[(.int .i64 0), (.int .i64 0), (.string (mk [])), (.slice none 0 0), (.slice none 0 0)]
theorem Fin.z {K:S->Hp->Prop} {r:S} {H:Hp} (h:K (r.ren (gN [])) ((wI H []).map (B.ren (gN [])))):Fin 0 K r H:=.sel [] (by simp) (by simp) rfl (.done h)
theorem a8 (p:PC):a7 p:=fun _ _ _ _ _=>rfl
abbrev J.f (d j i:Nat):J:=⟨some d,none,.q (.fa j (.t i))⟩
abbrev J.r (d i:Nat):J:=⟨some d,none,.l (.ld1 (.t i))⟩
abbrev J.n (d n i:Nat):J:=⟨some d,none,.l (.ldn n (.t i))⟩
abbrev J.x (d n i j:Nat):J:=⟨some d,none,.l (.ia n (.t i) (.t j))⟩
abbrev J.c (d:Nat) (n:Int):J:=⟨some d,none,.q (.mv (.i n))⟩
abbrev J.T (d:Nat):J:=⟨some d,none,.q (.mv (.k (.bool true)))⟩
abbrev J.F (d:Nat):J:=⟨some d,none,.q (.mv (.k (.bool false)))⟩
abbrev J.b (d:Nat) (o:BinOp) (x y:O):J:=⟨some d,none,.q (.bin o true x y)⟩
abbrev J.h (d:Nat) (o:BinOp) (i:Nat) (n:Int):J:=⟨some d,none,.q (.bin o true (.t i) (.i n))⟩
abbrev J.k (d:Nat) (o:BinOp) (i j:Nat):J:=⟨some d,none,.q (.bin o true (.t i) (.t j))⟩
abbrev J.p (d c x:Nat):J:=⟨some d,none,.pick (.t c) (.t x) (.k (.bool false))⟩
abbrev J.o (d c x:Nat):J:=⟨some d,none,.pick (.t c) (.k (.bool true)) (.t x)⟩
abbrev J.w (n i j:Nat):J:=⟨none,none,.e (.st n (.t i) (.t j))⟩
abbrev J.z (d T i:Nat):J:=⟨some d,none,.e (.bx T (.t i))⟩
abbrev J.A (d:Nat) (z:Array Value) (T:Nat):J:=⟨some d,none,.e (.al (.agg z) T)⟩
abbrev J.y (d i j:Nat):J:=⟨some d,none,.q (.ex (.t i) j)⟩
abbrev J.m (d i:Nat):J:=⟨some d,none,.q (.lnL (.t i))⟩
abbrev J.u (d:Nat) (f:FuncId) (l:List O):J:=⟨some d,none,.cq f l⟩
abbrev J.j (d:Nat) (f:FuncId) (l:List O):J:=⟨some d,none,.cl f l []⟩
abbrev J.t (d i:Nat):J:=⟨some d,none,.q (.not (.t i))⟩
abbrev J.N (d g:Nat) (i:I):J:=⟨some d,some (g,false),i⟩
abbrev J.Y (d g:Nat) (i:I):J:=⟨some d,some (g,true),i⟩
abbrev I.f (j i:Nat):I:=.q (.fa j (.t i))
abbrev I.r (i:Nat):I:=.l (.ld1 (.t i))
abbrev I.n (n i:Nat):I:=.l (.ldn n (.t i))
abbrev I.x (n i j:Nat):I:=.l (.ia n (.t i) (.t j))
abbrev I.v (i:Nat):I:=.q (.mv (.t i))
abbrev I.h (o:BinOp) (i:Nat) (n:Int):I:=.q (.bin o true (.t i) (.i n))
abbrev I.k (o:BinOp) (i j:Nat):I:=.q (.bin o true (.t i) (.t j))
abbrev I.b (o:BinOp) (x y:O):I:=.q (.bin o true x y)
abbrev I.p (c x:Nat):I:=.pick (.t c) (.t x) (.k (.bool false))
abbrev I.o (c x:Nat):I:=.pick (.t c) (.k (.bool true)) (.t x)
abbrev I.m (i:Nat):I:=.q (.lnL (.t i))
abbrev PC.S (l:List J) (x:PC):PC:=.seq (.reg l) x
abbrev PC.R (l:List J):PC:=.seq (.reg l) .ret
abbrev PC.I (c:Nat) (x:PC):PC:=.cond (.t c) x .skip
abbrev PC.C (c:Nat) (x y:PC):PC:=.cond (.t c) x y
abbrev PC.L (b c i n e s:Nat) (x:PC):PC:=.block b (.loop (.seq (.reg [⟨some c,none,.q (.bin .lss true (.t i) (.t n))⟩]) (.seq (.cond (.t c) .skip (.exit b)) (.seq (.block e x) (.reg [⟨some s,none,.q (.bin .add true (.t i) (.i 1))⟩,⟨some i,none,.q (.mv (.t s))⟩])))))
abbrev LC:Array Value:=#[(.map none),(.map none)]
abbrev aQZ:Array Value:=#[(.int .i64 0),(.slice none 0 0),(.slice none 0 0)]
abbrev d8:O:=.k (.string (mk []))
abbrev gH:O:=.k (.slice none 0 0)
abbrev gZ:O:=.i 0
abbrev iV:O:=.t 18
abbrev jK:O:=.t 10
abbrev jZ:O:=.t 6
abbrev j7:O:=.t 26
abbrev kM:O:=.t 5
abbrev kQ:O:=.t 24
abbrev kJ:O:=.t 11
abbrev gT:O:=.t 19
abbrev hJ:O:=.t 21
abbrev g7:O:=.t 28
abbrev iX:O:=.t 7
abbrev iR:O:=.t 9
abbrev jP:O:=.t 23
abbrev jR:O:=.t 15
abbrev jO:O:=.t 22
abbrev jS:O:=.t 20
abbrev kI:O:=.t 25
abbrev kB:O:=.t 12
abbrev kW:O:=.t 13
abbrev kX:O:=.t 36
abbrev kY:O:=.t 39
abbrev lB:O:=.t 29
abbrev lC:O:=.t 16
abbrev lW:O:=.t 3
abbrev lR:O:=.i 1
abbrev mM:O:=.t 43
abbrev mI:O:=.t 37
abbrev mH:O:=.t 17
abbrev mJ:O:=.t 33
abbrev mL:O:=.t 38
abbrev nL:O:=.t 40
abbrev nB:O:=.t 41
abbrev nJ:O:=.t 47
abbrev m7:O:=.t 44
abbrev oL:O:=.t 14
abbrev oP:O:=.t 50
abbrev oN:O:=.t 27
abbrev oO:O:=.t 30
abbrev pV:O:=.t 31
abbrev p7:O:=.t 46
abbrev pX:O:=.t 49
abbrev pU:O:=.t 52
abbrev qA:O:=.t 32
abbrev qG:O:=.t 35
abbrev pZ:O:=.k (.int .u64 0)
abbrev qK:O:=.i 2
abbrev rS:O:=.t 8
abbrev rT:O:=.t 56
abbrev r8:O:=.t 48
abbrev rZ:O:=.t 34
abbrev sA:O:=.t 60
abbrev rR:O:=.t 59
abbrev tT:O:=.t 61
abbrev tV:O:=.t 53
abbrev tP:O:=.t 42
abbrev tN:O:=.t 55
abbrev v6:O:=.t 69
abbrev wN:O:=.t 54
abbrev wG:O:=.t 65
abbrev AU:O:=.t 67
abbrev AB:O:=.t 75
abbrev A9:O:=.t 57
abbrev AP:O:=.t 72
abbrev O1:O:=.k (.int .u64 1)
abbrev XU:O:=.k (.int .u8 65)
abbrev YU:O:=.k (.int .u8 90)
end Go.W
namespace Go.Proofs.YtblfcdllimkbhaaGreat
open Go.W
def aW4:PC:=.S [.F 2] (.seq (.S [.v 5 0,.b 6 .eql kM d8,.v 7 6,.N 8 7 (.v 0),.N 9 7 (.q (.lnS rS)),.N 10 7 (.h .gtr 9 16),.o 11 7 10,.v 12 11,.N 13 12 (.v 0),.N 14 12 (.ix kW gZ),.N 15 12 (.cq 131 [oL]),.N 16 12 (.h .neq 15 3),.o 17 12 16] (.I 17 (.R [.F 2]))) (.seq (.S [.v 18 0,.q 19 (.lnS iV),.c 20 0] (.L 0 21 20 19 1 37 (.S [.v 22 20,.v 3 22] (.S [.v 23 0,.v 24 3,.a 25 (.ix jP kQ),.u 26 131 [kI],.v 4 26] (.S [.v 27 4,.h 28 .neq 27 3,.v 29 28,.Y 30 29 (.v 4),.Y 31 29 (.h .neq 30 4),.p 32 29 31,.v 33 32,.Y 34 33 (.v 4),.Y 35 33 (.h .neq 34 6),.p 36 33 35] (.I 36 (.R [.F 2]))))))) (.R [.T 2])))
def aV5:List RV:=[.mv (.t 2)]
theorem a6W:aU Tryz.prog true ⟨fun r k=>if r=1/\k=10 then .q else if r=6/\k=3 then .q else .own [],fun _=>false⟩ Tryz.f81=some (aW4,aV5):=by kernel_rfl
def aI8:PC:=.S [.c 2 0] (.seq (.S [.v 4 0,.q 5 (.cvt .i32 (.t 4)),.v 3 5] (.block 0 (.S [.v 7 3,.b 8 .eql iX (.k (.int .i32 32)),.v 9 8,.N 10 9 (.v 3),.N 11 9 (.b .eql jK (.k (.int .i32 9))),.o 12 9 11,.v 13 12,.N 14 13 (.v 3),.N 15 13 (.b .eql oL (.k (.int .i32 10))),.o 16 13 15,.v 6 16] (.C 6 (.R [.c 2 1]) (.S [.v 18 3,.b 19 .eql iV (.k (.int .i32 35)),.v 17 19] (.C 17 (.R [.c 2 2]) (.S [.v 21 3,.b 22 .geq hJ (.k (.int .i32 97)),.v 23 22,.Y 24 23 (.v 3),.Y 25 23 (.b .leq kQ (.k (.int .i32 122))),.p 26 23 25,.v 27 26,.N 28 27 (.v 3),.N 29 27 (.b .geq g7 (.k (.int .i32 65))),.N 30 27 (.v 29),.Y 31 30 (.v 3),.Y 32 30 (.b .leq pV (.k (.int .i32 90))),.N 33 27 (.p 30 32),.o 34 27 33,.v 20 34] (.C 20 (.R [.c 2 3]) (.S [.v 36 3,.b 37 .geq kX (.k (.int .i32 48)),.v 38 37,.Y 39 38 (.v 3),.Y 40 38 (.b .leq kY (.k (.int .i32 57))),.p 41 38 40,.v 35 41] (.C 35 (.R [.c 2 4]) (.S [.v 43 3,.b 44 .eql mM (.k (.int .i32 45)),.v 42 44] (.C 42 (.R [.c 2 5]) (.S [.v 46 3,.b 47 .eql p7 (.k (.int .i32 95)),.v 45 47] (.C 45 (.R [.c 2 6]) (.S [.v 49 3,.b 50 .eql pX (.k (.int .i32 34)),.v 48 50] (.C 48 (.R [.c 2 7]) (.S [.v 52 0,.u 53 166 [(.k (.string (mk [123,125,40,41,91,93,58,59,44,61,46,63,33,38,124,64]))),pU],.h 54 .geq 53 0,.v 51 54] (.I 51 (.R [.c 2 8]))))))))))))))))))) (.R [.c 2 0]))
def aJW:List RV:=[.mv (.t 2)]
theorem a1U:aU Tryz.prog true ⟨fun r k=>if r=16/\k=1 then .q else .own [],fun _=>false⟩ Tryz.f131=some (aI8,aJW):=by kernel_rfl
def aUE:PC:=.S [.F 4] (.R [.v 5 0,.v 6 1,.u 7 77 [kM,jZ],.h 8 .geq 7 0,.v 4 8])
def aT6:List RV:=[.mv (.t 4)]
theorem a6Z:aU Tryz.prog true ⟨fun r k=>if r=1/\k=2 then .q else .own [],fun _=>false⟩ Tryz.f34=some (aUE,aT6):=by kernel_rfl
def aUD:PC:=.S [.F 4] (.R [.v 5 0,.v 6 1,.u 7 118 [kM,jZ],.h 8 .geq 7 0,.v 4 8])
def aYN:List RV:=[.mv (.t 4)]
theorem a7K:aU Tryz.prog true ⟨fun r k=>if r=1/\k=2 then .q else .own [],fun _=>false⟩ Tryz.f73=some (aUD,aYN):=by kernel_rfl
def aT5:PC:=.S [.c 4 0] (.seq (.S [.v 6 0,.m 7 6,.c 8 0] (.L 0 9 8 7 1 18 (.S [.v 10 8,.v 5 10] (.S [.v 11 1,.v 12 0,.v 13 5,.x 14 1 12 13,.r 15 14,.k 16 .eql 11 15] (.I 16 (.R [.v 17 5,.v 4 17])))))) (.R [.c 4 (-1)]))
def aSY:List RV:=[.mv (.t 4)]
theorem a6D:aU Tryz.prog true ⟨fun _ _=>.own [],fun _=>false⟩ Tryz.f77=some (aT5,aSY):=by kernel_rfl
def aIX:PC:=.S [.c 4 0] (.seq (.S [.v 6 0,.m 7 6,.c 8 0] (.L 0 9 8 7 1 18 (.S [.v 10 8,.v 5 10] (.S [.v 11 1,.v 12 0,.v 13 5,.x 14 1 12 13,.r 15 14,.k 16 .eql 11 15] (.I 16 (.R [.v 17 5,.v 4 17])))))) (.R [.c 4 (-1)]))
def aLT:List RV:=[.mv (.t 4)]
theorem a04:aU Tryz.prog true ⟨fun _ _=>.own [],fun _=>false⟩ Tryz.f118=some (aIX,aLT):=by kernel_rfl
def aIA:PC:=.S [.F 4] (.R [.v 5 0,.v 6 1,.a 7 (.cl 168 [kM,jZ] [0]),.h 8 .geq 7 0,.v 4 8])
def aJP:List RV:=[.mv (.t 4)]
theorem a1X:aU Tryz.prog true ⟨fun r k=>if r=1/\k=2 then .own [0] else .own [],fun _=>false⟩ Tryz.f137=some (aIA,aJP):=by kernel_rfl
def ZC:PC:=.S [.c 4 0] (.seq (.S [.v 6 0,.m 7 6,.c 8 0] (.L 0 9 8 7 1 18 (.S [.v 10 8,.v 5 10] (.S [.v 11 1,.v 12 0,.v 13 5,.x 14 6 12 13,.n 15 6 14,.a 16 (.ca kJ [jR] [0])] (.I 16 (.R [.v 17 5,.v 4 17])))))) (.R [.c 4 (-1)]))
def XQ:List RV:=[.mv (.t 4)]
theorem aK9:aU Tryz.prog true ⟨fun r k=>if r=4/\k=5 then .own [0] else .own [],fun _=>false⟩ Tryz.f148=some (ZC,XQ):=by kernel_rfl
def aK4:PC:=.S [.c 4 0] (.seq (.S [.v 6 0,.m 7 6,.c 8 0] (.L 0 9 8 7 1 18 (.S [.v 10 8,.v 5 10] (.S [.v 11 1,.v 12 0,.v 13 5,.x 14 1 12 13,.r 15 14,.a 16 (.ca kJ [jR] [0])] (.I 16 (.R [.v 17 5,.v 4 17])))))) (.R [.c 4 (-1)]))
def aMS:List RV:=[.mv (.t 4)]
theorem a28:aU Tryz.prog true ⟨fun r k=>if r=4/\k=5 then .own [0] else .own [],fun _=>false⟩ Tryz.f168=some (aK4,aMS):=by kernel_rfl
def aMD:PC:=.S [.F 4] (.R [.v 5 0,.v 6 1,.a 7 (.cl 148 [kM,jZ] [0]),.h 8 .geq 7 0,.v 4 8])
def aKU:List RV:=[.mv (.t 4)]
theorem aZ0:aU Tryz.prog true ⟨fun r k=>if r=1/\k=2 then .own [0] else .own [],fun _=>false⟩ Tryz.f169=some (aMD,aKU):=by kernel_rfl
def aXZ:PC:=.S [.z 1 25 0,.c 2 0] (.seq (.S [.f 13 0 1,.r 14 13,.h 15 .lss 14 1,.v 16 15,.N 17 16 (.f 0 1),.N 18 16 (.r 17),.N 19 16 (.h .gtr 18 999),.o 20 16 19] (.I 20 (.R [.c 2 4]))) (.seq (.S [.n 21 3 1,.u 22 39 [hJ]] (.I 22 (.R [.c 2 3]))) (.seq (.S [.f 23 1 1,.r 24 23,.m 25 24,.c 26 0] (.L 0 27 26 25 1 55 (.S [.v 28 26,.x 29 3 24 26,.n 30 3 29,.A 4 #[(.string (mk [])),(.slice none 0 0),(.slice none 0 0)] 70,.v 3 28,.w 3 4 30] (.seq (.S [.f 31 0 4,.r 32 31,.u 33 40 [qA],.t 34 33] (.I 34 (.R [.c 2 5]))) (.seq (.S [.f 35 1 1,.r 36 35,.v 37 3,.q 38 (.sf 3 kX none (some mI)),.m 39 38,.c 40 0] (.L 2 41 40 39 3 49 (.S [.x 42 3 38 40,.n 43 3 42,.A 6 #[(.string (mk [])),(.slice none 0 0),(.slice none 0 0)] 70,.w 3 6 43] (.S [.f 44 0 6,.r 45 44,.f 46 0 4,.r 47 46,.k 48 .eql 45 47] (.I 48 (.R [.c 2 7])))))) (.S [.n 50 3 4,.u 51 41 [oP],.v 7 51] (.S [.v 52 7,.h 53 .neq 52 0] (.I 53 (.R [.v 54 7,.v 2 54]))))))))) (.S [.n 56 3 1,.j 57 42 [rT],.A 8 LC 90,.w 2 8 57] (.seq (.S [.f 58 2 1,.r 59 58,.m 60 59,.c 61 0] (.L 4 62 61 60 5 80 (.S [.v 63 61,.x 64 2 59 61,.n 65 2 64,.A 10 #[(.string (mk [])),(.slice none 0 0)] 50,.v 9 63,.w 2 10 65] (.seq (.S [.n 66 3 1,.v 67 9,.f 68 0 10,.r 69 68,.u 70 43 [(.t 66),AU,v6],.v 11 70] (.S [.v 71 11,.h 72 .neq 71 0] (.I 72 (.R [.v 73 11,.v 2 73])))) (.S [.n 74 2 8,.n 75 2 10,.a 76 (.cl 44 [(.t 74),AB] [1,2]),.v 12 76] (.S [.v 77 12,.h 78 .neq 77 0] (.I 78 (.R [.v 79 12,.v 2 79])))))))) (.R [.n 81 3 1,.n 82 2 8,.a 83 (.cl 45 [(.t 81),(.t 82)] [1,2]),.v 2 83]))))))
def aS5:List RV:=[.mv (.t 2)]
theorem a7Z:aU Tryz.prog true ⟨fun r k=>if r=3/\k=1 then .q else if r=8/\k=2 then .q else if r=16/\k=1 then .q else if r=24/\k=4 then .q else if r=27/\k=2 then .own [1,2] else if r=31/\k=2 then .own [1,2] else .own [],fun _=>false⟩ Tryz.f15=some (aXZ,aS5):=by kernel_rfl
def aXT:PC:=.S [.z 2 25 0,.A 4 #[(.string (mk [])),(.slice none 0 0)] 50,.F 5] (.seq (.S [.f 8 2 2,.r 9 8,.m 10 9,.c 11 0] (.L 0 12 11 10 1 21 (.S [.x 13 2 9 11,.n 14 2 13,.A 7 #[(.string (mk [])),(.slice none 0 0)] 50,.w 2 7 14] (.S [.f 15 0 7,.r 16 15,.v 17 1,.k 18 .eql 16 17] (.I 18 (.R [.n 19 2 7,.j 20 46 [gT],.w 2 4 20,.T 5])))))) (.R [.q 22 (.bd [(.string (mk [])),(.slice none 0 0)] []),.w 2 4 22,.F 5]))
def aQ8:List RV:=[.ld (.ldn 2 (.t 4)),.mv (.t 5)]
theorem bAM:aU Tryz.prog true ⟨fun _ _=>.own [],fun _=>false⟩ Tryz.f16=some (aXT,aQ8):=by kernel_rfl
def aQM:PC:=.S [.z 2 25 0,.A 4 #[(.string (mk [])),(.slice none 0 0),(.slice none 0 0)] 70,.F 5] (.seq (.S [.f 8 1 2,.r 9 8,.m 10 9,.c 11 0] (.L 0 12 11 10 1 28 (.S [.x 13 3 9 11,.n 14 3 13,.A 7 #[(.string (mk [])),(.slice none 0 0),(.slice none 0 0)] 70,.w 3 7 14] (.S [.f 15 0 7,.r 16 15,.v 17 1,.k 18 .eql 16 17] (.I 18 (.seq (.ord [.q (.f 19 0 7),.q (.r 20 19),.q (.f 21 1 7),.q (.r 22 21),.q (.f 24 2 7),.q (.r 25 24),.m (.j 23 75 [jO]),.rc (.f 19 0 7),.rc (.r 20 19),.rc (.f 24 2 7),.rc (.r 25 24),.m (.j 26 76 [kI]),.rc (.f 19 0 7),.rc (.r 20 19),.q (.q 27 (.bd [(.string (mk [])),(.slice none 0 0),(.slice none 0 0)] [(0,1,jS),(1,1,jP),(2,1,j7)])),.m (.w 3 4 27),.m (.T 5)]) .ret)))))) (.R [.q 29 (.bd [(.string (mk [])),(.slice none 0 0),(.slice none 0 0)] []),.w 3 4 29,.F 5]))
def aRY:List RV:=[.ld (.ldn 3 (.t 4)),.mv (.t 5)]
theorem bAC:aU Tryz.prog true ⟨fun _ _=>.own [],fun _=>false⟩ Tryz.f33=some (aQM,aRY):=by kernel_rfl
def aXQ:PC:=.S [.z 1 25 0,.F 2] (.seq (.S [.f 7 1 1,.r 8 7,.m 9 8,.h 10 .gtr 9 16,.v 11 10,.N 12 11 (.f 2 1),.N 13 11 (.r 12),.N 14 11 (.m 13),.N 15 11 (.f 1 1),.N 16 11 (.r 15),.N 17 11 (.m 16),.N 18 11 (.b .sub (.i 16) mH),.N 19 11 (.k .gtr 14 18),.o 20 11 19] (.I 20 (.R [.T 2]))) (.seq (.S [.f 21 1 1,.r 22 21,.m 23 22,.c 24 0] (.L 0 25 24 23 1 32 (.S [.x 26 3 22 24,.n 27 3 26,.A 4 #[(.string (mk [])),(.slice none 0 0),(.slice none 0 0)] 70,.w 3 4 27] (.S [.f 28 1 4,.r 29 28,.m 30 29,.h 31 .gtr 30 16] (.I 31 (.R [.T 2])))))) (.seq (.S [.f 33 2 1,.r 34 33,.m 35 34,.c 36 0] (.L 2 37 36 35 3 44 (.S [.x 38 2 34 36,.n 39 2 38,.A 6 #[(.string (mk [])),(.slice none 0 0)] 50,.w 2 6 39] (.S [.f 40 1 6,.r 41 40,.m 42 41,.h 43 .gtr 42 16] (.I 43 (.R [.T 2])))))) (.R [.F 2]))))
def aXM:List RV:=[.mv (.t 2)]
theorem a85:aU Tryz.prog true ⟨fun _ _=>.own [],fun _=>false⟩ Tryz.f39=some (aXQ,aXM):=by kernel_rfl
def aHD:PC:=.S [.F 2] (.R [.v 3 0,.u 4 81 [lW],.v 5 4,.Y 6 5 (.v 0),.Y 7 5 (.ix jZ gZ),.Y 8 5 (.b .geq iX XU),.p 9 5 8,.v 10 9,.Y 11 10 (.v 0),.Y 12 10 (.ix kJ gZ),.Y 13 10 (.b .leq kB YU),.p 14 10 13,.v 2 14])
def aHO:List RV:=[.mv (.t 2)]
theorem a5R:aU Tryz.prog true ⟨fun r k=>if r=1/\k=1 then .q else .own [],fun _=>false⟩ Tryz.f40=some (aHD,aHO):=by kernel_rfl
def aTD:PC:=.S [.z 1 70 0,.c 2 0] (.seq (.S [.f 6 1 1,.r 7 6,.m 8 7,.h 9 .eql 8 0,.v 10 9,.N 11 10 (.f 1 1),.N 12 10 (.r 11),.N 13 10 (.m 12),.N 14 10 (.f 2 1),.N 15 10 (.r 14),.N 16 10 (.m 15),.N 17 10 (.k .neq 13 16),.o 18 10 17] (.I 18 (.R [.c 2 2]))) (.seq (.S [.f 19 1 1,.r 20 19,.m 21 20,.c 22 0] (.L 0 23 22 21 1 71 (.S [.v 24 22,.x 25 1 20 22,.r 26 25,.v 3 24,.v 4 26] (.S [.f 27 2 1,.r 28 27,.v 29 3,.x 30 1 28 29,.r 31 30,.v 5 31] (.block 2 (.S [.v 33 4,.u 34 81 [mJ],.t 35 34,.v 32 35] (.C 32 (.R [.c 2 5]) (.S [.f 37 1 1,.r 38 37,.v 39 3,.q 40 (.sf 1 mL none (some kY)),.v 41 4,.u 42 73 [nL,nB],.v 36 42] (.C 36 (.R [.c 2 7]) (.S [.v 44 5,.h 45 .lss 44 0,.v 46 45,.N 47 46 (.v 5),.N 48 46 (.h .gtr 47 127),.o 49 46 48,.v 43 49] (.C 43 (.R [.c 2 4]) (.S [.v 51 3,.h 52 .eql 51 0,.v 53 52,.Y 54 53 (.v 5),.Y 55 53 (.h .neq 54 0),.p 56 53 55,.v 57 56,.N 58 57 (.v 3),.N 59 57 (.h .gtr 58 0),.N 60 57 (.v 59),.Y 61 60 (.v 5),.Y 62 60 (.f 2 1),.Y 63 60 (.r 62),.Y 64 60 (.v 3),.Y 65 60 (.h .sub 64 1),.Y 66 60 (.x 1 63 65),.Y 67 60 (.r 66),.Y 68 60 (.k .leq 61 67),.N 69 57 (.p 60 68),.o 70 57 69,.v 50 70] (.I 50 (.R [.c 2 2])))))))))))))) (.R [.c 2 0])))
def aVL:List RV:=[.mv (.t 2)]
theorem a6J:aU Tryz.prog true ⟨fun r k=>if r=7/\k=1 then .q else if r=9/\k=5 then .q else .own [],fun _=>false⟩ Tryz.f41=some (aTD,aVL):=by kernel_rfl
def aX6:PC:=.S [.z 1 25 0,.A 2 LC 90] (.S [.e 6 (.mm .string),.e 7 (.mm .string),.q 8 (.bd [(.map none),(.map none)] [(0,1,jZ),(1,1,iX)]),.A 3 LC 90,.w 2 3 8] (.seq (.S [.f 9 2 1,.r 10 9,.m 11 10,.h 12 .sub 11 1,.v 4 12] (.block 0 (.loop (.seq (.S [.v 13 4,.h 14 .geq 13 0] (.C 14 .skip (.exit 0))) (.seq (.block 1 (.reg [.f 17 0 3,.r 18 17,.f 19 2 1,.r 20 19,.v 21 4,.x 22 2 20 21,.f 23 0 22,.r 24 23,.f 25 2 1,.r 26 25,.v 27 4,.x 28 2 26 27,.n 29 2 28,.s (.mu .string iV kQ lB)])) (.reg [.v 15 4,.h 16 .sub 15 1,.v 4 16])))))) (.seq (.S [.f 30 1 1,.r 31 30,.m 32 31,.h 33 .sub 32 1,.v 5 33] (.block 2 (.loop (.seq (.S [.v 34 5,.h 35 .geq 34 0] (.C 35 .skip (.exit 2))) (.seq (.block 3 (.reg [.f 38 1 3,.r 39 38,.f 40 1 1,.r 41 40,.v 42 5,.x 43 3 41 42,.f 44 0 43,.r 45 44,.f 46 1 1,.r 47 46,.v 48 5,.x 49 3 47 48,.n 50 3 49,.s (.mu .string kY (.t 45) oP)])) (.reg [.v 36 5,.h 37 .sub 36 1,.v 5 37])))))) (.R [.n 51 2 3,.w 2 2 51]))))
def aQS:List RV:=[.ld (.ldn 2 (.t 2))]
theorem a9B:aU Tryz.prog true ⟨fun _ _=>.own [],fun _=>false⟩ Tryz.f42=some (aX6,aQS):=by kernel_rfl
def aT1:PC:=.S [.z 3 25 0,.c 6 0] (.seq (.S [.v 11 2,.u 12 40 [kJ],.t 13 12] (.I 13 (.R [.c 6 5]))) (.seq (.S [.f 14 1 3,.r 15 14,.m 16 15,.c 17 0] (.L 0 18 17 16 1 25 (.S [.x 19 3 15 17,.n 20 3 19,.A 8 #[(.string (mk [])),(.slice none 0 0),(.slice none 0 0)] 70,.w 3 8 20] (.S [.f 21 0 8,.r 22 21,.v 23 2,.k 24 .eql 22 23] (.I 24 (.R [.c 6 7])))))) (.seq (.S [.f 26 2 3,.r 27 26,.v 28 1,.q 29 (.sf 2 oN none (some g7)),.m 30 29,.c 31 0] (.L 2 32 31 30 3 39 (.S [.x 33 2 29 31,.n 34 2 33,.A 10 #[(.string (mk [])),(.slice none 0 0)] 50,.w 2 10 34] (.S [.f 35 0 10,.r 36 35,.v 37 2,.k 38 .eql 36 37] (.I 38 (.R [.c 6 7])))))) (.R [.c 6 0]))))
def aT8:List RV:=[.mv (.t 6)]
theorem a98:aU Tryz.prog true ⟨fun r k=>if r=1/\k=1 then .q else .own [],fun _=>false⟩ Tryz.f43=some (aT1,aT8):=by kernel_rfl
def aQP:PC:=.S [.z 2 90 0,.z 3 50 1,.c 4 0] (.seq (.S [.f 9 1 3,.r 10 9,.m 11 10,.c 12 0] (.L 0 13 12 11 1 66 (.S [.v 14 12,.x 15 7 10 12,.n 16 7 15,.A 6 #[(.int .i64 0),(.string (mk [])),(.int .i64 0),(.int .i64 0),(.string (mk [])),(.slice none 0 0),(.bool false)] 47,.v 5 14,.w 7 6 16] (.seq (.block 2 (.S [.f 18 0 6,.r 19 18,.h 20 .lss 19 1,.v 21 20,.N 22 21 (.f 0 6),.N 23 21 (.r 22),.N 24 21 (.h .gtr 23 127),.o 25 21 24,.v 17 25] (.C 17 (.R [.c 4 4]) (.S [.v 27 5,.h 28 .gtr 27 0,.v 29 28,.Y 30 29 (.f 0 6),.Y 31 29 (.r 30),.Y 32 29 (.f 1 3),.Y 33 29 (.r 32),.Y 34 29 (.v 5),.Y 35 29 (.h .sub 34 1),.Y 36 29 (.x 7 33 35),.Y 37 29 (.f 0 36),.Y 38 29 (.r 37),.Y 39 29 (.k .leq 31 38),.p 40 29 39,.v 26 40] (.C 26 (.R [.c 4 2]) (.S [.f 42 1 6,.r 43 42,.u 44 81 [mM],.t 45 44,.v 41 45] (.I 41 (.R [.c 4 5])))))))) (.seq (.S [.f 46 1 3,.r 47 46,.v 48 5,.q 49 (.sf 7 nJ none (some r8)),.m 50 49,.c 51 0] (.L 3 52 51 50 4 60 (.S [.x 53 7 49 51,.n 54 7 53,.A 8 #[(.int .i64 0),(.string (mk [])),(.int .i64 0),(.int .i64 0),(.string (mk [])),(.slice none 0 0),(.bool false)] 47,.w 7 8 54] (.S [.f 55 1 8,.r 56 55,.f 57 1 6,.r 58 57,.k 59 .eql 56 58] (.I 59 (.R [.c 4 7])))))) (.S [.n 61 2 2,.f 62 2 6,.n 63 4 62,.a 64 (.cl 82 [tT,(.t 63)] [0,1]),.t 65 64] (.I 65 (.R [.c 4 13])))))))) (.R [.c 4 0]))
def aWS:List RV:=[.mv (.t 4)]
theorem a84:aU Tryz.prog true ⟨fun r k=>if r=8/\k=2 then .q else if r=16/\k=3 then .own [0,1] else .own [],fun _=>false⟩ Tryz.f44=some (aQP,aWS):=by kernel_rfl
def aWI:PC:=.S [.z 2 25 0,.z 3 90 1,.c 4 0] (.seq (.S [.f 9 2 2,.r 10 9,.m 11 10,.c 12 0] (.L 0 13 12 11 1 23 (.S [.x 14 2 10 12,.n 15 2 14,.A 6 #[(.string (mk [])),(.slice none 0 0)] 50,.w 2 6 15] (.seq (.ord [.q (.n 16 2 3),.q (.f 17 0 6),.q (.r 18 17),.q (.f 20 0 6),.q (.r 21 20),.m (.a 19 (.cl 83 [lC,iV] [0,1])),.rc (.f 20 0 6),.rc (.r 21 20),.m (.u 22 73 [gT,hJ])]) (.I 22 (.R [.c 4 19])))))) (.seq (.S [.f 24 2 2,.r 25 24,.m 26 25,.c 27 0] (.L 2 28 27 26 3 35 (.S [.x 29 2 25 27,.n 30 2 29,.A 8 #[(.string (mk [])),(.slice none 0 0)] 50,.w 2 8 30] (.S [.n 31 2 3,.n 32 2 8,.a 33 (.cl 84 [pV,qA] [0,1]),.h 34 .gtr 33 6] (.I 34 (.R [.c 4 9])))))) (.R [.c 4 0])))
def aT7:List RV:=[.mv (.t 4)]
theorem a5S:aU Tryz.prog true ⟨fun r k=>if r=4/\k=3 then .own [0,1] else if r=4/\k=6 then .q else if r=10/\k=2 then .own [0,1] else .own [],fun _=>false⟩ Tryz.f45=some (aWI,aT7):=by kernel_rfl
def aWR:PC:=.S [.z 1 50 0,.A 2 #[(.string (mk [])),(.slice none 0 0)] 50] (.S [.f 6 0 1,.r 7 6,.q 8 (.bd [(.string (mk [])),(.slice none 0 0)] [(0,1,iX)]),.A 3 #[(.string (mk [])),(.slice none 0 0)] 50,.w 2 3 8] (.seq (.S [.f 9 1 1,.r 10 9,.m 11 10,.c 12 0] (.L 0 13 12 11 1 23 (.S [.x 14 7 10 12,.n 15 7 14,.A 5 #[(.int .i64 0),(.string (mk [])),(.int .i64 0),(.int .i64 0),(.string (mk [])),(.slice none 0 0),(.bool false)] 47,.w 7 5 15] (.ord [.q (.f 16 1 3),.q (.r 17 16),.q (.n 18 7 5),.m (.j 19 85 [iV]),.rc (.f 16 1 3),.rc (.r 17 16),.m (.e 20 (.bsl 47 7 [gT])),.rc (.f 16 1 3),.rc (.r 17 16),.m (.e 21 (.ap 47 7 88 mH jS)),.q (.f 22 1 3),.m (.w 1 22 21)])))) (.R [.n 24 2 3,.w 2 2 24])))
def aSG:List RV:=[.ld (.ldn 2 (.t 2))]
theorem a5P:aU Tryz.prog true ⟨fun _ _=>.own [],fun _=>false⟩ Tryz.f46=some (aWR,aSG):=by kernel_rfl
def aU4:PC:=.S [.z 2 50 0,.A 4 #[(.int .i64 0),(.string (mk [])),(.int .i64 0),(.int .i64 0),(.string (mk [])),(.slice none 0 0),(.bool false)] 47,.F 5] (.seq (.S [.f 8 1 2,.r 9 8,.m 10 9,.c 11 0] (.L 0 12 11 10 1 21 (.S [.x 13 7 9 11,.n 14 7 13,.A 7 #[(.int .i64 0),(.string (mk [])),(.int .i64 0),(.int .i64 0),(.string (mk [])),(.slice none 0 0),(.bool false)] 47,.w 7 7 14] (.S [.f 15 0 7,.r 16 15,.v 17 1,.k 18 .eql 16 17] (.I 18 (.R [.n 19 7 7,.j 20 85 [gT],.w 7 4 20,.T 5])))))) (.R [.q 22 (.bd [(.int .i64 0),(.string (mk [])),(.int .i64 0),(.int .i64 0),(.string (mk [])),(.slice none 0 0),(.bool false)] []),.w 7 4 22,.F 5]))
def aQJ:List RV:=[.ld (.ldn 7 (.t 4)),.mv (.t 5)]
theorem a9F:aU Tryz.prog true ⟨fun _ _=>.own [],fun _=>false⟩ Tryz.f69=some (aU4,aQJ):=by kernel_rfl
def aQQ:PC:=.S [.z 2 25 0,.q 4 (.mv gH)] (.S [.n 8 3 2,.v 9 1,.j 10 117 [rS,iR],.v 7 10,.y 11 7 0,.y 12 7 1,.A 5 LC 90,.w 2 5 11,.v 6 12] (.seq (.S [.v 13 6,.t 14 13] (.I 14 (.R [.q 4 (.mv gH)]))) (.R [.n 15 2 5,.v 16 1,.a 17 (.cl 83 [jR,lC] [1,2]),.v 4 17])))
def aXJ:List RV:=[.mv (.t 4)]
theorem a9V:aU Tryz.prog true ⟨fun r k=>if r=4/\k=2 then .own [1,2] else .own [],fun _=>false⟩ Tryz.f72=some (aQQ,aXJ):=by kernel_rfl
def s9:PC:=.S [.z 2 90 0,.z 3 45 1,.F 4] (.seq (.S [.f 10 0 3,.r 11 10] (.block 0 (.S [.h 13 .eql 11 1,.v 12 13] (.C 12 (.R [.f 14 1 3,.r 15 14,.h 16 .eql 15 0,.v 17 16,.Y 18 17 (.f 2 3),.Y 19 17 (.r 18),.Y 20 17 (.b .eql gT d8),.p 21 17 20,.v 22 21,.Y 23 22 (.f 3 3),.Y 24 22 (.r 23),.Y 25 22 (.m 24),.Y 26 22 (.h .eql 25 0),.p 27 22 26,.v 4 27]) (.seq (.S [.h 29 .eql 11 2,.v 28 29] (.C 28 .skip (.reg [.h 30 .eql 11 3,.v 28 30]))) (.C 28 (.S [.f 31 1 3,.r 32 31,.h 33 .eql 32 64,.v 34 33,.Y 35 34 (.f 0 3),.Y 36 34 (.r 35),.Y 37 34 (.h .eql 36 2),.p 38 34 37,.v 5 38] (.R [.f 39 1 3,.r 40 39,.h 41 .eql 40 8,.v 42 41,.N 43 42 (.f 1 3),.N 44 42 (.r 43),.N 45 42 (.h .eql 44 16),.o 46 42 45,.v 47 46,.N 48 47 (.f 1 3),.N 49 47 (.r 48),.N 50 47 (.h .eql 49 32),.o 51 47 50,.v 52 51,.N 53 52 (.v 5),.o 54 52 53,.v 55 54,.Y 56 55 (.f 2 3),.Y 57 55 (.r 56),.Y 58 55 (.b .eql A9 d8),.p 59 55 58,.v 60 59,.Y 61 60 (.f 3 3),.Y 62 60 (.r 61),.Y 63 60 (.m 62),.Y 64 60 (.h .eql 63 0),.p 65 60 64,.v 4 65])) (.S [.h 67 .eql 11 4,.v 66 67] (.C 66 (.R [.f 68 1 3,.r 69 68,.h 70 .geq 69 1,.v 71 70,.Y 72 71 (.f 1 3),.Y 73 71 (.r 72),.Y 74 71 (.h .leq 73 2000),.p 75 71 74,.v 76 75,.Y 77 76 (.f 2 3),.Y 78 76 (.r 77),.Y 79 76 (.b .eql (.t 78) d8),.p 80 76 79,.v 81 80,.Y 82 81 (.f 3 3),.Y 83 81 (.r 82),.Y 84 81 (.m 83),.Y 85 81 (.h .eql 84 0),.p 86 81 85,.v 4 86]) (.S [.h 88 .eql 11 5,.v 87 88] (.C 87 (.R [.f 89 1 3,.r 90 89,.h 91 .geq 90 1,.v 92 91,.Y 93 92 (.f 1 3),.Y 94 92 (.r 93),.Y 95 92 (.h .leq 94 32),.p 96 92 95,.v 97 96,.Y 98 97 (.f 2 3),.Y 99 97 (.r 98),.Y 100 97 (.b .eql (.t 99) d8),.p 101 97 100,.v 102 101,.Y 103 102 (.f 3 3),.Y 104 102 (.r 103),.Y 105 102 (.m 104),.Y 106 102 (.h .eql 105 1),.p 107 102 106,.v 108 107,.Y 109 108 (.n 2 2),.Y 110 108 (.f 3 3),.Y 111 108 (.r 110),.Y 112 108 (.l (.ia 4 (.t 111) gZ)),.Y 113 108 (.n 4 112),.Y 114 108 (.cl 82 [(.t 109),(.t 113)] [0,1]),.p 115 108 114,.v 4 115]) (.S [.h 117 .eql 11 6,.v 116 117] (.C 116 (.S [.f 119 0 2,.r 120 119,.f 121 2 3,.r 122 121,.l 123 (.lk .string (.agg #[(.string (mk [])),(.slice none 0 0)]) true (.t 120) (.t 122)),.v 118 123,.y 124 118 0,.y 125 118 1,.A 6 #[(.string (mk [])),(.slice none 0 0)] 50,.w 2 6 124,.v 7 125] (.R [.v 126 7,.v 127 126,.Y 128 127 (.f 1 3),.Y 129 127 (.r 128),.Y 130 127 (.h .eql 129 0),.p 131 127 130,.v 132 131,.Y 133 132 (.f 3 3),.Y 134 132 (.r 133),.Y 135 132 (.m 134),.Y 136 132 (.h .eql 135 0),.p 137 132 136,.v 4 137])) (.S [.h 139 .eql 11 7,.v 138 139] (.I 138 (.S [.f 141 1 2,.r 142 141,.f 143 2 3,.r 144 143,.l 145 (.lk .string (.agg #[(.string (mk [])),(.slice none 0 0),(.slice none 0 0)]) true (.t 142) (.t 144)),.v 140 145,.y 146 140 0,.y 147 140 1,.A 8 #[(.string (mk [])),(.slice none 0 0),(.slice none 0 0)] 70,.w 3 8 146,.v 9 147] (.R [.v 148 9,.v 149 148,.Y 150 149 (.f 1 3),.Y 151 149 (.r 150),.Y 152 149 (.h .eql 151 0),.p 153 149 152,.v 154 153,.Y 155 154 (.f 3 3),.Y 156 154 (.r 155),.Y 157 154 (.m 156),.Y 158 154 (.h .eql 157 0),.p 159 154 158,.v 4 159])))))))))))))))) (.R [.F 4]))
def s6:List RV:=[.mv (.t 4)]
theorem a5V:aU Tryz.prog true ⟨fun r k=>if r=11/\k=25 then .own [0,1] else .own [],fun _=>false⟩ Tryz.f82=some (s9,s6):=by kernel_rfl
def aRV:PC:=.S [.z 2 90 0,.q 4 (.mv gH)] (.S [.e 8 (.mm .string),.e 5 (.al (.map none) 168),.w 1 5 8] (.S [.e 6 (.al (.slice none 0 0) 67)] (.S [.e 7 (.al .nilFunc 169)] (.S [.q 9 (.mf 132 [kM,jZ,(.t 2),iX]),.w 1 7 9] (.seq (.gh (.reg [.r 10 7,.f 11 0 2,.r 12 11,.v 13 1,.l 14 (.lk .string (.agg #[(.string (mk [])),(.slice none 0 0)]) false kB kW),.a 15 (.ca jK [oL] [0,1,2,3,4,5,6,7])])) (.S [.r 16 6,.a 17 (.cl 134 [lC] [7])] (.R [.r 18 6,.v 4 18])))))))
def aYG:List RV:=[.mv (.t 4)]
theorem a9W:aU Tryz.prog true ⟨fun r k=>if r=5/\k=5 then .own [0,1,2,3,4,5,6,7] else if r=6/\k=1 then .own [7] else .own [],fun r=>[5].contains r⟩ Tryz.f83=some (aRV,aYG):=by kernel_rfl
def aSZ:PC:=.S [.z 2 90 0,.z 3 50 1,.c 4 0] (.S [.e 7 (.mm .string),.e 5 (.al (.map none) 173),.w 1 5 7] (.S [.e 6 (.al .nilFunc 174)] (.S [.q 8 (.mf 135 [kM,jZ,(.t 2)]),.w 1 6 8] (.R [.r 9 6,.n 10 2 3,.a 11 (.ca iR [jK] [0,1,2,4,5,6]),.v 4 11]))))
def aWX:List RV:=[.mv (.t 4)]
theorem a8F:aU Tryz.prog true ⟨fun r k=>if r=4/\k=2 then .own [0,1,2,4,5,6] else .own [],fun _=>false⟩ Tryz.f84=some (aSZ,aWX):=by kernel_rfl
def aXN:PC:=.S [.z 1 47 0,.A 2 #[(.int .i64 0),(.string (mk [])),(.int .i64 0),(.int .i64 0),(.string (mk [])),(.slice none 0 0),(.bool false)] 47] (.S [.f 3 2 1,.n 4 4 3,.j 5 136 [(.t 4)],.f 6 2 1,.w 4 6 5] (.R [.n 7 7 1,.w 7 2 7]))
def aVK:List RV:=[.ld (.ldn 7 (.t 2))]
theorem a6U:aU Tryz.prog true ⟨fun _ _=>.own [],fun _=>false⟩ Tryz.f85=some (aXN,aVK):=by kernel_rfl
def aLL:PC:=.S [.z 2 25 0,.A 4 LC 90,.F 5] (.seq (.S [.n 9 3 2,.u 10 15 [iR],.h 11 .neq 10 0] (.I 11 (.R [.q 12 (.bd [(.map none),(.map none)] []),.w 2 4 12,.F 5]))) (.S [.n 13 3 2,.j 14 42 [kW],.A 6 LC 90,.w 2 6 14] (.S [.f 16 0 6,.r 17 16,.v 18 1,.l 19 (.lk .string (.agg #[(.string (mk [])),(.slice none 0 0)]) true mH iV),.v 15 19,.y 20 15 0,.y 21 15 1,.A 7 #[(.string (mk [])),(.slice none 0 0)] 50,.w 2 7 20,.v 8 21] (.R [.n 22 2 6,.v 23 8,.w 2 4 22,.v 5 23]))))
def aI1:List RV:=[.ld (.ldn 2 (.t 4)),.mv (.t 5)]
theorem a1C:aU Tryz.prog true ⟨fun r k=>if r=1/\k=1 then .q else .own [],fun _=>false⟩ Tryz.f117=some (aLL,aI1):=by kernel_rfl
def aMR:PC:=.S [.z 2 45 0,.z 3 45 1,.F 4] (.seq (.S [.f 6 0 2,.r 7 6,.f 8 0 3,.r 9 8,.k 10 .neq 7 9,.v 11 10,.N 12 11 (.f 1 2),.N 13 11 (.r 12),.N 14 11 (.f 1 3),.N 15 11 (.r 14),.N 16 11 (.k .neq 13 15),.o 17 11 16,.v 18 17,.N 19 18 (.f 2 2),.N 20 18 (.r 19),.N 21 18 (.f 2 3),.N 22 18 (.r 21),.N 23 18 (.k .neq 20 22),.o 24 18 23,.v 25 24,.N 26 25 (.f 3 2),.N 27 25 (.r 26),.N 28 25 (.m 27),.N 29 25 (.f 3 3),.N 30 25 (.r 29),.N 31 25 (.m 30),.N 32 25 (.k .neq 28 31),.o 33 25 32] (.I 33 (.R [.F 4]))) (.seq (.S [.f 34 3 2,.r 35 34,.m 36 35,.c 37 0] (.L 0 38 37 36 1 52 (.S [.v 39 37,.v 5 39] (.S [.f 40 3 2,.r 41 40,.v 42 5,.x 43 4 41 42,.n 44 4 43,.f 45 3 3,.r 46 45,.v 47 5,.x 48 4 46 47,.n 49 4 48,.u 50 119 [m7,pX],.t 51 50] (.I 51 (.R [.F 4])))))) (.R [.T 4])))
def aL4:List RV:=[.mv (.t 4)]
theorem a2T:aU Tryz.prog true ⟨fun r k=>if r=6/\k=10 then .q else .own [],fun _=>false⟩ Tryz.f119=some (aMR,aL4):=by kernel_rfl
def aLH:PC:=.S [.z 5 50 0] (.S [.f 12 1 5,.r 13 12,.m 14 13,.c 15 0] (.L 0 16 15 14 1 49 (.S [.x 17 7 13 15,.n 18 7 17,.A 7 #[(.int .i64 0),(.string (mk [])),(.int .i64 0),(.int .i64 0),(.string (mk [])),(.slice none 0 0),(.bool false)] 47,.w 7 7 18] (.S [.f 20 2 7,.n 21 4 20,.j 22 133 [hJ],.v 19 22,.y 23 19 0,.y 24 19 1,.v 8 23,.v 9 24] (.seq (.S [.v 25 9,.t 26 25,.v 27 26,.N 28 27 (.r 1),.N 29 27 (.v 8),.N 30 27 (.l (.lk .string (.bool false) false g7 lB)),.o 31 27 30] (.I 31 (.exit 1))) (.S [.r 32 1,.v 33 8,.s (.mu .string qA mJ (.k (.bool true)))] (.S [.r 34 2,.v 35 8,.e 36 (.bsl 9 1 [qG]),.e 37 (.ap 9 1 16 rZ kX),.w 1 2 37] (.S [.f 39 0 3,.r 40 39,.v 41 8,.l 42 (.lk .string (.agg #[(.string (mk [])),(.slice none 0 0)]) true nL nB),.v 38 42,.y 43 38 0,.y 44 38 1,.A 10 #[(.string (mk [])),(.slice none 0 0)] 50,.w 2 10 43,.v 11 44] (.S [.v 45 11] (.I 45 (.reg [.r 46 4,.n 47 2 10,.a 48 (.ca p7 [nJ] [0,1,2,3,4,5,6,7])])))))))))))
def aI9:List RV:=[]
theorem a1F:aU Tryz.prog true ⟨fun r k=>if r=10/\k=2 then .own [0,1,2,3,4,5,6,7] else .own [],fun _=>false⟩ Tryz.f132=some (aLH,aI9):=by kernel_rfl
def aKA:PC:=.S [.z 1 45 0,.q 2 (.mv d8),.F 3] (.seq (.block 0 (.loop (.seq (.S [.f 4 0 1,.r 5 4,.h 6 .eql 5 5,.v 7 6,.Y 8 7 (.f 3 1),.Y 9 7 (.r 8),.Y 10 7 (.m 9),.Y 11 7 (.h .eql 10 1),.p 12 7 11] (.C 12 .skip (.exit 0))) (.block 1 (.reg [.f 13 3 1,.r 14 13,.l 15 (.ia 4 oL gZ),.n 16 4 15,.w 4 1 16]))))) (.R [.f 17 2 1,.r 18 17,.f 19 0 1,.r 20 19,.h 21 .eql 20 6,.v 22 21,.N 23 22 (.f 0 1),.N 24 22 (.r 23),.N 25 22 (.h .eql 24 7),.o 26 22 25,.v 2 18,.v 3 26]))
def aIF:List RV:=[.mv (.t 2),.mv (.t 3)]
theorem a0E:aU Tryz.prog true ⟨fun _ _=>.own [],fun _=>false⟩ Tryz.f133=some (aKA,aIF):=by kernel_rfl
def Y7:PC:=.S [.z 4 50 0,.c 5 0] (.seq (.S [.r 14 1,.f 15 0 4,.r 16 15,.l 17 (.lk .string (.int .i64 0) true oL lC),.v 13 17,.y 18 13 0,.y 19 13 1,.v 6 18,.v 7 19] (.S [.v 20 7] (.I 20 (.R [.v 21 6,.v 5 21])))) (.S [.c 8 0] (.seq (.S [.f 22 1 4,.r 23 22,.m 24 23,.c 25 0] (.L 0 26 25 24 1 55 (.S [.x 27 7 23 25,.n 28 7 27,.A 10 #[(.int .i64 0),(.string (mk [])),(.int .i64 0),(.int .i64 0),(.string (mk [])),(.slice none 0 0),(.bool false)] 47,.w 7 10 28] (.seq (.ord [.q (.f 29 2 10),.q (.n 30 4 29),.m (.A 12 #[(.int .i64 0),(.int .i64 0),(.string (mk [])),(.slice none 0 0)] 45),.rc (.f 29 2 10),.rc (.n 30 4 29),.m (.c 11 0),.rc (.f 29 2 10),.rc (.n 30 4 29),.m (.w 4 12 30)]) (.seq (.block 2 (.loop (.seq (.S [.f 31 0 12,.r 32 31,.h 33 .eql 32 5] (.C 33 .skip (.exit 2))) (.block 3 (.S [.v 34 11,.h 35 .add 34 1,.v 11 35] (.reg [.f 36 3 12,.r 37 36,.l 38 (.ia 4 mI gZ),.n 39 4 38,.w 4 12 39])))))) (.seq (.S [.f 40 0 12,.r 41 40,.h 42 .eql 41 6] (.I 42 (.reg [.v 43 11,.r 44 2,.f 45 0 3,.r 46 45,.f 47 2 12,.r 48 47,.l 49 (.lk .string (.agg #[(.string (mk [])),(.slice none 0 0)]) false p7 r8),.a 50 (.ca m7 [pX] [0,1,2,3,4,5]),.k 51 .add 43 50,.v 11 51]))) (.reg [.v 52 8,.v 53 11,.q 54 (.mx true pU tV),.v 8 54]))))))) (.S [.r 56 1,.f 57 0 4,.r 58 57,.v 59 8,.h 60 .add 59 1,.s (.mu .string rT (.t 58) sA)] (.R [.v 61 8,.h 62 .add 61 1,.v 5 62])))))
def XP:List RV:=[.mv (.t 5)]
theorem a18:aU Tryz.prog true ⟨fun r k=>if r=13/\k=7 then .own [0,1,2,3,4,5] else .own [],fun _=>false⟩ Tryz.f135=some (Y7,XP):=by kernel_rfl
def aIZ:PC:=.S [.z 1 45 0,.A 2 #[(.int .i64 0),(.int .i64 0),(.string (mk [])),(.slice none 0 0)] 45] (.S [.f 6 0 1,.r 7 6,.f 8 1 1,.r 9 8,.f 10 2 1,.r 11 10,.q 12 (.bd [(.int .i64 0),(.int .i64 0),(.string (mk [])),(.slice none 0 0)] [(0,1,iX),(1,1,iR),(2,1,kJ)]),.A 3 #[(.int .i64 0),(.int .i64 0),(.string (mk [])),(.slice none 0 0)] 45,.w 4 3 12] (.seq (.S [.f 13 3 1,.r 14 13,.m 15 14,.c 16 0] (.L 0 17 16 15 1 27 (.S [.x 18 4 14 16,.n 19 4 18,.A 5 #[(.int .i64 0),(.int .i64 0),(.string (mk [])),(.slice none 0 0)] 45,.w 4 5 19] (.ord [.q (.f 20 3 3),.q (.r 21 20),.q (.n 22 4 5),.m (.j 23 136 [jO]),.rc (.f 20 3 3),.rc (.r 21 20),.m (.e 24 (.bsl 45 4 [jP])),.rc (.f 20 3 3),.rc (.r 21 20),.m (.e 25 (.ap 45 4 56 hJ kQ)),.q (.f 26 3 3),.m (.w 1 26 25)])))) (.R [.n 28 4 3,.w 4 2 28])))
def aM4:List RV:=[.ld (.ldn 4 (.t 2))]
theorem a2H:aU Tryz.prog true ⟨fun _ _=>.own [],fun _=>false⟩ Tryz.f136=some (aIZ,aM4):=by kernel_rfl
def aXD:PC:=.S [.z 1 25 0,.F 2] (.seq (.S [.f 7 1 1,.r 8 7,.m 9 8,.h 10 .gtr 9 18,.v 11 10,.N 12 11 (.f 2 1),.N 13 11 (.r 12),.N 14 11 (.m 13),.N 15 11 (.h .gtr 14 18),.o 16 11 15] (.I 16 (.R [.F 2]))) (.seq (.S [.c 3 0] (.block 0 (.loop (.seq (.S [.v 17 3,.f 18 1 1,.r 19 18,.m 20 19,.k 21 .lss 17 20] (.C 21 .skip (.exit 0))) (.seq (.block 1 (.seq (.S [.f 24 1 1,.r 25 24,.v 26 3,.x 27 3 25 26,.f 28 0 27,.r 29 28,.q 30 (.lnS lB),.h 31 .gtr 30 40,.v 32 31,.N 33 32 (.f 1 1),.N 34 32 (.r 33),.N 35 32 (.v 3),.N 36 32 (.x 3 34 35),.N 37 32 (.f 1 36),.N 38 32 (.r 37),.N 39 32 (.m 38),.N 40 32 (.h .gtr 39 18),.o 41 32 40,.v 42 41,.N 43 42 (.f 1 1),.N 44 42 (.r 43),.N 45 42 (.v 3),.N 46 42 (.x 3 44 45),.N 47 42 (.f 2 46),.N 48 42 (.r 47),.N 49 42 (.m 48),.N 50 42 (.h .gtr 49 18),.o 51 42 50] (.I 51 (.R [.F 2]))) (.S [.c 4 0] (.block 2 (.loop (.seq (.S [.v 52 4,.f 53 1 1,.r 54 53,.v 55 3,.x 56 3 54 55,.f 57 1 56,.r 58 57,.m 59 58,.k 60 .lss 52 59] (.C 60 .skip (.exit 2))) (.seq (.block 3 (.S [.f 63 1 1,.r 64 63,.v 65 3,.x 66 3 64 65,.f 67 1 66,.r 68 67,.v 69 4,.x 70 1 68 69,.r 71 70,.q 72 (.lnS (.t 71)),.h 73 .gtr 72 40] (.I 73 (.R [.F 2])))) (.reg [.v 61 4,.h 62 .add 61 1,.v 4 62])))))))) (.reg [.v 22 3,.h 23 .add 22 1,.v 3 23])))))) (.seq (.S [.c 5 0] (.block 4 (.loop (.seq (.S [.v 74 5,.f 75 2 1,.r 76 75,.m 77 76,.k 78 .lss 74 77] (.C 78 .skip (.exit 4))) (.seq (.block 5 (.seq (.S [.f 81 2 1,.r 82 81,.v 83 5,.x 84 2 82 83,.f 85 0 84,.r 86 85,.q 87 (.lnS (.t 86)),.h 88 .gtr 87 40,.v 89 88,.N 90 89 (.f 2 1),.N 91 89 (.r 90),.N 92 89 (.v 5),.N 93 89 (.x 2 91 92),.N 94 89 (.f 1 93),.N 95 89 (.r 94),.N 96 89 (.m 95),.N 97 89 (.h .gtr 96 18),.o 98 89 97] (.I 98 (.R [.F 2]))) (.S [.c 6 0] (.block 6 (.loop (.seq (.S [.v 99 6,.f 100 2 1,.r 101 100,.v 102 5,.x 103 2 101 102,.f 104 1 103,.r 105 104,.m 106 105,.k 107 .lss 99 106] (.C 107 .skip (.exit 6))) (.seq (.block 7 (.S [.f 110 2 1,.r 111 110,.v 112 5,.x 113 2 111 112,.f 114 1 113,.r 115 114,.v 116 6,.x 117 7 115 116,.f 118 1 117,.r 119 118,.q 120 (.lnS (.t 119)),.h 121 .gtr 120 40,.v 122 121,.N 123 122 (.f 2 1),.N 124 122 (.r 123),.N 125 122 (.v 5),.N 126 122 (.x 2 124 125),.N 127 122 (.f 1 126),.N 128 122 (.r 127),.N 129 122 (.v 6),.N 130 122 (.x 7 128 129),.N 131 122 (.f 2 130),.N 132 122 (.n 4 131),.N 133 122 (.cq 29 [(.t 132)]),.N 134 122 (.q (.not (.t 133))),.o 135 122 134] (.I 135 (.R [.F 2])))) (.reg [.v 108 6,.h 109 .add 108 1,.v 6 109])))))))) (.reg [.v 79 5,.h 80 .add 79 1,.v 5 80])))))) (.R [.T 2]))))
def aT9:List RV:=[.mv (.t 2)]
theorem a96:aU Tryz.prog true ⟨fun r k=>if r=21/\k=23 then .q else .own [],fun _=>false⟩ Tryz.f12=some (aXD,aT9):=by kernel_rfl
def aQ0:PC:=.S [.z 1 25 0,.c 2 0] (.seq (.S [.f 11 0 1,.r 12 11,.h 13 .lss 12 1,.v 14 13,.N 15 14 (.f 0 1),.N 16 14 (.r 15),.N 17 14 (.h .gtr 16 999),.o 18 14 17] (.I 18 (.R [.c 2 4]))) (.seq (.S [.n 19 3 1,.u 20 50 [gT]] (.I 20 (.R [.c 2 3]))) (.seq (.S [.c 3 0] (.block 0 (.loop (.seq (.S [.v 21 3,.f 22 1 1,.r 23 22,.m 24 23,.k 25 .lss 21 24] (.C 25 .skip (.exit 0))) (.seq (.block 1 (.S [.n 28 3 1,.v 29 3,.u 30 51 [g7,lB],.v 4 30] (.S [.v 31 4,.h 32 .neq 31 0] (.I 32 (.R [.v 33 4,.v 2 33]))))) (.reg [.v 26 3,.h 27 .add 26 1,.v 3 27])))))) (.seq (.S [.c 5 0] (.block 2 (.loop (.seq (.S [.v 34 5,.f 35 2 1,.r 36 35,.m 37 36,.k 38 .lss 34 37] (.C 38 .skip (.exit 2))) (.seq (.block 3 (.S [.n 41 3 1,.v 42 5,.u 43 52 [nB,tP],.v 6 43] (.S [.v 44 6,.h 45 .neq 44 0] (.I 45 (.R [.v 46 6,.v 2 46]))))) (.reg [.v 39 5,.h 40 .add 39 1,.v 5 40])))))) (.seq (.S [.c 7 0] (.block 4 (.loop (.seq (.S [.v 47 7,.f 48 2 1,.r 49 48,.m 50 49,.k 51 .lss 47 50] (.C 51 .skip (.exit 4))) (.seq (.block 5 (.S [.n 54 3 1,.f 55 2 1,.r 56 55,.v 57 7,.x 58 2 56 57,.f 59 0 58,.r 60 59,.j 61 53 [wN,sA],.v 8 61] (.S [.v 62 8,.v 63 8,.m 64 63,.f 65 2 1,.r 66 65,.v 67 7,.x 68 2 66 67,.f 69 0 68,.r 70 69,.u 71 54 [(.t 62),(.t 64),(.t 70)]] (.I 71 (.R [.c 2 19]))))) (.reg [.v 52 7,.h 53 .add 52 1,.v 7 53])))))) (.S [.n 72 3 1,.j 73 55 [AP],.v 9 73] (.seq (.S [.c 10 0] (.block 6 (.loop (.seq (.S [.v 74 10,.v 75 9,.m 76 75,.k 77 .lss 74 76] (.C 77 .skip (.exit 6))) (.seq (.block 7 (.S [.v 80 9,.v 81 10,.x 82 1 80 81,.r 83 82,.h 84 .gtr 83 6] (.I 84 (.R [.c 2 9])))) (.reg [.v 78 10,.h 79 .add 78 1,.v 10 79])))))) (.R [.c 2 0]))))))))
def aWE:List RV:=[.mv (.t 2)]
theorem a5X:aU Tryz.prog true ⟨fun r k=>if r=3/\k=1 then .q else if r=8/\k=2 then .q else if r=14/\k=2 then .q else if r=21/\k=9 then .q else .own [],fun _=>false⟩ Tryz.f19=some (aQ0,aWE):=by kernel_rfl
def aV2:PC:=.S [.z 2 25 0,.A 4 #[(.string (mk [])),(.slice none 0 0)] 50,.F 5] (.seq (.S [.c 6 0] (.block 0 (.loop (.seq (.S [.v 7 6,.f 8 2 2,.r 9 8,.m 10 9,.k 11 .lss 7 10] (.C 11 .skip (.exit 0))) (.seq (.block 1 (.S [.f 14 2 2,.r 15 14,.v 16 6,.x 17 2 15 16,.f 18 0 17,.r 19 18,.v 20 1,.k 21 .eql 19 20] (.I 21 (.R [.f 22 2 2,.r 23 22,.v 24 6,.x 25 2 23 24,.n 26 2 25,.w 2 4 26,.T 5])))) (.reg [.v 12 6,.h 13 .add 12 1,.v 6 13])))))) (.R [.q 27 (.bd [(.string (mk [])),(.slice none 0 0)] []),.w 2 4 27,.F 5]))
def aVO:List RV:=[.ld (.ldn 2 (.t 4)),.mv (.t 5)]
theorem bAE:aU Tryz.prog true ⟨fun _ _=>.own [],fun _=>false⟩ Tryz.f20=some (aV2,aVO):=by kernel_rfl
def aXK:PC:=.S [.z 1 45 0,.F 2] (.seq (.S [.f 4 2 1,.r 5 4,.q 6 (.lnS kM),.h 7 .gtr 6 40,.v 8 7,.N 9 8 (.f 3 1),.N 10 8 (.r 9),.N 11 8 (.m 10),.N 12 8 (.h .gtr 11 3),.o 13 8 12,.v 14 13,.N 15 14 (.n 4 1),.N 16 14 (.cq 71 [jR,(.i 20)]),.N 17 14 (.h .gtr 16 8),.o 18 14 17] (.I 18 (.R [.F 2]))) (.seq (.S [.c 3 0] (.block 0 (.loop (.seq (.S [.v 19 3,.f 20 3 1,.r 21 20,.m 22 21,.k 23 .lss 19 22] (.C 23 .skip (.exit 0))) (.seq (.block 1 (.S [.f 26 3 1,.r 27 26,.v 28 3,.x 29 4 27 28,.n 30 4 29,.u 31 29 [oO],.t 32 31] (.I 32 (.R [.F 2])))) (.reg [.v 24 3,.h 25 .add 24 1,.v 3 25])))))) (.R [.T 2])))
def aUO:List RV:=[.mv (.t 2)]
theorem a72:aU Tryz.prog true ⟨fun r k=>if r=1/\k=12 then .q else if r=6/\k=5 then .q else .own [],fun _=>false⟩ Tryz.f29=some (aXK,aUO):=by kernel_rfl
def QB:PC:=.S [.z 1 25 0,.F 2] (.seq (.S [.f 5 1 1,.r 6 5,.m 7 6,.h 8 .gtr 7 16,.v 9 8,.N 10 9 (.f 2 1),.N 11 9 (.r 10),.N 12 9 (.m 11),.N 13 9 (.h .gtr 12 16),.o 14 9 13,.v 15 14,.N 16 15 (.f 1 1),.N 17 15 (.r 16),.N 18 15 (.m 17),.N 19 15 (.f 2 1),.N 20 15 (.r 19),.N 21 15 (.m 20),.N 22 15 (.k .add 18 21),.N 23 15 (.h .gtr 22 16),.o 24 15 23] (.I 24 (.R [.T 2]))) (.seq (.S [.c 3 0] (.block 0 (.loop (.seq (.S [.v 25 3,.f 26 1 1,.r 27 26,.m 28 27,.k 29 .lss 25 28] (.C 29 .skip (.exit 0))) (.seq (.block 1 (.S [.f 32 1 1,.r 33 32,.v 34 3,.x 35 3 33 34,.f 36 1 35,.r 37 36,.m 38 37,.h 39 .gtr 38 16] (.I 39 (.R [.T 2])))) (.reg [.v 30 3,.h 31 .add 30 1,.v 3 31])))))) (.seq (.S [.c 4 0] (.block 2 (.loop (.seq (.S [.v 40 4,.f 41 2 1,.r 42 41,.m 43 42,.k 44 .lss 40 43] (.C 44 .skip (.exit 2))) (.seq (.block 3 (.S [.f 47 2 1,.r 48 47,.v 49 4,.x 50 2 48 49,.f 51 1 50,.r 52 51,.m 53 52,.h 54 .gtr 53 16] (.I 54 (.R [.T 2])))) (.reg [.v 45 4,.h 46 .add 45 1,.v 4 46])))))) (.R [.F 2]))))
def SA:List RV:=[.mv (.t 2)]
theorem bAP:aU Tryz.prog true ⟨fun _ _=>.own [],fun _=>false⟩ Tryz.f50=some (QB,SA):=by kernel_rfl
def aRG:PC:=.S [.z 2 25 0,.c 4 0] (.S [.f 8 1 2,.r 9 8,.v 10 1,.x 11 3 9 10,.n 12 3 11,.A 5 #[(.string (mk [])),(.slice none 0 0),(.slice none 0 0)] 70,.w 3 5 12] (.seq (.S [.f 13 0 5,.r 14 13,.u 15 91 [oL],.t 16 15] (.I 16 (.R [.c 4 5]))) (.seq (.S [.c 6 0] (.block 0 (.loop (.seq (.S [.v 17 6,.v 18 1,.k 19 .lss 17 18] (.C 19 .skip (.exit 0))) (.seq (.block 1 (.S [.f 22 1 2,.r 23 22,.v 24 6,.x 25 3 23 24,.f 26 0 25,.r 27 26,.f 28 0 5,.r 29 28,.k 30 .eql 27 29] (.I 30 (.R [.c 4 7])))) (.reg [.v 20 6,.h 21 .add 20 1,.v 6 21])))))) (.seq (.S [.f 31 1 5,.r 32 31,.m 33 32,.h 34 .eql 33 0,.v 35 34,.N 36 35 (.f 2 5),.N 37 35 (.r 36),.N 38 35 (.m 37),.N 39 35 (.f 1 5),.N 40 35 (.r 39),.N 41 35 (.m 40),.N 42 35 (.k .neq 38 41),.o 43 35 42] (.I 43 (.R [.c 4 2]))) (.seq (.S [.c 7 0] (.block 2 (.loop (.seq (.S [.v 44 7,.f 45 1 5,.r 46 45,.m 47 46,.k 48 .lss 44 47] (.C 48 .skip (.exit 2))) (.seq (.block 3 (.seq (.S [.f 51 1 5,.r 52 51,.v 53 7,.x 54 1 52 53,.r 55 54,.u 56 92 [tN],.t 57 56] (.I 57 (.R [.c 4 5]))) (.seq (.S [.f 58 1 5,.r 59 58,.v 60 7,.f 61 1 5,.r 62 61,.v 63 7,.x 64 1 62 63,.r 65 64,.u 66 54 [rR,sA,wG]] (.I 66 (.R [.c 4 7]))) (.seq (.S [.f 67 2 5,.r 68 67,.v 69 7,.x 70 1 68 69,.r 71 70,.h 72 .lss 71 0,.v 73 72,.N 74 73 (.f 2 5),.N 75 73 (.r 74),.N 76 73 (.v 7),.N 77 73 (.x 1 75 76),.N 78 73 (.r 77),.N 79 73 (.h .gtr 78 127),.o 80 73 79] (.I 80 (.R [.c 4 4]))) (.S [.v 81 7,.h 82 .eql 81 0,.v 83 82,.Y 84 83 (.f 2 5),.Y 85 83 (.r 84),.Y 86 83 (.v 7),.Y 87 83 (.x 1 85 86),.Y 88 83 (.r 87),.Y 89 83 (.h .neq 88 0),.p 90 83 89,.v 91 90,.N 92 91 (.v 7),.N 93 91 (.h .gtr 92 0),.N 94 91 (.v 93),.Y 95 94 (.f 2 5),.Y 96 94 (.r 95),.Y 97 94 (.v 7),.Y 98 94 (.x 1 96 97),.Y 99 94 (.r 98),.Y 100 94 (.f 2 5),.Y 101 94 (.r 100),.Y 102 94 (.v 7),.Y 103 94 (.h .sub 102 1),.Y 104 94 (.x 1 101 103),.Y 105 94 (.r 104),.Y 106 94 (.k .leq 99 105),.N 107 91 (.p 94 106),.o 108 91 107] (.I 108 (.R [.c 4 2]))))))) (.reg [.v 49 7,.h 50 .add 49 1,.v 7 50])))))) (.R [.c 4 0]))))))
def aQN:List RV:=[.mv (.t 4)]
theorem a7Y:aU Tryz.prog true ⟨fun r k=>if r=2/\k=2 then .q else if r=14/\k=5 then .q else if r=16/\k=8 then .q else .own [],fun _=>false⟩ Tryz.f51=some (aRG,aQN):=by kernel_rfl
def aQR:PC:=.S [.z 2 25 0,.c 4 0] (.S [.f 12 2 2,.r 13 12,.v 14 1,.x 15 2 13 14,.n 16 2 15,.A 5 #[(.string (mk [])),(.slice none 0 0)] 50,.w 2 5 16] (.seq (.S [.f 17 0 5,.r 18 17,.u 19 91 [iV],.t 20 19] (.I 20 (.R [.c 4 5]))) (.seq (.S [.n 22 3 2,.f 23 0 5,.r 24 23,.j 25 93 [jO,kQ],.v 21 25,.y 26 21 0,.y 27 21 1,.A 6 #[(.string (mk [])),(.slice none 0 0),(.slice none 0 0)] 70,.w 3 6 26,.v 7 27] (.S [.v 28 7] (.I 28 (.R [.c 4 7])))) (.seq (.S [.c 8 0] (.block 0 (.loop (.seq (.S [.v 29 8,.v 30 1,.k 31 .lss 29 30] (.C 31 .skip (.exit 0))) (.seq (.block 1 (.S [.f 34 2 2,.r 35 34,.v 36 8,.x 37 2 35 36,.f 38 0 37,.r 39 38,.f 40 0 5,.r 41 40,.k 42 .eql 39 41] (.I 42 (.R [.c 4 7])))) (.reg [.v 32 8,.h 33 .add 32 1,.v 8 33])))))) (.seq (.S [.c 9 0] (.block 2 (.loop (.seq (.S [.v 43 9,.f 44 1 5,.r 45 44,.m 46 45,.k 47 .lss 43 46] (.C 47 .skip (.exit 2))) (.seq (.block 3 (.S [.f 50 1 5,.r 51 50,.v 52 9,.x 53 7 51 52,.n 54 7 53,.A 10 #[(.int .i64 0),(.string (mk [])),(.int .i64 0),(.int .i64 0),(.string (mk [])),(.slice none 0 0),(.bool false)] 47,.w 7 10 54] (.seq (.S [.f 55 0 10,.r 56 55,.h 57 .lss 56 1,.v 58 57,.N 59 58 (.f 0 10),.N 60 58 (.r 59),.N 61 58 (.h .gtr 60 127),.o 62 58 61] (.I 62 (.R [.c 4 4]))) (.seq (.S [.v 63 9,.h 64 .gtr 63 0,.v 65 64,.Y 66 65 (.f 0 10),.Y 67 65 (.r 66),.Y 68 65 (.f 1 5),.Y 69 65 (.r 68),.Y 70 65 (.v 9),.Y 71 65 (.h .sub 70 1),.Y 72 65 (.x 7 69 71),.Y 73 65 (.f 0 72),.Y 74 65 (.r 73),.Y 75 65 (.k .leq 67 74),.p 76 65 75] (.I 76 (.R [.c 4 2]))) (.seq (.S [.f 77 1 10,.r 78 77,.u 79 92 [(.t 78)],.t 80 79] (.I 80 (.R [.c 4 5]))) (.seq (.S [.c 11 0] (.block 4 (.loop (.seq (.S [.v 81 11,.v 82 9,.k 83 .lss 81 82] (.C 83 .skip (.exit 4))) (.seq (.block 5 (.S [.f 86 1 5,.r 87 86,.v 88 11,.x 89 7 87 88,.f 90 1 89,.r 91 90,.f 92 1 10,.r 93 92,.k 94 .eql 91 93] (.I 94 (.R [.c 4 7])))) (.reg [.v 84 11,.h 85 .add 84 1,.v 11 85])))))) (.S [.n 95 3 2,.f 96 2 10,.n 97 4 96,.u 98 94 [(.t 95),(.t 97)],.t 99 98] (.I 99 (.R [.c 4 13]))))))))) (.reg [.v 48 9,.h 49 .add 48 1,.v 9 49])))))) (.R [.c 4 0]))))))
def aYQ:List RV:=[.mv (.t 4)]
theorem a90:aU Tryz.prog true ⟨fun r k=>if r=2/\k=2 then .q else if r=20/\k=2 then .q else if r=27/\k=3 then .q else .own [],fun _=>false⟩ Tryz.f52=some (aQR,aYQ):=by kernel_rfl
def aWF:PC:=.S [.z 2 25 0,.q 4 (.mv gH)] (.S [.q 5 (.mv gH)] (.S [.v 13 1,.e 14 (.bsl 9 1 [kW]),.v 6 14] (.seq (.S [.c 7 0] (.block 0 (.loop (.seq (.S [.v 15 7,.v 16 6,.m 17 16,.k 18 .lss 15 17] (.C 18 .skip (.exit 0))) (.seq (.block 1 (.seq (.ord [.q (.n 22 3 2),.q (.v 23 6),.q (.v 24 7),.q (.x 25 1 23 24),.q (.r 26 25),.m (.j 27 20 [jO,j7]),.q (.v 21 27),.q (.y 28 21 0),.q (.y 29 21 1),.m (.A 8 #[(.string (mk [])),(.slice none 0 0)] 50),.rc (.v 21 27),.rc (.y 28 21 0),.rc (.y 29 21 1),.m (.w 2 8 28),.rc (.y 29 21 1),.m (.v 9 29)]) (.S [.c 10 0] (.block 2 (.loop (.seq (.S [.v 30 10,.f 31 1 8,.r 32 31,.m 33 32,.k 34 .lss 30 33] (.C 34 .skip (.exit 2))) (.seq (.block 3 (.S [.f 37 1 8,.r 38 37,.v 39 10,.x 40 7 38 39,.f 41 2 40,.n 42 4 41,.j 43 95 [tP],.v 11 43] (.S [.c 12 0] (.block 4 (.loop (.seq (.S [.v 44 12,.v 45 11,.m 46 45,.k 47 .lss 44 46] (.C 47 .skip (.exit 4))) (.seq (.block 5 (.S [.v 50 5,.v 51 5,.m 52 51,.v 53 11,.v 54 12,.x 55 1 53 54,.r 56 55,.u 57 54 [oP,pU,rT],.t 58 57] (.I 58 (.S [.v 59 5,.v 60 11,.v 61 12,.x 62 1 60 61,.r 63 62,.j 64 96 [rR,(.t 63)],.v 5 64] (.reg [.v 65 6,.v 66 11,.v 67 12,.x 68 1 66 67,.r 69 68,.e 70 (.bsl 9 1 [v6]),.e 71 (.ap 9 1 16 wG (.t 70)),.v 6 71]))))) (.reg [.v 48 12,.h 49 .add 48 1,.v 12 49])))))))) (.reg [.v 35 10,.h 36 .add 35 1,.v 10 36])))))))) (.reg [.v 19 7,.h 20 .add 19 1,.v 7 20])))))) (.R [.v 72 5,.v 4 72]))))
def aWL:List RV:=[.mv (.t 4)]
theorem a64:aU Tryz.prog true ⟨fun r k=>if r=14/\k=7 then .q else .own [],fun _=>false⟩ Tryz.f53=some (aWF,aWL):=by kernel_rfl
def aYI:PC:=.S [.F 6] (.seq (.S [.c 7 0] (.block 0 (.loop (.seq (.S [.v 8 7,.v 9 1,.k 10 .lss 8 9,.v 11 10,.Y 12 11 (.v 7),.Y 13 11 (.v 0),.Y 14 11 (.m 13),.Y 15 11 (.k .lss 12 14),.p 16 11 15] (.C 16 .skip (.exit 0))) (.seq (.block 1 (.S [.v 19 0,.v 20 7,.x 21 1 19 20,.r 22 21,.v 23 2,.k 24 .eql 22 23] (.I 24 (.R [.T 6])))) (.reg [.v 17 7,.h 18 .add 17 1,.v 7 18])))))) (.R [.F 6]))
def aS8:List RV:=[.mv (.t 6)]
theorem a7O:aU Tryz.prog true ⟨fun _ _=>.own [],fun _=>false⟩ Tryz.f54=some (aYI,aS8):=by kernel_rfl
def aXF:PC:=.S [.z 1 25 0,.q 2 (.mv gH)] (.S [.f 8 2 1,.r 9 8,.m 10 9,.e 11 (.mk 3 1 8 [(.int .i64 0)] jK jK),.v 3 11] (.seq (.S [.c 4 0] (.block 0 (.loop (.seq (.S [.v 12 4,.f 13 2 1,.r 14 13,.m 15 14,.k 16 .leq 12 15] (.C 16 .skip (.exit 0))) (.seq (.block 1 (.S [.c 5 0] (.block 2 (.loop (.seq (.S [.v 19 5,.f 20 2 1,.r 21 20,.m 22 21,.k 23 .lss 19 22] (.C 23 .skip (.exit 2))) (.seq (.block 3 (.S [.c 6 0] (.seq (.S [.c 7 0] (.block 4 (.loop (.seq (.S [.v 26 7,.f 27 2 1,.r 28 27,.v 29 5,.x 30 2 28 29,.f 31 1 30,.r 32 31,.m 33 32,.k 34 .lss 26 33] (.C 34 .skip (.exit 4))) (.seq (.block 5 (.reg [.v 37 6,.n 38 3 1,.v 39 3,.f 40 2 1,.r 41 40,.v 42 5,.x 43 2 41 42,.f 44 1 43,.r 45 44,.v 46 7,.x 47 7 45 46,.f 48 2 47,.n 49 4 48,.u 50 97 [mL,kY,pX],.q 51 (.mx true mI oP),.v 6 51])) (.reg [.v 35 7,.h 36 .add 35 1,.v 7 36])))))) (.reg [.v 52 3,.v 53 5,.v 54 6,.b 55 .add lR wN,.x 56 1 52 53,.w 1 56 55])))) (.reg [.v 24 5,.h 25 .add 24 1,.v 5 25]))))))) (.reg [.v 17 4,.h 18 .add 17 1,.v 4 18])))))) (.R [.v 57 3,.v 2 57])))
def aRN:List RV:=[.mv (.t 2)]
theorem a9T:aU Tryz.prog true ⟨fun r k=>if r=12/\k=13 then .q else .own [],fun _=>false⟩ Tryz.f55=some (aXF,aRN):=by kernel_rfl
def aG8:PC:=.S [.z 2 45 0,.c 4 0] (.S [.c 5 0] (.seq (.S [.c 6 0] (.block 0 (.loop (.seq (.S [.v 7 6,.f 8 3 2,.r 9 8,.m 10 9,.k 11 .lss 7 10,.v 12 11,.Y 13 12 (.v 1),.Y 14 12 (.h .gtr 13 0),.p 15 12 14] (.C 15 .skip (.exit 0))) (.seq (.block 1 (.reg [.v 18 5,.f 19 3 2,.r 20 19,.v 21 6,.x 22 4 20 21,.n 23 4 22,.v 24 1,.h 25 .sub 24 1,.u 26 71 [jP,kI],.b 27 .add lR j7,.q 28 (.mx true iV oN),.v 5 28])) (.reg [.v 16 6,.h 17 .add 16 1,.v 6 17])))))) (.R [.v 29 5,.v 4 29])))
def aGL:List RV:=[.mv (.t 4)]
theorem aXW:aU Tryz.prog true ⟨fun r k=>if r=5/\k=8 then .q else .own [],fun _=>false⟩ Tryz.f71=some (aG8,aGL):=by kernel_rfl
def aE4:PC:=.S [.F 2] (.R [.v 3 0,.u 4 92 [lW],.v 5 4,.Y 6 5 (.v 0),.Y 7 5 (.ix jZ gZ),.Y 8 5 (.b .geq iX XU),.p 9 5 8,.v 10 9,.Y 11 10 (.v 0),.Y 12 10 (.ix kJ gZ),.Y 13 10 (.b .leq kB YU),.p 14 10 13,.v 2 14])
def aGY:List RV:=[.mv (.t 2)]
theorem a7E:aU Tryz.prog true ⟨fun r k=>if r=1/\k=1 then .q else .own [],fun _=>false⟩ Tryz.f91=some (aE4,aGY):=by kernel_rfl
def aVX:PC:=.S [.F 2] (.seq (.S [.v 6 0,.q 7 (.lnS jZ),.h 8 .lss 7 1,.v 9 8,.N 10 9 (.v 0),.N 11 9 (.q (.lnS jK)),.N 12 9 (.h .gtr 11 16),.o 13 9 12] (.I 13 (.R [.F 2]))) (.seq (.S [.c 3 0] (.block 0 (.loop (.seq (.S [.v 14 3,.v 15 0,.q 16 (.lnS jR),.k 17 .lss 14 16] (.C 17 .skip (.exit 0))) (.seq (.block 1 (.S [.v 20 0,.v 21 3,.a 22 (.ix jS hJ),.b 23 .geq jO (.k (.int .u8 97)),.v 24 23,.Y 25 24 (.v 0),.Y 26 24 (.v 3),.Y 27 24 (.ix kI j7),.Y 28 24 (.b .leq oN (.k (.int .u8 122))),.p 29 24 28,.v 30 29,.N 31 30 (.v 0),.N 32 30 (.v 3),.N 33 30 (.ix pV qA),.N 34 30 (.b .geq mJ XU),.N 35 30 (.v 34),.Y 36 35 (.v 0),.Y 37 35 (.v 3),.Y 38 35 (.ix kX mI),.Y 39 35 (.b .leq mL YU),.N 40 30 (.p 35 39),.o 41 30 40,.v 4 41] (.S [.v 42 0,.v 43 3,.a 44 (.ix tP mM),.b 45 .eql m7 (.k (.int .u8 95)),.v 46 45,.N 47 46 (.v 0),.N 48 46 (.v 3),.N 49 46 (.ix nJ r8),.N 50 46 (.b .geq pX (.k (.int .u8 48))),.N 51 46 (.v 50),.Y 52 51 (.v 0),.Y 53 51 (.v 3),.Y 54 51 (.ix pU tV),.Y 55 51 (.b .leq wN (.k (.int .u8 57))),.N 56 46 (.p 51 55),.o 57 46 56,.v 5 57] (.S [.v 58 4,.t 59 58,.v 60 59,.Y 61 60 (.v 3),.Y 62 60 (.h .eql 61 0),.Y 63 60 (.v 62),.N 64 63 (.v 5),.N 65 63 (.q (.not (.t 64))),.Y 66 60 (.o 63 65),.p 67 60 66] (.I 67 (.R [.F 2])))))) (.reg [.v 18 3,.h 19 .add 18 1,.v 3 19])))))) (.R [.T 2])))
def aRX:List RV:=[.mv (.t 2)]
theorem a97:aU Tryz.prog true ⟨fun _ _=>.own [],fun _=>false⟩ Tryz.f92=some (aVX,aRX):=by kernel_rfl
def aWQ:PC:=.S [.z 2 25 0,.A 4 #[(.string (mk [])),(.slice none 0 0),(.slice none 0 0)] 70,.F 5] (.seq (.S [.c 6 0] (.block 0 (.loop (.seq (.S [.v 7 6,.f 8 1 2,.r 9 8,.m 10 9,.k 11 .lss 7 10] (.C 11 .skip (.exit 0))) (.seq (.block 1 (.S [.f 14 1 2,.r 15 14,.v 16 6,.x 17 3 15 16,.f 18 0 17,.r 19 18,.v 20 1,.k 21 .eql 19 20] (.I 21 (.R [.f 22 1 2,.r 23 22,.v 24 6,.x 25 3 23 24,.n 26 3 25,.w 3 4 26,.T 5])))) (.reg [.v 12 6,.h 13 .add 12 1,.v 6 13])))))) (.R [.q 27 (.bd [(.string (mk [])),(.slice none 0 0),(.slice none 0 0)] []),.w 3 4 27,.F 5]))
def aUJ:List RV:=[.ld (.ldn 3 (.t 4)),.mv (.t 5)]
theorem a8R:aU Tryz.prog true ⟨fun _ _=>.own [],fun _=>false⟩ Tryz.f93=some (aWQ,aUJ):=by kernel_rfl
def xJ:PC:=.S [.z 2 25 0,.z 3 45 1,.F 4] (.seq (.S [.f 9 0 3,.r 10 9] (.block 0 (.S [.h 12 .eql 10 1,.v 11 12] (.C 11 (.R [.f 13 1 3,.r 14 13,.h 15 .eql 14 0,.v 16 15,.Y 17 16 (.f 2 3),.Y 18 16 (.r 17),.Y 19 16 (.b .eql iV d8),.p 20 16 19,.v 21 20,.Y 22 21 (.n 4 3),.Y 23 21 (.cq 140 [jO]),.p 24 21 23,.v 4 24]) (.S [.h 26 .eql 10 2,.v 25 26] (.C 25 (.R [.f 27 1 3,.r 28 27,.h 29 .eql 28 8,.v 30 29,.N 31 30 (.f 1 3),.N 32 30 (.r 31),.N 33 30 (.h .eql 32 16),.o 34 30 33,.v 35 34,.N 36 35 (.f 1 3),.N 37 35 (.r 36),.N 38 35 (.h .eql 37 32),.o 39 35 38,.v 40 39,.N 41 40 (.f 1 3),.N 42 40 (.r 41),.N 43 40 (.h .eql 42 64),.o 44 40 43,.v 45 44,.Y 46 45 (.f 2 3),.Y 47 45 (.r 46),.Y 48 45 (.b .eql nJ d8),.p 49 45 48,.v 50 49,.Y 51 50 (.n 4 3),.Y 52 50 (.cq 140 [(.t 51)]),.p 53 50 52,.v 4 53]) (.S [.h 55 .eql 10 3,.v 54 55] (.C 54 (.R [.f 56 1 3,.r 57 56,.h 58 .eql 57 8,.v 59 58,.N 60 59 (.f 1 3),.N 61 59 (.r 60),.N 62 59 (.h .eql 61 16),.o 63 59 62,.v 64 63,.N 65 64 (.f 1 3),.N 66 64 (.r 65),.N 67 64 (.h .eql 66 32),.o 68 64 67,.v 69 68,.Y 70 69 (.f 2 3),.Y 71 69 (.r 70),.Y 72 69 (.b .eql (.t 71) d8),.p 73 69 72,.v 74 73,.Y 75 74 (.n 4 3),.Y 76 74 (.cq 140 [AB]),.p 77 74 76,.v 4 77]) (.S [.h 79 .eql 10 4,.v 78 79] (.C 78 (.R [.f 80 1 3,.r 81 80,.h 82 .geq 81 1,.v 83 82,.Y 84 83 (.f 1 3),.Y 85 83 (.r 84),.Y 86 83 (.h .leq 85 2000),.p 87 83 86,.v 88 87,.Y 89 88 (.f 2 3),.Y 90 88 (.r 89),.Y 91 88 (.b .eql (.t 90) d8),.p 92 88 91,.v 93 92,.Y 94 93 (.n 4 3),.Y 95 93 (.cq 140 [(.t 94)]),.p 96 93 95,.v 4 96]) (.S [.h 98 .eql 10 5,.v 97 98] (.C 97 (.R [.f 99 1 3,.r 100 99,.h 101 .geq 100 1,.v 102 101,.Y 103 102 (.f 1 3),.Y 104 102 (.r 103),.Y 105 102 (.h .leq 104 32),.p 106 102 105,.v 107 106,.Y 108 107 (.f 2 3),.Y 109 107 (.r 108),.Y 110 107 (.b .eql (.t 109) d8),.p 111 107 110,.v 112 111,.Y 113 112 (.f 3 3),.Y 114 112 (.r 113),.Y 115 112 (.m 114),.Y 116 112 (.h .eql 115 1),.p 117 112 116,.v 118 117,.Y 119 118 (.n 3 2),.Y 120 118 (.f 3 3),.Y 121 118 (.r 120),.Y 122 118 (.l (.ia 4 (.t 121) gZ)),.Y 123 118 (.n 4 122),.Y 124 118 (.cq 94 [(.t 119),(.t 123)]),.p 125 118 124,.v 4 125]) (.S [.h 127 .eql 10 6,.v 126 127] (.C 126 (.S [.n 129 3 2,.f 130 2 3,.r 131 130,.j 132 20 [(.t 129),(.t 131)],.v 128 132,.y 133 128 0,.y 134 128 1,.A 5 #[(.string (mk [])),(.slice none 0 0)] 50,.w 2 5 133,.v 6 134] (.R [.v 135 6,.v 136 135,.Y 137 136 (.f 1 3),.Y 138 136 (.r 137),.Y 139 136 (.h .eql 138 0),.p 140 136 139,.v 141 140,.Y 142 141 (.n 4 3),.Y 143 141 (.cq 140 [(.t 142)]),.p 144 141 143,.v 4 144])) (.S [.h 146 .eql 10 7,.v 145 146] (.I 145 (.S [.n 148 3 2,.f 149 2 3,.r 150 149,.j 151 93 [(.t 148),(.t 150)],.v 147 151,.y 152 147 0,.y 153 147 1,.A 7 #[(.string (mk [])),(.slice none 0 0),(.slice none 0 0)] 70,.w 3 7 152,.v 8 153] (.R [.v 154 8,.v 155 154,.Y 156 155 (.f 1 3),.Y 157 155 (.r 156),.Y 158 155 (.h .eql 157 0),.p 159 155 158,.v 160 159,.Y 161 160 (.n 4 3),.Y 162 160 (.cq 140 [(.t 161)]),.p 163 160 162,.v 4 163])))))))))))))))))) (.R [.F 4]))
def xC:List RV:=[.mv (.t 4)]
theorem a6N:aU Tryz.prog true ⟨fun r k=>if r=3/\k=10 then .q else if r=5/\k=25 then .q else if r=7/\k=20 then .q else if r=9/\k=15 then .q else if r=11/\k=25 then .q else if r=14/\k=8 then .q else if r=17/\k=8 then .q else .own [],fun _=>false⟩ Tryz.f94=some (xJ,xC):=by kernel_rfl
def aQW:PC:=.S [.z 1 45 0,.q 2 (.mv gH)] (.seq (.S [.f 5 0 1,.r 6 5,.h 7 .eql 6 6,.v 8 7,.N 9 8 (.f 0 1),.N 10 8 (.r 9),.N 11 8 (.h .eql 10 7),.o 12 8 11] (.I 12 (.R [.f 13 2 1,.r 14 13,.e 15 (.bsl 9 1 [oL]),.v 2 15]))) (.S [.q 3 (.mv gH)] (.seq (.S [.c 4 0] (.block 0 (.loop (.seq (.S [.v 16 4,.f 17 3 1,.r 18 17,.m 19 18,.k 20 .lss 16 19] (.C 20 .skip (.exit 0))) (.seq (.block 1 (.reg [.v 23 3,.f 24 3 1,.r 25 24,.v 26 4,.x 27 4 25 26,.n 28 4 27,.j 29 95 [g7],.e 30 (.ap 9 1 16 jP lB),.v 3 30])) (.reg [.v 21 4,.h 22 .add 21 1,.v 4 22])))))) (.R [.v 31 3,.v 2 31]))))
def aWA:List RV:=[.mv (.t 2)]
theorem a6F:aU Tryz.prog true ⟨fun _ _=>.own [],fun _=>false⟩ Tryz.f95=some (aQW,aWA):=by kernel_rfl
def aVJ:PC:=.S [.q 4 (.mv gH)] (.S [.q 5 (.mv gH)] (.S [.F 6] (.seq (.S [.c 7 0] (.block 0 (.loop (.seq (.S [.v 8 7,.v 9 0,.m 10 9,.k 11 .lss 8 10] (.C 11 .skip (.exit 0))) (.seq (.block 1 (.seq (.S [.v 14 6,.t 15 14,.v 16 15,.Y 17 16 (.v 1),.Y 18 16 (.v 0),.Y 19 16 (.v 7),.Y 20 16 (.x 1 18 19),.Y 21 16 (.r 20),.Y 22 16 (.k .leq 17 21),.p 23 16 22] (.I 23 (.S [.T 6] (.S [.v 24 1,.v 25 0,.v 26 7,.x 27 1 25 26,.r 28 27,.k 29 .lss 24 28] (.I 29 (.reg [.v 30 5,.v 31 1,.e 32 (.bsl 9 1 [pV]),.e 33 (.ap 9 1 16 oO qA),.v 5 33])))))) (.reg [.v 34 5,.v 35 0,.v 36 7,.x 37 1 35 36,.r 38 37,.e 39 (.bsl 9 1 [mL]),.e 40 (.ap 9 1 16 rZ kY),.v 5 40]))) (.reg [.v 12 7,.h 13 .add 12 1,.v 7 13])))))) (.seq (.S [.v 41 6,.t 42 41] (.I 42 (.reg [.v 43 5,.v 44 1,.e 45 (.bsl 9 1 [m7]),.e 46 (.ap 9 1 16 mM (.t 45)),.v 5 46]))) (.R [.v 47 5,.v 4 47])))))
def aTZ:List RV:=[.mv (.t 4)]
theorem a5W:aU Tryz.prog true ⟨fun _ _=>.own [],fun _=>false⟩ Tryz.f96=some (aVJ,aTZ):=by kernel_rfl
def aWM:PC:=.S [.z 3 25 0,.z 5 45 2,.c 6 0] (.seq (.S [.f 8 0 5,.r 9 8,.h 10 .eql 9 5,.v 11 10,.Y 12 11 (.f 3 5),.Y 13 11 (.r 12),.Y 14 11 (.m 13),.Y 15 11 (.h .gtr 14 0),.p 16 11 15] (.I 16 (.R [.n 17 3 3,.v 18 1,.f 19 3 5,.r 20 19,.l 21 (.ia 4 jS gZ),.n 22 4 21,.u 23 97 [mH,iV,jO],.b 24 .add lR jP,.v 6 24]))) (.seq (.S [.c 7 0] (.block 0 (.loop (.seq (.S [.v 25 7,.f 26 2 3,.r 27 26,.m 28 27,.k 29 .lss 25 28] (.C 29 .skip (.exit 0))) (.seq (.block 1 (.S [.f 32 0 5,.r 33 32,.h 34 .eql 33 6,.v 35 34,.Y 36 35 (.f 2 3),.Y 37 35 (.r 36),.Y 38 35 (.v 7),.Y 39 35 (.x 2 37 38),.Y 40 35 (.f 0 39),.Y 41 35 (.r 40),.Y 42 35 (.f 2 5),.Y 43 35 (.r 42),.Y 44 35 (.k .eql 41 43),.p 45 35 44] (.I 45 (.R [.v 46 1,.v 47 7,.x 48 1 46 47,.r 49 48,.v 6 49])))) (.reg [.v 30 7,.h 31 .add 30 1,.v 7 31])))))) (.R [.c 6 0])))
def aSR:List RV:=[.mv (.t 6)]
theorem a80:aU Tryz.prog true ⟨fun r k=>if r=2/\k=6 then .q else .own [],fun _=>false⟩ Tryz.f97=some (aWM,aSR):=by kernel_rfl
def YT:PC:=.S [.z 2 25 0,.q 4 (.mv gH)] (.seq (.S [.n 5 3 2,.v 6 1,.u 7 147 [kM,jZ],.t 8 7] (.I 8 (.R [.q 4 (.mv gH)]))) (.R [.n 9 3 2,.v 10 1,.j 11 53 [iR,jK],.v 4 11]))
def X6:List RV:=[.mv (.t 4)]
theorem aYX:aU Tryz.prog true ⟨fun r k=>if r=1/\k=2 then .q else .own [],fun _=>false⟩ Tryz.f103=some (YT,X6):=by kernel_rfl
def aMK:PC:=.S [.z 2 50 0,.A 4 #[(.int .i64 0),(.string (mk [])),(.int .i64 0),(.int .i64 0),(.string (mk [])),(.slice none 0 0),(.bool false)] 47,.F 5] (.seq (.S [.c 6 0] (.block 0 (.loop (.seq (.S [.v 7 6,.f 8 1 2,.r 9 8,.m 10 9,.k 11 .lss 7 10] (.C 11 .skip (.exit 0))) (.seq (.block 1 (.S [.f 14 1 2,.r 15 14,.v 16 6,.x 17 7 15 16,.f 18 0 17,.r 19 18,.v 20 1,.k 21 .eql 19 20] (.I 21 (.R [.f 22 1 2,.r 23 22,.v 24 6,.x 25 7 23 24,.n 26 7 25,.w 7 4 26,.T 5])))) (.reg [.v 12 6,.h 13 .add 12 1,.v 6 13])))))) (.R [.q 27 (.bd [(.int .i64 0),(.string (mk [])),(.int .i64 0),(.int .i64 0),(.string (mk [])),(.slice none 0 0),(.bool false)] []),.w 7 4 27,.F 5]))
def aH3:List RV:=[.ld (.ldn 7 (.t 4)),.mv (.t 5)]
theorem a07:aU Tryz.prog true ⟨fun _ _=>.own [],fun _=>false⟩ Tryz.f105=some (aMK,aH3):=by kernel_rfl
def aIE:PC:=.S [.z 1 45 0,.F 2] (.R [.f 3 3 1,.r 4 3,.m 5 4,.h 6 .eql 5 0,.v 2 6])
def aI4:List RV:=[.mv (.t 2)]
theorem aZF:aU Tryz.prog true ⟨fun _ _=>.own [],fun _=>false⟩ Tryz.f140=some (aIE,aI4):=by kernel_rfl
def aIP:PC:=.S [.z 2 25 0,.F 4] (.S [.n 8 3 2,.v 9 1,.j 10 20 [rS,iR],.v 7 10,.y 11 7 0,.y 12 7 1,.A 5 #[(.string (mk [])),(.slice none 0 0)] 50,.w 2 5 11,.v 6 12] (.R [.v 13 6,.v 14 13,.Y 15 14 (.n 3 2),.Y 16 14 (.cq 19 [jR]),.Y 17 14 (.h .eql 16 0),.p 18 14 17,.v 4 18]))
def aM9:List RV:=[.mv (.t 4)]
theorem a2J:aU Tryz.prog true ⟨fun r k=>if r=2/\k=3 then .q else .own [],fun _=>false⟩ Tryz.f147=some (aIP,aM9):=by kernel_rfl
def aJ7:PC:=.S [.z 2 45 0,.z 3 45 1,.F 4] (.seq (.S [.f 6 0 2,.r 7 6,.f 8 0 3,.r 9 8,.k 10 .neq 7 9,.v 11 10,.N 12 11 (.f 1 2),.N 13 11 (.r 12),.N 14 11 (.f 1 3),.N 15 11 (.r 14),.N 16 11 (.k .neq 13 15),.o 17 11 16,.v 18 17,.N 19 18 (.f 2 2),.N 20 18 (.r 19),.N 21 18 (.f 2 3),.N 22 18 (.r 21),.N 23 18 (.k .neq 20 22),.o 24 18 23,.v 25 24,.N 26 25 (.f 3 2),.N 27 25 (.r 26),.N 28 25 (.m 27),.N 29 25 (.f 3 3),.N 30 25 (.r 29),.N 31 25 (.m 30),.N 32 25 (.k .neq 28 31),.o 33 25 32] (.I 33 (.R [.F 4]))) (.seq (.S [.c 5 0] (.block 0 (.loop (.seq (.S [.v 34 5,.f 35 3 2,.r 36 35,.m 37 36,.k 38 .lss 34 37] (.C 38 .skip (.exit 0))) (.seq (.block 1 (.S [.f 41 3 2,.r 42 41,.v 43 5,.x 44 4 42 43,.n 45 4 44,.f 46 3 3,.r 47 46,.v 48 5,.x 49 4 47 48,.n 50 4 49,.u 51 187 [(.t 45),oP],.t 52 51] (.I 52 (.R [.F 4])))) (.reg [.v 39 5,.h 40 .add 39 1,.v 5 40])))))) (.R [.T 4])))
def aIG:List RV:=[.mv (.t 4)]
theorem aZD:aU Tryz.prog true ⟨fun r k=>if r=6/\k=10 then .q else .own [],fun _=>false⟩ Tryz.f187=some (aJ7,aIG):=by kernel_rfl
def dY (c:Int):Bool:=(decide (97<=c)&&decide (c<=122))||(decide (65<=c)&&decide (c<=90))
def nI (c:Int):Bool:=decide (48<=c)&&decide (c<=57)
def oB (c:Int):Bool:=dY c||nI c||c==95
def aXG:List UInt8:=[123,125,40,41,91,93,58,59,44,61,46,63,33,38,124,64]
def HM (c:Int):Bool:=decide (c.toNat.toUInt8∈aXG)
def wT (c:Int):Int:=
 bif c==32||c==9||c==10 then 1 else bif c==35 then 2 else bif dY c then 3 else bif nI c then 4
 else bif c==45 then 5 else bif c==95 then 6 else bif c==34 then 7 else bif HM c then 8 else 0
theorem OS (l:List UInt8) (c:UInt8):decide (0<=Lib.indexByte l c)=decide (c∈l):=by
 rw[decide_eq_decide]
 induction l with
 |nil=>simp[Lib.indexByte]
 |cons b l ih=>
  have hge:=Lib.indexByte_ge l c
  rw[Lib.indexByte]
  by_cases hb:b=c
  · simp[hb]
  · have hb2:(b==c)=false:=by simpa using hb
    have hb3:¬ c=b:=fun e=>hb e.symm
    simp only[hb2,qQ,if_false,bU,hb3,false_or,<-ih]
    by_cases h:Lib.indexByte l c=-1
    · simp[h]
    · have h2:(Lib.indexByte l c==-1)=false:=by simpa using h
      simp only[h2,qQ,if_false];omega
def aMH:Bool->List UInt8->Nat
 |_,[]=>0
 |r,c::l=>
  let r':=bif c==35 then true else bif c==10 then false else r
  bif !r'&&!(c==32||c==9||c==10) then 0 else aMH r' l+1
def Y5 (l:List UInt8) (a:Nat):Nat:=a+aMH false (l.drop a)
inductive R where
 |ok (k:Int) (t:List UInt8) (n:Int) (z:Nat)
 |bad (e t:Int)
def dQ (c:UInt8):Bool:=oB c.toNat
def aUX (p:UInt8->Bool) (l:List UInt8) (a:Nat):Nat:=a+((l.drop a).takeWhile p).length
theorem aUF (c:UInt8):(wT c.toNat==3||wT c.toNat==4||wT c.toNat==6)=dQ c:=by
 have:=TX (p:=fun c=>(wT c.toNat==3||wT c.toNat==4||wT c.toNat==6)==dQ c) (by decide +kernel) c
 simpa using this
def a0T (l:List UInt8) (a:Nat):R:=
 let z:=aUX dQ l a
 bif decide (16<z-a) then .bad 3 a else bif l[z]?==some 45 then .bad 2 z else .ok 1 ((l.take z).drop a) 0 z
def aHW (c:UInt8):Bool:=nI c.toNat
def aTN (lim:Nat):Nat->List UInt8->Option Nat
 |n,[]=>some n
 |n,c::l=>if (lim-(c.toNat-48)) / 10<n then none else aTN lim (10*n+(c.toNat-48)) l
def a1A (neg:Bool):Nat:=bif neg then 9223372036854775808 else 9223372036854775807
def signed (neg:Bool) (n:Nat):Int:=bif neg then -n else n
def a6O (l:List UInt8) (i:Nat):Bool:=match l[i]? with|some c=>dQ c&&!aHW c||c==45|none=>false
def a89 (l:List UInt8) (a:Nat):R:=
 let neg:=l[a]?==some 45
 let f:=bif neg then a+1 else a
 let z:=aUX aHW l f
 let s:=(l.take z).drop f
 bif s==[]||(s[0]?==some 48&&(decide (1<s.length)||neg)) then .bad 2 a
 else match aTN (a1A neg) 0 s with
  |none=>.bad 4 a
  |some n=>bif a6O l z then .bad 2 z else .ok 2 [] (signed neg n) z
end Go.Proofs.YtblfcdllimkbhaaGreat
namespace Go.Proofs
open Go.Shelf
def Tryz.lays137_ren:Go.Shelf.Ren:=⟨fun|137=>166|217=>177|266=>189|n=>n,fun|9=>9|5=>5|3=>3|n=>n,fun|n=>n⟩
theorem Tryz.lays137:Go.Proofs.Lays.n137 Tryz.prog Tryz.lays137_ren:={
 mixed:=by kernel_rfl
 f137:=Tryz.func166.trans (congrArg some (by kernel_rfl))
 f217:=Tryz.func177.trans (congrArg some (by kernel_rfl))
 f266:=Tryz.func189.trans (congrArg some (by kernel_rfl))
 t3:=Tryz.underlying3
 a3:=Tryz.isAgg3
 z3:=Tryz.sizeOf3
 v3:=Tryz.zeroValue3
 t5:=Tryz.underlying5
 a5:=Tryz.isAgg5
 z5:=Tryz.sizeOf5
 v5:=Tryz.zeroValue5
 t9:=Tryz.underlying9
 a9:=Tryz.isAgg9
 z9:=Tryz.sizeOf9
 v9:=Tryz.zeroValue9 }
open Go.RowKit in
theorem Tryz.strings_IndexByte (s:ByteArray) (c:Int) (w:World) :
 Calls Tryz.prog 166 #[.string s,.int .u8 c] w fun e w'=>e=.returned (.int .i64 (Lib.indexByte s.data.toList c.toNat.toUInt8))/\w'=w:=Any.strings_IndexByte Tryz.lays137 s c w
end Go.Proofs
namespace Go.Proofs.YtblfcdllimkbhaaGreat
open Go.W
abbrev iA (k:IntKind) (n:Int):A:=.c1 (.vl (.int k n))
abbrev bA (b:Bool):A:=.c1 (.vl (.bool b))
abbrev tA (b:ByteArray):A:=.c1 (.vl (.string b))
def DL:List S->Prop:=fun xs=>match xs with
 |[.va (.c1 (.vl (.int .u8 c)))]=>0<=c/\c<=255
 |_=>False
theorem vF {xs:List S} (h:DL xs):∃c:Int,xs=[iS .u8 c]/\0<=c/\c<=255:=by
 unfold DL at h
 split at h
 · exact ⟨_,rfl,h⟩
 · exact h.elim
def U4 (f:Int->Value):List S->A:=fun xs=>match xs with
 |[.va (.c1 (.vl (.int .u8 c)))]=>.c1 (.vl (f c))
 |_=>.gs []
def TB (f:Int->Value):Fun:=⟨DL,U4 f,fun xs h=>by obtain ⟨c,rfl,_⟩:=vF h;trivial⟩
theorem Y9 {f:Int->Value}:∀xs H K,(TB f).sp xs H K->xs.length=1:=fun xs H K h=>by obtain ⟨c,rfl,_⟩:=vF h.1.1;rfl
attribute [go_sem] TB DL U4
def O3:List S->Prop:=fun xs=>match xs with|[.va (.c1 (.vl (.string _))),.va (.c1 (.vl (.int .u8 _)))]=>True|_=>False
def aLE:List S->A:=fun xs=>match xs with|[.va (.c1 (.vl (.string s))),.va (.c1 (.vl (.int .u8 c)))]=>iA .i64 (Lib.indexByte (bl s) c.toNat.toUInt8)|_=>.gs []
theorem JJ {xs:List S} (h:O3 xs):∃s c,xs=[tS s,iS .u8 c]:=by
 unfold O3 at h
 split at h
 · exact ⟨_,_,rfl⟩
 · exact h.elim
def fnIb:Fun:=⟨O3,aLE,fun xs h=>by obtain ⟨s,c,rfl⟩:=JJ h;trivial⟩
attribute [go_sem] fnIb O3 aLE
theorem mIb:Meets Tryz.prog 166 fnIb.sp:=by
 refine ⟨by kernel_rfl,?_⟩
 rintro xs vs E ro w K hl hrel hr ⟨⟨h,hE⟩,hK⟩ _
 obtain ⟨s,c,rfl⟩:=JJ h
 obtain ⟨v0,v1,rfl⟩:∃v0 v1,vs=[v0,v1]:=by
  match vs,hl with
  |[v0,v1],_=>exact ⟨v0,v1,rfl⟩
 have h0:v0=.string s:=hrel 0 _ _ rfl rfl
 have h1:v1=.int .u8 c:=hrel 1 _ _ rfl rfl
 subst h0 h1
 refine (Tryz.strings_IndexByte s c w).mono ?_
 rintro e w' ⟨rfl,rfl⟩
 exact ⟨iS .i64 _,_,E,ro,rfl,rfl,by rw[hE];exact hK,hr⟩
theorem aWK:Meets Tryz.prog 131 (TB fun c=>.int .i64 (wT c)).sp:=by
 refine aF Tryz.func131 a1U 1 (by rw[Tryz.ntmps131];decide) (aG mIb (aB _)) Y9 ?_
 rintro xs H K ⟨⟨h,rfl⟩,hK⟩
 obtain ⟨c,rfl,hc⟩:=vF h
 simp -dsimp (maxSteps:=9^6) only[go_sem,aI8,aJW] at hK ⊢
 have hw:IntKind.i32.wrap c=c:=AC (by simp[inr,IntKind.min,IntKind.max,IntKind.signed,IntKind.bits];omega)
 rw[hw]
 have hm:decide (0<=Lib.indexByte [123,125,40,41,91,93,58,59,44,61,46,63,33,38,124,64] c.toNat.toUInt8)=HM c:=OS _ _
 rw[hm]
 clear hm hw
 refine ⟨fun h1=>jG hK ?_,fun h1=>⟨fun h2=>jG hK ?_,fun h2=>⟨by simp;omega,fun h3=>jG hK ?_,fun h3=>⟨fun h4=>jG hK ?_,fun h4=>⟨fun h5=>jG hK ?_,fun h5=>⟨fun h6=>jG hK ?_,fun h6=>⟨fun h7=>jG hK ?_,fun h7=>⟨fun h8=>jG hK ?_,fun h8=>jG hK ?_⟩⟩⟩⟩⟩⟩⟩⟩
 all_goals simp only[wT,dY,nI, *,aQ,aI]
def aGO:Nat->List UInt8->List UInt8->Nat×Option (List UInt8)
 |i,[],_=>(i,none)
 |i,c::r,out=>
  bif decide (c<32)||decide (126<c) then (i,none)
  else bif c==34 then (i+1,some out)
  else bif c==92 then match r with
   |d::r'=>bif d==34||d==92 then aGO (i+2) r' (out++[d]) else (i,none)
   |[]=>(i,none)
  else aGO (i+1) r (out++[c])
def a26 (l:List UInt8) (a:Nat):R:=match aGO (a+1) (l.drop (a+1)) [] with
 | (i,none)=>.bad 2 i
 | (z,some out)=>bif decide (200<out.length) then .bad 3 a else .ok 3 out 0 z
def a67 (l:List UInt8) (p:Nat):R:=match l[p]? with
 |none=>.ok 0 [] 0 p
 |some c=>bif dY c.toNat then a0T l p else bif aHW c||c==45 then a89 l p else bif c==34 then a26 l p
  else bif HM c.toNat then .ok 4 [c] 0 (p+1) else .bad 2 p
theorem bAF (c:UInt8):(wT c.toNat==3)=dY c.toNat:=by
 have:=TX (p:=fun c=>(wT c.toNat==3)==dY c.toNat) (by decide +kernel) c
 simpa using this
structure Tk where
 k:Int
 x:List UInt8
 n:Int
 a:Nat
inductive SR where
 |ok (l:List Tk)
 |bad (e t:Int)
def SR.cons (t:Tk):SR->SR
 |.ok l=>.ok (t::l)
 |.bad e t=>.bad e t
def SR.app (acc:List Tk):SR->SR
 |.ok l=>.ok (acc++l)
 |.bad e t=>.bad e t
def aKS:Nat->List UInt8->Nat->SR
 |0,_,_=>.ok []
 |f+1,l,a=>match a67 l (Y5 l a) with
  |.bad e t=>.bad e t
  |.ok k x n z=>bif k==0 then .ok [⟨k,x,n,Y5 l a⟩] else SR.cons ⟨k,x,n,Y5 l a⟩ (aKS f l z)
def JO (l:List UInt8):SR:=bif decide (4000<l.length) then .bad 3 0 else aKS (l.length+1) l 0
def SR.toks:SR->List Tk
 |.ok l=>l
 |.bad _ _=>[]
def SR.err:SR->Int
 |.ok _=>0
 |.bad e _=>e
def SR.off:SR->Int
 |.ok _=>0
 |.bad _ t=>t
def eP (l:List UInt8):Bool:=match l with
 |[]=>false
 |c::_=>decide (l.length<=16)&&dY c.toNat&&l.all dQ
def JB:List S->Prop:=fun xs=>match xs with
 |[.va (.c1 (.vl (.string _)))]=>True
 |_=>False
theorem mA {xs:List S} (h:JB xs):∃s,xs=[tS s]:=by
 unfold JB at h
 split at h
 · exact ⟨_,rfl⟩
 · exact h.elim
def RA (f:List UInt8->Value):List S->A:=fun xs=>match xs with
 |[.va (.c1 (.vl (.string s)))]=>.c1 (.vl (f (bl s)))
 |_=>.gs []
def DQ (f:List UInt8->Value):Fun:=⟨JB,RA f,fun xs h=>by obtain ⟨s,rfl⟩:=mA h;trivial⟩
theorem wZ {f:List UInt8->Value}:∀xs H K,(DQ f).sp xs H K->xs.length=1:=fun xs H K h=>by obtain ⟨s,rfl⟩:=mA h.1.1;rfl
attribute [go_sem] DQ JB RA
theorem CT {l:List UInt8} (h:16<l.length):eP l=false:=by
 cases l with
 |nil=>rfl
 |cons c l=>
  simp only[eP]
  have:decide ((c::l).length<=16)=false:=by simp at h ⊢;omega
  rw[this];rfl
theorem HV {l:List UInt8} {c:UInt8} (h:l[0]? = some c) (hc:dY c.toNat=false):eP l=false:=by
 cases l with
 |nil=>rfl
 |cons d l=>simp at h;subst h;simp[eP,hc]
theorem WM {l:List UInt8} {i:Nat} {c:UInt8} (h:l[i]? = some c) (hc:dQ c=false):eP l=false:=by
 cases l with
 |nil=>rfl
 |cons d l=>
  have:(d::l).all dQ=false:=by rw[List.all_eq_false];exact ⟨c,cC h,by simp[hc]⟩
  simp only[eP,this,Bool.and_false]
theorem OQ {l:List UInt8} {c:UInt8} (h:l[0]? = some c) (hl:l.length<=16) (hc:dY c.toNat=true) (ha:∀(j:Nat) (x:UInt8),l[j]? = some x->dQ x=true):eP l=true:=by
 cases l with
 |nil=>simp at h
 |cons d l=>
  simp at h;subst h
  have h1:(d::l).all dQ=true:=by
   rw[List.all_eq_true];intro x hx
   obtain ⟨j,hj⟩:=eN.1 hx
   exact ha j x hj
  simp only[eP,h1,hc,Bool.and_true,fU];exact hl
theorem aN7 (c:UInt8):((wT c.toNat != 3)&&(wT c.toNat != 4)&&(wT c.toNat != 6))=!(dQ c):=by
 rw[<-aUF];simp[bne,Bool.not_or]
theorem KM:Meets Tryz.prog 81 (DQ fun l=>.bool (eP l)).sp:=by
 refine aF Tryz.func81 a6W 1 (by rw[Tryz.ntmps81];decide) (aG aWK (aB _)) wZ ?_
 rintro xs H K ⟨⟨h,rfl⟩,hK⟩
 obtain ⟨s,rfl⟩:=mA h
 have hn:∀c:UInt8,(wT c.toNat != 3)=!(dY c.toNat):=fun c=>by rw[bne,bAF]
 simp -dsimp only[go_sem,aW4,aV5,hn] at hK ⊢
 generalize hg:(bl s==[]||decide (16<((bl s).length:Int)))=g
 have hg1:g=false->0<(bl s).length/\(bl s).length<=16:=fun h=>by
  subst hg;simp at h
  exact ⟨List.length_pos_iff.2 h.1,by omega⟩
 have hg2:g=true->eP (bl s)=false:=fun h=>by
  subst hg;simp at h
  rcases h with h|h
  · rw[h];rfl
  · exact CT (by omega)
 refine ⟨fun h=>⟨by omega,by have:=hg1 h;omega⟩,fun c hc=>⟨fun h=>?_,fun h=>?_,fun h=>?_⟩⟩
 · have:=c.toNat_lt;omega
 · refine jG hK ?_
   cases g with
   |true=>rw[hg2 rfl]
   |false=>simp at h;rw[HV (hc rfl) h]
 simp at h
 obtain ⟨rfl,h3⟩:=h
 have hc:=hc rfl
 obtain ⟨hl0,hl⟩:=hg1 rfl
 refine aO (α:=Nat) (fun i=>[(0,tS s),(19,iS .i64 (bl s).length),(20,iS .i64 i)]) (fun i=>[]) (fun i=>i<=(bl s).length/\∀(j:Nat) (x:UInt8),j<i->(bl s)[j]? = some x->dQ x=true) (fun i=>(bl s).length-i) 0 0 ⟨by omega,by omega⟩ ?_ ?_ ?_
 · simp -dsimp only[go_sem];simp
 · simp[go_sem]
 rintro i ⟨hi,ha⟩
 simp -dsimp only[go_sem,aN7]
 have hlt:(bl s).length<2^64:=by omega
 refine ⟨fun h1=>⟨⟨by omega,by simpa using h1⟩,fun d hd=>⟨by have:=d.toNat_lt;omega,fun h2=>?_,fun h2=>⟨by omega,?_⟩⟩⟩,fun h1=>?_⟩
 · refine jG hK ?_
   rw[WM hd h2]
 · refine aC (i+1) 0 ⟨by have:=(bT.1 hd).1;omega,fun j x hj hx=>?_⟩ (by have:=(bT.1 hd).1;omega) ?_ ?_
   · rcases bB j i with h4|h4
     · exact ha j x h4 hx
     · obtain rfl:j=i:=by omega
       rw[hd] at hx;obtain rfl:=dV hx
       simpa[dQ] using h2
   · simp -dsimp only[go_sem];simp
   · simp[go_sem]
 · refine jG hK ?_
   have:i=(bl s).length:=by simp at h1;omega
   subst this
   rw[OQ hc hl h3 fun j x hx=>ha j x (bT.1 hx).1 hx]
theorem BG (l:List UInt8):bl (mk l)=l:=by simp[bl,mk]
end Go.Proofs.YtblfcdllimkbhaaGreat
namespace Go.W
section
variable {P:Program} {f:FuncId} {s:Spec}
def pubB (n:Nat) (s:Spec):Spec:=fun ar H K=>match H[n]? with
 |some (.row xs _ _)=>s (ar.map (S.pub n xs)) (cS n xs H) K
 |_=>False
def dropB (s:Spec):Spec:=fun ar H K=>s (ar.map fun a=>a.nf.ren (gN [])) [] fun r H'=>K (r.ren (back [] H.length)) (vN [] H (H'.map (B.ren (back [] H.length))))
theorem Rel.rebase {X:Ctx} {E:Es} {ro:RO} {w:World} (h:Rel X E ro w):Rel ⟨w,fL E,ro,gm E⟩ E ro w:=
 ⟨h.own,h.inj,h.apart,h.rd,Ext.refl _,fun _ _ _ h=>.inl h,fun n b g blk hn en hl=>.inr (iK.2 ⟨n,g,blk,hn,en,hl⟩),.refl _,bE _,fun _ _ _=>rfl,rfl,rfl,rfl⟩
theorem Rel.over {X:Ctx} {E E':Es} {ro ro':RO} {w w':World} (h:Rel X E ro w) (k:Rel ⟨w,fL E,ro,gm E⟩ E' ro' w'):Rel X E' ro' w' where
 own:=k.own
 inj:=k.inj
 apart:=k.apart
 rd:=k.rd
 ro0:=h.ro0.trans k.ro0
 rob:=fun b off v hc=>by
  rcases k.rob b off v hc with q|q|q
  · exact h.rob b off v q
  · simp only at q;have:=h.sz;exact .inr (.inl (by omega))
  · obtain ⟨n,g,blk,hE,hgb,hl⟩:=iK.1 q
    exact .inr (h.par n b g blk hE hgb hl)
 par:=fun n b g blk hn en hl=>by
  rcases k.par n b g blk hn en hl with q|q
  · simp only at q;have:=h.sz;exact .inl (by omega)
  · obtain ⟨n',g',blk',hE,hgb,hl'⟩:=iK.1 q
    exact h.par n' b g' blk' hE hgb hl'
 gx:=h.gx.trans k.gx
 sz:=dM h.sz k.sz
 keep:=fun b hb hp=>by
  rw[k.keep b (by have:=h.sz;simp only;omega) (fun hb'=>?_)]
  · exact h.keep b hb hp
  · obtain ⟨n,g,blk,hE,hgb,hl⟩:=iK.1 hb'
    rcases h.par n b g blk hE hgb hl with q|q
    · omega
    · exact hp q
 os:=k.os.trans h.os
 tape:=k.tape.trans h.tape
 output:=k.output.trans h.output
theorem Meets.pubB (h:Meets P f s) (n:Nat):Meets P f (pubB n s):=by
 refine ⟨h.1,fun ar vs E ro w K hl hrel hr hs hG=>?_⟩
 unfold W.pubB at hs
 split at hs
 · rename_i xs T sz hn
   obtain ⟨g,hE⟩:∃g,E[n]? = some (g,.row xs T sz):=by
    simp only[hp,b9] at hn
    cases hE:E[n]? with
    |none=>rw[hE] at hn;cases hn
    |some y=>rw[hE] at hn;simp at hn;exact ⟨y.1,by rw[<-hn]⟩
   obtain ⟨ro',hext,hfz,hglen,hr'⟩:=hr.pubR hE
   have hcall:=h.2 (ar.map (S.pub n xs)) vs (cX (B.pub n xs) (E.set n (g,.dead))) ro' w K (by simpa using hl) (fun i x v hx hv=>by
    rw[b9] at hx
    cases hi:ar[i]? with
    |none=>rw[hi] at hx;cases hx
    |some y=>
     rw[hi] at hx
     simp only[cQ,aM] at hx
     subst hx
     rw[jB,gE hE]
     exact S.rel_pub hext (dU hE) hglen hfz (hrel i y v hi hv)) hr'.rebase (by rw[lI,hp_kill];exact hs) (hG.mono hext)
   refine hcall.mono ?_
   rintro e w' ⟨r,v,E',ro2,rfl,hrv,hR,hrel'⟩
   exact ⟨r,v,E',ro2,rfl,hrv,hR,hr'.over hrel'⟩
 · exact hs.elim
theorem Meets.dropB (h:Meets P f s):Meets P f (dropB s):=by
 refine ⟨h.1,fun ar vs E ro w K hl hrel hr hs hG=>?_⟩
 unfold W.dropB at hs
 have hnd:([]:List Nat).Nodup:=.nil
 have hlt:∀n∈([]:List Nat),n<E.length:=fun n hn=>by cases hn
 have gxl:∀(n m:Nat) (g:Gb),gN [] n=some m->(gm E)[n]? = some g->(gm (cX (B.ren (gN [])) (fC E [])))[m]? = some g:=fun n m g h1 h2=>by rw[jB];exact C5 n m g h1 h2
 have hloc:Rel ⟨w,fL (cX (B.ren (gN [])) (fC E [])),ro,gm (cX (B.ren (gN [])) (fC E []))⟩ (cX (B.ren (gN [])) (fC E [])) ro w:=by
  have h0:Rel ⟨w,fL E,ro,[]⟩ E ro w:=⟨hr.own,hr.inj,hr.apart,hr.rd,Ext.refl _,fun _ _ _ h=>.inl h,fun n b g blk hn en hl=>.inr (iK.2 ⟨n,g,blk,hn,en,hl⟩),fun n g hn=>by simp at hn,bE _,fun _ _ _=>rfl,rfl,rfl,rfl⟩
  exact (h0.sel hnd hlt (fun n g hn=>by simp at hn)).here
 have hcall:=h.2 (ar.map fun s=>s.nf.ren (gN [])) vs (cX (B.ren (gN [])) (fC E [])) ro w _ (by simpa using hl) (fun i x v hx hv=>by
  rw[b9] at hx
  cases hi:ar[i]? with
  |none=>rw[hi] at hx;cases hx
  |some y=>
   rw[hi] at hx
   simp only[cQ,aM] at hx
   subst hx
   exact S.rel_ren gxl (S.rel_nf (hrel i y v hi hv))) hloc (by rw[lI,E0];exact hs) hG
 refine hcall.mono ?_
 rintro e w' ⟨r,v,E',ro',rfl,hrv,hR,hrel'⟩
 obtain ⟨q1,q2,q3⟩:=hr.back hnd hlt rfl hrel'
 refine ⟨_,v,_,ro',rfl,S.rel_ren q3 hrv,?_,q1⟩
 rw[G5,lI]
 rw[fX] at hR
 exact hR
def lend1 (s:Spec):Spec:=pubB 0 (dropB s)
theorem Meets.lend1 (h:Meets P f s):Meets P f (lend1 s):=h.dropB.pubB 0
def lend2 (s:Spec):Spec:=pubB 0 (pubB 1 (dropB s))
theorem Meets.lend2 (h:Meets P f s):Meets P f (lend2 s):=(h.dropB.pubB 1).pubB 0
attribute [go_sem ↓] pubB dropB lend1 lend2
end
end Go.W
namespace Go.Proofs.YtblfcdllimkbhaaGreat
open Go.W
theorem xZ {α:Type} {row:α->List C} {l:List α} {n:Nat} {c:α} (h:l[n]? = some c) (p:List C->Prop):(∀r,(l.map row)[n]? = some r->p r)=p (row c):=by
 rw[b9,h];simp
theorem aS {α:Type} {row:α->List C} {l:List α} {n:Nat} {c:α} (h:l[n]? = some c) (p:List C->Prop):(∀r,(l.map row)[((n:Nat):Int).toNat]? = some r->p r)=p (row c):=by
 rw[cP,b9,h];simp
theorem kN {α:Type} {row:α->List C} {n:Nat} (h:∀a,(row a).length=n) (l:List α):(∀r:List C,r∈l.map row->r.length=n)=True:=eq_true fun r hr=>by obtain ⟨x,_,rfl⟩:=dO.1 hr;exact h x
inductive Ty where
 |mk (k s:Int) (n:ByteArray) (e:List Ty)
instance:Inhabited Ty:=⟨.mk 0 0 ByteArray.empty []⟩
def Ty.k:Ty->Int | .mk k _ _ _=>k
def Ty.s:Ty->Int | .mk _ s _ _=>s
def Ty.n:Ty->ByteArray | .mk _ _ n _=>n
def Ty.e:Ty->List Ty | .mk _ _ _ e=>e
mutual
def aK:Ty->List C
 |.mk k s n e=>[.vl (.int .i64 k),.vl (.int .i64 s),.vl (.string n),.fz (s5 e)]
def s5:List Ty->List (List C)
 |[]=>[]
 |t::r=>aK t::s5 r
end
theorem aR:∀l:List Ty,s5 l=l.map aK
 |[]=>rfl
 |t::r=>by rw[s5,aR r];rfl
theorem aY (t:Ty):aK t=[.vl (.int .i64 t.k),.vl (.int .i64 t.s),.vl (.string t.n),.fz (t.e.map aK)]:=by
 cases t with
 |mk k s n e=>rw[aK,aR];rfl
mutual
theorem EH:∀{a b:Ty},aK a=aK b->a=b
 |.mk k s n e,.mk k' s' n' e',h=>by
  rw[aK,aK] at h
  simp only[List.cons.injEq,C.vl.injEq,Value.int.injEq,Value.string.injEq,C.fz.injEq,true_and,and_true] at h
  obtain ⟨rfl,rfl,rfl,h4⟩:=h
  rw[TN h4]
theorem TN:∀{a b:List Ty},s5 a=s5 b->a=b
 |[],[],_=>rfl
 |[],_::_,h=>by rw[s5,s5] at h;cases h
 |_::_,[],h=>by rw[s5,s5] at h;cases h
 |x::a,y::b,h=>by
  rw[s5,s5] at h
  obtain ⟨h1,h2⟩:=List.cons.inj h
  rw[EH h1,TN h2]
end
mutual
def Ty.h:Ty->Nat
 |.mk _ _ _ e=>Ty.hs e+1
def Ty.hs:List Ty->Nat
 |[]=>0
 |t::r=>max t.h (Ty.hs r)
end
theorem Ty.hs_mem:∀{l:List Ty} {t:Ty},t∈l->t.h<=Ty.hs l
 |x::l,t,h=>by
  rw[Ty.hs]
  rcases bU.1 h with rfl|h
  · omega
  · have:=Ty.hs_mem h;omega
theorem Ty.h_e {t u:Ty} (h:u∈t.e):u.h<t.h:=by
 cases t with
 |mk k s n e=>have:=Ty.hs_mem (show u∈e from h);rw[Ty.h];omega
structure Fl where
 num:Int
 nm:ByteArray
 ty:Ty
 opt:Bool
instance:Inhabited Fl:=⟨⟨0,ByteArray.empty,default,false⟩⟩
def aN (f:Fl):List C:=[.vl (.int .i64 f.num),.vl (.string f.nm),.vl (.int .i64 f.ty.k),.vl (.int .i64 f.ty.s),.vl (.string f.ty.n),.fz (f.ty.e.map aK),.vl (.bool f.opt)]
structure St where
 nm:ByteArray
 fs:List Fl
instance:Inhabited St:=⟨⟨ByteArray.empty,[]⟩⟩
def aD (s:St):List C:=[.vl (.string s.nm),.fz (s.fs.map aN)]
abbrev cV (n:Int):List C:=[.vl (.int .i64 n)]
abbrev bH (b:ByteArray):List C:=[.vl (.string b)]
structure En where
 nm:ByteArray
 ns:List ByteArray
 vs:List Int
instance:Inhabited En:=⟨⟨ByteArray.empty,[],[]⟩⟩
def aV (e:En):List C:=[.vl (.string e.nm),.fz (e.ns.map bH),.fz (e.vs.map cV)]
structure Sc where
 ver:Int
 es:List En
 ss:List St
instance:Inhabited Sc:=⟨⟨0,[],[]⟩⟩
def aA (s:Sc):List C:=[.vl (.int .i64 s.ver),.fz (s.es.map aV),.fz (s.ss.map aD)]
theorem uP {α β:Type} {f:α->β} (hf:∀{a b},f a=f b->a=b):∀{l m:List α},l.map f=m.map f->l=m
 |[],[],_=>rfl
 |[],_::_,h=>by cases h
 |_::_,[],h=>by cases h
 |x::l,y::m,h=>by
  simp only[gC,List.cons.injEq] at h
  rw[hf h.1,uP hf h.2]
theorem LD {a b:Int} (h:cV a=cV b):a=b:=by simpa using h
theorem K9 {a b:ByteArray} (h:bH a=bH b):a=b:=by simpa using h
theorem LY {a b:Fl} (h:aN a=aN b):a=b:=by
 obtain ⟨a1,a2,a3,a4⟩:=a
 obtain ⟨b1,b2,b3,b4⟩:=b
 simp only[aN,List.cons.injEq,C.vl.injEq,Value.int.injEq,Value.string.injEq,Value.bool.injEq,C.fz.injEq,true_and,and_true] at h
 obtain ⟨rfl,rfl,h3,h4,h5,h6,rfl⟩:=h
 have:a3=b3:=EH (by rw[aY,aY,h3,h4,h5,h6])
 rw[this]
theorem EG {a b:St} (h:aD a=aD b):a=b:=by
 obtain ⟨a1,a2⟩:=a
 obtain ⟨b1,b2⟩:=b
 simp only[aD,List.cons.injEq,C.vl.injEq,Value.string.injEq,C.fz.injEq,and_true] at h
 obtain ⟨rfl,h2⟩:=h
 rw[uP LY h2]
theorem LV {a b:En} (h:aV a=aV b):a=b:=by
 obtain ⟨a1,a2,a3⟩:=a
 obtain ⟨b1,b2,b3⟩:=b
 simp only[aV,List.cons.injEq,C.vl.injEq,Value.string.injEq,C.fz.injEq,and_true] at h
 obtain ⟨rfl,h2,h3⟩:=h
 rw[uP K9 h2,uP LD h3]
theorem aOM {a b:Sc} (h:aA a=aA b):a=b:=by
 obtain ⟨a1,a2,a3⟩:=a
 obtain ⟨b1,b2,b3⟩:=b
 simp only[aA,List.cons.injEq,C.vl.injEq,Value.int.injEq,C.fz.injEq,true_and,and_true] at h
 obtain ⟨rfl,h2,h3⟩:=h
 rw[uP LV h2,uP EG h3]
noncomputable def xP {α β:Type} [Inhabited α] (f:α->β) (b:β):α:=Classical.epsilon fun a=>f a=b
theorem mZ {α β:Type} [Inhabited α] {f:α->β} (hf:∀{a b},f a=f b->a=b) (a:α):xP f (f a)=a:=hf (Classical.epsilon_spec (p:=fun x=>f x=f a) ⟨a,rfl⟩)
theorem rM {α β:Type} [Inhabited α] {f:α->β} (hf:∀{a b},f a=f b->a=b) (l:List α):(l.map f).map (xP f)=l:=by
 rw[fK,show (xP f ∘ f)=id from funext fun a=>mZ hf a,List.map_id]
noncomputable def C.ty:=xP aK
noncomputable def C.fl:=xP aN
noncomputable def C.st:=xP aD
noncomputable def C.en:=xP aV
noncomputable def C.sc:=xP aA
noncomputable def C.bs:=xP bH
noncomputable def C.it:=xP cV
@[go_sem] theorem eF (t:Ty):C.ty (aK t)=t:=mZ EH t
@[go_sem] theorem bCL (t:Fl):C.fl (aN t)=t:=mZ LY t
@[go_sem] theorem HY (t:St):C.st (aD t)=t:=mZ EG t
@[go_sem] theorem aA6 (t:En):C.en (aV t)=t:=mZ LV t
@[go_sem] theorem cT (t:Sc):C.sc (aA t)=t:=mZ aOM t
@[go_sem] theorem bCV (t:ByteArray):C.bs (bH t)=t:=mZ K9 t
@[go_sem] theorem bEF (t:Int):C.it (cV t)=t:=mZ LD t
@[go_sem] theorem aAX (l:List Ty):(l.map aK).map C.ty=l:=rM EH l
@[go_sem] theorem bC0 (l:List Fl):(l.map aN).map C.fl=l:=rM LY l
@[go_sem] theorem bDF (l:List St):(l.map aD).map C.st=l:=rM EG l
@[go_sem] theorem bDC (l:List En):(l.map aV).map C.en=l:=rM LV l
@[go_sem] theorem aCQ (l:List ByteArray):(l.map bH).map C.bs=l:=rM K9 l
@[go_sem] theorem yA (l:List Int):(l.map cV).map C.it=l:=rM LD l
theorem dR (t:Ty):(aK t).length=4:=by rw[aY];rfl
theorem W9 (t:Fl):(aN t).length=7:=rfl
theorem aN4 (t:St):(aD t).length=2:=rfl
theorem aPM (t:En):(aV t).length=3:=rfl
theorem mY {a b:ByteArray} (h:bl a=bl b):a=b:=by rw[<-qC a,<-qC b,h]
theorem cK (a b:ByteArray):(bl a==bl b)=decide (a=b):=by
 rw[fH,beq_iff_eq,fU]
 exact ⟨mY,fun h=>by rw[h]⟩
def cB (n:Int):Prop:=-9223372036854775808<=n/\n<=9223372036854775807
inductive TyOk:Ty->Prop
 |mk {k s:Int} {n:ByteArray} {e:List Ty}:cB k->cB s->n.size<=9223372036854775807->e.length<=9223372036854775807->(∀t∈e,TyOk t)->TyOk (.mk k s n e)
theorem TyOk.len {t:Ty} (h:TyOk t):t.e.length<=9223372036854775807:=by cases h;assumption
theorem TyOk.k {t:Ty} (h:TyOk t):cB t.k:=by cases h;assumption
theorem TyOk.s {t:Ty} (h:TyOk t):cB t.s:=by cases h;assumption
theorem TyOk.n {t:Ty} (h:TyOk t):t.n.size<=9223372036854775807:=by cases h;assumption
theorem TyOk.e {t:Ty} (h:TyOk t):∀u∈t.e,TyOk u:=by cases h;assumption
structure Fl.ok (f:Fl):Prop where
 num:cB f.num
 nm:f.nm.size<=9223372036854775807
 ty:TyOk f.ty
structure St.ok (s:St):Prop where
 nm:s.nm.size<=9223372036854775807
 len:s.fs.length<=9223372036854775807
 fs:∀f∈s.fs,f.ok
structure En.ok (e:En):Prop where
 nm:e.nm.size<=9223372036854775807
 ln:e.ns.length<=9223372036854775807
 lv:e.vs.length<=9223372036854775807
 ns:∀n∈e.ns,n.size<=9223372036854775807
 vs:∀n∈e.vs,cB n
structure Sc.ok (s:Sc):Prop where
 ver:cB s.ver
 le:s.es.length<=9223372036854775807
 ls:s.ss.length<=9223372036854775807
 es:∀e∈s.es,e.ok
 ss:∀t∈s.ss,t.ok
def dG (r:List C):Prop:=∃t,r=aK t/\TyOk t
def aHQ (r:List C):Prop:=∃s:St,r=aD s/\s.ok
def TH (r:List C):Prop:=∃e:En,r=aV e/\e.ok
def rH (r:List C):Prop:=∃s:Sc,r=aA s/\s.ok
theorem bM {t:Ty} (h:TyOk t):dG (aK t):=⟨t,rfl,h⟩
theorem aNY {t:St} (h:t.ok):aHQ (aD t):=⟨t,rfl,h⟩
theorem V6 {t:En} (h:t.ok):TH (aV t):=⟨t,rfl,h⟩
theorem yI {t:Sc} (h:t.ok):rH (aA t):=⟨t,rfl,h⟩
def QT (p:List C->Prop):List S->Prop:=fun av=>match av with
 |[.va (.gs r)]=>p r
 |_=>False
theorem fR {p:List C->Prop} {av:List S} (h:QT p av):∃r,av=[.va (.gs r)]/\p r:=by
 unfold QT at h
 split at h
 · exact ⟨_,rfl,h⟩
 · exact h.elim
def aYA {α:Type} (d:List C->α) (f:α->A):List S->A:=fun av=>match av with
 |[.va (.gs r)]=>f (d r)
 |_=>.gs []
attribute [go_sem] QT aYA
def wO (l:List UInt8):Bool:=eP l&&match l with|c::_=>decide (65<=(c.toNat:Int))&&decide ((c.toNat:Int)<=90)|[]=>false
theorem N0:Meets Tryz.prog 40 (DQ fun l=>.bool (wO l)).sp:=by
 refine aF Tryz.func40 a5R 1 (by rw[Tryz.ntmps40];decide) (aG KM (aB _)) wZ ?_
 rintro xs H K ⟨⟨h,rfl⟩,hK⟩
 obtain ⟨s,rfl⟩:=mA h
 have hK':K (.va (.c1 (.vl (.bool (wO (bl s)))))) []:=hK
 clear hK h
 unfold wO at hK'
 cases hn:eP (bl s) with
 |false=>
  rw[hn] at hK'
  simp -dsimp only[go_sem,aHD,aHO,hn]
  exact .done hK'
 |true=>
  cases hl:bl s with
  |nil=>rw[hl] at hn;cases hn
  |cons c r=>
   rw[hl] at hn hK'
   rw[hn] at hK'
   simp -dsimp only[go_sem,aHD,aHO,hl,hn]
   refine ⟨by omega,fun d hd=>⟨fun _=>by omega,fun e he=>?_⟩⟩
   subst hd
   cases hc:decide (65<=(c.toNat:Int)) with
   |false=>simp only[hc,bF,bL] at hK';exact .done hK'
   |true=>
    obtain rfl:=he hc
    simp only[hc,bF] at hK';exact .done hK'
def xH (rs:List (List C)):Prop:=∃l:List ByteArray,rs=l.map bH/\l.length<=9223372036854775807
theorem rJ {l:List ByteArray} (h:l.length<=9223372036854775807):xH (l.map bH):=⟨l,rfl,h⟩
def PM:List S->Prop:=fun av=>match av with
 |[.va (.c1 (.fz rs)),.va (.c1 (.vl (.string _)))]=>xH rs
 |_=>False
theorem p6 {av:List S} (h:PM av):∃(l:List ByteArray) (x:ByteArray),av=[.va (.c1 (.fz (l.map bH))),tS x]/\l.length<=9223372036854775807:=by
 unfold PM at h
 split at h
 · obtain ⟨l,rfl,h⟩:=h;exact ⟨l,_,rfl,h⟩
 · exact h.elim
noncomputable def aM7 (f:List ByteArray->ByteArray->Value):List S->A:=fun av=>match av with
 |[.va (.c1 (.fz rs)),.va (.c1 (.vl (.string x)))]=>.c1 (.vl (f (rs.map C.bs) x))
 |_=>.gs []
noncomputable def CI (f:List ByteArray->ByteArray->Value):Fun:=⟨PM,aM7 f,fun av h=>by obtain ⟨l,x,rfl,_⟩:=p6 h;trivial⟩
theorem G9 {f}:∀av H K,(CI f).sp av H K->av.length=2:=fun av H K h=>by obtain ⟨l,x,rfl,_⟩:=p6 h.1.1;rfl
attribute [go_sem] CI PM aM7
def yL:List ByteArray->ByteArray->Nat->Int
 |[],_,_=>-1
 |y::l,x,i=>bif decide (x=y) then (i:Int) else yL l x (i+1)
def bJ (l:List ByteArray) (x:ByteArray):Bool:=l.any fun y=>decide (x=y)
theorem m6 (l:List ByteArray) (x:ByteArray):bJ l x=true ↔ x∈l:=by
 unfold bJ;rw[iY]
 exact ⟨fun ⟨y,hy,h⟩=>by rw[iO h];exact hy,fun h=>⟨x,h,by simp⟩⟩
theorem WI:∀(l:List ByteArray) (x:ByteArray) (i:Nat),decide (0<=yL l x i)=bJ l x
 |[],_,_=>by simp[yL,bJ]
 |y::l,x,i=>by
  simp only[yL]
  by_cases h:x=y
  · simp[h,bJ]
  · have:=WI l x (i+1)
    simp[h,bJ] at this ⊢;exact this
theorem aQA:Meets Tryz.prog 118 (CI fun l x=>.int .i64 (yL l x 0)).sp:=by
 refine aF Tryz.func118 a04 2 (by rw[Tryz.ntmps118];decide) (aB _) G9 ?_
 rintro av H K ⟨⟨h,rfl⟩,hK⟩
 obtain ⟨l,x,rfl,hl⟩:=p6 h
 have hK:K (iS .i64 (yL l x 0)) []:=by
  have:(CI fun l x=>.int .i64 (yL l x 0)).val [.va (.c1 (.fz (l.map bH))),tS x]=iA .i64 (yL l x 0):=by simp -dsimp only[go_sem]
  rw[this] at hK;exact hK
 simp -dsimp only[go_sem,aIX,aLT]
 refine aO (α:=Nat) (fun i=>[(0,.va (.c1 (.fz (l.map bH)))),(1,tS x),(7,iS .i64 l.length),(8,iS .i64 i)]) (fun _=>[])
  (fun i=>i<=l.length/\yL (l.drop i) x i=yL l x 0) (fun i=>l.length-i) 0 0 ⟨aP _,rfl⟩ ?_ ?_ ?_
 · simp[go_sem]
 · simp[go_sem]
 rintro i ⟨hi,ho⟩
 rcases bB i l.length with hlt|hge
 · have hg:decide ((i:Int)<(l.length:Int))=true:=by simp;omega
   have hx:l[i]? = some l[i]:=aX hlt
   have q1:=xZ (row:=bH) hx
   have q2:=aS (row:=bH) hx
   rw[cG hlt] at ho
   simp only[yL] at ho
   generalize l[i]=y at *
   cases hc:decide (x=y) with
   |true=>
    rw[hc,aQ] at ho
    simp -dsimp only[go_sem,hg,↓q2,hc,cK]
    and_intros
    all_goals first
     |omega
     |exact .done (by rw[ho];exact hK)
   |false=>
    rw[hc,aI] at ho
    simp -dsimp only[go_sem,hg,↓q2,hc,cK]
    and_intros
    all_goals first
     |omega
     |skip
    refine aC (i+1) 0 ⟨by omega,ho⟩ (by omega) ?_ ?_
    · simp[go_sem]
    · simp[go_sem]
 · have hg:decide ((i:Int)<(l.length:Int))=false:=by simp;omega
   have:l.drop i=[]:=List.drop_eq_nil_iff.2 (by omega)
   rw[this] at ho
   simp -dsimp only[go_sem,hg]
   exact .done (by rw[show (-1:Int)=yL l x 0 from ho];exact hK)
theorem A4:Meets Tryz.prog 73 (CI fun l x=>.bool (bJ l x)).sp:=by
 refine aF Tryz.func73 a7K 2 (by rw[Tryz.ntmps73];decide) (aG aQA (aB _)) G9 ?_
 rintro av H K ⟨⟨h,rfl⟩,hK⟩
 obtain ⟨l,x,rfl,hl⟩:=p6 h
 have hK:K (bS (bJ l x)) []:=by
  have:(CI fun l x=>.bool (bJ l x)).val [.va (.c1 (.fz (l.map bH))),tS x]=bA (bJ l x):=by simp -dsimp only[go_sem]
  rw[this] at hK;exact hK
 simp -dsimp only[go_sem,aUD,aYN,rJ hl,WI]
 exact .done hK
theorem kG {α:Type} (row:α->List C) (l:List α) (n:Nat):(l.map row).take n=(l.take n).map row:=zH.symm
theorem u9 {α:Type} (l:List α) (n:Nat):(l.take n).length<=l.length:=by rw[eJ];omega
theorem rE (b:ByteArray):(bH b).length=1:=rfl
noncomputable def uV {α:Type} (p:List C->Prop) (d:List C->α) (f:α->Value):Fun:=⟨QT p,aYA d fun a=>.c1 (.vl (f a)),fun av h=>by obtain ⟨r,rfl,_⟩:=fR h;trivial⟩
theorem pE {α:Type} {p:List C->Prop} {d:List C->α} {f:α->Value}:∀av H K,(uV p d f).sp av H K->av.length=1:=fun av H K h=>by obtain ⟨r,rfl,_⟩:=fR h.1.1;rfl
attribute [go_sem] uV
theorem eO {α:Type} {l:List α} {i:Nat} {x:α} (hx:l[i]? = some x) (p:α->Bool):(l.drop i).any p=(p x||(l.drop (i+1)).any p):=by
 obtain ⟨h,rfl⟩:=bT.1 hx
 rw[cG h,sZ]
theorem g8 {α:Type} {l:List α} (p:α->Bool):(l.drop l.length).any p=false:=by rw[dT];rfl
def c9 (s:Sc):Bool:=decide (16<s.es.length)||decide (16<s.es.length+s.ss.length)||s.es.any (fun e=>decide (16<e.ns.length))||s.ss.any (fun t=>decide (16<t.fs.length))
theorem aSM:Meets Tryz.prog 39 (uV rH C.sc fun s=>.bool (c9 s)).sp:=by
 refine aF Tryz.func39 a85 1 (by rw[Tryz.ntmps39];decide) (aB _) pE ?_
 rintro av H K ⟨⟨h,rfl⟩,hK⟩
 obtain ⟨_,rfl,s,rfl,hs⟩:=fR h
 have hK:K (bS (c9 s)) []:=by
  have:(uV rH C.sc fun s=>.bool (c9 s)).val [.va (.gs (aA s))]=bA (c9 s):=by simp -dsimp only[go_sem]
  rw[this] at hK;exact hK
 obtain ⟨hv,hle,hls,hes,hss⟩:=hs
 simp -dsimp only[go_sem,aA,aXQ,aXM]
 refine ⟨fun _=>by omega,fun h1=>?_,fun h1=>?_⟩
 · have:c9 s=true:=by
    simp only[fB,fU] at h1
    unfold c9
    rcases h1 with h1|h1
    · simp[show 16<s.es.length by omega]
    · simp[show 16<s.es.length+s.ss.length by omega]
   rw[this] at hK
   exact .z ((by simpa[go_sem] using hK))
 simp only[cY,qF] at h1
 have hL:c9 s=(s.es.any (fun e=>decide (16<e.ns.length))||s.ss.any (fun t=>decide (16<t.fs.length))):=by
  unfold c9;rw[dP (by omega),dP (by omega)];rfl
 refine aO (α:=Nat) (fun i=>[(1,.va (.c1 (.pt 0 0))),(22,.va (.c1 (.fz (s.es.map aV)))),(23,iS .i64 s.es.length),(24,iS .i64 i)]) (fun _=>[.cells (aA s) 25])
  (fun i=>i<=s.es.length/\(s.es.drop i).any (fun e=>decide (16<e.ns.length))=s.es.any (fun e=>decide (16<e.ns.length))) (fun i=>s.es.length-i) 0 1 ⟨aP _,rfl⟩ ?_ ?_ ?_
 · simp[go_sem]
 · simp[go_sem,aA]
 rintro i ⟨hi,ho⟩
 rcases bB i s.es.length with hlt|hge
 · have hg:decide ((i:Int)<(s.es.length:Int))=true:=by simp;omega
   obtain ⟨e,hx⟩:∃e,s.es[i]? = some e:=⟨_,aX hlt⟩
   have q2:=aS (row:=aV) hx
   rw[eO hx] at ho
   simp -dsimp only[go_sem,hg,↓q2,aV,aA]
   and_intros
   all_goals first
    |omega
    |skip
   · intro hc
     have hc':decide (16<e.ns.length)=true:=by simp at hc;simp;omega
     have:c9 s=true:=by simp only[hL,<-ho,hc',cR]
     rw[this] at hK
     exact .z ((by simpa[go_sem] using hK))
   · intro hc
     refine ⟨by omega,aC (i+1) 1 ⟨by omega,?_⟩ (by omega) ?_ ?_⟩
     · have hc':decide (16<e.ns.length)=false:=by simp at hc;simp;omega
       rw[<-ho,hc',bK]
     · simp[go_sem]
     · simp[go_sem,aA]
 · have hg:decide ((i:Int)<(s.es.length:Int))=false:=by simp;omega
   obtain rfl:i=s.es.length:=by omega
   rw[g8] at ho
   rw[<-ho,bK] at hL
   simp -dsimp only[go_sem,hg,aA]
   refine aO (α:=Nat) (fun i=>[(1,.va (.c1 (.pt 0 0))),(34,.va (.c1 (.fz (s.ss.map aD)))),(35,iS .i64 s.ss.length),(36,iS .i64 i)]) (fun _=>[.cells (aA s) 25])
    (fun i=>i<=s.ss.length/\(s.ss.drop i).any (fun e=>decide (16<e.fs.length))=s.ss.any (fun e=>decide (16<e.fs.length))) (fun i=>s.ss.length-i) 0 1 ⟨aP _,rfl⟩ ?_ ?_ ?_
   · simp[go_sem]
   · simp[go_sem,aA]
   clear hi ho hge hg
   rintro i ⟨hi,ho⟩
   rcases bB i s.ss.length with hlt|hge
   · have hg:decide ((i:Int)<(s.ss.length:Int))=true:=by simp;omega
     obtain ⟨e,hx⟩:∃e,s.ss[i]? = some e:=⟨_,aX hlt⟩
     have q2:=aS (row:=aD) hx
     rw[eO hx] at ho
     simp -dsimp only[go_sem,hg,↓q2,aD,aA]
     and_intros
     all_goals first
      |omega
      |skip
     · intro hc
       have hc':decide (16<e.fs.length)=true:=by simp at hc;simp;omega
       have:c9 s=true:=by simp only[hL,<-ho,hc',cR]
       rw[this] at hK
       exact .z ((by simpa[go_sem] using hK))
     · intro hc
       refine ⟨by omega,aC (i+1) 1 ⟨by omega,?_⟩ (by omega) ?_ ?_⟩
       · have hc':decide (16<e.fs.length)=false:=by simp at hc;simp;omega
         rw[<-ho,hc',bK]
       · simp[go_sem]
       · simp[go_sem,aA]
   · have hg:decide ((i:Int)<(s.ss.length:Int))=false:=by simp;omega
     obtain rfl:i=s.ss.length:=by omega
     rw[g8] at ho
     simp -dsimp only[go_sem,hg,aA]
     rw[hL,<-ho] at hK
     exact .z ((by simpa[go_sem] using hK))
def fE (f:Nat->Int):Nat->Nat->Int
 |0,_=>0
 |n+1,i=>bif f i==0 then fE f n (i+1) else f i
theorem V4 {f:Nat->Int} {m i:Nat} (h:i<m):fE f (m-i) i=bif f i==0 then fE f (m-(i+1)) (i+1) else f i:=by
 obtain ⟨k,rfl⟩:∃k,m=i+k+1:=⟨m-i-1,by omega⟩
 rw[show i+k+1-i=k+1 by omega,show i+k+1-(i+1)=k by omega];rfl
theorem tI {f:Nat->Int} {m i:Nat} (h:i<m) (h0:f i=0):fE f (m-i) i=fE f (m-(i+1)) (i+1):=by rw[V4 h,h0];rfl
theorem qB {f:Nat->Int} {m i:Nat} (h:i<m) (h0:f i≠0):fE f (m-i) i=f i:=by
 rw[V4 h,beq_eq_false_iff_ne.2 h0];rfl
theorem sS (f:Nat->Int) (m:Nat):fE f (m-m) m=0:=by rw[Nat.sub_self];rfl
def iI (e:En) (k:Nat):Int:=match e.ns[k]?,e.vs[k]? with
 |some nm,some n=>bif !(eP (bl nm)) then 5 else bif bJ (e.ns.take k) nm then 7 else bif decide (n<0)||decide (127<n) then 4 else
  bif (decide ((k:Int)=0)&&decide (n≠0))||(decide (0<(k:Int))&&match e.vs[k-1]? with|some m=>decide (n<=m)|none=>false) then 2 else 0
 |_,_=>0
def pW (e:En):Int:=bif decide (e.ns.length=0)||decide (e.ns.length≠e.vs.length) then 2 else fE (iI e) e.ns.length 0
theorem X4:Meets Tryz.prog 41 (uV TH C.en fun e=>.int .i64 (pW e)).sp:=by
 refine aF Tryz.func41 a6J 1 (by rw[Tryz.ntmps41];decide) (aG KM (aG A4 (aB _))) pE ?_
 rintro av H K ⟨⟨h,rfl⟩,hK⟩
 obtain ⟨_,rfl,e,rfl,he⟩:=fR h
 have hK:K (iS .i64 (pW e)) []:=by
  have:(uV TH C.en fun e=>.int .i64 (pW e)).val [.va (.gs (aV e))]=iA .i64 (pW e):=by simp -dsimp only[go_sem]
  rw[this] at hK;exact hK
 clear h
 obtain ⟨_,hln,hlv,_,_⟩:=he
 simp -dsimp only[go_sem,aV,aTD,aVL]
 refine ⟨fun h1=>?_,fun h1=>?_⟩
 · have:pW e=2:=by
    unfold pW
    have:(decide (e.ns.length=0)||decide (e.ns.length≠e.vs.length))=true:=by
     simp only[fB,beq_iff_eq,bne_iff_ne,fU] at h1 ⊢;omega
    rw[this];rfl
   rw[this] at hK
   exact .z ((by simpa[go_sem] using hK))
 simp only[cY,beq_eq_false_iff_ne,bne_eq_false_iff_eq,ne_eq] at h1
 have hl:e.ns.length=e.vs.length:=by omega
 have hF:pW e=fE (iI e) (e.ns.length-0) 0:=by
  unfold pW;rw[dP (by omega),dP (by omega)];rfl
 refine aO (α:=Nat) (fun i=>[(1,.va (.c1 (.pt 0 0))),(20,.va (.c1 (.fz (e.ns.map bH)))),(21,iS .i64 e.ns.length),(22,iS .i64 i)]) (fun _=>[.cells (aV e) 70])
  (fun i=>i<=e.ns.length/\fE (iI e) (e.ns.length-i) i=fE (iI e) (e.ns.length-0) 0) (fun i=>e.ns.length-i) 0 1 ⟨aP _,rfl⟩ ?_ ?_ ?_
 · simp[go_sem]
 · simp[go_sem,aV]
 rintro i ⟨hi,ho⟩
 rcases bB i e.ns.length with hlt|hge
 · have hg:decide ((i:Int)<(e.ns.length:Int))=true:=by simp;omega
   obtain ⟨nm,hx⟩:∃nm,e.ns[i]? = some nm:=⟨_,aX hlt⟩
   obtain ⟨n,hy⟩:∃nm,e.vs[i]? = some nm:=⟨_,aX (by omega)⟩
   have q1:=aS (row:=bH) hx
   have q2:=aS (row:=cV) hy
   have ht:xH ((e.ns.take i).map bH):=rJ (dM (u9 _ _) hln)
   have hA:iI e i=bif !(eP (bl nm)) then (5:Int) else bif bJ (e.ns.take i) nm then 7 else bif decide (n<0)||decide (127<n) then 4 else
    bif (decide ((i:Int)=0)&&decide (n≠0))||(decide (0<(i:Int))&&match e.vs[i-1]? with|some m=>decide (n<=m)|none=>false) then 2 else 0:=by
    unfold iI;rw[hx,hy]
   have fin:∀x:Int,iI e i=x->x≠0->W.Fin 0 K (iS .i64 x) [.cells (aV e) 70]:=fun x h1 h2=>by
    rw[hF,<-ho,qB hlt (by rw[h1];exact h2),h1] at hK
    exact .z ((by simpa[go_sem] using hK))
   have fW:iI e i=0->fE (iI e) (e.ns.length-(i+1)) (i+1)=fE (iI e) (e.ns.length-0) 0:=fun h1=>by rw[<-ho,tI hlt h1]
   rcases gK i with h0|h0
   · subst h0
     have g1:decide ((0:Int)<0)=false:=rfl
     have g2:((0:Int)==0)=true:=rfl
     have hb0:bJ [] nm=false:=rfl
     have ht0:xH []:=⟨[],rfl,aP _⟩
     rw[Int.natCast_zero] at *
     cases hc1:eP (bl nm) with
     |false=>
      simp -dsimp only[go_sem,hg,↓q1,↓q2,aV,hc1]
      exact ⟨by omega,by omega,fin 5 (by rw[hA,hc1];rfl) (by decide)⟩
     |true=>
      cases hc3:(decide (n<0)||decide (127<n)) with
      |true=>
       simp -dsimp only[go_sem,hg,↓q1,↓q2,aV,ht0,hb0,kG,kN rE,hc1,hc3]
       exact ⟨by omega,by omega,by omega,fin 4 (by rw[hA,hc1,hc3];rfl) (by decide)⟩
      |false=>
       cases hn:(n != 0) with
       |true=>
        simp -dsimp only[go_sem,hg,↓q1,↓q2,aV,ht0,hb0,kG,kN rE,bL,g1,g2,hc1,hc3,hn]
        exact ⟨by omega,by omega,by omega,fin 2 (by rw[hA,hc1,hc3];simp at hn;simp[hn,bJ]) (by decide)⟩
       |false=>
        simp -dsimp only[go_sem,hg,↓q1,↓q2,aV,ht0,hb0,kG,kN rE,bF,g1,g2,hc1,hc3,hn]
        refine ⟨by omega,by omega,by omega,by omega,aC 1 1 ⟨by omega,fW ?_⟩ (by omega) ?_ ?_⟩
        · rw[hA,hc1,hc3];simp at hn;simp[hn,bJ]
        · simp[go_sem]
        · simp[go_sem,aV]
   · have g1:decide (0<(i:Int))=true:=by simp;omega
     have g2:((i:Int)==0)=false:=by simp;omega
     obtain ⟨m,hm⟩:∃m,e.vs[i-1]? = some m:=⟨_,aX (by omega)⟩
     have q4:((i:Int)-1).toNat=i-1:=by omega
     cases hc1:eP (bl nm) with
     |false=>
      simp -dsimp only[go_sem,hg,↓q1,↓q2,aV,hc1]
      exact ⟨by omega,by omega,fin 5 (by rw[hA,hc1];rfl) (by decide)⟩
     |true=>
      cases hc2:bJ (e.ns.take i) nm with
      |true=>
       simp -dsimp only[go_sem,hg,↓q1,↓q2,aV,ht,kG,kN rE,hc1,hc2]
       exact ⟨by omega,by omega,by omega,fin 7 (by rw[hA,hc1,hc2];rfl) (by decide)⟩
      |false=>
       cases hc3:(decide (n<0)||decide (127<n)) with
       |true=>
        simp -dsimp only[go_sem,hg,↓q1,↓q2,aV,ht,kG,kN rE,hc1,hc2,hc3]
        exact ⟨by omega,by omega,by omega,fin 4 (by rw[hA,hc1,hc2,hc3];rfl) (by decide)⟩
       |false=>
        simp -dsimp only[go_sem,hg,↓q1,↓q2,aV,ht,kG,kN rE,bF,g1,g2,hc1,hc2,hc3,q4]
        refine ⟨by omega,by omega,by omega,by omega,by omega,fun x hx'=>?_⟩
        rw[hm] at hx'
        obtain rfl:=dV hx'
        refine ⟨fun hn=>fin 2 (by rw[hA,hc1,hc2,hc3,hm,g1];simp at hn;simp[hn]) (by decide),fun hn=>⟨by omega,aC (i+1) 1 ⟨by omega,fW ?_⟩ (by omega) ?_ ?_⟩⟩
        · have hi0:i≠0:=by omega
          rw[hA,hc1,hc2,hc3,hm,g1];simp at hn;simp[hi0,show ¬ n<=m by omega]
        · simp[go_sem]
        · simp[go_sem,aV]
 · have hg:decide ((i:Int)<(e.ns.length:Int))=false:=by simp;omega
   obtain rfl:i=e.ns.length:=by omega
   rw[sS] at ho
   simp -dsimp only[go_sem,hg,aV]
   rw[hF,<-ho] at hK
   exact .z ((by simpa[go_sem] using hK))
def aZ (ss:List St) (n:ByteArray):Bool:=ss.any fun s=>decide (s.nm=n)
def cI (es:List En) (n:ByteArray):Bool:=es.any fun s=>decide (s.nm=n)
def lO (s:Sc) (i:Nat) (n:ByteArray):Int:=bif !(wO (bl n)) then 5 else bif cI s.es n then 7 else bif aZ (s.ss.take i) n then 7 else 0
def O8:List S->Prop:=fun av=>match av with
 |[.va (.gs r),.va (.c1 (.vl (.int .i64 i))),.va (.c1 (.vl (.string _)))]=>rH r/\0<=i/\i<=((C.sc r).ss.length:Int)
 |_=>False
theorem AR {av:List S} (h:O8 av):∃(s:Sc) (i:Nat) (n:ByteArray),av=[.va (.gs (aA s)),iS .i64 i,tS n]/\s.ok/\i<=s.ss.length:=by
 unfold O8 at h
 split at h
 · obtain ⟨⟨s,rfl,hs⟩,h1,h2⟩:=h
   rename_i i n
   rw[cT] at h2
   exact ⟨s,i.toNat,n,by rw[s0 h1],hs,by omega⟩
 · exact h.elim
noncomputable def aIT:List S->A:=fun av=>match av with
 |[.va (.gs r),.va (.c1 (.vl (.int .i64 i))),.va (.c1 (.vl (.string n)))]=>iA .i64 (lO (C.sc r) i.toNat n)
 |_=>.gs []
noncomputable def cnFn:Fun:=⟨O8,aIT,fun av h=>by obtain ⟨s,i,n,rfl,_⟩:=AR h;trivial⟩
theorem aG3:∀av H K,cnFn.sp av H K->av.length=3:=fun av H K h=>by obtain ⟨s,i,n,rfl,_⟩:=AR h.1.1;rfl
attribute [go_sem] cnFn O8 aIT
theorem XL:Meets Tryz.prog 43 cnFn.sp:=by
 refine aF Tryz.func43 a98 3 (by rw[Tryz.ntmps43];decide) (aG N0 (aB _)) aG3 ?_
 rintro av H K ⟨⟨h,rfl⟩,hK⟩
 obtain ⟨s,j,n,rfl,hs,hj⟩:=AR h
 have hK:K (iS .i64 (lO s j n)) []:=by
  have:cnFn.val [.va (.gs (aA s)),iS .i64 j,tS n]=iA .i64 (lO s j n):=by simp -dsimp only[go_sem,cP]
  rw[this] at hK;exact hK
 clear h
 obtain ⟨hv,hle,hls,hes,hss⟩:=hs
 have fin:∀x:Int,lO s j n=x->W.Fin 0 K (iS .i64 x) [.cells (aA s) 25]:=fun x h1=>by
  rw[h1] at hK
  exact .z ((by simpa[go_sem] using hK))
 have fin2:∀(x:Int) (b:B),lO s j n=x->W.Fin 0 K (iS .i64 x) [.cells (aA s) 25,b]:=fun x b h1=>by
  rw[h1] at hK
  exact .z ((by simpa[go_sem] using hK))
 simp -dsimp only[go_sem,aA,aT1,aT8]
 refine ⟨fun h1=>fin 5 (by unfold lO;rw[h1];rfl),fun h1=>?_⟩
 simp only[nP] at h1
 refine aO (α:=Nat) (fun i=>[(1,iS .i64 j),(2,tS n),(3,.va (.c1 (.pt 0 0))),(15,.va (.c1 (.fz (s.es.map aV)))),(16,iS .i64 s.es.length),(17,iS .i64 i)]) (fun _=>[.cells (aA s) 25])
  (fun i=>i<=s.es.length/\cI (s.es.drop i) n=cI s.es n) (fun i=>s.es.length-i) 0 1 ⟨aP _,rfl⟩ ?_ ?_ ?_
 · simp[go_sem]
 · simp[go_sem,aA]
 rintro i ⟨hi,ho⟩
 rcases bB i s.es.length with hlt|hge
 · have hg:decide ((i:Int)<(s.es.length:Int))=true:=by simp;omega
   obtain ⟨e,hx⟩:∃e,s.es[i]? = some e:=⟨_,aX hlt⟩
   have q2:=aS (row:=aV) hx
   rw[cI,eO hx] at ho
   simp -dsimp only[go_sem,hg,↓q2,aV,aA,cK]
   and_intros
   all_goals first
    |omega
    |skip
   · intro hc
     rw[hc,cR] at ho
     exact fin2 7 _ (by unfold lO;rw[h1,<-ho];rfl)
   · intro hc
     rw[hc,bK] at ho
     refine ⟨by omega,aC (i+1) 1 ⟨by omega,ho⟩ (by omega) ?_ ?_⟩
     · simp[go_sem]
     · simp[go_sem,aA]
 · have hg:decide ((i:Int)<(s.es.length:Int))=false:=by simp;omega
   obtain rfl:i=s.es.length:=by omega
   rw[cI,g8] at ho
   simp -dsimp only[go_sem,hg,aA,kG,cP]
   refine ⟨?_,?_⟩
   · exact ⟨by omega,fun r hr=>by obtain ⟨x,_,rfl⟩:=dO.1 hr;exact aN4 x⟩
   refine aO (α:=Nat) (fun i=>[(2,tS n),(3,.va (.c1 (.pt 0 0))),(29,.va (.c1 (.fz ((s.ss.take j).map aD)))),(30,iS .i64 (s.ss.take j).length),(31,iS .i64 i)]) (fun _=>[.cells (aA s) 25])
    (fun i=>i<=(s.ss.take j).length/\aZ ((s.ss.take j).drop i) n=aZ (s.ss.take j) n) (fun i=>(s.ss.take j).length-i) 0 1 ⟨aP _,rfl⟩ ?_ ?_ ?_
   · simp[go_sem]
   · simp[go_sem,aA]
   have hlj:=u9 s.ss j
   generalize hl:s.ss.take j=l at *
   clear hi hge hg
   rintro i ⟨hi,ho2⟩
   rcases bB i l.length with hlt|hge
   · have hg:decide ((i:Int)<(l.length:Int))=true:=by simp;omega
     obtain ⟨e,hx⟩:∃e,l[i]? = some e:=⟨_,aX hlt⟩
     have q2:=aS (row:=aD) hx
     rw[aZ,eO hx] at ho2
     simp -dsimp only[go_sem,hg,↓q2,aD,aA,cK]
     and_intros
     all_goals first
      |omega
      |skip
     · intro hc
       rw[hc,cR] at ho2
       exact fin2 7 _ (by unfold lO;rw[h1,<-ho,hl,<-ho2];rfl)
     · intro hc
       rw[hc,bK] at ho2
       refine ⟨by omega,aC (i+1) 1 ⟨by omega,ho2⟩ (by omega) ?_ ?_⟩
       · simp[go_sem]
       · simp[go_sem,aA]
   · have hg:decide ((i:Int)<(l.length:Int))=false:=by simp;omega
     obtain rfl:i=l.length:=by omega
     rw[aZ,g8] at ho2
     simp -dsimp only[go_sem,hg,aA]
     exact fin 0 (by unfold lO;rw[h1,<-ho,hl,<-ho2];rfl)
mutual
def valF (ss:List St) (es:List En):Ty->Bool
 |.mk k s n e=>bif k==1 then s==0&&bl n==[]&&(e.length:Int)==0
  else bif k==2 then (s==8||s==16||s==32||s==64)&&bl n==[]&&(e.length:Int)==0
  else bif k==3 then (s==8||s==16||s==32||(s==64&&false))&&bl n==[]&&(e.length:Int)==0
  else bif k==4 then decide (1<=s)&&decide (s<=2000)&&bl n==[]&&(e.length:Int)==0
  else bif k==5 then decide (1<=s)&&decide (s<=32)&&bl n==[]&&p8 ss es e
  else bif k==6 then aZ ss n&&s==0&&(e.length:Int)==0
  else bif k==7 then cI es n&&s==0&&(e.length:Int)==0 else false
def p8 (ss:List St) (es:List En):List Ty->Bool
 |[]=>false
 |u::r=>valF ss es u&&r.isEmpty
end
def fS (ss:List St) (n:ByteArray):Option St:=ss.find? fun s=>decide (s.nm=n)
def cO (es:List En) (n:ByteArray):Option En:=es.find? fun s=>decide (s.nm=n)
theorem oD (ss:List St) (n:ByteArray):(fS ss n).isSome=aZ ss n:=by unfold fS aZ;rw[fH,aC7,iY]
abbrev mO (s:St):A:=.gs (aD s)
abbrev m3 (s:En):A:=.gs (aV s)
def oI (ks:List Value) (vs:List St) (ss:List St):Prop:=∀n,j0 ks (vs.map mO) (.string n)=(fS ss n).map mO
def E7 (ks:List Value) (vs:List En) (es:List En):Prop:=∀n,j0 ks (vs.map m3) (.string n)=(cO es n).map m3
@[go_sem] theorem aPB (f:Nat->Option Nat) (l:List St):(l.map mO).map (A.ren f)=l.map mO:=by rw[fK];rfl
@[go_sem] theorem aP0 (f:Nat->Option Nat) (l:List En):(l.map m3).map (A.ren f)=l.map m3:=by rw[fK];rfl
@[go_sem] theorem bB7 (n:Nat) (xs:List (List C)) (l:List St):(l.map mO).map (A.pub n xs)=l.map mO:=by rw[fK];rfl
@[go_sem] theorem bCD (n:Nat) (xs:List (List C)) (l:List En):(l.map m3).map (A.pub n xs)=l.map m3:=by rw[fK];rfl
abbrev tD:S:=.va (.gs [.mp 0,.mp 1])
abbrev i6 (ks:List Value) (vs:List St) (ks':List Value) (vs':List En):Hp:=[.map .string ks (vs.map mO),.map .string ks' (vs'.map m3)]
def aMB (N:Nat):W.Spec:=fun av H K=>∃(ss:List St) (es:List En) (t:Ty) (ks:List Value) (vs:List St) (ks':List Value) (vs':List En),av=[tD,.va (.gs (aK t))]/\H=i6 ks vs ks' vs'/\
 oI ks vs ss/\E7 ks' vs' es/\TyOk t/\t.h<=N/\K (bS (valF ss es t)) (i6 ks vs ks' vs')
theorem EW (es:List En) (n:ByteArray):(cO es n).isSome=cI es n:=by unfold cO cI;rw[fH,aC7,iY]
theorem aNO {N:Nat} {ss:List St} {es:List En} {t:Ty} {ks:List Value} {vs:List St} {ks':List Value} {vs':List En} {K:S->Hp->Prop} (h1:oI ks vs ss) (h2:E7 ks' vs' es) (h3:TyOk t) (h4:t.h<=N) (hK:K (bS (valF ss es t)) (i6 ks vs ks' vs')) :
 aMB N [tD,.va (.gs (aK t))] (i6 ks vs ks' vs') K:=⟨ss,es,t,ks,vs,ks',vs',rfl,rfl,h1,h2,h3,h4,hK⟩
@[go_sem] theorem a7S (t:Ty):(aK t).take 4=aK t:=by rw[aY];rfl
@[go_sem] theorem bEI (t:Ty):(aK t).map C.nf=aK t:=by rw[aY];rfl
@[go_sem] theorem bBJ (t:Ty) (f:Nat->Option Nat):(aK t).map (C.ren f)=aK t:=by rw[aY];rfl
theorem Ty.h_pos (t:Ty):0<t.h:=by cases t;rw[Ty.h];omega
theorem aB6:∀N,Meets Tryz.prog 82 (aMB N)
 |0=>⟨by kernel_rfl,by rintro xs vs E ro w K _ _ _ ⟨_,_,t,_,_,_,_,_,_,_,_,_,h,_⟩;have:=t.h_pos;omega⟩
 |N+1=>by
  refine aF Tryz.func82 a5V 2 (by rw[Tryz.ntmps82];decide) (aE (aB6 N) (aB _)) (fun av H K h=>by obtain ⟨_,_,_,_,_,_,_,rfl,_⟩:=h;rfl) ?_
  rintro av H K ⟨ss,es,t,ks,vs,ks',vs',rfl,rfl,h1,h2,h3,h4,hK⟩
  cases t with
  |mk k s n e=>
  have fin:∀(b:Bool) (B1 B2:B),valF ss es (.mk k s n e)=b->W.Fin 2 K (bS b) [.map .string ks (vs.map mO),.map .string ks' (vs'.map m3),B1,B2]:=fun b B1 B2 h=>by
   rw[h] at hK
   exact .sel [0,1] (by simp) (by simp) rfl (.done (by simp -dsimp only[go_sem];simpa using hK))
  by_cases k1:(k==1)=true
  · have hF:=valF.eq_1 ss es k s n e
    rw[k1] at hF
    simp only[aQ] at hF
    simp -dsimp only[go_sem,aK,aR,s9,s6,k1]
    exact fin _ _ _ hF
  rw[lD] at k1
  by_cases k2:(k==2)=true
  · have hF:=valF.eq_1 ss es k s n e
    rw[k1,k2] at hF
    simp only[aQ,aI] at hF
    simp -dsimp only[go_sem,aK,aR,s9,s6,k1,k2]
    exact fin _ _ _ hF
  rw[lD] at k2
  by_cases k3:(k==3)=true
  · have hF:=valF.eq_1 ss es k s n e
    rw[k1,k2,k3] at hF
    simp only[aQ,aI] at hF
    simp -dsimp only[go_sem,aK,aR,s9,s6,k1,k2,k3]
    exact fin _ _ _ hF
  rw[lD] at k3
  by_cases k4:(k==4)=true
  · have hF:=valF.eq_1 ss es k s n e
    rw[k1,k2,k3,k4] at hF
    simp only[aQ,aI] at hF
    simp -dsimp only[go_sem,aK,aR,s9,s6,k1,k2,k3,k4]
    exact fin _ _ _ hF
  rw[lD] at k4
  by_cases k5:(k==5)=true
  · have hF:=valF.eq_1 ss es k s n e
    rw[k1,k2,k3,k4,k5] at hF
    simp only[aQ,aI] at hF
    cases hc:(decide (1<=s)&&decide (s<=32)&&bl n==[]&&(e.length:Int)==1) with
    |false=>
     have hF':valF ss es (.mk k s n e)=false:=by
      rw[hF]
      cases h0:(decide (1<=s)&&decide (s<=32)&&bl n==[]) with
      |false=>rfl
      |true=>
       rw[h0,bF] at hc
       match e,hc with
       |[],_=>rfl
       |[u],hc=>simp at hc
       |u::v::r,_=>simp[p8]
     simp(maxSteps:=9^6)-dsimp only[go_sem,aK,aR,s9,s6,k1,k2,k3,k4,k5,hc]
     exact fin _ _ _ hF'
    |true=>
     obtain ⟨u,rfl⟩:∃u,e=[u]:=by
      simp only[bI,beq_iff_eq] at hc
      exact lZ.1 (by omega)
     have h0:(decide (1<=s)&&decide (s<=32)&&bl n==[])=true:=by
      simp only[bI] at hc ⊢;exact hc.1
     have hF':valF ss es (.mk k s n [u])=valF ss es u:=by rw[hF,h0];simp[p8]
     have hh:u.h<=N:=by rw[Ty.h,Ty.hs,Ty.hs] at h4;omega
     have hu:TyOk u:=h3.e u (by simp[Ty.e])
     have hc':(decide (1<=s)&&decide (s<=32)&&bl n==[]&&((1:Nat):Int)==1)=true:=hc
     simp(maxSteps:=9^6)-dsimp only[go_sem,aK,aR,s9,s6,k1,k2,k3,k4,k5,hc']
     refine ⟨⟨by omega,fun r hr=>by subst hr;exact dR u⟩,fun r hr=>?_⟩
     subst hr
     refine ⟨by rw[dR];exact bE _,?_⟩
     simp -dsimp only[go_sem]
     refine aNO h1 h2 hu hh ?_
     simp(maxSteps:=9^6)-dsimp only[go_sem]
     exact fin _ _ _ hF'
  rw[lD] at k5
  by_cases k6:(k==6)=true
  · have hF:=valF.eq_1 ss es k s n e
    rw[k1,k2,k3,k4,k5,k6] at hF
    simp only[aQ,aI] at hF
    have hm:=h1 n
    rw[<-oD] at hF
    cases hf:fS ss n with
    |none=>
     rw[hf] at hm hF
     simp only[qL] at hm
     simp(maxSteps:=9^6)-dsimp only[go_sem,aK,aR,s9,s6,k1,k2,k3,k4,k5,k6,hm]
     refine .sel [0,1] (by simp) (by simp) rfl (.done ?_)
     rw[hF] at hK
     simp -dsimp only[go_sem];simpa using hK
    |some d=>
     rw[hf] at hm hF
     simp only[cQ] at hm
     simp(maxSteps:=9^6)-dsimp only[go_sem,aK,aR,s9,s6,k1,k2,k3,k4,k5,k6,hm]
     refine ⟨by simp[aD,go_sem],by simp[aD],.sel [0,1] (by simp) (by simp) rfl (.done ?_)⟩
     rw[hF] at hK
     simp -dsimp only[go_sem];simpa using hK
  rw[lD] at k6
  by_cases k7:(k==7)=true
  · have hF:=valF.eq_1 ss es k s n e
    rw[k1,k2,k3,k4,k5,k6,k7] at hF
    simp only[aQ,aI] at hF
    have hm:=h2 n
    rw[<-EW] at hF
    cases hf:cO es n with
    |none=>
     rw[hf] at hm hF
     simp only[qL] at hm
     simp(maxSteps:=9^6)-dsimp only[go_sem,aK,aR,s9,s6,k1,k2,k3,k4,k5,k6,k7,hm]
     refine .sel [0,1] (by simp) (by simp) rfl (.done ?_)
     rw[hF] at hK
     simp -dsimp only[go_sem];simpa using hK
    |some d=>
     rw[hf] at hm hF
     simp only[cQ] at hm
     simp(maxSteps:=9^6)-dsimp only[go_sem,aK,aR,s9,s6,k1,k2,k3,k4,k5,k6,k7,hm]
     refine ⟨by simp[aV,go_sem],by simp[aV],.sel [0,1] (by simp) (by simp) rfl (.done ?_)⟩
     rw[hF] at hK
     simp -dsimp only[go_sem];simpa using hK
  rw[lD] at k7
  have hF:=valF.eq_1 ss es k s n e
  rw[k1,k2,k3,k4,k5,k6,k7] at hF
  simp only[aI] at hF
  simp -dsimp only[go_sem,aK,aR,s9,s6,k1,k2,k3,k4,k5,k6,k7]
  exact fin _ _ _ hF
theorem dB {P:Program} {f:FuncId} {s:W.Spec} {ι:Type} {t:ι->W.Spec} (i0:ι) (m:∀i,Meets P f (t i)) (h:∀av H K,s av H K->∃i,t i av H K):Meets P f s:=⟨(m i0).1,by
 intro xs vl E ro w K h1 h2 h3 h4
 obtain ⟨i,hi⟩:=h _ _ _ h4
 exact (m i).2 xs vl E ro w K h1 h2 h3 hi⟩
def aBR:W.Spec:=fun av H K=>∃(ss:List St) (es:List En) (t:Ty) (ks:List Value) (vs:List St) (ks':List Value) (vs':List En),av=[tD,.va (.gs (aK t))]/\H=i6 ks vs ks' vs'/\
 oI ks vs ss/\E7 ks' vs' es/\TyOk t/\K (bS (valF ss es t)) (i6 ks vs ks' vs')
theorem aOO:Meets Tryz.prog 82 aBR:=dB 0 aB6 fun _av _H _K ⟨ss,es,t,ks,vs,ks',vs',e1,e2,h4,h5,h6,hK⟩=>⟨t.h,ss,es,t,ks,vs,ks',vs',e1,e2,h4,h5,h6,bE _,hK⟩
theorem SS {ss:List St} {es:List En} {t:Ty} {ks:List Value} {vs:List St} {ks':List Value} {vs':List En} {K:S->Hp->Prop} (h1:oI ks vs ss) (h2:E7 ks' vs' es) (h3:TyOk t) (hK:K (bS (valF ss es t)) (i6 ks vs ks' vs')) :
 aBR [tD,.va (.gs (aK t))] (i6 ks vs ks' vs') K:=⟨ss,es,t,ks,vs,ks',vs',rfl,rfl,h1,h2,h3,hK⟩
def mV (ss:List St) (es:List En) (t:St) (k:Nat):Int:=match t.fs[k]? with
 |some f=>bif decide (f.num<1)||decide (127<f.num) then 4 else bif decide (0<(k:Int))&&(match t.fs[k-1]? with|some g=>decide (f.num<=g.num)|none=>false) then 2 else
  bif !(eP (bl f.nm)) then 5 else bif (t.fs.take k).any (fun g=>decide (g.nm=f.nm)) then 7 else bif !(valF ss es f.ty) then 13 else 0
 |none=>0
def tB (ss:List St) (es:List En) (t:St):Int:=fE (mV ss es t) (t.fs.length-0) 0
def aSV:W.Spec:=fun av H K=>∃(ss:List St) (es:List En) (t:St) (ks:List Value) (vs:List St) (ks':List Value) (vs':List En),av=[tD,.va (.gs (aD t))]/\H=i6 ks vs ks' vs'/\
 oI ks vs ss/\E7 ks' vs' es/\t.ok/\K (iS .i64 (tB ss es t)) (i6 ks vs ks' vs')
theorem aR0 {ss:List St} {es:List En} {t:St} {ks:List Value} {vs:List St} {ks':List Value} {vs':List En} {K:S->Hp->Prop} (h1:oI ks vs ss) (h2:E7 ks' vs' es) (h3:t.ok) (hK:K (iS .i64 (tB ss es t)) (i6 ks vs ks' vs')) :
 aSV [tD,.va (.gs (aD t))] (i6 ks vs ks' vs') K:=⟨ss,es,t,ks,vs,ks',vs',rfl,rfl,h1,h2,h3,hK⟩
theorem nK (f:Fl):[C.vl (.int .i64 f.ty.k),.vl (.int .i64 f.ty.s),.vl (.string f.ty.n),.fz (f.ty.e.map aK)]=aK f.ty:=(aY f.ty).symm
theorem QN:Meets Tryz.prog 44 aSV:=by
 refine aF Tryz.func44 a84 2 (by rw[Tryz.ntmps44];decide) (aE aOO (aG KM (aB _))) (fun av H K h=>by obtain ⟨_,_,_,_,_,_,_,rfl,_⟩:=h;rfl) ?_
 rintro av H K ⟨ss,es,t,ks,vs,ks',vs',rfl,rfl,h1,h2,h3,hK⟩
 have fin:∀(x:Int) (R:Hp),tB ss es t=x->W.Fin 2 K (iS .i64 x) (.map .string ks (vs.map mO)::.map .string ks' (vs'.map m3)::R):=fun x R h=>by
  rw[h] at hK
  exact .sel [0,1] (by simp) (by simp) rfl (.done (by simp -dsimp only[go_sem];simpa using hK))
 obtain ⟨_,hl,hfs⟩:=h3
 simp -dsimp only[go_sem,aD,aQP,aWS]
 refine aO (α:=Nat) (fun i=>[(2,.va (.c1 (.pt 2 0))),(3,.va (.c1 (.pt 3 0))),(10,.va (.c1 (.fz (t.fs.map aN)))),(11,iS .i64 t.fs.length),(12,iS .i64 i)]) (fun _=>[.map .string ks (vs.map mO),.map .string ks' (vs'.map m3),.cells [.mp 0,.mp 1] 90,.cells (aD t) 50])
  (fun i=>i<=t.fs.length/\fE (mV ss es t) (t.fs.length-i) i=tB ss es t) (fun i=>t.fs.length-i) 0 4 ⟨aP _,rfl⟩ ?_ ?_ ?_
 · simp -dsimp only[go_sem]<;>simp
 · simp -dsimp only[go_sem,aD]<;>simp
 rintro i ⟨hi,ho⟩
 rcases bB i t.fs.length with hlt|hge
 · have hg:decide ((i:Int)<(t.fs.length:Int))=true:=by simp;omega
   obtain ⟨f,hx⟩:∃nm,t.fs[i]? = some nm:=⟨_,aX hlt⟩
   have q1:=aS (row:=aN) hx
   have hf:f.ok:=hfs f (cC hx)
   have hA:mV ss es t i=bif decide (f.num<1)||decide (127<f.num) then (4:Int) else bif decide (0<(i:Int))&&(match t.fs[i-1]? with|some g=>decide (f.num<=g.num)|none=>false) then 2 else
    bif !(eP (bl f.nm)) then 5 else bif (t.fs.take i).any (fun g=>decide (g.nm=f.nm)) then 7 else bif !(valF ss es f.ty) then 13 else 0:=by
    unfold mV;rw[hx]
   have fin':∀(x:Int) (R:Hp),mV ss es t i=x->x≠0->W.Fin 2 K (iS .i64 x) (.map .string ks (vs.map mO)::.map .string ks' (vs'.map m3)::R):=fun x R h1 h2=>fin x R (by
    rw[<-ho,qB hlt (by rw[h1];exact h2),h1])
   have fW:mV ss es t i=0->fE (mV ss es t) (t.fs.length-(i+1)) (i+1)=tB ss es t:=fun h1=>by rw[<-ho,tI hlt h1]
   cases c1:(decide (f.num<1)||decide (127<f.num)) with
   |true=>
    rw[c1] at hA
    simp(maxSteps:=9^6)-dsimp only[go_sem,hg,↓q1,aN,aD,c1]
    and_intros
    all_goals first
     |omega
     |exact fin' 4 _ hA (by decide)
   |false=>
    rw[c1] at hA
    simp only[aI] at hA
    rcases gK i with h0|h0
    · have g1:decide (0<(i:Int))=false:=by simp;omega
      rw[g1] at hA
      simp only[bL,aI] at hA
      cases c3:eP (bl f.nm) with
      |false=>
       rw[c3] at hA
       simp(maxSteps:=9^6)-dsimp only[go_sem,hg,↓q1,aN,aD,c1,c3,g1]
       and_intros
       all_goals first
        |omega
        |exact fin' 5 _ hA (by decide)
        |trace_state
      |true=>
       rw[c3] at hA
       simp only[bN,aI] at hA
       simp(maxSteps:=9^6)-dsimp only[go_sem,hg,↓q1,aN,aD,c1,c3,g1,kG,kN W9]
       and_intros
       all_goals first
        |omega
        |skip
       have hlj:=u9 t.fs i
       generalize hm:t.fs.take i=m at *
       refine aO (α:=Nat) (fun j=>[(2,.va (.c1 (.pt 2 0))),(3,.va (.c1 (.pt 3 0))),(6,.va (.c1 (.pt 4 0))),(10,.va (.c1 (.fz (t.fs.map aN)))),(11,iS .i64 t.fs.length),(12,iS .i64 i),(49,.va (.c1 (.fz (m.map aN)))),(50,iS .i64 m.length),(51,iS .i64 j)])
        (fun _=>[.map .string ks (vs.map mO),.map .string ks' (vs'.map m3),.cells [.mp 0,.mp 1] 90,.cells (aD t) 50,.cells (aN f) 47])
        (fun j=>j<=m.length/\(m.drop j).any (fun g=>decide (g.nm=f.nm))=m.any (fun g=>decide (g.nm=f.nm))) (fun j=>m.length-j) 0 5 ⟨aP _,rfl⟩ ?_ ?_ ?_
       · simp -dsimp only[go_sem]<;>simp
       · simp -dsimp only[go_sem,aD,aN]<;>simp
       rintro j ⟨hj,ho2⟩
       rcases bB j m.length with hjt|hjg
       · have hgj:decide ((j:Int)<(m.length:Int))=true:=by simp;omega
         obtain ⟨d,hd⟩:∃e,m[j]? = some e:=⟨_,aX hjt⟩
         have q5:=aS (row:=aN) hd
         rw[eO hd] at ho2
         simp(maxSteps:=9^6)-dsimp only[go_sem,hgj,↓q5,aN,aD,cK]
         and_intros
         all_goals first
          |omega
          |skip
         · intro hc
           rw[hc,cR] at ho2
           rw[<-ho2] at hA
           exact fin' 7 _ hA (by decide)
         · intro hc
           rw[hc,bK] at ho2
           refine ⟨by omega,aC (j+1) 5 ⟨by omega,ho2⟩ (by omega) ?_ ?_⟩
           · simp -dsimp only[go_sem]<;>simp
           · simp -dsimp only[go_sem,aD,aN]<;>simp
       · have hgj:decide ((j:Int)<(m.length:Int))=false:=by simp;omega
         obtain rfl:j=m.length:=by omega
         rw[g8] at ho2
         rw[<-ho2] at hA
         simp only[aI] at hA
         simp(maxSteps:=9^6)-dsimp only[go_sem,hgj,aN,aD,nK]
         refine SS h1 h2 hf.ty ?_
         cases c5:valF ss es f.ty with
         |true=>
          rw[c5] at hA
          simp(maxSteps:=9^6)-dsimp only[go_sem]
          refine ⟨by omega,aC (i+1) 4 ⟨by omega,fW hA⟩ (by omega) ?_ ?_⟩
          · simp -dsimp only[go_sem]<;>simp
          · simp -dsimp only[go_sem,aD]<;>simp
         |false=>
          rw[c5] at hA
          simp(maxSteps:=9^6)-dsimp only[go_sem]
          exact fin' 13 _ hA (by decide)
    · have g1:decide (0<(i:Int))=true:=by simp;omega
      obtain ⟨g,hy⟩:∃m,t.fs[i-1]? = some m:=⟨_,aX (by omega)⟩
      have q4:((i:Int)-1).toNat=i-1:=by omega
      rw[g1,hy,bF] at hA
      simp only at hA
      cases c2:decide (f.num<=g.num) with
      |true=>
       rw[c2] at hA
       simp(maxSteps:=9^6)-dsimp only[go_sem,hg,↓q1,aN,aD,c1,g1,q4,hy,aM,forall_eq',c2]
       and_intros
       all_goals first
        |omega
        |exact fin' 2 _ hA (by decide)
        |trace_state
      |false=>
       rw[c2] at hA
       simp only[aI] at hA
       cases c3:eP (bl f.nm) with
       |false=>
        rw[c3] at hA
        simp(maxSteps:=9^6)-dsimp only[go_sem,hg,↓q1,aN,aD,c1,c3,g1,q4,hy,aM,forall_eq',c2]
        and_intros
        all_goals first
         |omega
         |exact fin' 5 _ hA (by decide)
         |trace_state
       |true=>
        rw[c3] at hA
        simp only[bN,aI] at hA
        simp(maxSteps:=9^6)-dsimp only[go_sem,hg,↓q1,aN,aD,c1,c3,g1,q4,hy,aM,forall_eq',c2,kG,kN W9]
        and_intros
        all_goals first
         |omega
         |skip
        have hlj:=u9 t.fs i
        generalize hm:t.fs.take i=m at *
        refine aO (α:=Nat) (fun j=>[(2,.va (.c1 (.pt 2 0))),(3,.va (.c1 (.pt 3 0))),(6,.va (.c1 (.pt 4 0))),(10,.va (.c1 (.fz (t.fs.map aN)))),(11,iS .i64 t.fs.length),(12,iS .i64 i),(49,.va (.c1 (.fz (m.map aN)))),(50,iS .i64 m.length),(51,iS .i64 j)])
         (fun _=>[.map .string ks (vs.map mO),.map .string ks' (vs'.map m3),.cells [.mp 0,.mp 1] 90,.cells (aD t) 50,.cells (aN f) 47])
         (fun j=>j<=m.length/\(m.drop j).any (fun g=>decide (g.nm=f.nm))=m.any (fun g=>decide (g.nm=f.nm))) (fun j=>m.length-j) 0 5 ⟨aP _,rfl⟩ ?_ ?_ ?_
        · simp -dsimp only[go_sem]<;>simp
        · simp -dsimp only[go_sem,aD,aN]<;>simp
        rintro j ⟨hj,ho2⟩
        rcases bB j m.length with hjt|hjg
        · have hgj:decide ((j:Int)<(m.length:Int))=true:=by simp;omega
          obtain ⟨d,hd⟩:∃e,m[j]? = some e:=⟨_,aX hjt⟩
          have q5:=aS (row:=aN) hd
          rw[eO hd] at ho2
          simp(maxSteps:=9^6)-dsimp only[go_sem,hgj,↓q5,aN,aD,cK]
          and_intros
          all_goals first
           |omega
           |skip
          · intro hc
            rw[hc,cR] at ho2
            rw[<-ho2] at hA
            exact fin' 7 _ hA (by decide)
          · intro hc
            rw[hc,bK] at ho2
            refine ⟨by omega,aC (j+1) 5 ⟨by omega,ho2⟩ (by omega) ?_ ?_⟩
            · simp -dsimp only[go_sem]<;>simp
            · simp -dsimp only[go_sem,aD,aN]<;>simp
        · have hgj:decide ((j:Int)<(m.length:Int))=false:=by simp;omega
          obtain rfl:j=m.length:=by omega
          rw[g8] at ho2
          rw[<-ho2] at hA
          simp only[aI] at hA
          simp(maxSteps:=9^6)-dsimp only[go_sem,hgj,aN,aD,nK]
          refine SS h1 h2 hf.ty ?_
          cases c5:valF ss es f.ty with
          |true=>
           rw[c5] at hA
           simp(maxSteps:=9^6)-dsimp only[go_sem]
           refine ⟨by omega,aC (i+1) 4 ⟨by omega,fW hA⟩ (by omega) ?_ ?_⟩
           · simp -dsimp only[go_sem]<;>simp
           · simp -dsimp only[go_sem,aD]<;>simp
          |false=>
           rw[c5] at hA
           simp(maxSteps:=9^6)-dsimp only[go_sem]
           exact fin' 13 _ hA (by decide)
 · have hg:decide ((i:Int)<(t.fs.length:Int))=false:=by simp;omega
   obtain rfl:i=t.fs.length:=by omega
   rw[sS] at ho
   simp -dsimp only[go_sem,hg,aD]
   exact fin 0 _ ho.symm
abbrev kV (ns:List ByteArray):List Value:=ns.map Value.string
def lV:List ByteArray->ByteArray->Option Nat
 |[],_=>none
 |k::ks,q=>bif decide (q=k) then some 0 else (lV ks q).map (· + 1)
theorem aCR (a b:ByteArray):IH (.string a) (.string b)=decide (a=b):=by
 rw[fH,M5 (d:=.string) (by simp[MapKept.IsKey]) (by simp[MapKept.IsKey])];simp
theorem pC (q:ByteArray):∀ns:List ByteArray,mG (kV ns) (.string q)=lV ns q
 |[]=>rfl
 |k::ks=>by
  have:=pC q ks
  simp only[kV,gC,mG,lV,aCR] at this ⊢
  rw[this]
theorem sK {q:ByteArray}:∀{ns:List ByteArray} {i:Nat},lV ns q=some i->ns[i]? = some q/\i<ns.length
 |[],_,h=>by cases h
 |k::ks,i,h=>by
  simp only[lV] at h
  by_cases hk:q=k
  · simp[hk] at h;subst h;simp[hk]
  · simp[hk] at h
    obtain ⟨j,h1,rfl⟩:=h
    have:=sK h1
    simpa using this
theorem aEF (ns:List ByteArray) (q n:ByteArray):lV (ns++[q]) n=match lV ns n with|some i=>some i|none=>bif decide (n=q) then some ns.length else none:=by
 induction ns with
 |nil=>simp only[List.nil_append,lV,List.length_nil,qL]
 |cons k ks ih=>
  simp only[List.cons_append,lV,ih]
  by_cases hk:n=k
  · simp[hk]
  · simp only[hk,decide_false,aI]
    cases lV ks n with
    |some i=>rfl
    |none=>by_cases hq:n=q<;>simp[hq]
theorem yE {α:Type} (row:α->A) (ns:List ByteArray) (l:List α) (n:ByteArray):j0 (kV ns) (l.map row) (.string n)=(lV ns n).bind fun i=>(l[i]?).map row:=by
 unfold j0;rw[pC];simp only[b9]
theorem SQ {α:Type} (row:α->A) {ns:List ByteArray} {l:List α} (h:ns.length=l.length) (q:ByteArray) (x:α):∃(ns':List ByteArray) (l':List α),mN (kV ns) (.string q)=kV ns'/\nE (kV ns) (l.map row) (.string q) (row x)=l'.map row/\
 ns'.length=l'.length/\∀n,j0 (kV ns') (l'.map row) (.string n)=bif decide (n=q) then some (row x) else j0 (kV ns) (l.map row) (.string n):=by
 cases hm:lV ns q with
 |none=>
  refine ⟨ns++[q],l++[x],?_,?_,by simp[h],fun n=>?_⟩
  · unfold mN;rw[pC,hm];simp
  · unfold nE;rw[pC,hm];simp
  · rw[yE,yE,aEF]
    by_cases hn:n=q
    · subst hn;rw[hm];simp[h]
    · simp only[hn,decide_false,aI]
      cases hs:lV ns n with
      |none=>rfl
      |some i=>have:=(sK hs).2;simp[lY (show i<l.length by omega)]
 |some i=>
  obtain ⟨h1,h2⟩:=sK hm
  refine ⟨ns,l.set i x,?_,?_,by simp[h],fun n=>?_⟩
  · unfold mN;rw[pC,hm]
  · unfold nE;rw[pC,hm];simp only[List.map_set]
  · rw[yE,yE]
    by_cases hn:n=q
    · subst hn;rw[hm];simp[show i<l.length by omega]
    · simp only[hn,decide_false,aI]
      cases hs:lV ns n with
      |none=>rfl
      |some j=>
       have hj:=sK hs
       have:i≠j:=fun e=>hn (by subst e;rw[h1] at hj;exact (dV hj.1).symm)
       simp[List.getElem?_set,this]
theorem aPD {ss:List St} {k:Nat} {x:St} (hx:ss[k]? = some x) (n:ByteArray):fS (ss.drop k) n=bif decide (n=x.nm) then some x else fS (ss.drop (k+1)) n:=by
 obtain ⟨h,rfl⟩:=bT.1 hx
 rw[cG h]
 unfold fS
 rw[nQ]
 by_cases hn:n=ss[k].nm
 · simp[hn]
 · simp[hn,show ¬ ss[k].nm=n from fun e=>hn e.symm]
theorem aFV {ss:List En} {k:Nat} {x:En} (hx:ss[k]? = some x) (n:ByteArray):cO (ss.drop k) n=bif decide (n=x.nm) then some x else cO (ss.drop (k+1)) n:=by
 obtain ⟨h,rfl⟩:=bT.1 hx
 rw[cG h]
 unfold cO
 rw[nQ]
 by_cases hn:n=ss[k].nm
 · simp[hn]
 · simp[hn,show ¬ ss[k].nm=n from fun e=>hn e.symm]
def aX8:W.Spec:=fun av H K=>∃s:Sc,av=[.va (.gs (aA s))]/\H=[]/\s.ok/\∀ks vs ks' vs',oI ks vs s.ss->E7 ks' vs' s.es->K tD (i6 ks vs ks' vs')
theorem aCU {s:Sc} {K:S->Hp->Prop} (h:s.ok) (hK:∀ks vs ks' vs',oI ks vs s.ss->E7 ks' vs' s.es->K tD (i6 ks vs ks' vs')):aX8 [.va (.gs (aA s))] [] K:=⟨s,rfl,rfl,h,hK⟩
abbrev nm2:B:=.cells [.vl (.map none),.vl (.map none)] 90
theorem Q6:Meets Tryz.prog 42 aX8:=by
 refine aF Tryz.func42 a9B 1 (by rw[Tryz.ntmps42];decide) (aB _) (fun av H K h=>by obtain ⟨_,rfl,_⟩:=h;rfl) ?_
 rintro av H K ⟨s,rfl,rfl,hs,hK⟩
 obtain ⟨_,hle,hls,_,_⟩:=hs
 simp -dsimp only[go_sem,aA,aX6,aQS]
 refine ⟨by omega,aO (α:=Nat×List ByteArray×List St) (fun z=>[(1,.va (.c1 (.pt 0 0))),(2,.va (.c1 (.pt 1 0))),(3,.va (.c1 (.pt 4 0))),(4,iS .i64 ((z.1:Int)-1))]) (fun z=>[.cells (aA s) 25,nm2,.map .string (kV z.2.1) (z.2.2.map mO),.map .string [] [],.cells [.mp 2,.mp 3] 90])
  (fun z=>z.1<=s.ss.length/\z.2.1.length=z.2.2.length/\∀n,j0 (kV z.2.1) (z.2.2.map mO) (.string n)=(fS (s.ss.drop z.1) n).map mO) (fun z=>z.1) (s.ss.length,[],[]) 5 ⟨bE _,rfl,fun n=>by rw[dT];rfl⟩ ?_ ?_ ?_⟩
 · simp -dsimp only[go_sem]<;>simp
 · simp -dsimp only[go_sem,aA]<;>simp
 rintro ⟨m,ns,l⟩ ⟨hm,hnl,hg⟩
 simp only at hm hnl hg ⊢
 cases m with
 |zero=>
  have e0:decide (0<=((0:Nat):Int)-1)=false:=rfl
  rw[zA] at hg
  simp -dsimp only[go_sem,aA,e0]
  refine ⟨by omega,aO (α:=Nat×List ByteArray×List En) (fun z=>[(1,.va (.c1 (.pt 0 0))),(2,.va (.c1 (.pt 1 0))),(3,.va (.c1 (.pt 4 0))),(5,iS .i64 ((z.1:Int)-1))]) (fun z=>[.cells (aA s) 25,nm2,.map .string (kV ns) (l.map mO),.map .string (kV z.2.1) (z.2.2.map m3),.cells [.mp 2,.mp 3] 90])
   (fun z=>z.1<=s.es.length/\z.2.1.length=z.2.2.length/\∀n,j0 (kV z.2.1) (z.2.2.map m3) (.string n)=(cO (s.es.drop z.1) n).map m3) (fun z=>z.1) (s.es.length,[],[]) 5 ⟨bE _,rfl,fun n=>by rw[dT];rfl⟩ ?_ ?_ ?_⟩
  · simp -dsimp only[go_sem]<;>simp
  · simp -dsimp only[go_sem,aA]<;>simp
  clear hnl hm
  rintro ⟨m,ms,j⟩ ⟨hm,hnl,hge⟩
  simp only at hm hnl hge ⊢
  cases m with
  |zero=>
   rw[zA] at hge
   simp -dsimp only[go_sem,aA,e0]
   exact .sel [2,3] (by simp) (by simp) rfl (.done (by simp -dsimp only[go_sem];simpa[go_sem] using hK (kV ns) l (kV ms) j hg hge))
  |succ k=>
   obtain ⟨x,hx⟩:∃x,s.es[k]? = some x:=⟨_,aX (by omega)⟩
   have q2:=aS (row:=aV) hx
   have e1:((k+1:Nat):Int)-1=(k:Int):=by omega
   have e2:decide (0<=(k:Int))=true:=by simp
   obtain ⟨ns',l',p1,p2,p3,p4⟩:=SQ m3 hnl x.nm x
   simp -dsimp only[go_sem,aA,e1,e2,↓q2,aV]
   refine ⟨by omega,by omega,by omega,aC (k,ns',l') 5 ⟨by simp only;omega,p3,fun n=>?_⟩ (UG _) ?_ ?_⟩
   · simp only;rw[p4,aFV hx,hge];cases decide (n=x.nm)<;>rfl
   · simp -dsimp only[go_sem]<;>simp
   · simp -dsimp only[go_sem,aA,p1]<;>simp
     exact (congrArg (List.map (A.ren (qR 5))) p2).trans (aP0 _ _)
 |succ k=>
  obtain ⟨x,hx⟩:∃x,s.ss[k]? = some x:=⟨_,aX (by omega)⟩
  have q2:=aS (row:=aD) hx
  have e1:((k+1:Nat):Int)-1=(k:Int):=by omega
  have e2:decide (0<=(k:Int))=true:=by simp
  obtain ⟨ns',l',p1,p2,p3,p4⟩:=SQ mO hnl x.nm x
  simp -dsimp only[go_sem,aA,e1,e2,↓q2,aD]
  refine ⟨by omega,by omega,by omega,aC (k,ns',l') 5 ⟨by simp only;omega,p3,fun n=>?_⟩ (UG _) ?_ ?_⟩
  · simp only;rw[p4,aPD hx,hg];cases decide (n=x.nm)<;>rfl
  · simp -dsimp only[go_sem]<;>simp
  · simp -dsimp only[go_sem,aA,p1]<;>simp
    exact (congrArg (List.map (A.ren (qR 5))) p2).trans (aPB _ _)
mutual
def eQ:Ty->Ty
 |.mk k s n e=>bif k==5 then RC e (.mk k s n e) else .mk k s n e
def RC:List Ty->Ty->Ty
 |[],d=>d
 |u::r,d=>bif r.isEmpty then eQ u else d
end
def cA (t:Ty):Bool:=(eQ t).k==6||(eQ t).k==7
def bQ (t:Ty):ByteArray:=(eQ t).n
theorem wM {s:Int} {n:ByteArray} {u:Ty}:eQ (.mk 5 s n [u])=eQ u:=by simp[eQ,RC]
theorem tJ {k s:Int} {n:ByteArray} {e:List Ty} (h:(k==5&&(e.length:Int)==1)=false):eQ (.mk k s n e)=.mk k s n e:=by
 rw[eQ]
 cases hk:k==5 with
 |false=>rfl
 |true=>
  rw[hk,bF] at h
  match e,h with
  |[],_=>rfl
  |[u],h=>simp at h
  |u::v::r,_=>simp[RC]
def YF:W.Spec:=fun av H K=>match av,H with
 |[.va (.gs r)],[]=>dG r/\K (.tu [.c1 (.vl (.string (bQ (C.ty r)))),bA (cA (C.ty r))]) []
 |_,_=>False
theorem NV {av:List S} {H:Hp} {K:S->Hp->Prop} (h:YF av H K):∃t:Ty,av=[.va (.gs (aK t))]/\H=[]/\TyOk t/\K (.tu [.c1 (.vl (.string (bQ t))),bA (cA t)]) []:=by
 unfold YF at h
 split at h
 · obtain ⟨⟨t,rfl,ht⟩,hK⟩:=h
   rw[eF] at hK
   exact ⟨t,rfl,rfl,ht,hK⟩
 · exact h.elim
attribute [go_sem ↓] YF
theorem DM (t:Ty):∀c∈aK t,c.one:=by rw[aY];simp[go_sem]
theorem aX0:Meets Tryz.prog 133 YF:=by
 refine aF Tryz.func133 a0E 1 (by rw[Tryz.ntmps133];decide) (aB _) (fun av H K h=>by obtain ⟨_,rfl,_⟩:=NV h;rfl) ?_
 intro av H K h
 obtain ⟨t,rfl,rfl,ht,hK⟩:=NV h
 simp -dsimp only[go_sem,aKA,aIF]
 refine aO (α:=Ty) (fun z=>[(1,.va (.c1 (.pt 0 0)))]) (fun z=>[.cells (aK z) 45]) (fun z=>eQ z=eQ t) (fun z=>z.h) t 1 rfl ?_ ?_ ?_
 · simp -dsimp only[go_sem]<;>simp
 · simp -dsimp only[go_sem]<;>simp
 intro z hz
 cases z with
 |mk k s n e=>
 cases hc:(k==5&&(e.length:Int)==1) with
 |true=>
  simp only[bI,beq_iff_eq] at hc
  obtain ⟨rfl,hl⟩:=hc
  obtain ⟨u,rfl⟩:∃u,e=[u]:=lZ.1 (by omega)
  rw[wM] at hz
  simp -dsimp only[go_sem,aK,aR]
  refine ⟨fun _=>⟨⟨by omega,fun r hr=>by subst hr;exact dR u⟩,fun r hr=>?_⟩,fun h=>by simp at h⟩
  subst hr
  simp -dsimp only[go_sem,dR]
  refine ⟨DM u,aC u 1 hz (by simp only[Ty.h,Ty.hs];omega) ?_ ?_⟩
  · simp -dsimp only[go_sem]<;>simp
  · simp -dsimp only[go_sem]<;>simp
 |false=>
  rw[tJ hc] at hz
  simp -dsimp only[go_sem,aK,aR,hc]
  rw[bQ,cA,<-hz] at hK
  exact .z ((by simpa[go_sem,Ty.n,Ty.k] using hK))
abbrev NU:ByteArray->A:=fun _=>.c1 (.vl (.bool true))
@[go_sem] theorem bBM (f:Nat->Option Nat) (l:List ByteArray):(l.map NU).map (A.ren f)=l.map NU:=by rw[fK];rfl
@[go_sem] theorem bCC (n:Nat) (xs:List (List C)) (l:List ByteArray):(l.map NU).map (A.pub n xs)=l.map NU:=by rw[fK];rfl
def cD (go:St->List ByteArray->List ByteArray) (ss:List St) (o:List ByteArray) (f:Fl):List ByteArray:=
 bif !(cA f.ty)||bJ o (bQ f.ty) then o else match fS ss (bQ f.ty) with
  |some t=>go t (o++[bQ f.ty])
  |none=>o++[bQ f.ty]
def dI (ss:List St):Nat->St->List ByteArray->List ByteArray
 |0,_,o=>o
 |N+1,t,o=>t.fs.foldl (cD (dI ss N) ss) o
theorem AS (n:ByteArray):∀ns:List ByteArray,(lV ns n).isSome=bJ ns n
 |[]=>rfl
 |k::ks=>by
  have:=AS n ks
  unfold bJ at this
  simp only[lV,bJ,sZ]
  by_cases h:n=k
  · simp[h]
  · simp[h,this]
theorem aNH (o:List ByteArray) (n:ByteArray):j0 (kV o) (o.map NU) (.string n)=bif bJ o n then some (.c1 (.vl (.bool true))) else none:=by
 rw[yE,<-AS]
 cases h:lV o n with
 |none=>rfl
 |some i=>simp[aX (sK h).2]
theorem aGA {o:List ByteArray} {n:ByteArray} (h:bJ o n=false):mN (kV o) (.string n)=kV (o++[n]):=by
 rw[<-AS] at h
 unfold mN;rw[pC]
 cases h2:lV o n with
 |none=>simp
 |some i=>rw[h2] at h;cases h
theorem aFP {o:List ByteArray} {n:ByteArray} (h:bJ o n=false):nE (kV o) (o.map NU) (.string n) (.c1 (.vl (.bool true)))=(o++[n]).map NU:=by
 rw[<-AS] at h
 unfold nE;rw[pC]
 cases h2:lV o n with
 |none=>simp
 |some i=>rw[h2] at h;cases h
def fresh:List St->List ByteArray->Nat
 |[],_=>0
 |s::ss,o=>(bif bJ o s.nm then 0 else 1)+fresh ss o
theorem WA (o p:List ByteArray) (n:ByteArray):bJ (o++p) n=(bJ o n||bJ p n):=by simp[bJ]
theorem wP (o p:List ByteArray):∀ss:List St,fresh ss (o++p)<=fresh ss o
 |[]=>bE _
 |s::ss=>by
  have:=wP o p ss
  simp only[fresh,WA]
  cases bJ o s.nm<;>cases bJ p s.nm<;>simp only[oU,oV,aQ,aI]<;>omega
theorem HD {o:List ByteArray} {n:ByteArray} {t:St} (hn:bJ o n=false):∀{ss:List St},fS ss n=some t->fresh ss (o++[n])<fresh ss o
 |[],h=>by cases h
 |s::ss,h=>by
  unfold fS at h
  rw[nQ] at h
  simp only[fresh,WA]
  by_cases hs:s.nm=n
  · have h1:=wP o [n] ss
    have h2:bJ [n] s.nm=true:=by simp[bJ,hs]
    have h3:bJ o s.nm=false:=by rw[hs];exact hn
    rw[h2,h3];simp only[oU,aQ,aI];omega
  · simp only[hs,decide_false] at h
    have:=HD hn h
    have h2:bJ [n] s.nm=false:=by simp[bJ,hs]
    rw[h2,oV]
    omega
def Pfx (o p:List ByteArray):Prop:=∃q,p=o++q
theorem Pfx.refl (o:List ByteArray):Pfx o o:=⟨[],by simp⟩
theorem Pfx.trans {a b c:List ByteArray} (h:Pfx a b) (k:Pfx b c):Pfx a c:=by
 obtain ⟨p,rfl⟩:=h;obtain ⟨q,rfl⟩:=k;exact ⟨p++q,by simp⟩
theorem Pfx.len {a b:List ByteArray} (h:Pfx a b):a.length<=b.length:=by obtain ⟨p,rfl⟩:=h;simp
theorem Pfx.fresh {ss:List St} {a b:List ByteArray} (h:Pfx a b):fresh ss b<=fresh ss a:=by obtain ⟨p,rfl⟩:=h;exact wP _ _ _
theorem wX {go:St->List ByteArray->List ByteArray} (hg:∀t o,Pfx o (go t o)) (ss:List St) (o:List ByteArray) (f:Fl):Pfx o (cD go ss o f):=by
 unfold cD
 cases !(cA f.ty)||bJ o (bQ f.ty) with
 |true=>exact .refl _
 |false=>
  cases fS ss (bQ f.ty) with
  |none=>exact ⟨_,rfl⟩
  |some t=>exact Pfx.trans ⟨_,rfl⟩ (hg _ _)
theorem AE {g:List ByteArray->Fl->List ByteArray} (hg:∀o f,Pfx o (g o f)):∀(l:List Fl) (o:List ByteArray),Pfx o (l.foldl g o)
 |[],_o=>.refl _
 |f::l,o=>(hg o f).trans (AE hg l _)
theorem qV (ss:List St):∀(N:Nat) (t:St) (o:List ByteArray),Pfx o (dI ss N t o)
 |0,_,_o=>.refl _
 |N+1,t,o=>AE (fun o f=>wX (qV ss N) ss o f) t.fs o
abbrev SP (ks:List Value) (vs:List St) (ks':List Value) (vs':List En) (o:List ByteArray):Hp:=
 [.map .string ks (vs.map mO),.map .string ks' (vs'.map m3),.cells [.mp 0,.mp 1] 90,.map .string (kV o) (o.map NU),.cells [.mp 3] 168,.cells [.sl 7 o.length] 67,.cells [.fn 132 [(false,[.pt 4 0]),(false,[.pt 5 0]),(false,[.pt 2 0]),(false,[.pt 6 0])]] 169,.row (o.map bH) 9 1]
def aIQ (N:Nat):W.Spec:=fun av H K=>∃(ss:List St) (t:St) (ks:List Value) (vs:List St) (ks':List Value) (vs':List En) (o:List ByteArray),av=[.va (.gs (aD t)),.va (.c1 (.pt 4 0)),.va (.c1 (.pt 5 0)),.va (.c1 (.pt 2 0)),.va (.c1 (.pt 6 0))]/\H=SP ks vs ks' vs' o/\
 oI ks vs ss/\(∀s∈ss,s.ok)/\t.ok/\fresh ss o<N/\(dI ss N t o).length<=1000000000/\K (.tu []) (SP ks vs ks' vs' (dI ss N t o))
theorem LG {N:Nat} {ss:List St} {t:St} {ks:List Value} {vs:List St} {ks':List Value} {vs':List En} {o:List ByteArray} {K:S->Hp->Prop} {H:Hp} (hH:H=SP ks vs ks' vs' o) (h1:oI ks vs ss) (h2:∀s∈ss,s.ok) (h3:t.ok) (h4:fresh ss o<N) (h5:(dI ss N t o).length<=1000000000) (hK:K (.tu []) (SP ks vs ks' vs' (dI ss N t o))) :
 aIQ N [.va (.gs (aD t)),.va (.c1 (.pt 4 0)),.va (.c1 (.pt 5 0)),.va (.c1 (.pt 2 0)),.va (.c1 (.pt 6 0))] H K:=⟨ss,t,ks,vs,ks',vs',o,rfl,hH,h1,h2,h3,h4,h5,hK⟩
theorem ZT {g:List ByteArray->Fl->List ByteArray} {l:List Fl} {i:Nat} {f:Fl} (hx:l[i]? = some f) (o:List ByteArray):(l.drop i).foldl g o=(l.drop (i+1)).foldl g (g o f):=by
 obtain ⟨h,rfl⟩:=bT.1 hx
 rw[cG h];rfl
theorem aBU:∀N,Meets Tryz.prog 132 (aIQ N)
 |0=>⟨by kernel_rfl,by rintro xs vs E ro w K _ _ _ ⟨_,_,_,_,_,_,_,_,_,_,_,_,h,_⟩;exact absurd h (uF _)⟩
 |N+1=>by
  refine aF Tryz.func132 a1F 5 (by rw[Tryz.ntmps132];decide) (aE (aBU N) (aE aX0 (aB _))) (fun av H K h=>by obtain ⟨_,_,_,_,_,_,_,rfl,_⟩:=h;rfl) ?_
  rintro av H K ⟨ss,t,ks,vs,ks',vs',o0,rfl,rfl,h1,h2,h3,h4,h5,hK⟩
  obtain ⟨_,hl,hfs⟩:=h3
  simp -dsimp only[go_sem,aD,aLH,aI9]
  refine aO (α:=Nat×List ByteArray) (fun z=>[(1,.va (.c1 (.pt 4 0))),(2,.va (.c1 (.pt 5 0))),(3,.va (.c1 (.pt 2 0))),(4,.va (.c1 (.pt 6 0))),(13,.va (.c1 (.fz (t.fs.map aN)))),(14,iS .i64 t.fs.length),(15,iS .i64 z.1)]) (fun z=>SP ks vs ks' vs' z.2)
   (fun z=>z.1<=t.fs.length/\(t.fs.drop z.1).foldl (cD (dI ss N) ss) z.2=dI ss (N+1) t o0/\fresh ss z.2<N+1) (fun z=>t.fs.length-z.1) (0,o0) 8 ⟨aP _,rfl,h4⟩ ?_ ?_ ?_
  · simp -dsimp only[go_sem]<;>simp
  · simp -dsimp only[go_sem]<;>simp
  rintro ⟨i,o⟩ ⟨hi,ho,hfr⟩
  simp only at hi ho hfr ⊢
  rcases bB i t.fs.length with hlt|hge
  · have hg:decide ((i:Int)<(t.fs.length:Int))=true:=by simp;omega
    obtain ⟨f,hx⟩:∃nm,t.fs[i]? = some nm:=⟨_,aX hlt⟩
    have q1:=aS (row:=aN) hx
    have hf:f.ok:=hfs f (cC hx)
    rw[ZT hx] at ho
    have ht:dG (aK f.ty):=bM hf.ty
    cases c1:cA f.ty with
    |false=>
     simp(maxSteps:=9^6)-dsimp only[go_sem,hg,↓q1,aN,nK,ht,c1]
     have hv:cD (dI ss N) ss o f=o:=by unfold cD;rw[c1];rfl
     rw[hv] at ho
     refine ⟨by omega,by omega,aC (i+1,o) 8 ⟨by simp only;omega,ho,hfr⟩ (by simp only;omega) ?_ ?_⟩
     · simp -dsimp only[go_sem]<;>simp
     · simp -dsimp only[go_sem]<;>simp
    |true=>
    have hm:=aNH o (bQ f.ty)
    cases c2:bJ o (bQ f.ty) with
    |true=>
     have hv:cD (dI ss N) ss o f=o:=by unfold cD;rw[c1,c2];rfl
     rw[hv] at ho
     rw[c2] at hm
     simp only[aQ] at hm
     simp(maxSteps:=9^6)-dsimp only[go_sem,hg,↓q1,aN,nK,ht,c1,hm]
     refine ⟨by omega,by omega,aC (i+1,o) 8 ⟨by simp only;omega,ho,hfr⟩ (by simp only;omega) ?_ ?_⟩
     · simp -dsimp only[go_sem]<;>simp
     · simp -dsimp only[go_sem]<;>simp
    |false=>
     rw[c2] at hm
     simp only[aI] at hm
     have mk1:=aGA c2
     have mv1:=aFP c2
     have hx1:=h1 (bQ f.ty)
     have hb1:(cD (dI ss N) ss o f).length<=1000000000:=by
      have:=(AE (fun o f=>wX (qV ss N) ss o f) (t.fs.drop (i+1)) (cD (dI ss N) ss o f)).len
      rw[ho] at this;omega
     have hb:(o++[bQ f.ty]).length<=1000000000:=by
      refine dM (Pfx.len ?_) hb1
      unfold cD;rw[c1,c2]
      cases fS ss (bQ f.ty) with
      |none=>exact .refl _
      |some t=>exact qV _ _ _ _
     cases hs:fS ss (bQ f.ty) with
     |none=>
      have hv:cD (dI ss N) ss o f=o++[bQ f.ty]:=by unfold cD;rw[c1,c2,hs];rfl
      rw[hv] at ho
      rw[hs] at hx1
      simp only[qL] at hx1
      simp(maxSteps:=9^6)-dsimp only[go_sem,hg,↓q1,aN,nK,ht,c1,hm,mk1,mv1,hx1]
      refine ⟨by omega,by simp at hb;omega,by omega,aC (i+1,o++[bQ f.ty]) 8 ⟨by simp only;omega,ho,by have:=wP o [bQ f.ty] ss;simp only;omega⟩ (by simp only;omega) ?_ ?_⟩
      · simp -dsimp only[go_sem]<;>simp
      · simp -dsimp only[go_sem]<;>simp
     |some d=>
      have hv:cD (dI ss N) ss o f=dI ss N d (o++[bQ f.ty]):=by unfold cD;rw[c1,c2,hs];rfl
      rw[hv] at ho hb1
      rw[hs] at hx1
      simp only[cQ] at hx1
      have hd:d.ok:=h2 d (fJ hs)
      have hfl:=HD c2 hs
      simp(maxSteps:=9^6)-dsimp only[go_sem,hg,↓q1,aN,nK,ht,c1,hm,mk1,mv1,hx1,aD]
      refine ⟨by omega,by simp at hb;omega,LG (o:=o++[bQ f.ty]) (ks':=ks') (vs':=vs') (by simp[go_sem]) h1 h2 hd (by omega) hb1 ?_⟩
      simp(maxSteps:=9^6)-dsimp only[go_sem]
      refine ⟨by omega,aC (i+1,dI ss N d (o++[bQ f.ty])) 8 ⟨by simp only;omega,ho,by have:=(qV ss N d (o++[bQ f.ty])).fresh (ss:=ss);simp only;omega⟩ (by simp only;omega) ?_ ?_⟩
      · simp -dsimp only[go_sem]<;>simp
      · simp -dsimp only[go_sem]<;>simp
  · have hg:decide ((i:Int)<(t.fs.length:Int))=false:=by simp;omega
    obtain rfl:i=t.fs.length:=by omega
    rw[dT] at ho
    simp only[aDU] at ho
    simp -dsimp only[go_sem,hg]
    rw[<-ho] at hK
    exact .sel [0,1,2,3,4,5,6,7] (by simp) (by simp) rfl (.done (by simp -dsimp only[go_sem];simpa[go_sem] using hK))
end Go.Proofs.YtblfcdllimkbhaaGreat
namespace Go.Proofs
open Go.Shelf
def Tryz.lays190_ren:Go.Shelf.Ren:=⟨fun|190=>134|125=>79|258=>167|128=>128|129=>129|302=>178|303=>179|304=>180|305=>181|306=>182|307=>183|308=>184|309=>185|310=>186|333=>190|329=>162|330=>163|334=>191|335=>192|336=>193|344=>194|n=>n,fun|31=>67|9=>9|3=>3|46=>131|0=>0|51=>165|53=>112|4=>4|183=>158|182=>157|131=>162|5=>5|218=>198|222=>201|228=>213|229=>214|n=>n,fun|n=>n⟩
theorem Tryz.lays190:Go.Proofs.Lays.n190 Tryz.prog Tryz.lays190_ren:={
 mixed:=by kernel_rfl
 f125:=Tryz.func79.trans (congrArg some (by kernel_rfl))
 f128:=Tryz.func128.trans (congrArg some (by kernel_rfl))
 f129:=Tryz.func129.trans (congrArg some (by kernel_rfl))
 f190:=Tryz.func134.trans (congrArg some (by kernel_rfl))
 f258:=Tryz.func167.trans (congrArg some (by kernel_rfl))
 f302:=Tryz.func178.trans (congrArg some (by kernel_rfl))
 f303:=Tryz.func179.trans (congrArg some (by kernel_rfl))
 f304:=Tryz.func180.trans (congrArg some (by kernel_rfl))
 f305:=Tryz.func181.trans (congrArg some (by kernel_rfl))
 f306:=Tryz.func182.trans (congrArg some (by kernel_rfl))
 f307:=Tryz.func183.trans (congrArg some (by kernel_rfl))
 f308:=Tryz.func184.trans (congrArg some (by kernel_rfl))
 f309:=Tryz.func185.trans (congrArg some (by kernel_rfl))
 f310:=Tryz.func186.trans (congrArg some (by kernel_rfl))
 f329:=Tryz.func162.trans (congrArg some (by kernel_rfl))
 f330:=Tryz.func163.trans (congrArg some (by kernel_rfl))
 f333:=Tryz.func190.trans (congrArg some (by kernel_rfl))
 f334:=Tryz.func191.trans (congrArg some (by kernel_rfl))
 f335:=Tryz.func192.trans (congrArg some (by kernel_rfl))
 f336:=Tryz.func193.trans (congrArg some (by kernel_rfl))
 f344:=Tryz.func194.trans (congrArg some (by kernel_rfl))
 t0:=Tryz.underlying0
 a0:=Tryz.isAgg0
 z0:=Tryz.sizeOf0
 v0:=Tryz.zeroValue0
 t3:=Tryz.underlying3
 a3:=Tryz.isAgg3
 z3:=Tryz.sizeOf3
 v3:=Tryz.zeroValue3
 t4:=Tryz.underlying4
 a4:=Tryz.isAgg4
 z4:=Tryz.sizeOf4
 v4:=Tryz.zeroValue4
 t5:=Tryz.underlying5
 a5:=Tryz.isAgg5
 z5:=Tryz.sizeOf5
 v5:=Tryz.zeroValue5
 t9:=Tryz.underlying9
 a9:=Tryz.isAgg9
 z9:=Tryz.sizeOf9
 v9:=Tryz.zeroValue9
 t31:=Tryz.underlying67
 a31:=Tryz.isAgg67
 z31:=Tryz.sizeOf67
 v31:=Tryz.zeroValue67
 t46:=Tryz.underlying131
 a46:=Tryz.isAgg131
 z46:=Tryz.sizeOf131
 v46:=Tryz.zeroValue131
 t51:=Tryz.underlying165
 a51:=Tryz.isAgg165
 z51:=Tryz.sizeOf165
 v51:=Tryz.zeroValue165
 t53:=Tryz.underlying112
 a53:=Tryz.isAgg112
 z53:=Tryz.sizeOf112
 v53:=Tryz.zeroValue112
 t131:=Tryz.underlying162
 a131:=Tryz.isAgg162
 z131:=Tryz.sizeOf162
 v131:=Tryz.zeroValue162
 t182:=Tryz.underlying157
 a182:=Tryz.isAgg157
 z182:=Tryz.sizeOf157
 v182:=Tryz.zeroValue157
 t183:=Tryz.underlying158
 a183:=Tryz.isAgg158
 z183:=Tryz.sizeOf158
 v183:=Tryz.zeroValue158
 t218:=Tryz.underlying198
 a218:=Tryz.isAgg198
 z218:=Tryz.sizeOf198
 v218:=Tryz.zeroValue198
 t222:=Tryz.underlying201
 a222:=Tryz.isAgg201
 z222:=Tryz.sizeOf201
 v222:=Tryz.zeroValue201
 t228:=Tryz.underlying213
 a228:=Tryz.isAgg213
 z228:=Tryz.sizeOf213
 v228:=Tryz.zeroValue213
 t229:=Tryz.underlying214
 a229:=Tryz.isAgg214
 z229:=Tryz.sizeOf214
 v229:=Tryz.zeroValue214 }
end Go.Proofs
namespace Go.Proofs.YtblfcdllimkbhaaGreat
open Go.W Go.Sort
def iQ (l:List ByteArray):List ByteArray:=((l.map bl).mergeSort fun x y=>decide (x<=y)).map mk
theorem u6 (l:List ByteArray):(iQ l).length=l.length:=by simp[iQ]
theorem BZ (w:World) (os:Array Obj) {k:Nat} (h:k<w.heap.size):(grow w os).heap[k]? = w.heap[k]?:=by
 simp[grow,Array.getElem?_append_left h]
theorem UT (enc:List UInt8->Value) (w:World) (b:Nat) (d:Array (List UInt8)) {cur:Array Value} {T:TypeId} {p:Nat×Nat} (h:w.heap[b]? = some (.cells cur T p)):(putRow enc w b 0 d).heap[b]? = some (.cells (putCells enc 0 d cur) T p):=by
 unfold putRow mapBlock
 simp[qN,h,onCells]
theorem KR (enc:List UInt8->Value) (w:World) {b k:Nat} (d:Array (List UInt8)) (h:k≠b):(putRow enc w b 0 d).heap[k]? = w.heap[k]?:=by
 unfold putRow mapBlock
 simp[qN,Ne.symm h]
def aW2:W.Spec:=fun av H K=>∃l:List ByteArray,av=[.va (.c1 (.sl 0 l.length))]/\H=[.row (l.map bH) 9 1]/\l.length<=1000000000/\K (.tu []) [.row ((iQ l).map bH) 9 1]
theorem aCA {l:List ByteArray} {K:S->Hp->Prop} (h:l.length<=1000000000) (hK:K (.tu []) [.row ((iQ l).map bH) 9 1]):aW2 [.va (.c1 (.sl 0 l.length))] [.row (l.map bH) 9 1] K:=⟨l,rfl,rfl,h,hK⟩
theorem FW (l:List ByteArray):(l.map bH).flatten=l.map fun x=>C.vl (.string x):=by
 induction l with
 |nil=>rfl
 |cons x l ih=>rw[gC,List.flatten_cons,ih];rfl
theorem aRL {l:List ByteArray} {vs:List Value} {ro:RO} (h:All2 (C.fv ro) (l.map bH).flatten vs):vs=l.map Value.string:=by
 rw[FW] at h
 refine iF fun i=>?_
 obtain ⟨h1,h2⟩:=h
 rw[cE] at h1
 rw[b9]
 rcases bB i l.length with hi|hi
 · obtain ⟨x,hx⟩:∃x,l[i]? = some x:=⟨_,aX hi⟩
   obtain ⟨v,hv⟩:∃v,vs[i]? = some v:=⟨_,aX (by omega)⟩
   have:=h2 i _ v (by rw[b9,hx];rfl) hv
   rw[hv,hx];exact congrArg some this
 · rw[iE (by omega),iE hi];rfl
theorem aZZ:Meets Tryz.prog 134 aW2:=by
 refine ⟨by kernel_rfl,fun av vs E ro w K hlen hrel hR hs _=>?_⟩
 obtain ⟨l,rfl,hH,hl,hK⟩:=hs
 match E,hH with
 |[(g,blk)],hH=>
  obtain rfl:blk=.row (l.map bH) 9 1:=by simpa[hp] using hH
  match vs,hlen with
  |[v0],_=>
   have r0:=hrel 0 _ _ rfl rfl
   have hon:=hR.own 0 g _ rfl
   obtain ⟨o1,o2,o3,o4,o5,o6,o7⟩:=hon
   rw[cE] at o2 o5
   obtain ⟨g',hg',_,_,_,hv0⟩:=r0
   obtain rfl:g=g':=by simpa[gm] using hg'
   obtain rfl:=hv0 o2.symm
   have hvs:=aRL o6
   obtain ⟨l1,l2⟩:=o5
   rcases gK l.length with h0|h0
   · obtain rfl:=List.eq_nil_of_length_eq_zero h0
     refine (Any.slices_Sort_string_none Tryz.lays190 _ _ w).mono ?_
     rintro e w' ⟨rfl,rfl⟩
     rw[show iQ []=[] by simp[iQ]] at hK
     exact ⟨.tu [],_,[(g,.row ([].map bH) 9 1)],ro,rfl,⟨[],rfl,.nil⟩,hK,hR⟩
   rcases l2 with ⟨_,h1⟩|⟨b,cap,cur,hsl,_,hb,hcap,hmax,hcs,htk⟩
   · omega
   have hob:g.ob=some b:=by
    cases hgo:g.ob with
    |none=>rw[hgo] at hsl;simp[bX] at hsl
    |some b'=>rw[hgo] at hsl;simp[bX] at hsl;rw[hsl.1]
   have hgc:g.cap=cap:=by simp at hsl;exact hsl.2
   have hbs:b<w.heap.size:=by
    rcases bB b w.heap.size with h'|h'
    · exact h'
    · rw[nT h'] at hb;cases hb
   have hcell:∀k,k<l.length->w.cell? ⟨b,k,none⟩=(l.map Value.string)[k]?:=fun k hk=>by
    rw[<-hvs,<-htk,gW,if_pos (by omega)]
    simp[World.cell?,hb]
   rw[hob,hgc]
   have key:=Any.slices_Sort_string Tryz.lays190 b 0 cap (l.map bl) w (fun j hj=>by
    have hj':j<l.length:=by simpa using hj
    refine ⟨?_,by simp[World.frozen?,hb]⟩
    rw[Nat.zero_add,hcell j hj']
    simp[hj']
    exact (qC _).symm) hbs (by simp;omega)
   rw[cE] at key
   refine key.mono ?_
   rintro e w' ⟨rfl,n,os,rfl⟩
   obtain ⟨D,hD⟩:∃D,D=(l.map bl).mergeSort fun x y=>decide (x<=y):=⟨_,rfl⟩
   have hDl:D.length=l.length:=by rw[hD];simp
   have hsD:iQ l=D.map mk:=by rw[hD];rfl
   rw[<-hD]
   obtain ⟨W',hW⟩:∃W',W'=grow (putRow encStr (Sort.ahead w n) b 0 D.toArray) os:=⟨_,rfl⟩
   have hmod:(putRow encStr (Sort.ahead w n) b 0 D.toArray).heap.size=w.heap.size:=by simp[putRow,mapBlock,Sort.ahead]
   have hb':W'.heap[b]? = some (.cells (putCells encStr 0 D.toArray cur) 9 (0,0)):=by
    rw[hW,BZ _ _ (by rw[hmod];exact hbs)]
    exact UT encStr _ b D.toArray hb
   have hne:∀k,k≠b->k<w.heap.size->W'.heap[k]? = w.heap[k]?:=fun k h1 h2=>by
    rw[hW,BZ _ _ (by rw[hmod];exact h2),KR encStr _ D.toArray h1];rfl
   have hsz:w.heap.size<=W'.heap.size:=by rw[hW];simp[hmod]
   have hrest:W'.os=w.os/\W'.tape=w.tape/\W'.output=w.output:=by rw[hW];exact ⟨rfl,rfl,rfl⟩
   rw[<-hW]
   clear hW
   have htk':(putCells encStr 0 D.toArray cur).toList.take l.length=(iQ l).map Value.string:=by
    have hsl':(iQ l).length=l.length:=u6 l
    refine iF fun k=>?_
    rw[gW,b9]
    rcases bB k l.length with hk|hk
    · rw[if_pos hk,hsD]
      have h1:k<cur.size:=by omega
      have h2:k<D.length:=by omega
      simp[putCells,h1,hDl]
      rw[if_pos hk,aX h2];rfl
    · rw[if_neg (by omega),iE (by omega)];rfl
   have hown:B.On (gm [(⟨some b,true,l.length,cap,g.T,(iQ l).map Value.string⟩,.row ((iQ l).map bH) 9 1)]) ro W' ⟨some b,true,l.length,cap,g.T,(iQ l).map Value.string⟩ (.row ((iQ l).map bH) 9 1):=by
    have hsl':(iQ l).length=l.length:=u6 l
    refine ⟨rfl,by rw[cE,hsl'],fun x hx=>?_,fun c hc=>?_,⟨?_,.inr ⟨b,cap,putCells encStr 0 D.toArray cur,?_,aP _,hb',?_,hmax,by simp[putCells];omega,?_⟩⟩,?_,fun b' _=>(by show 0<cap;omega)⟩
    · obtain ⟨y,_,rfl⟩:=dO.1 hx;rfl
    · rw[FW] at hc;obtain ⟨y,_,rfl⟩:=dO.1 hc;rfl
    · simp
    · simp[bX]
    · rw[cE,hsl'];exact hcap
    · rw[cE,hsl',Nat.mul_one];exact htk'
    · rw[FW]
      refine ⟨by simp,fun i x y hx hy=>?_⟩
      rw[b9] at hx hy
      cases hi:(iQ l)[i]? with
      |none=>rw[hi] at hx;cases hx
      |some z=>rw[hi] at hx hy;cases hx;cases hy;rfl
   have hpb:b∈fL [(g,.row (l.map bH) 9 1)]:=by
    rcases hR.par 0 b g _ rfl hob rfl with h|h
    · exact absurd h (Nat.not_le.2 hbs)
    · exact h
   refine ⟨.tu [],_,[(⟨some b,true,l.length,cap,g.T,(iQ l).map Value.string⟩,.row ((iQ l).map bH) 9 1)],ro,rfl,⟨[],rfl,.nil⟩,hK,?_⟩
   refine ⟨fun n gn bn hn=>?_,fun n m gn gm' bn bm b' hn hm h1 h2 l1 l2=>?_,fun b' off v hv n gn bn hn hgb=>?_,fun b' off v hv=>?_,hR.ro0,hR.rob,fun n b' gn bn hn hgb hl=>?_,?_,hsz,fun k hk hkb=>hne k (fun e=>hkb (e ▸ hpb)) hk,hrest.1,hrest.2.1,hrest.2.2⟩
   · match n,hn with
     |0,hn=>cases hn;exact hown
     |n+1,hn=>cases hn
   · match n,m,hn,hm with
     |0,0,_,_=>rfl
     |n+1,_,hn,_=>cases hn
     |_,m+1,_,hm=>cases hm
   · match n,hn with
     |0,hn=>
      cases hn
      have hbb:b=b':=by simpa using hgb
      subst hbb
      exact absurd (hR.apart b off v hv 0 g _ rfl hob) (by simp[B.live])
     |n+1,hn=>cases hn
   · have hne':b'≠b:=fun e=>by
      subst e
      exact absurd (hR.apart b' off v hv 0 g _ rfl hob) (by simp[B.live])
     have:=hR.rd b' off v hv
     rcases bB b' w.heap.size with h'|h'
     · rw[World.cell?_of_block (hne b' hne' h')]
       exact this
     · simp[World.cell?,nT h'] at this
   · match n,hn with
     |0,hn=>
      cases hn
      have:b=b':=by simpa using hgb
      subst this;exact .inr hpb
     |n+1,hn=>cases hn
   · intro n g2 h2
     match n,h2 with
     |0,h2=>
      cases h2
      exact ⟨_,rfl,o1.symm,.inl ⟨hob.symm,o2.symm,hgc.symm⟩⟩
     |n+1,h2=>cases h2
end Go.Proofs.YtblfcdllimkbhaaGreat
namespace Go.Proofs.YtblfcdllimkbhaaGreat
open Go.W
def gP (ss:List St) (n:ByteArray):List ByteArray:=dI ss (ss.length+1) ((fS ss n).getD default) []
def dA (ss:List St) (n:ByteArray):List ByteArray:=iQ (gP ss n)
theorem GZ (ss:List St) (o:List ByteArray):fresh ss o<=ss.length:=by
 induction ss with
 |nil=>exact bE _
 |cons s ss ih=>simp only[fresh,bP];cases bJ o s.nm<;>simp only[aQ,aI]<;>omega
theorem St.ok_default:(default:St).ok:=⟨by decide,by decide,fun f h=>by cases h⟩
def aXI:W.Spec:=fun av H K=>∃(ss:List St) (n:ByteArray) (ks:List Value) (vs:List St) (ks':List Value) (vs':List En),av=[tD,tS n]/\H=i6 ks vs ks' vs'/\
 oI ks vs ss/\(∀s∈ss,s.ok)/\(gP ss n).length<=1000000000/\K (.va (.c1 (.fz ((dA ss n).map bH)))) (i6 ks vs ks' vs')
theorem aAN {ss:List St} {n:ByteArray} {ks:List Value} {vs:List St} {ks':List Value} {vs':List En} {K:S->Hp->Prop} (h1:oI ks vs ss) (h2:∀s∈ss,s.ok) (h3:(gP ss n).length<=1000000000) (hK:K (.va (.c1 (.fz ((dA ss n).map bH)))) (i6 ks vs ks' vs')) :
 aXI [tD,tS n] (i6 ks vs ks' vs') K:=⟨ss,n,ks,vs,ks',vs',rfl,rfl,h1,h2,h3,hK⟩
theorem aMC:Meets Tryz.prog 83 aXI:=by
 refine dB 0 (t:=fun N=>fun av H K=>∃(ss:List St) (n:ByteArray) (ks:List Value) (vs:List St) (ks':List Value) (vs':List En),av=[tD,tS n]/\H=i6 ks vs ks' vs'/\
  oI ks vs ss/\(∀s∈ss,s.ok)/\ss.length=N/\(gP ss n).length<=1000000000/\K (.va (.c1 (.fz ((dA ss n).map bH)))) (i6 ks vs ks' vs')) (fun N=>?_) fun av H K ⟨ss,n,ks,vs,ks',vs',e1,e2,h1,h2,h3,hK⟩=>⟨ss.length,ss,n,ks,vs,ks',vs',e1,e2,h1,h2,rfl,h3,hK⟩
 refine aF Tryz.func83 a9W 2 (by rw[Tryz.ntmps83];decide) (aE (aBU (N+1)) (aE aZZ (aB _))) (fun av H K h=>by obtain ⟨_,_,_,_,_,_,rfl,_⟩:=h;rfl) ?_
 rintro av H K ⟨ss,n,ks,vs,ks',vs',rfl,rfl,h1,h2,rfl,h3,hK⟩
 have hx:=h1 n
 simp -dsimp only[go_sem,aRV,aYG]
 refine .nilc 5 0 9 1 [.vl (.slice none 0 0)] 67 rfl rfl (.done ?_)
 cases hs:fS ss n with
 |none=>
  rw[hs] at hx
  simp only[qL] at hx
  simp -dsimp only[go_sem,hx]
  have hF:gP ss n=dI ss (ss.length+1) default []:=by unfold gP;rw[hs];rfl
  have hU:dA ss n=iQ (dI ss (ss.length+1) default []):=by unfold dA;rw[hF]
  rw[hF] at h3
  rw[hU] at hK
  have hfr:=GZ ss []
  refine LG (ss:=ss) (t:=default) (ks:=ks) (vs:=vs) (ks':=ks') (vs':=vs') (o:=[]) rfl h1 h2 St.ok_default (by omega) h3 ?_
  generalize dI ss (ss.length+1) default []=o at h3 hK
  simp -dsimp only[go_sem]
  refine aCA h3 ?_
  simp -dsimp only[go_sem]
  rw[<-u6 o]
  refine .pub 7 _ _ _ rfl (.sel [0,1] (by simp) (by simp[cS]) rfl (.done ?_))
  simp -dsimp only[go_sem,cS];exact hK
 |some d=>
  rw[hs] at hx
  simp only[cQ] at hx
  simp -dsimp only[go_sem,hx,aD]
  have hF:gP ss n=dI ss (ss.length+1) d []:=by unfold gP;rw[hs];rfl
  have hU:dA ss n=iQ (dI ss (ss.length+1) d []):=by unfold dA;rw[hF]
  rw[hF] at h3
  rw[hU] at hK
  have hfr:=GZ ss []
  refine LG (ss:=ss) (t:=d) (ks:=ks) (vs:=vs) (ks':=ks') (vs':=vs') (o:=[]) rfl h1 h2 (h2 d (fJ hs)) (by omega) h3 ?_
  generalize dI ss (ss.length+1) d []=o at h3 hK
  simp -dsimp only[go_sem]
  refine aCA h3 ?_
  simp -dsimp only[go_sem]
  rw[<-u6 o]
  refine .pub 7 _ _ _ rfl (.sel [0,1] (by simp) (by simp[cS]) rfl (.done ?_))
  simp -dsimp only[go_sem,cS];exact hK
mutual
def cJ:Ty->Nat×Ty
 |.mk k s n e=>bif k==5 then N2 e (.mk k s n e) else (0,.mk k s n e)
def N2:List Ty->Ty->Nat×Ty
 |[],d=>(0,d)
 |u::_,_=>((cJ u).1+1,(cJ u).2)
end
def cW (dp:ByteArray->Int) (t:Ty):Int:=(cJ t).1+bif (cJ t).2.k==6 then dp (cJ t).2.n else 0
def jD (dp:ByteArray->Int) (fs:List Fl):Int:=fs.foldl (fun m f=>max m (cW dp f.ty)) 0
def dN (ss:List St):Nat->ByteArray->Int
 |0,_=>1
 |N+1,n=>jD (dN ss N) ((fS ss n).getD default).fs+1
inductive LOk:Ty->Prop
 |stop {k s n e}:(k==5)=false->LOk (.mk k s n e)
 |list {s n u r}:LOk u->LOk (.mk 5 s n (u::r))
abbrev vK (d:Int):A:=.c1 (.vl (.int .i64 d))
@[go_sem] theorem bCA (f:Nat->Option Nat) (l:List Int):(l.map vK).map (A.ren f)=l.map vK:=by rw[fK];rfl
@[go_sem] theorem bBC (n:Nat) (xs:List (List C)) (l:List Int):(l.map vK).map (A.pub n xs)=l.map vK:=by rw[fK];rfl
structure Dp (ss:List St) (D:ByteArray->Int) (r:ByteArray->Nat):Prop where
 ok:∀s∈ss,s.ok
 eq:∀n t,fS ss n=some t->D n=jD D t.fs+1
 lo:∀n,0<=D n
 hi:∀n,D n<=1000000000000
 ls:∀n t,fS ss n=some t->∀f∈t.fs,LOk f.ty
 rf:∀n t,fS ss n=some t->∀f∈t.fs,((cJ f.ty).2.k==6)=true->∃u,fS ss (cJ f.ty).2.n=some u/\r (cJ f.ty).2.n<r n
def EF (D:ByteArray->Int) (ms:List ByteArray) (ds:List Int):Prop:=ms.length=ds.length/\∀n v,j0 (kV ms) (ds.map vK) (.string n)=some v->v=vK (D n)
abbrev XF (ks:List Value) (vs:List St) (ks':List Value) (vs':List En) (ms:List ByteArray) (ds:List Int):Hp:=
 [.map .string ks (vs.map mO),.map .string ks' (vs'.map m3),.cells [.mp 0,.mp 1] 90,.map .string (kV ms) (ds.map vK),.cells [.mp 3] 173,.cells [.fn 135 [(false,[.pt 4 0]),(false,[.pt 5 0]),(false,[.pt 2 0])]] 174]
def aY9 (N:Nat):W.Spec:=fun av H K=>∃(ss:List St) (D:ByteArray->Int) (r:ByteArray->Nat) (t:St) (ks:List Value) (vs:List St) (ks':List Value) (vs':List En) (ms:List ByteArray) (ds:List Int),
 av=[.va (.gs (aD t)),.va (.c1 (.pt 4 0)),.va (.c1 (.pt 5 0)),.va (.c1 (.pt 2 0))]/\H=XF ks vs ks' vs' ms ds/\
 oI ks vs ss/\Dp ss D r/\fS ss t.nm=some t/\r t.nm<N/\EF D ms ds/\∀ms' ds',EF D ms' ds'->K (iS .i64 (D t.nm)) (XF ks vs ks' vs' ms' ds')
theorem aB7 {D:ByteArray->Int} {ms:List ByteArray} {ds:List Int} (h:EF D ms ds) (n:ByteArray):j0 (kV ms) (ds.map vK) (.string n)=none\/j0 (kV ms) (ds.map vK) (.string n)=some (vK (D n)):=by
 cases hm:j0 (kV ms) (ds.map vK) (.string n) with
 |none=>exact .inl rfl
 |some v=>rw[h.2 n v hm];exact .inr rfl
theorem aBK {D:ByteArray->Int} {ms:List ByteArray} {ds:List Int} (h:EF D ms ds) (n:ByteArray):∃ms' ds',mN (kV ms) (.string n)=kV ms'/\nE (kV ms) (ds.map vK) (.string n) (vK (D n))=ds'.map vK/\EF D ms' ds':=by
 obtain ⟨ms',ds',h1,h2,h3,h4⟩:=SQ vK h.1 n (D n)
 refine ⟨ms',ds',h1,h2,h3,fun k v hk=>?_⟩
 rw[h4] at hk
 by_cases e:k=n
 · subst e;simp at hk;exact hk.symm
 · simp[e] at hk;exact h.2 k v hk
abbrev gF (D:ByteArray->Int):Int->Fl->Int:=fun m f=>max m (cW D f.ty)
theorem HQ (D:ByteArray->Int):∀(l:List Fl) (m:Int),m<=l.foldl (gF D) m
 |[],_=>iC _
 |f::l,m=>by
  have:=HQ D l (max m (cW D f.ty))
  show m<=l.foldl (gF D) (max m (cW D f.ty));omega
theorem aNQ {D:ByteArray->Int} {l:List Fl} {i:Nat} {f:Fl} (hx:l[i]? = some f) (m:Int):(l.drop i).foldl (gF D) m=(l.drop (i+1)).foldl (gF D) (max m (cW D f.ty)):=by
 obtain ⟨h,rfl⟩:=bT.1 hx
 rw[cG h];rfl
theorem aXV:∀N,Meets Tryz.prog 135 (aY9 N)
 |0=>⟨by kernel_rfl,by rintro xs vs E ro w K _ _ _ ⟨_,_,_,_,_,_,_,_,_,_,_,_,_,_,_,h,_⟩;exact absurd h (uF _)⟩
 |N+1=>by
  refine aF Tryz.func135 a18 4 (by rw[Tryz.ntmps135];decide) (aE (aXV N) (aB _)) (fun av H K h=>by obtain ⟨_,_,_,_,_,_,_,_,_,_,rfl,_⟩:=h;rfl) ?_
  rintro av H K ⟨ss,D,r,t,ks,vs,ks',vs',ms,ds,rfl,rfl,h1,h2,ht,hr,hk,hK⟩
  have htok:=h2.ok t (fJ ht)
  obtain ⟨_,hl,hfs⟩:=htok
  rcases aB7 hk t.nm with hm|hm
  · simp(maxSteps:=9^6)-dsimp only[go_sem,aD,Y7,XP,hm]
    have hD:=h2.eq t.nm t ht
    have hDh:=h2.hi t.nm
    refine aO (α:=Nat×Int×List ByteArray×List Int) (fun z=>[(1,.va (.c1 (.pt 4 0))),(2,.va (.c1 (.pt 5 0))),(3,.va (.c1 (.pt 2 0))),(4,.va (.c1 (.pt 6 0))),(8,iS .i64 z.2.1),(23,.va (.c1 (.fz (t.fs.map aN)))),(24,iS .i64 t.fs.length),(25,iS .i64 z.1)])
     (fun z=>XF ks vs ks' vs' z.2.2.1 z.2.2.2++[.cells (aD t) 50])
     (fun z=>z.1<=t.fs.length/\0<=z.2.1/\(t.fs.drop z.1).foldl (gF D) z.2.1=jD D t.fs/\EF D z.2.2.1 z.2.2.2) (fun z=>t.fs.length-z.1) (0,0,ms,ds) 7 ⟨aP _,iC _,rfl,hk⟩ ?_ ?_ ?_
    · simp -dsimp only[go_sem]<;>simp
    · simp -dsimp only[go_sem,aD]<;>simp
    clear hk hm
    rintro ⟨i,m,ms,ds⟩ ⟨hi,hm0,ho,hk⟩
    simp only at hi hm0 ho hk ⊢
    have hmb:m<=1000000000000:=by have:=HQ D (t.fs.drop i) m;rw[ho] at this;omega
    rcases bB i t.fs.length with hlt|hge
    · have hg:decide ((i:Int)<(t.fs.length:Int))=true:=by simp;omega
      obtain ⟨f,hx⟩:∃nm,t.fs[i]? = some nm:=⟨_,aX hlt⟩
      have q1:=aS (row:=aN) hx
      have hf:f.ok:=hfs f (cC hx)
      rw[aNQ hx] at ho
      have hfb:cW D f.ty<=1000000000000:=by have:=HQ D (t.fs.drop (i+1)) (max m (cW D f.ty));rw[ho] at this;omega
      simp(maxSteps:=9^6)-dsimp only[go_sem,hg,↓q1,aN,nK]
      have hlo:=h2.ls t.nm t ht f (cC hx)
      refine ⟨by omega,⟨DM _,dR _⟩,by rw[dR];exact bE _,?_⟩
      refine aO (α:=Nat×Ty) (fun z=>[(1,.va (.c1 (.pt 4 0))),(2,.va (.c1 (.pt 5 0))),(3,.va (.c1 (.pt 2 0))),(4,.va (.c1 (.pt 6 0))),(8,iS .i64 m),(11,iS .i64 z.1),(12,.va (.c1 (.pt 8 0))),(23,.va (.c1 (.fz (t.fs.map aN)))),(24,iS .i64 t.fs.length),(25,iS .i64 i)])
       (fun z=>XF ks vs ks' vs' ms ds++[.cells (aD t) 50,.cells (aN f) 47,.cells (aK z.2) 45])
       (fun z=>LOk z.2/\z.1+(cJ z.2).1=(cJ f.ty).1/\(cJ z.2).2=(cJ f.ty).2) (fun z=>z.2.h) (0,f.ty) 9 ⟨hlo,by simp,rfl⟩ ?_ ?_ ?_
      · simp -dsimp only[go_sem]<;>simp
      · simp -dsimp only[go_sem,aD,aN,dR]<;>simp
      rintro ⟨n,u⟩ ⟨hu1,hu2,hu3⟩
      simp only at hu1 hu2 hu3 ⊢
      have hlv:((cJ f.ty).1:Int)<=1000000000000:=by
       have hd0:=h2.lo (cJ f.ty).2.n
       unfold cW at hfb
       cases hq:(cJ f.ty).2.k==6<;>rw[hq] at hfb<;>simp only[aQ,aI] at hfb<;>omega
      cases hu1 with
      |list hv=>
       rename_i s' n' v r'
       have hl5:cJ (.mk 5 s' n' (v::r'))=((cJ v).1+1,(cJ v).2):=by simp[cJ,N2]
       rw[hl5] at hu2 hu3
       simp(maxSteps:=9^6)-dsimp only[go_sem,aK,aR]
       refine ⟨by omega,⟨by omega,fun r hr=>by subst hr;exact dR v⟩,fun r hr=>?_⟩
       subst hr
       simp -dsimp only[go_sem,dR]
       refine ⟨DM v,aC (n+1,v) 9 ⟨hv,by simp only at hu2 ⊢;omega,hu3⟩ (by simp only[Ty.h,Ty.hs];omega) ?_ ?_⟩
       · simp -dsimp only[go_sem]<;>simp
       · simp -dsimp only[go_sem,aD,aN]<;>simp
      |stop hk5=>
       rename_i k' s' n' e'
       have hl0:cJ (.mk k' s' n' e')=(0,.mk k' s' n' e'):=by rw[cJ,hk5];rfl
       rw[hl0] at hu2 hu3
       simp only[Nat.add_zero] at hu2
       have hfd:cW D f.ty=(n:Int)+bif k'==6 then D n' else 0:=by unfold cW;rw[<-hu2,<-hu3];rfl
       cases k6:k'==6 with
       |false=>
        rw[k6,aI,Int.add_zero] at hfd
        rw[hfd] at ho
        simp(maxSteps:=9^6)-dsimp only[go_sem,aK,aR,hk5,k6]
        refine ⟨by omega,aC (i+1,max m (n:Int),ms,ds) 7 ⟨by simp only;omega,by simp only;omega,ho,hk⟩ (by simp only;omega) ?_ ?_⟩
        · simp -dsimp only[go_sem]<;>simp
        · simp -dsimp only[go_sem,aD]<;>simp
       |true=>
        rw[k6,aQ] at hfd
        rw[hfd] at ho
        obtain ⟨w,hw,hrw⟩:=h2.rf t.nm t ht f (cC hx) (by rw[<-hu3];exact k6)
        rw[<-hu3] at hw hrw
        have hx1:=h1 n'
        rw[show fS ss n'=some w from hw] at hx1
        simp only[cQ] at hx1
        simp(maxSteps:=9^6)-dsimp only[go_sem,aK,aR,hk5,k6,hx1,aD]
        have hwn:w.nm=n':=by have:=qM hw;simp only[fU] at this;exact this
        refine ⟨ss,D,r,w,ks,vs,ks',vs',ms,ds,rfl,rfl,h1,h2,by rw[hwn];exact hw,by rw[hwn];exact Nat.lt_of_lt_of_le hrw (Nat.le_of_lt_succ hr),hk,fun ms' ds' hk'=>?_⟩
        rw[hwn]
        have hd0:=h2.lo n'
        have hd1:=h2.hi n'
        simp(maxSteps:=9^6)-dsimp only[go_sem]
        refine ⟨by omega,by omega,aC (i+1,max m ((n:Int)+D n'),ms',ds') 7 ⟨by simp only;omega,by simp only;omega,ho,hk'⟩ (by simp only;omega) ?_ ?_⟩
        · simp -dsimp only[go_sem]<;>simp
        · simp -dsimp only[go_sem,aD]<;>simp
    · have hg:decide ((i:Int)<(t.fs.length:Int))=false:=by simp;omega
      obtain rfl:i=t.fs.length:=by omega
      rw[dT] at ho
      simp only[aDU] at ho
      obtain ⟨ms',ds',p1,p2,p3⟩:=aBK hk t.nm
      have e1:m+1=D t.nm:=by omega
      simp(maxSteps:=9^6)-dsimp only[go_sem,hg,aD,e1,p1,p2]
      refine ⟨by have:=h2.lo t.nm;omega,by have:=h2.lo t.nm;omega,.sel [0,1,2,3,4,5] (by simp) (by simp) rfl (.done (by simp -dsimp only[go_sem];simpa[go_sem] using hK ms' ds' p3))⟩
  · simp(maxSteps:=9^6)-dsimp only[go_sem,aD,Y7,XP,hm]
    exact .sel [0,1,2,3,4,5] (by simp) (by simp) rfl (.done (by simp -dsimp only[go_sem];simpa[go_sem] using hK ms ds hk))
def aYE:W.Spec:=fun av H K=>∃(ss:List St) (D:ByteArray->Int) (r:ByteArray->Nat) (t:St) (ks:List Value) (vs:List St) (ks':List Value) (vs':List En),av=[tD,.va (.gs (aD t))]/\H=i6 ks vs ks' vs'/\
 oI ks vs ss/\Dp ss D r/\fS ss t.nm=some t/\K (iS .i64 (D t.nm)) (i6 ks vs ks' vs')
theorem aRC {ss:List St} {D:ByteArray->Int} {r:ByteArray->Nat} {t:St} {ks:List Value} {vs:List St} {ks':List Value} {vs':List En} {K:S->Hp->Prop} (h1:oI ks vs ss) (h2:Dp ss D r) (h3:fS ss t.nm=some t) (hK:K (iS .i64 (D t.nm)) (i6 ks vs ks' vs')) :
 aYE [tD,.va (.gs (aD t))] (i6 ks vs ks' vs') K:=⟨ss,D,r,t,ks,vs,ks',vs',rfl,rfl,h1,h2,h3,hK⟩
theorem aYB:Meets Tryz.prog 84 aYE:=by
 refine dB 0 (t:=fun N=>fun av H K=>∃(ss:List St) (D:ByteArray->Int) (r:ByteArray->Nat) (t:St) (ks:List Value) (vs:List St) (ks':List Value) (vs':List En),av=[tD,.va (.gs (aD t))]/\H=i6 ks vs ks' vs'/\
  oI ks vs ss/\Dp ss D r/\fS ss t.nm=some t/\r t.nm<N/\K (iS .i64 (D t.nm)) (i6 ks vs ks' vs')) (fun N=>?_) fun av H K ⟨ss,D,r,t,ks,vs,ks',vs',e1,e2,h1,h2,h3,hK⟩=>⟨r t.nm+1,ss,D,r,t,ks,vs,ks',vs',e1,e2,h1,h2,h3,UG _,hK⟩
 refine aF Tryz.func84 a8F 2 (by rw[Tryz.ntmps84];decide) (aE (aXV N) (aB _)) (fun av H K h=>by obtain ⟨_,_,_,_,_,_,_,_,rfl,_⟩:=h;rfl) ?_
 rintro av H K ⟨ss,D,r,t,ks,vs,ks',vs',rfl,rfl,h1,h2,ht,hr,hK⟩
 simp -dsimp only[go_sem,aD,aSZ,aWX]
 refine ⟨ss,D,r,t,ks,vs,ks',vs',[],[],rfl,rfl,h1,h2,ht,hr,⟨rfl,fun n v h=>by cases h⟩,fun ms ds _=>?_⟩
 simp -dsimp only[go_sem]
 exact .sel [0,1] (by simp) (by simp) rfl (.done (by simp -dsimp only[go_sem];exact hK))
def LJ (t:St) (b:ByteArray):Prop:=∃f∈t.fs,cA f.ty=true/\bQ f.ty=b
def fG (ss:List St) (a b:ByteArray):Prop:=LJ ((fS ss a).getD default) b
inductive Reach (ss:List St):ByteArray->ByteArray->Prop
 |one {a b:ByteArray}:fG ss a b->Reach ss a b
 |more {a b c:ByteArray}:Reach ss a b->fG ss b c->Reach ss a c
theorem Reach.head {ss:List St} {a b c:ByteArray} (h:fG ss a b) (r:Reach ss b c):Reach ss a c:=by
 induction r with
 |one h2=>exact .more (.one h) h2
 |more _ h2 ih=>exact .more ih h2
theorem Reach.trans {ss:List St} {a b c:ByteArray} (h:Reach ss a b) (r:Reach ss b c):Reach ss a c:=by
 induction r with
 |one h2=>exact .more h h2
 |more _ h2 ih=>exact .more ih h2
theorem Reach.first {ss:List St} {a c:ByteArray} (r:Reach ss a c):∃b,fG ss a b/\(c=b\/Reach ss b c):=by
 induction r with
 |one h=>exact ⟨_,h,.inl rfl⟩
 |more _ h2 ih=>
  obtain ⟨b,h3,h4⟩:=ih
  refine ⟨b,h3,.inr ?_⟩
  rcases h4 with rfl|h4
  · exact .one h2
  · exact .more h4 h2
theorem D7 {o:List ByteArray} {n:ByteArray}:bJ o n=false ↔ n ∉ o:=by
 rw[<-lD,m6]
theorem aGK (ss:List St) {N:Nat} (ih:∀t o,fresh ss o<N->(∀b,LJ t b->b∈dI ss N t o)/\∀x∈dI ss N t o,x ∉ o->∀y,fG ss x y->y∈dI ss N t o) (o:List ByteArray) (f:Fl) (h:fresh ss o<N+1) :
 (cA f.ty=true->bQ f.ty∈cD (dI ss N) ss o f)/\∀x∈cD (dI ss N) ss o f,x ∉ o->∀y,fG ss x y->y∈cD (dI ss N) ss o f:=by
 cases c1:cA f.ty with
 |false=>
  have:cD (dI ss N) ss o f=o:=by unfold cD;rw[c1];rfl
  rw[this];exact ⟨fun h=>by simp at h,fun x hx hn=>absurd hx hn⟩
 |true=>
 cases c2:bJ o (bQ f.ty) with
 |true=>
  have:cD (dI ss N) ss o f=o:=by unfold cD;rw[c1,c2];rfl
  rw[this];exact ⟨fun _=>(m6 _ _).1 c2,fun x hx hn=>absurd hx hn⟩
 |false=>
  cases hs:fS ss (bQ f.ty) with
  |none=>
   have:cD (dI ss N) ss o f=o++[bQ f.ty]:=by unfold cD;rw[c1,c2,hs];rfl
   rw[this]
   refine ⟨fun _=>by simp,fun x hx hn y hy=>?_⟩
   have:x=bQ f.ty:=by simpa[hn] using hx
   subst this
   unfold fG at hy;rw[hs] at hy
   obtain ⟨g,hg,_⟩:=hy;cases hg
  |some d=>
   have:cD (dI ss N) ss o f=dI ss N d (o++[bQ f.ty]):=by unfold cD;rw[c1,c2,hs];rfl
   rw[this]
   have hl:=HD c2 hs
   obtain ⟨i1,i2⟩:=ih d (o++[bQ f.ty]) (by omega)
   obtain ⟨q,hq⟩:=qV ss N d (o++[bQ f.ty])
   refine ⟨fun _=>by rw[hq];simp,fun x hx hn y hy=>?_⟩
   by_cases hxn:x=bQ f.ty
   · subst hxn
     unfold fG at hy;rw[hs] at hy
     exact i1 y hy
   · exact i2 x hx (by simp[hn,hxn]) y hy
theorem P9 (ss:List St) {N:Nat} (ih:∀t o,fresh ss o<N->(∀b,LJ t b->b∈dI ss N t o)/\∀x∈dI ss N t o,x ∉ o->∀y,fG ss x y->y∈dI ss N t o):∀(l:List Fl) (o:List ByteArray),fresh ss o<N+1->
 (∀f∈l,cA f.ty=true->bQ f.ty∈l.foldl (cD (dI ss N) ss) o)/\∀x∈l.foldl (cD (dI ss N) ss) o,x ∉ o->∀y,fG ss x y->y∈l.foldl (cD (dI ss N) ss) o
 |[],o,_=>⟨fun f h=>(List.not_mem_nil h).elim,fun x hx hn=>absurd hx hn⟩
 |f::l,o,h=>by
  obtain ⟨s1,s2⟩:=aGK ss ih o f h
  have hp:=wX (qV ss N) ss o f
  obtain ⟨r1,r2⟩:=P9 ss ih l (cD (dI ss N) ss o f) (by have:=hp.fresh (ss:=ss);omega)
  obtain ⟨q,hq⟩:=AE (fun o f=>wX (qV ss N) ss o f) l (cD (dI ss N) ss o f)
  have hin:∀x,x∈cD (dI ss N) ss o f->x∈l.foldl (cD (dI ss N) ss) (cD (dI ss N) ss o f):=fun x hx=>by rw[hq];simp[hx]
  rw[sI]
  refine ⟨fun g hg hn=>?_,fun x hx hn y hy=>?_⟩
  · rcases bU.1 hg with rfl|hg
    · exact hin _ (s1 hn)
    · exact r1 g hg hn
  · by_cases hx2:x∈cD (dI ss N) ss o f
    · exact hin _ (s2 x hx2 hn y hy)
    · exact r2 x hx hx2 y hy
theorem aAH (ss:List St):∀(N:Nat) (t:St) (o:List ByteArray),fresh ss o<N->(∀b,LJ t b->b∈dI ss N t o)/\∀x∈dI ss N t o,x ∉ o->∀y,fG ss x y->y∈dI ss N t o
 |0,_,_,h=>absurd h (uF _)
 |N+1,t,o,h=>by
  obtain ⟨r1,r2⟩:=P9 ss (aAH ss N) t.fs o h
  exact ⟨fun b ⟨f,hf,hn,hb⟩=>hb ▸ r1 f hf hn,r2⟩
theorem OL (ss:List St):∀(N:Nat) (t:St) (o:List ByteArray),∀x∈dI ss N t o,x∈o\/∃b,LJ t b/\(x=b\/Reach ss b x)
 |0,_,o=>fun x hx=>.inl hx
 |N+1,t,o=>by
  have step:∀(o:List ByteArray) (f:Fl),∀x∈cD (dI ss N) ss o f,x∈o\/(cA f.ty=true/\(x=bQ f.ty\/Reach ss (bQ f.ty) x)):=fun o f x hx=>by
   cases c1:cA f.ty with
   |false=>
    have:cD (dI ss N) ss o f=o:=by unfold cD;rw[c1];rfl
    rw[this] at hx;exact .inl hx
   |true=>
   cases c2:bJ o (bQ f.ty) with
   |true=>
    have:cD (dI ss N) ss o f=o:=by unfold cD;rw[c1,c2];rfl
    rw[this] at hx;exact .inl hx
   |false=>
    cases hs:fS ss (bQ f.ty) with
    |none=>
     have:cD (dI ss N) ss o f=o++[bQ f.ty]:=by unfold cD;rw[c1,c2,hs];rfl
     rw[this] at hx
     rcases cL.1 hx with h|h
     · exact .inl h
     · exact .inr ⟨rfl,.inl (by simpa using h)⟩
    |some d=>
     have:cD (dI ss N) ss o f=dI ss N d (o++[bQ f.ty]):=by unfold cD;rw[c1,c2,hs];rfl
     rw[this] at hx
     rcases OL ss N d _ x hx with h|⟨b,hb,h⟩
     · rcases cL.1 h with h|h
       · exact .inl h
       · exact .inr ⟨rfl,.inl (by simpa using h)⟩
     · have hr:fG ss (bQ f.ty) b:=by unfold fG;rw[hs];exact hb
       refine .inr ⟨rfl,.inr ?_⟩
       rcases h with rfl|h
       · exact .one hr
       · exact .head hr h
  have fold:∀(l:List Fl) (o:List ByteArray),∀x∈l.foldl (cD (dI ss N) ss) o,x∈o\/∃f∈l,cA f.ty=true/\(x=bQ f.ty\/Reach ss (bQ f.ty) x):=by
   intro l
   induction l with
   |nil=>exact fun o x hx=>.inl hx
   |cons f l ih=>
    intro o x hx
    rw[sI] at hx
    rcases ih _ x hx with h|⟨g,hg,h⟩
    · rcases step o f x h with h|h
      · exact .inl h
      · exact .inr ⟨f,eI,h⟩
    · exact .inr ⟨g,eD _ hg,h⟩
  intro x hx
  rcases fold t.fs o x hx with h|⟨f,hf,hn,h⟩
  · exact .inl h
  · exact .inr ⟨bQ f.ty,⟨f,hf,hn,rfl⟩,h⟩
theorem N4 (ss:List St):∀(N:Nat) (t:St) (o:List ByteArray),o.Nodup->(dI ss N t o).Nodup
 |0,_,_=>id
 |N+1,t,o=>by
  have step:∀(o:List ByteArray) (f:Fl),o.Nodup->(cD (dI ss N) ss o f).Nodup:=fun o f ho=>by
   have app:bJ o (bQ f.ty)=false->(o++[bQ f.ty]).Nodup:=fun c2=>by
    rw[D7] at c2
    rw[List.nodup_append]
    exact ⟨ho,by simp,fun a ha b hb=>by simp at hb;subst hb;exact fun e=>c2 (e ▸ ha)⟩
   unfold cD
   cases c1:cA f.ty with
   |false=>exact ho
   |true=>
   cases c2:bJ o (bQ f.ty) with
   |true=>exact ho
   |false=>
    cases hs:fS ss (bQ f.ty) with
    |none=>exact app c2
    |some d=>exact N4 ss N d _ (app c2)
  show o.Nodup->(t.fs.foldl (cD (dI ss N) ss) o).Nodup
  generalize t.fs=l
  induction l generalizing o with
  |nil=>exact id
  |cons f l ih=>exact fun h=>ih _ (step o f h)
theorem nM (ss:List St) (n x:ByteArray):x∈gP ss n ↔ Reach ss n x:=by
 unfold gP
 constructor
 · intro h
   rcases OL ss _ _ _ x h with h|⟨b,hb,h⟩
   · cases h
   · rcases h with rfl|h
     · exact .one hb
     · exact .head hb h
 · intro h
   obtain ⟨c1,c2⟩:=aAH ss (ss.length+1) ((fS ss n).getD default) [] (Nat.lt_succ_of_le (GZ ss []))
   induction h with
   |one h=>exact c1 _ h
   |more _ h2 ih=>exact c2 _ ih (by simp) _ h2
theorem CL (ss:List St) (n:ByteArray):(gP ss n).Nodup:=N4 ss _ _ _ .nil
theorem FX {l:List ByteArray} {x:ByteArray}:x∈iQ l ↔ x∈l:=by
 unfold iQ
 rw[dO]
 constructor
 · rintro ⟨y,hy,rfl⟩
   rw[aDV,dO] at hy
   obtain ⟨z,hz,rfl⟩:=hy
   rw[qC];exact hz
 · intro h
   exact ⟨bl x,by rw[aDV];exact List.mem_map_of_mem h,qC x⟩
theorem pI {ss:List St} {n x:ByteArray}:x∈dA ss n ↔ Reach ss n x:=by unfold dA;rw[FX,nM]
theorem wU (ss:List St) (n:ByteArray):(dA ss n).length=(gP ss n).length:=u6 _
structure Gd (ss:List St) (es:List En):Prop where
 ok:∀s∈ss,s.ok
 n:ss.length<=16
 m:es.length<=16
 val:∀s∈ss,∀f∈s.fs,valF ss es f.ty=true
 lv:∀s∈ss,∀f∈s.fs,(cJ f.ty).1<=1000000000
 nd:∀s∈ss,fS ss s.nm=some s
def wL (ss:List St):Prop:=∀s∈ss,bJ (dA ss s.nm) s.nm=false
theorem G3 {ss:List St} {es:List En} {s:Int} {n:ByteArray} {e:List Ty} (h:valF ss es (.mk 5 s n e)=true):∃u,e=[u]/\valF ss es u=true:=by
 rw[valF] at h
 simp only[show ((5:Int)==1)=false from rfl,show ((5:Int)==2)=false from rfl,show ((5:Int)==3)=false from rfl,show ((5:Int)==4)=false from rfl,show ((5:Int)==5)=true from rfl,aQ,aI,bI] at h
 obtain ⟨_,h⟩:=h
 match e,h with
 |[],h=>simp[p8] at h
 |[u],h=>exact ⟨u,rfl,by simpa[p8] using h⟩
 |u::v::r,h=>simp[p8] at h
theorem IU (ss:List St) (es:List En):∀(N:Nat) (t:Ty),t.h<=N->valF ss es t=true->LOk t/\eQ t=(cJ t).2/\((eQ t).k==5)=false/\valF ss es (eQ t)=true
 |0,t,h,_=>absurd h (by have:=t.h_pos;omega)
 |N+1,.mk k s n e,h,hv=>by
  cases k5:k==5 with
  |true=>
   obtain rfl:k=5:=by simpa using k5
   obtain ⟨u,rfl,hu⟩:=G3 hv
   obtain ⟨i1,i2,i3,i4⟩:=IU ss es N u (by rw[Ty.h,Ty.hs,Ty.hs] at h;omega) hu
   rw[wM]
   exact ⟨.list i1,by rw[i2];simp[cJ,N2],i3,i4⟩
  |false=>
   have h1:eQ (.mk k s n e)=.mk k s n e:=tJ (by rw[k5];rfl)
   rw[h1]
   exact ⟨.stop k5,by rw[cJ,k5];rfl,k5,hv⟩
theorem aYH {ss:List St} {es:List En} {t:Ty} (hv:valF ss es t=true) (hn:cA t=true):aZ ss (bQ t)=true\/cI es (bQ t)=true:=by
 obtain ⟨_,_,_,h⟩:=IU ss es t.h t (bE _) hv
 unfold cA at hn
 unfold bQ
 revert h hn
 generalize eQ t=u
 cases u with
 |mk k s n e=>
 intro hn h
 simp only[Ty.k,fB,beq_iff_eq] at hn
 rcases hn with rfl|rfl
 · left;rw[valF] at h;simp at h;exact h.1.1
 · right;rw[valF] at h;simp at h;exact h.1.1
theorem aOT {ss:List St} {es:List En} {t:Ty} (hv:valF ss es t=true) (hk:((cJ t).2.k==6)=true):cA t=true/\bQ t=(cJ t).2.n/\aZ ss (cJ t).2.n=true/\LOk t:=by
 obtain ⟨h1,h2,_,h⟩:=IU ss es t.h t (bE _) hv
 unfold cA bQ
 rw[h2] at h ⊢
 refine ⟨by rw[hk];rfl,rfl,?_,h1⟩
 revert h hk
 generalize (cJ t).2=u
 cases u with
 |mk k s n e=>
 intro hk h
 obtain rfl:k=6:=by simpa[Ty.k] using hk
 rw[valF] at h;simp at h;exact h.1.1
theorem fQ {ss:List St} {n:ByteArray} {t:St} (h:fS ss n=some t):t∈ss/\t.nm=n:=⟨fJ h,by have:=qM h;simpa using this⟩
theorem y8 {ss:List En} {n:ByteArray} {t:En} (h:cO ss n=some t):t∈ss/\t.nm=n:=⟨fJ h,by have:=qM h;simpa using this⟩
theorem aN0 {ss:List St} {a b:ByteArray} (h:fG ss a b):∃t f,fS ss a=some t/\t∈ss/\f∈t.fs/\cA f.ty=true/\bQ f.ty=b:=by
 obtain ⟨f,hf,hn,hb⟩:=h
 cases hs:fS ss a with
 |none=>rw[hs] at hf;cases hf
 |some t=>rw[hs] at hf;exact ⟨t,f,rfl,(fQ hs).1,hf,hn,hb⟩
theorem aGF {ss:List St} {es:List En} (g:Gd ss es) {a b:ByteArray} (h:Reach ss a b):aZ ss b=true\/cI es b=true:=by
 have:∃c,fG ss c b:=by cases h with
  |one h=>exact ⟨_,h⟩
  |more _ h=>exact ⟨_,h⟩
 obtain ⟨c,h⟩:=this
 obtain ⟨t,f,_,ht,hf,hn,rfl⟩:=aN0 h
 exact aYH (g.val t ht f hf) hn
theorem CR {α:Type} [DecidableEq α]:∀{l m:List α},l.Nodup->(∀x∈l,x∈m)->l.length<=m.length
 |[],_,_,_=>aP _
 |x::l,m,h,hs=>by
  have h2:=List.nodup_cons.1 h
  have hx:=hs x eI
  have:=CR (m:=m.erase x) h2.2 fun y hy=>(List.mem_erase_of_ne (fun e=>h2.1 (by rw[<-e];exact hy))).2 (hs y (eD _ hy))
  rw[List.length_erase_of_mem hx] at this
  have hp:=List.length_pos_of_mem hx
  simp only[bP];omega
theorem Gd.vlen {ss:List St} {es:List En} (g:Gd ss es) (n:ByteArray):(gP ss n).length<=32:=by
 have h:=CR (m:=ss.map (·.nm)++es.map (·.nm)) (CL ss n) fun x hx=>by
  rw[nM] at hx
  rw[cL,dO,dO]
  rcases aGF g hx with h|h
  · left;unfold aZ at h;rw[iY] at h;obtain ⟨t,h1,h2⟩:=h;exact ⟨t,h1,iO h2⟩
  · right;unfold cI at h;rw[iY] at h;obtain ⟨t,h1,h2⟩:=h;exact ⟨t,h1,iO h2⟩
 have h1:=g.n
 have h2:=g.m
 simp only[List.length_append,cE] at h
 omega
def AQ (ss:List St) (n:ByteArray):Nat:=ss.countP fun s=>bJ (gP ss n) s.nm
theorem OI {α:Type} {p q:α->Bool}:∀{l:List α},(∀x∈l,p x=true->q x=true)->(∃x∈l,q x=true/\p x=false)->l.countP p<l.countP q
 |[],_,⟨_,h,_⟩=>by cases h
 |y::l,h,⟨x,hx,h1,h2⟩=>by
  have hm:=List.countP_mono_left fun z hz=>h z (eD _ hz)
  have hy:=h y eI
  rw[aDW,aDW]
  rcases bU.1 hx with rfl|hx
  · rw[h1,h2];simp;omega
  · have:=OI (fun z hz=>h z (eD _ hz)) ⟨x,hx,h1,h2⟩
    cases hp:p y with
    |true=>rw[hy hp];simp;exact this
    |false=>cases q y<;>simp<;>omega
theorem XB (ss:List St) (n:ByteArray):AQ ss n<=ss.length:=List.countP_le_length
theorem LN {ss:List St} {n m:ByteArray} {u:St} (h:fG ss n m) (hu:fS ss m=some u) (ha:wL ss):AQ ss m<AQ ss n:=by
 obtain ⟨h1,h2⟩:=fQ hu
 refine OI (fun s _ hs=>?_) ⟨u,h1,?_,?_⟩
 · rw[m6,nM] at hs ⊢;exact .head h hs
 · rw[m6,nM,h2];exact .one h
 · rw[D7,nM,<-pI,<-D7]
   have:=ha u h1
   rw[h2] at this ⊢;exact this
theorem WE {dp:ByteArray->Int} {B:Int} (hB:0<=B) {l:List Fl} (h:∀f∈l,cW dp f.ty<=B):jD dp l<=B:=by
 have key:∀(l:List Fl) (m:Int),m<=B->(∀f∈l,cW dp f.ty<=B)->l.foldl (gF dp) m<=B:=by
  intro l
  induction l with
  |nil=>exact fun m hm _=>hm
  |cons f l ih=>exact fun m hm h=>ih _ (by have:=h f eI;show max m (cW dp f.ty)<=B;omega) fun g hg=>h g (eD _ hg)
 exact key l 0 hB h
theorem oF (dp:ByteArray->Int) (l:List Fl):0<=jD dp l:=HQ dp l 0
theorem WW {dp:ByteArray->Int} {l:List Fl} {f:Fl} (h:f∈l):cW dp f.ty<=jD dp l:=by
 have key:∀(l:List Fl) (m:Int),f∈l->cW dp f.ty<=l.foldl (gF dp) m:=by
  intro l
  induction l with
  |nil=>exact fun m h=>by cases h
  |cons g l ih=>
   intro m h
   rcases bU.1 h with rfl|h
   · refine T4 ?_ (HQ dp l (max m (cW dp f.ty)))
     omega
   · exact ih _ h
 exact key l 0 h
theorem AI {dp dq:ByteArray->Int} {l:List Fl} (h:∀f∈l,cW dp f.ty=cW dq f.ty):jD dp l=jD dq l:=by
 have key:∀(l:List Fl) (m:Int),(∀f∈l,cW dp f.ty=cW dq f.ty)->l.foldl (gF dp) m=l.foldl (gF dq) m:=by
  intro l
  induction l with
  |nil=>exact fun _ _=>rfl
  |cons f l ih=>exact fun m h=>by rw[sI,sI,gF,h f eI];exact ih _ fun g hg=>h g (eD _ hg)
 exact key l 0 h
def dK:Nat:=99
def dD (ss:List St) (n:ByteArray):Int:=dN ss (dK+1) n
theorem aND (ss:List St) (N:Nat) (n:ByteArray):dN ss (N+1) n=jD (dN ss N) ((fS ss n).getD default).fs+1:=rfl
theorem aLU:dK=99:=rfl
theorem aCK (ss:List St) (n:ByteArray):dD ss n=dN ss (dK+1) n:=rfl
attribute [irreducible] dK
theorem aR6 (ss:List St):∀(N:Nat) (n:ByteArray),1<=dN ss N n
 |0,_=>iC _
 |N+1,n=>by have:=oF (dN ss N) ((fS ss n).getD default).fs;rw[dN];omega
theorem aMZ {ss:List St} {es:List En} (g:Gd ss es):∀(N:Nat) (n:ByteArray),dN ss N n<=1+N*1000000001
 |0,_=>by rw[dN];omega
 |N+1,n=>by
  have:jD (dN ss N) ((fS ss n).getD default).fs<=1000000001+N*1000000001:=by
   refine WE (by omega) fun f hf=>?_
   cases hs:fS ss n with
   |none=>rw[hs] at hf;cases hf
   |some t=>
    rw[hs] at hf
    have h1:=g.lv t (fQ hs).1 f hf
    have h2:=aMZ g N (cJ f.ty).2.n
    unfold cW
    cases (cJ f.ty).2.k==6<;>simp only[aQ,aI]<;>omega
  rw[dN];omega
theorem LX {ss:List St} {es:List En} (g:Gd ss es) {n:ByteArray} {t:St} (hs:fS ss n=some t) {f:Fl} (hf:f∈t.fs) (hk:((cJ f.ty).2.k==6)=true):fG ss n (cJ f.ty).2.n/\∃u,fS ss (cJ f.ty).2.n=some u:=by
 obtain ⟨h1,h2,h3,_⟩:=aOT (g.val t (fQ hs).1 f hf) hk
 refine ⟨⟨f,by rw[hs];exact hf,h1,h2⟩,?_⟩
 rw[<-oD] at h3
 exact oW.1 h3
theorem NX {ss:List St} {es:List En} (g:Gd ss es) (ha:wL ss):∀(N:Nat) (n:ByteArray),AQ ss n<N->dN ss (N+1) n=dN ss N n
 |0,_,h=>absurd h (uF _)
 |N+1,n,h=>by
  rw[dN,dN]
  congr 1
  refine AI fun f hf=>?_
  cases hs:fS ss n with
  |none=>rw[hs] at hf;cases hf
  |some t=>
   rw[hs] at hf
   unfold cW
   cases hk:(cJ f.ty).2.k==6 with
   |false=>rfl
   |true=>
    obtain ⟨h1,u,h2⟩:=LX g hs hf hk
    have:=LN h1 h2 ha
    rw[NX g ha N _ (by omega)]
theorem P1 (ss:List St) (n:ByteArray):0<=dD ss n:=T4 (by decide) (aR6 ss (dK+1) n)
theorem XE {ss:List St} {es:List En} (g:Gd ss es) (n:ByteArray):dD ss n<=1000000000000:=by
 refine T4 (aMZ g (dK+1) n) ?_
 have:=aLU
 generalize dK=k at *
 subst this
 decide
theorem aZM {ss:List St} {es:List En} (g:Gd ss es) (ha:wL ss) (f:Fl):cW (dN ss dK) f.ty=cW (dD ss) f.ty:=by
 have h2:=XB ss (cJ f.ty).2.n
 have h3:=g.n
 have h4:=aLU
 have h5:=NX g ha dK (cJ f.ty).2.n (by omega)
 unfold cW
 rw[aCK,h5]
theorem EC {ss:List St} {es:List En} (g:Gd ss es) (ha:wL ss) {n:ByteArray} {t:St} (hs:fS ss n=some t):dD ss n=jD (dD ss) t.fs+1:=by
 have h1:=aND ss dK n
 have h2:jD (dN ss dK) t.fs=jD (dD ss) t.fs:=AI fun f _=>aZM g ha f
 rw[hs,Option.getD_some,h2] at h1
 rw[aCK]
 exact h1
theorem Gd.dp {ss:List St} {es:List En} (g:Gd ss es) (ha:wL ss):Dp ss (dD ss) (AQ ss):=by
 refine ⟨g.ok,fun n t hs=>EC g ha hs,P1 ss,XE g,fun n t hs f hf=>(IU ss es _ _ (bE _) (g.val t (fQ hs).1 f hf)).1,fun n t hs f hf hk=>?_⟩
 obtain ⟨h1,u,h2⟩:=LX g hs hf hk
 exact ⟨u,h2,LN h1 h2 ha⟩
def jQ (ss:List St):Int:=bif ss.any (fun t=>bJ (dA ss t.nm) t.nm) then 19 else bif ss.any (fun t=>decide (6<dD ss t.nm)) then 9 else 0
def aSX:W.Spec:=fun av H K=>∃(s:Sc) (ks:List Value) (vs:List St) (ks':List Value) (vs':List En),av=[.va (.gs (aA s)),tD]/\H=i6 ks vs ks' vs'/\
 oI ks vs s.ss/\Gd s.ss s.es/\s.ok/\K (iS .i64 (jQ s.ss)) (i6 ks vs ks' vs')
theorem aQK {s:Sc} {ks:List Value} {vs:List St} {ks':List Value} {vs':List En} {K:S->Hp->Prop} (h1:oI ks vs s.ss) (h2:Gd s.ss s.es) (h3:s.ok) (hK:K (iS .i64 (jQ s.ss)) (i6 ks vs ks' vs')) :
 aSX [.va (.gs (aA s)),tD] (i6 ks vs ks' vs') K:=⟨s,ks,vs,ks',vs',rfl,rfl,h1,h2,h3,hK⟩
theorem g5 {α:Type} {l:List α} {p:α->Bool} (h:l.any p=false):∀x∈l,p x=false:=fun x hx=>by
 rw[List.any_eq_false] at h;simpa using h x hx
theorem aGV:Meets Tryz.prog 45 aSX:=by
 refine aF Tryz.func45 a5S 2 (by rw[Tryz.ntmps45];decide) (aE aMC (aG A4 (aE aYB (aB _)))) (fun av H K h=>by obtain ⟨_,_,_,_,_,rfl,_⟩:=h;rfl) ?_
 rintro av H K ⟨s,ks,vs,ks',vs',rfl,rfl,h1,hg,hs,hK⟩
 have fin:∀(x:Int) (R:Hp),jQ s.ss=x->W.Fin 2 K (iS .i64 x) (.map .string ks (vs.map mO)::.map .string ks' (vs'.map m3)::R):=fun x R h=>by
  rw[h] at hK
  exact .sel [0,1] (by simp) (by simp) rfl (.done (by simp -dsimp only[go_sem];simpa using hK))
 obtain ⟨_,_,hls,_,hss⟩:=hs
 simp -dsimp only[go_sem,aA,aWI,aT7]
 refine aO (α:=Nat) (fun i=>[(2,.va (.c1 (.pt 2 0))),(3,.va (.c1 (.pt 3 0))),(10,.va (.c1 (.fz (s.ss.map aD)))),(11,iS .i64 s.ss.length),(12,iS .i64 i)]) (fun _=>[.map .string ks (vs.map mO),.map .string ks' (vs'.map m3),.cells (aA s) 25,.cells [.mp 0,.mp 1] 90])
  (fun i=>i<=s.ss.length/\(s.ss.drop i).any (fun t=>bJ (dA s.ss t.nm) t.nm)=s.ss.any (fun t=>bJ (dA s.ss t.nm) t.nm)) (fun i=>s.ss.length-i) 0 4 ⟨aP _,rfl⟩ ?_ ?_ ?_
 · simp -dsimp only[go_sem]<;>simp
 · simp -dsimp only[go_sem,aA]<;>simp
 rintro i ⟨hi,ho⟩
 rcases bB i s.ss.length with hlt|hge
 · have hgi:decide ((i:Int)<(s.ss.length:Int))=true:=by simp;omega
   obtain ⟨t,hx⟩:∃t,s.ss[i]? = some t:=⟨_,aX hlt⟩
   have q1:=aS (row:=aD) hx
   rw[eO hx] at ho
   have hv:=hg.vlen t.nm
   have hbs:xH ((dA s.ss t.nm).map bH):=rJ (by rw[wU];omega)
   simp(maxSteps:=9^6)-dsimp only[go_sem,hgi,↓q1,aD,aA]
   refine ⟨by omega,aAN h1 hss (by omega) ?_⟩
   simp(maxSteps:=9^6)-dsimp only[go_sem,hbs]
   cases hc:bJ (dA s.ss t.nm) t.nm with
   |true=>
    rw[hc,cR] at ho
    simp -dsimp only[go_sem]
    exact fin 19 _ (by unfold jQ;rw[<-ho];rfl)
   |false=>
    rw[hc,bK] at ho
    simp -dsimp only[go_sem]
    refine ⟨by omega,aC (i+1) 4 ⟨by omega,ho⟩ (by omega) ?_ ?_⟩
    · simp -dsimp only[go_sem]<;>simp
    · simp -dsimp only[go_sem,aA]<;>simp
 · have hgi:decide ((i:Int)<(s.ss.length:Int))=false:=by simp;omega
   obtain rfl:i=s.ss.length:=by omega
   rw[g8] at ho
   have ha:wL s.ss:=fun t ht=>g5 ho.symm t ht
   have hD:=hg.dp ha
   have hF:jQ s.ss=bif s.ss.any (fun t=>decide (6<dD s.ss t.nm)) then 9 else 0:=by unfold jQ;rw[<-ho];rfl
   simp -dsimp only[go_sem,hgi,aA]
   refine aO (α:=Nat) (fun i=>[(3,.va (.c1 (.pt 3 0))),(25,.va (.c1 (.fz (s.ss.map aD)))),(26,iS .i64 s.ss.length),(27,iS .i64 i)]) (fun _=>[.map .string ks (vs.map mO),.map .string ks' (vs'.map m3),.cells (aA s) 25,.cells [.mp 0,.mp 1] 90])
    (fun i=>i<=s.ss.length/\(s.ss.drop i).any (fun t=>decide (6<dD s.ss t.nm))=s.ss.any (fun t=>decide (6<dD s.ss t.nm))) (fun i=>s.ss.length-i) 0 4 ⟨aP _,rfl⟩ ?_ ?_ ?_
   · simp -dsimp only[go_sem]<;>simp
   · simp -dsimp only[go_sem,aA]<;>simp
   clear ho
   rintro i ⟨hi,ho⟩
   rcases bB i s.ss.length with hlt|hge
   · have hgi:decide ((i:Int)<(s.ss.length:Int))=true:=by simp;omega
     obtain ⟨t,hx⟩:∃t,s.ss[i]? = some t:=⟨_,aX hlt⟩
     have q1:=aS (row:=aD) hx
     rw[eO hx] at ho
     have hnd:=hg.nd t (cC hx)
     simp(maxSteps:=9^6)-dsimp only[go_sem,hgi,↓q1,aD,aA]
     refine ⟨by omega,aRC h1 hD hnd ?_⟩
     simp(maxSteps:=9^6)-dsimp only[go_sem]
     cases hc:decide (6<dD s.ss t.nm) with
     |true=>
      rw[hc,cR] at ho
      simp -dsimp only[go_sem]
      exact fin 9 _ (by rw[hF,<-ho];rfl)
     |false=>
      rw[hc,bK] at ho
      simp -dsimp only[go_sem]
      refine ⟨by omega,aC (i+1) 4 ⟨by omega,ho⟩ (by omega) ?_ ?_⟩
      · simp -dsimp only[go_sem]<;>simp
      · simp -dsimp only[go_sem,aA]<;>simp
   · have hgi:decide ((i:Int)<(s.ss.length:Int))=false:=by simp;omega
     obtain rfl:i=s.ss.length:=by omega
     rw[g8] at ho
     simp -dsimp only[go_sem,hgi,aA]
     exact fin 0 _ (by rw[hF,<-ho];rfl)
def j6 (s:Sc) (i:Nat):Int:=match s.es[i]? with
 |some e=>bif !(wO (bl e.nm)) then 5 else bif cI (s.es.take i) e.nm then 7 else pW e
 |none=>0
def kO (s:Sc) (i:Nat):Int:=match s.ss[i]? with
 |some t=>bif lO s i t.nm != 0 then lO s i t.nm else tB s.ss s.es t
 |none=>0
def vQ (s:Sc):Int:=fE (j6 s) (s.es.length-0) 0
def tH (s:Sc):Int:=fE (kO s) (s.ss.length-0) 0
def aL (s:Sc):Int:=bif decide (s.ver<1)||decide (999<s.ver) then 4 else bif c9 s then 3 else bif vQ s != 0 then vQ s else bif tH s != 0 then tH s else jQ s.ss
inductive TySm:Ty->Prop
 |mk {k s:Int} {n:ByteArray} {e:List Ty}:e.length<=1000000000->(∀t∈e,TySm t)->TySm (.mk k s n e)
structure Sc.fit (s:Sc):Prop where
 ok:s.ok
 lv:∀t∈s.ss,∀f∈t.fs,(cJ f.ty).1<=1000000000
 sm:∀t∈s.ss,t.fs.length<=1000000000/\∀f∈t.fs,TySm f.ty
 en:∀e∈s.es,e.ns.length<=1000000000/\e.vs.length<=1000000000
theorem aAV {f:Nat->Int} {m:Nat}:∀(k i:Nat),i+k=m->fE f (m-i) i=0->∀j,i<=j->j<m->f j=0
 |0,i,h,_=>fun j h1 h2=>by omega
 |k+1,i,h,h0=>fun j h1 h2=>by
  have hi:i<m:=by omega
  by_cases e:f i=0
  · rw[tI hi e] at h0
    rcases bB i j with h3|h3
    · exact aAV k (i+1) (by omega) h0 j h3 h2
    · obtain rfl:i=j:=by omega
      exact e
  · rw[qB hi e] at h0;exact absurd h0 e
theorem jC {f:Nat->Int} {m:Nat} (h:fE f (m-0) 0=0):∀j,j<m->f j=0:=fun j hj=>aAV m 0 (by omega) h j (aP _) hj
theorem aGE {ss:List St} {i:Nat} {t:St} (hx:ss[i]? = some t) (h:aZ (ss.take i) t.nm=false):fS ss t.nm=some t:=by
 obtain ⟨hl,ht⟩:=bT.1 hx
 have h1:(ss.take i).find? (fun s=>decide (s.nm=t.nm))=none:=by
  rw[List.find?_eq_none]
  intro x hx
  have:=g5 h x hx
  simpa using this
 have h2:ss=ss.take i++(t::ss.drop (i+1)):=by rw[<-ht,<-cG hl,List.take_append_drop]
 unfold fS
 rw[h2,List.find?_append,h1]
 simp
theorem VT {ss:List St} {es:List En} {t:St} (h:tB ss es t=0):∀f∈t.fs,(1<=f.num/\f.num<=127)/\eP (bl f.nm)=true/\valF ss es f.ty=true:=fun f hf=>by
 obtain ⟨i,hi⟩:=eN.1 hf
 have:=jC h i (bT.1 hi).1
 unfold mV at this
 rw[hi] at this
 simp only at this
 cases c1:decide (f.num<1)||decide (127<f.num) with
 |true=>rw[c1] at this;simp at this
 |false=>
 rw[c1] at this
 simp only[aI] at this
 revert this
 generalize (decide (0<(i:Int))&&(match t.fs[i-1]? with|some g=>decide (f.num<=g.num)|none=>false))=b
 intro this
 cases b with
 |true=>simp at this
 |false=>
 simp only[aI] at this
 simp only[cY,qF] at c1
 refine ⟨by omega,?_⟩
 cases c2:eP (bl f.nm) with
 |false=>rw[c2] at this;simp at this
 |true=>
 rw[c2] at this
 cases c3:(t.fs.take i).any (fun g=>decide (g.nm=f.nm)) with
 |true=>rw[c3] at this;simp at this
 |false=>
 rw[c3] at this
 cases c4:valF ss es f.ty with
 |false=>rw[c4] at this;simp at this
 |true=>exact ⟨rfl,rfl⟩
theorem V2 {s:Sc} {i:Nat} {n:ByteArray} (h:lO s i n=0):wO (bl n)=true/\cI s.es n=false/\aZ (s.ss.take i) n=false:=by
 unfold lO at h
 cases c1:wO (bl n) with
 |false=>rw[c1] at h;simp at h
 |true=>
 rw[c1] at h
 cases c2:cI s.es n with
 |true=>rw[c2] at h;simp at h
 |false=>
 rw[c2] at h
 cases c3:aZ (s.ss.take i) n with
 |true=>rw[c3] at h;simp at h
 |false=>exact ⟨rfl,rfl,rfl⟩
theorem DO {s:Sc} {i:Nat} {t:St} (hx:s.ss[i]? = some t) (h:kO s i=0):lO s i t.nm=0/\tB s.ss s.es t=0:=by
 unfold kO at h
 rw[hx] at h
 simp only at h
 by_cases e:lO s i t.nm=0
 · rw[e] at h;exact ⟨e,by simpa using h⟩
 · rw[show (lO s i t.nm != 0)=true by simpa using e] at h
   exact absurd h e
theorem ED {s:Sc} {i:Nat} {t:En} (hx:s.es[i]? = some t) (h:j6 s i=0):wO (bl t.nm)=true/\cI (s.es.take i) t.nm=false/\pW t=0:=by
 unfold j6 at h
 rw[hx] at h
 simp only at h
 cases c1:wO (bl t.nm) with
 |false=>rw[c1] at h;simp at h
 |true=>
 rw[c1] at h
 cases c2:cI (s.es.take i) t.nm with
 |true=>rw[c2] at h;simp at h
 |false=>
 rw[c2] at h
 exact ⟨rfl,rfl,by simpa using h⟩
theorem rW {s:Sc} (h:c9 s=false):s.es.length<=16/\s.es.length+s.ss.length<=16/\(∀e∈s.es,e.ns.length<=16)/\∀t∈s.ss,t.fs.length<=16:=by
 unfold c9 at h
 simp only[cY,qF] at h
 obtain ⟨⟨⟨h1,h2⟩,h3⟩,h4⟩:=h
 refine ⟨by omega,by omega,fun e he=>?_,fun t ht=>?_⟩
 · have:=g5 h3 e he;simp at this;exact this
 · have:=g5 h4 t ht;simp at this;exact this
theorem uM {s:Sc} (hf:s.fit) (h1:c9 s=false) (h2:tH s=0):Gd s.ss s.es:=by
 obtain ⟨l1,l2,l3,l4⟩:=rW h1
 have key:∀t∈s.ss,∃i,s.ss[i]? = some t/\lO s i t.nm=0/\tB s.ss s.es t=0:=fun t ht=>by
  obtain ⟨i,hi⟩:=eN.1 ht
  exact ⟨i,hi,DO hi (jC h2 i (bT.1 hi).1)⟩
 refine ⟨hf.ok.ss,by omega,by omega,fun t ht f hm=>?_,hf.lv,fun t ht=>?_⟩
 · obtain ⟨i,hi,c1,c2⟩:=key t ht
   exact (VT c2 f hm).2.2
 · obtain ⟨i,hi,c1,c2⟩:=key t ht
   exact aGE hi (V2 c1).2.2
def kF (r:List C):Prop:=∃s:Sc,r=aA s/\s.fit
theorem cN {s:Sc} (h:s.fit):kF (aA s):=⟨s,rfl,h⟩
noncomputable def ckFn:Fun:=uV kF C.sc fun s=>.int .i64 (aL s)
attribute [go_sem] ckFn
theorem pB {a b:Int} (h:a≠0):(bif a != 0 then a else b)=a:=by rw[bne,beq_eq_false_iff_ne.2 h];rfl
theorem rN {a b:Int} (h:a=0):(bif a != 0 then a else b)=b:=by rw[h];rfl
theorem yO:Meets Tryz.prog 15 ckFn.sp:=by
 refine aF Tryz.func15 a7Z 1 (by rw[Tryz.ntmps15];decide) (aG aSM (aG N0 (aG X4 (aE Q6 (aG XL (aE QN (aE aGV (aB _)))))))) pE ?_
 rintro av H K ⟨⟨h,rfl⟩,hK⟩
 obtain ⟨_,rfl,s,rfl,hs⟩:=fR h
 have hK:K (iS .i64 (aL s)) []:=by
  have:ckFn.val [.va (.gs (aA s))]=iA .i64 (aL s):=by simp -dsimp only[go_sem]
  rw[this] at hK;exact hK
 clear h
 have hfit:=hs
 have hsc:rH (aA s):=yI hs.ok
 obtain ⟨⟨hv,hle,hls,hes,hss⟩,hlv,_,_⟩:=hs
 have fin:∀(x:Int) (R:Hp),aL s=x->W.Fin 0 K (iS .i64 x) R:=fun x R h1=>by
  rw[h1] at hK
  exact .z ((by simpa[go_sem] using hK))
 have hsc':=hsc
 simp only[aA] at hsc'
 have hdec:C.sc [.vl (.int .i64 s.ver),.fz (s.es.map aV),.fz (s.ss.map aD)]=s:=cT s
 simp(maxSteps:=9^6)-dsimp only[go_sem,aA,aXZ,aS5,hsc',hdec]
 refine ⟨fun h1=>fin 4 _ (by unfold aL;rw[h1];rfl),fun c1=>⟨fun h1=>fin 3 _ (by unfold aL;rw[c1,h1];rfl),fun c2=>?_⟩⟩
 have hF:aL s=bif vQ s != 0 then vQ s else bif tH s != 0 then tH s else jQ s.ss:=by unfold aL;rw[c1,c2];rfl
 refine aO (α:=Nat) (fun i=>[(1,.va (.c1 (.pt 0 0))),(24,.va (.c1 (.fz (s.es.map aV)))),(25,iS .i64 s.es.length),(26,iS .i64 i)]) (fun _=>[.cells (aA s) 25])
  (fun i=>i<=s.es.length/\fE (j6 s) (s.es.length-i) i=vQ s) (fun i=>s.es.length-i) 0 1 ⟨aP _,rfl⟩ ?_ ?_ ?_
 · simp -dsimp only[go_sem]<;>simp
 · simp -dsimp only[go_sem,aA]<;>simp
 rintro i ⟨hi,ho⟩
 rcases bB i s.es.length with hlt|hge
 · have hg:decide ((i:Int)<(s.es.length:Int))=true:=by simp;omega
   obtain ⟨e,hx⟩:∃e,s.es[i]? = some e:=⟨_,aX hlt⟩
   have q1:=aS (row:=aV) hx
   have he:e.ok:=hes e (cC hx)
   have hie:TH (aV e):=V6 he
   have hie':=hie
   simp only[aV] at hie'
   have hed:C.en [.vl (.string e.nm),.fz (e.ns.map bH),.fz (e.vs.map cV)]=e:=aA6 e
   have hA:j6 s i=bif !(wO (bl e.nm)) then 5 else bif cI (s.es.take i) e.nm then 7 else pW e:=by unfold j6;rw[hx]
   have fin':∀(x:Int) (R:Hp),j6 s i=x->x≠0->W.Fin 0 K (iS .i64 x) R:=fun x R h1 h2=>fin x R (by
    rw[hF,<-ho,qB hlt (by rw[h1];exact h2),h1];exact pB h2)
   have fW:j6 s i=0->fE (j6 s) (s.es.length-(i+1)) (i+1)=vQ s:=fun h1=>by rw[<-ho,tI hlt h1]
   simp(maxSteps:=9^6)-dsimp only[go_sem,hg,↓q1,aV,aA]
   refine ⟨by omega,fun h1=>fin' 5 _ (by rw[hA,h1];rfl) (by decide),fun c3=>?_⟩
   rw[c3] at hA
   simp only[aI] at hA
   have hlj:=u9 s.es i
   simp -dsimp only[kN aPM]
   refine ⟨by simp;omega,?_⟩
   generalize hm:s.es.take i=m at *
   refine aO (α:=Nat) (fun j=>[(1,.va (.c1 (.pt 0 0))),(4,.va (.c1 (.pt 1 0))),(24,.va (.c1 (.fz (s.es.map aV)))),(25,iS .i64 s.es.length),(26,iS .i64 i),(38,.va (.c1 (.fz (m.map aV)))),(39,iS .i64 m.length),(40,iS .i64 j)]) (fun _=>[.cells (aA s) 25,.cells (aV e) 70])
    (fun j=>j<=m.length/\cI (m.drop j) e.nm=cI m e.nm) (fun j=>m.length-j) 0 2 ⟨aP _,rfl⟩ ?_ ?_ ?_
   · simp -dsimp only[go_sem]<;>simp
     rw[<-hm];exact ⟨zH.symm,by simp⟩
   · simp -dsimp only[go_sem,aA,aV]<;>simp
   rintro j ⟨hj,ho2⟩
   rcases bB j m.length with hjt|hjg
   · have hgj:decide ((j:Int)<(m.length:Int))=true:=by simp;omega
     obtain ⟨d,hd⟩:∃e,m[j]? = some e:=⟨_,aX hjt⟩
     have q5:=aS (row:=aV) hd
     rw[cI,eO hd] at ho2
     simp(maxSteps:=9^6)-dsimp only[go_sem,hgj,↓q5,aV,aA,cK]
     and_intros
     all_goals first
      |omega
      |skip
     · intro hc
       rw[hc,cR] at ho2
       exact fin' 7 _ (by rw[hA,<-ho2];rfl) (by decide)
     · intro hc
       rw[hc,bK] at ho2
       refine ⟨by omega,aC (j+1) 2 ⟨by omega,ho2⟩ (by omega) ?_ ?_⟩
       · simp -dsimp only[go_sem]<;>simp
       · simp -dsimp only[go_sem,aA,aV]<;>simp
   · have hgj:decide ((j:Int)<(m.length:Int))=false:=by simp;omega
     obtain rfl:j=m.length:=by omega
     rw[cI,g8] at ho2
     rw[<-ho2] at hA
     simp only[aI] at hA
     simp(maxSteps:=9^6)-dsimp only[go_sem,hgj,aV,aA,hie',hed]
     refine ⟨fun h1=>fin' _ _ hA (by simpa using h1),fun h1=>?_⟩
     refine ⟨by omega,aC (i+1) 1 ⟨by omega,fW (by rw[hA];simpa using h1)⟩ (by omega) ?_ ?_⟩
     · simp -dsimp only[go_sem]<;>simp
     · simp -dsimp only[go_sem,aA]<;>simp
 · have hg:decide ((i:Int)<(s.es.length:Int))=false:=by simp;omega
   obtain rfl:i=s.es.length:=by omega
   rw[sS] at ho
   rw[rN ho.symm] at hF
   simp(maxSteps:=9^6)-dsimp only[go_sem,hg,aA]
   refine aCU hfit.ok fun ks vs ks' vs' x1 x2=>?_
   simp(maxSteps:=9^6)-dsimp only[go_sem]
   clear hi hge hg
   refine aO (α:=Nat) (fun i=>[(1,.va (.c1 (.pt 0 0))),(8,.va (.c1 (.pt 3 0))),(59,.va (.c1 (.fz (s.ss.map aD)))),(60,iS .i64 s.ss.length),(61,iS .i64 i)]) (fun _=>[.cells (aA s) 25,.map .string ks (vs.map mO),.map .string ks' (vs'.map m3),.cells [.mp 1,.mp 2] 90])
    (fun i=>i<=s.ss.length/\fE (kO s) (s.ss.length-i) i=tH s) (fun i=>s.ss.length-i) 0 4 ⟨aP _,rfl⟩ ?_ ?_ ?_
   · simp -dsimp only[go_sem]<;>simp
   · simp -dsimp only[go_sem,aA]<;>simp
   clear ho
   rintro i ⟨hi,ho⟩
   rcases bB i s.ss.length with hlt|hge
   · have hg:decide ((i:Int)<(s.ss.length:Int))=true:=by simp;omega
     obtain ⟨t,hx⟩:∃e,s.ss[i]? = some e:=⟨_,aX hlt⟩
     have q1:=aS (row:=aD) hx
     have ht:t.ok:=hss t (cC hx)
     have hA:kO s i=bif lO s i t.nm != 0 then lO s i t.nm else tB s.ss s.es t:=by unfold kO;rw[hx]
     have fin':∀(x:Int) (R:Hp),kO s i=x->x≠0->W.Fin 0 K (iS .i64 x) R:=fun x R h1 h2=>fin x R (by
      rw[hF,<-ho,qB hlt (by rw[h1];exact h2),h1];exact pB h2)
     have fW:kO s i=0->fE (kO s) (s.ss.length-(i+1)) (i+1)=tH s:=fun h1=>by rw[<-ho,tI hlt h1]
     have q0:decide (0<=(i:Int))=true:=by simp
     simp(maxSteps:=9^6)-dsimp only[go_sem,hg,↓q1,aD,aA,hsc',hdec,cP]
     refine ⟨by omega,⟨by omega,by omega⟩,fun h1=>fin' _ _ (by rw[hA];exact pB (by simpa using h1)) (by simpa using h1),fun h1=>?_⟩
     have h1:lO s i t.nm=0:=by simpa using h1
     rw[rN h1] at hA
     refine aR0 x1 x2 ht ?_
     simp(maxSteps:=9^6)-dsimp only[go_sem]
     refine ⟨fun h1=>fin' _ _ hA (by simpa using h1),fun h1=>?_⟩
     refine ⟨by omega,aC (i+1) 4 ⟨by omega,fW (by rw[hA];simpa using h1)⟩ (by omega) ?_ ?_⟩
     · simp -dsimp only[go_sem]<;>simp
     · simp -dsimp only[go_sem,aA]<;>simp
   · have hg:decide ((i:Int)<(s.ss.length:Int))=false:=by simp;omega
     obtain rfl:i=s.ss.length:=by omega
     rw[sS] at ho
     rw[rN ho.symm] at hF
     simp(maxSteps:=9^6)-dsimp only[go_sem,hg,aA]
     refine aQK x1 (uM hfit c2 ho.symm) hfit.ok ?_
     simp(maxSteps:=9^6)-dsimp only[go_sem]
     exact fin _ _ hF
def aYK:W.Spec:=fun av H K=>∃(s:Sc) (n:ByteArray),av=[.va (.gs (aA s)),tS n]/\H=[]/\s.fit/\(aL s≠0->K (.tu [.gs [.vl (.map none),.vl (.map none)],bA false]) [])/\
 (aL s=0->∀ks vs ks' vs',oI ks vs s.ss->E7 ks' vs' s.es->K (.tu [.gs [.mp 0,.mp 1],bA (aZ s.ss n)]) (i6 ks vs ks' vs'))
theorem aTE {s:Sc} {n:ByteArray} {K:S->Hp->Prop} (h:s.fit) (h1:aL s≠0->K (.tu [.gs [.vl (.map none),.vl (.map none)],bA false]) []) (h2:aL s=0->∀ks vs ks' vs',oI ks vs s.ss->E7 ks' vs' s.es->K (.tu [.gs [.mp 0,.mp 1],bA (aZ s.ss n)]) (i6 ks vs ks' vs')) :
 aYK [.va (.gs (aA s)),tS n] [] K:=⟨s,n,rfl,rfl,h,h1,h2⟩
theorem aWP:Meets Tryz.prog 117 aYK:=by
 refine aF Tryz.func117 a1C 2 (by rw[Tryz.ntmps117];decide) (aG yO (aE Q6 (aB _))) (fun av H K h=>by obtain ⟨_,_,rfl,_⟩:=h;rfl) ?_
 rintro av H K ⟨s,n,rfl,rfl,hs,k1,k2⟩
 have hsc:=cN hs
 simp only[aA] at hsc
 have hdec:C.sc [.vl (.int .i64 s.ver),.fz (s.es.map aV),.fz (s.ss.map aD)]=s:=cT s
 simp(maxSteps:=9^6)-dsimp only[go_sem,aA,aLL,aI1,hsc,hdec]
 refine ⟨fun h=>?_,fun h=>?_⟩
 · exact .z ((by simp -dsimp only[go_sem];exact k1 (by simpa using h)))
 · refine aCU hs.ok fun ks vs ks' vs' x1 x2=>?_
   have hx:=x1 n
   have k2:=k2 (by simpa using h) ks vs ks' vs' x1 x2
   cases hf:fS s.ss n with
   |none=>
    rw[hf] at hx
    simp only[qL] at hx
    rw[<-oD,hf] at k2
    simp(maxSteps:=9^6)-dsimp only[go_sem,hx]
    exact .sel [2,3] (by simp) (by simp) rfl (.done (by simp -dsimp only[go_sem];exact k2))
   |some t=>
    rw[hf] at hx
    simp only[cQ] at hx
    rw[<-oD,hf] at k2
    simp(maxSteps:=9^6)-dsimp only[go_sem,hx,aD]
    exact .sel [2,3] (by simp) (by simp) rfl (.done (by simp -dsimp only[go_sem];exact k2))
def OZ (p:List C->Prop):List S->Prop:=fun av=>match av with
 |[.va (.gs r),.va (.c1 (.vl (.string _)))]=>p r
 |_=>False
theorem AX {p:List C->Prop} {av:List S} (h:OZ p av):∃r n,av=[.va (.gs r),tS n]/\p r:=by
 unfold OZ at h
 split at h
 · exact ⟨_,_,rfl,h⟩
 · exact h.elim
def aJI {α:Type} (d:List C->α) (f:α->ByteArray->A):List S->A:=fun av=>match av with
 |[.va (.gs r),.va (.c1 (.vl (.string n)))]=>f (d r) n
 |_=>.gs []
noncomputable def aG5 {α:Type} (p:List C->Prop) (d:List C->α) (f:α->ByteArray->A) (hf:∀a n,(f a n).flat):Fun:=⟨OZ p,aJI d f,fun av h=>by obtain ⟨r,n,rfl,_⟩:=AX h;exact hf _ _⟩
theorem aEE {α:Type} {p:List C->Prop} {d:List C->α} {f:α->ByteArray->A} {hf:∀a n,(f a n).flat}:∀av H K,(aG5 p d f hf).sp av H K->av.length=2:=fun av H K h=>by obtain ⟨r,n,rfl,_⟩:=AX h.1.1;rfl
attribute [go_sem] aG5 OZ aJI
def pN (s:Sc) (n:ByteArray):Bool:=aL s==0&&aZ s.ss n
def jY (s:Sc) (n:ByteArray):List ByteArray:=bif pN s n then dA s.ss n else []
theorem lQ {s:Sc} (hf:s.fit) (h:aL s=0):Gd s.ss s.es/\wL s.ss/\vQ s=0/\tH s=0/\c9 s=false/\1<=s.ver/\s.ver<=999/\∀t∈s.ss,dD s.ss t.nm<=6:=by
 unfold aL at h
 cases c1:decide (s.ver<1)||decide (999<s.ver) with
 |true=>rw[c1] at h;simp at h
 |false=>
 rw[c1] at h
 cases c2:c9 s with
 |true=>rw[c2] at h;simp at h
 |false=>
 rw[c2] at h
 simp only[aI] at h
 by_cases e1:vQ s=0
 · rw[rN e1] at h
   by_cases e2:tH s=0
   · rw[rN e2] at h
     have g:=uM hf c2 e2
     unfold jQ at h
     cases c3:s.ss.any (fun t=>bJ (dA s.ss t.nm) t.nm) with
     |true=>rw[c3] at h;simp at h
     |false=>
     rw[c3] at h
     cases c4:s.ss.any (fun t=>decide (6<dD s.ss t.nm)) with
     |true=>rw[c4] at h;simp at h
     |false=>
     simp only[cY,qF] at c1
     refine ⟨g,g5 c3,e1,e2,rfl,by omega,by omega,fun t ht=>?_⟩
     have:=g5 c4 t ht
     simpa using this
   · rw[pB e2] at h;exact absurd h e2
 · rw[pB e1] at h;exact absurd h e1
def XI:W.Spec:=fun av H K=>∃(s:Sc) (n:ByteArray),av=[.va (.gs (aA s)),tS n]/\H=[]/\s.fit/\K (.va (.c1 (.fz ((jY s n).map bH)))) []
theorem EE {s:Sc} {n:ByteArray} {K:S->Hp->Prop} (h:s.fit) (hK:K (.va (.c1 (.fz ((jY s n).map bH)))) []):XI [.va (.gs (aA s)),tS n] [] K:=⟨s,n,rfl,rfl,h,hK⟩
theorem aQ5:Meets Tryz.prog 72 XI:=by
 refine aF Tryz.func72 a9V 2 (by rw[Tryz.ntmps72];decide) (aE aWP (aE aMC (aB _))) (fun av H K h=>by obtain ⟨_,_,rfl,_⟩:=h;rfl) ?_
 rintro av H K ⟨s,n,rfl,rfl,hs,hK⟩
 have fin:∀(x:List ByteArray) (R:Hp),jY s n=x->W.Fin 0 K (.va (.c1 (.fz (x.map bH)))) R:=fun x R h1=>by
  rw[h1] at hK
  exact .z ((by simpa[go_sem] using hK))
 simp -dsimp only[go_sem,aA,aQQ,aXJ]
 refine aTE hs (fun h=>?_) fun h ks vs ks' vs' x1 x2=>?_
 · simp(maxSteps:=9^6)-dsimp only[go_sem]
   exact fin [] _ (by unfold jY pN;rw[beq_eq_false_iff_ne.2 h];rfl)
 · obtain ⟨g,ha,_⟩:=lQ hs h
   cases hf:aZ s.ss n with
   |false=>
    simp(maxSteps:=9^6)-dsimp only[go_sem]
    exact fin [] _ (by unfold jY pN;rw[hf];simp)
   |true=>
    simp(maxSteps:=9^6)-dsimp only[go_sem]
    refine aAN x1 hs.ok.ss (by have:=g.vlen n;omega) ?_
    simp(maxSteps:=9^6)-dsimp only[go_sem]
    exact fin _ _ (by unfold jY pN;rw[hf,h];rfl)
def aX1 (N:Nat):W.Spec:=fun av H K=>∃t:Ty,av=[.va (.gs (aK t))]/\H=[]/\TyOk t/\TySm t/\t.h<=N/\K (.va (.gs (aK t))) []
theorem aBC {N:Nat} {t:Ty} {K:S->Hp->Prop} (h1:TyOk t) (h2:TySm t) (h3:t.h<=N) (hK:K (.va (.gs (aK t))) []):aX1 N [.va (.gs (aK t))] [] K:=⟨t,rfl,rfl,h1,h2,h3,hK⟩
theorem cM {α:Type} {l:List α} {i:Nat} {x:α} (h:l[i]? = some x):l.take (i+1)=l.take i++[x]:=by rw[List.take_add_one,h];rfl
theorem aBV (t:Ty):∀c∈aK t,c.shut=true/\c.one:=by rw[aY];simp[go_sem,C.shut]
theorem ND:∀N,Meets Tryz.prog 136 (aX1 N)
 |0=>⟨by kernel_rfl,by rintro xs vs E ro w K _ _ _ ⟨t,_,_,_,_,h,_⟩;have:=t.h_pos;omega⟩
 |N+1=>by
  refine aF Tryz.func136 a2H 1 (by rw[Tryz.ntmps136];decide) (aE (ND N) (aB _)) (fun av H K h=>by obtain ⟨_,rfl,_⟩:=h;rfl) ?_
  rintro av H K ⟨⟨k,s,n,e⟩,rfl,rfl,h1,h2,h3,hK⟩
  have hle:=h1.len
  have hoe:=h1.e
  obtain ⟨hl,hse⟩:e.length<=1000000000/\∀t∈e,TySm t:=by cases h2;exact ⟨by assumption,by assumption⟩
  simp only[Ty.e] at hle hoe
  simp(maxSteps:=9^6)-dsimp only[go_sem,aK,aR,aIZ,aM4]
  refine dL (α:=Nat) (fun i=>[(2,.va (.c1 (.pt 1 0))),(3,.va (.c1 (.pt 2 0))),(14,.va (.c1 (.fz (e.map aK)))),(15,iS .i64 e.length),(16,iS .i64 i)]) (fun i=>[.cells (aK (.mk k s n e)) 45,.cells [.vl (.int .i64 0),.vl (.int .i64 0),.vl (.string (mk [])),.vl (.slice none 0 0)] 45,.cells [.vl (.int .i64 k),.vl (.int .i64 s),.vl (.string n),.sl 3 i] 45,.row ((e.take i).map aK) 45 4])
   (fun i=>i<=e.length) (fun i=>e.length-i) (.nilc 2 3 45 4 [.vl (.int .i64 k),.vl (.int .i64 s),.vl (.string n),.vl (.slice none 0 0)] 45 rfl rfl (lA 0 4 (aP _) ?_ ?_)) ?_
  · simp -dsimp only[go_sem]<;>simp
  · simp -dsimp only[go_sem,aK,aR]<;>simp
  intro i hi
  have hz:(e.take i).length=i:=by rw[eJ];omega
  rcases bB i e.length with hlt|hge
  · have hg:decide ((i:Int)<(e.length:Int))=true:=by simp;omega
    obtain ⟨u,hx⟩:∃t,e[i]? = some t:=⟨_,aX hlt⟩
    have q1:=aS (row:=aK) hx
    have hu:=cC hx
    simp(maxSteps:=9^6)-dsimp only[go_sem,hg,↓q1,dR]
    refine ⟨by omega,DM u,aBC (hoe u hu) (hse u hu) ?_ ?_⟩
    · have:=Ty.hs_mem hu;rw[Ty.h] at h3;omega
    simp(maxSteps:=9^6)-dsimp only[go_sem,dR]
    refine ⟨aBV u,aBV u,hz,by omega,by omega,aC (i+1) 4 (by omega) (by omega) ?_ ?_⟩
    · simp -dsimp only[go_sem]<;>simp
    · simp -dsimp only[go_sem,aK,aR,cM hx]<;>simp
  · have hg:decide ((i:Int)<(e.length:Int))=false:=by simp;omega
    obtain rfl:i=e.length:=by omega
    rw[eC]
    simp(maxSteps:=9^6)-dsimp only[go_sem,hg]
    refine .pub 3 _ _ _ rfl (.sel [] (by simp) (by simp[cS]) rfl (.done ?_))
    simp -dsimp only[go_sem,cS]
    simpa[aK,aR] using hK
def aUP:W.Spec:=fun av H K=>∃f:Fl,av=[.va (.gs (aN f))]/\H=[]/\f.ok/\TySm f.ty/\K (.va (.gs (aN f))) []
theorem aA0 {f:Fl} {K:S->Hp->Prop} (h1:f.ok) (h2:TySm f.ty) (hK:K (.va (.gs (aN f))) []):aUP [.va (.gs (aN f))] [] K:=⟨f,rfl,rfl,h1,h2,hK⟩
theorem HL:Meets Tryz.prog 85 aUP:=by
 refine dB 0 (t:=fun N=>fun av H K=>∃f:Fl,av=[.va (.gs (aN f))]/\H=[]/\f.ok/\TySm f.ty/\f.ty.h=N/\K (.va (.gs (aN f))) []) (fun N=>?_) fun av H K ⟨f,e1,e2,h1,h2,hK⟩=>⟨f.ty.h,f,e1,e2,h1,h2,rfl,hK⟩
 refine aF Tryz.func85 a6U 1 (by rw[Tryz.ntmps85];decide) (aE (ND N) (aB _)) (fun av H K h=>by obtain ⟨_,rfl,_⟩:=h;rfl) ?_
 rintro av H K ⟨f,rfl,rfl,h1,h2,rfl,hK⟩
 simp(maxSteps:=9^6)-dsimp only[go_sem,aN,aXN,aVK,nK]
 refine aBC h1.ty h2 (bE _) ?_
 simp(maxSteps:=9^6)-dsimp only[go_sem,aY]
 exact .z ((by simpa[go_sem,aN] using hK))
def aJ0:W.Spec:=fun av H K=>∃t:St,av=[.va (.gs (aD t))]/\H=[]/\t.ok/\(t.fs.length<=1000000000/\∀f∈t.fs,TySm f.ty)/\K (.va (.gs (aD t))) []
theorem aTC {t:St} {K:S->Hp->Prop} (h1:t.ok) (h2:t.fs.length<=1000000000/\∀f∈t.fs,TySm f.ty) (hK:K (.va (.gs (aD t))) []):aJ0 [.va (.gs (aD t))] [] K:=⟨t,rfl,rfl,h1,h2,hK⟩
theorem UU:Meets Tryz.prog 46 aJ0:=by
 refine aF Tryz.func46 a5P 1 (by rw[Tryz.ntmps46];decide) (aE HL (aB _)) (fun av H K h=>by obtain ⟨_,rfl,_⟩:=h;rfl) ?_
 rintro av H K ⟨⟨n,l⟩,rfl,rfl,h1,⟨hl,hse⟩,hK⟩
 obtain ⟨hn,_,hfs⟩:=h1
 simp only at hn hl hse hfs
 simp(maxSteps:=9^6)-dsimp only[go_sem,aD,aWR,aSG]
 refine dL (α:=Nat) (fun i=>[(2,.va (.c1 (.pt 1 0))),(3,.va (.c1 (.pt 2 0))),(10,.va (.c1 (.fz (l.map aN)))),(11,iS .i64 l.length),(12,iS .i64 i)]) (fun i=>[.cells (aD ⟨n,l⟩) 50,.cells [.vl (.string (mk [])),.vl (.slice none 0 0)] 50,.cells [.vl (.string n),.sl 3 i] 50,.row ((l.take i).map aN) 47 7])
  (fun i=>i<=l.length) (fun i=>l.length-i) (.nilc 2 1 47 7 [.vl (.string n),.vl (.slice none 0 0)] 50 rfl rfl (lA 0 4 (aP _) ?_ ?_)) ?_
 · simp -dsimp only[go_sem]<;>simp
 · simp -dsimp only[go_sem,aD]<;>simp
 intro i hi
 have hz:(l.take i).length=i:=by rw[eJ];omega
 rcases bB i l.length with hlt|hge
 · have hg:decide ((i:Int)<(l.length:Int))=true:=by simp;omega
   obtain ⟨u,hx⟩:∃t,l[i]? = some t:=⟨_,aX hlt⟩
   have q1:=aS (row:=aN) hx
   have hu:=cC hx
   have hcd:aN u=[.vl (.int .i64 u.num),.vl (.string u.nm),.vl (.int .i64 u.ty.k),.vl (.int .i64 u.ty.s),.vl (.string u.ty.n),.fz (u.ty.e.map aK),.vl (.bool u.opt)]:=rfl
   simp(maxSteps:=9^6)-dsimp only[go_sem,hg,↓q1,aN]
   refine ⟨by omega,aA0 (hfs u hu) (hse u hu) ?_⟩
   simp(maxSteps:=9^6)-dsimp only[go_sem,aN]
   refine ⟨hz,by omega,by omega,aC (i+1) 4 (by omega) (by omega) ?_ ?_⟩
   · simp -dsimp only[go_sem]<;>simp
   · simp -dsimp only[go_sem,aD,cM hx]<;>simp[aN]
 · have hg:decide ((i:Int)<(l.length:Int))=false:=by simp;omega
   obtain rfl:i=l.length:=by omega
   rw[eC]
   simp(maxSteps:=9^6)-dsimp only[go_sem,hg]
   refine .pub 3 _ _ _ rfl (.sel [] (by simp) (by simp[cS]) rfl (.done ?_))
   simp -dsimp only[go_sem,cS]
   simpa[aD] using hK
theorem kP {α:Type} {l:List α} {i:Nat} {x:α} (hx:l[i]? = some x) (p:α->Bool):(l.drop i).find? p=bif p x then some x else (l.drop (i+1)).find? p:=by
 obtain ⟨h,rfl⟩:=bT.1 hx
 rw[cG h,nQ]
 cases p l[i]<;>rfl
def zU:W.Spec:=fun av H K=>∃(s:Sc) (n:ByteArray),av=[.va (.gs (aA s)),tS n]/\H=[]/\s.fit/\K (.tu [.gs (aD ((fS s.ss n).getD default)),bA (aZ s.ss n)]) []
theorem dJ {s:Sc} {n:ByteArray} {K:S->Hp->Prop} (h:s.fit) (hK:K (.tu [.gs (aD ((fS s.ss n).getD default)),bA (aZ s.ss n)]) []):zU [.va (.gs (aA s)),tS n] [] K:=⟨s,n,rfl,rfl,h,hK⟩
theorem J8:aD default=[.vl (.string (mk [])),.fz []]:=rfl
theorem lH:aN default=[.vl (.int .i64 0),.vl (.string (mk [])),.vl (.int .i64 0),.vl (.int .i64 0),.vl (.string (mk [])),.fz [],.vl (.bool false)]:=rfl
theorem jJ:Meets Tryz.prog 16 zU:=by
 refine aF Tryz.func16 bAM 2 (by rw[Tryz.ntmps16];decide) (aE UU (aB _)) (fun av H K h=>by obtain ⟨_,_,rfl,_⟩:=h;rfl) ?_
 rintro av H K ⟨s,n,rfl,rfl,hs,hK⟩
 rw[<-oD] at hK
 have hl:=hs.ok.ls
 simp -dsimp only[go_sem,aA,aXT,aQ8]
 refine aO (α:=Nat) (fun i=>[(1,tS n),(2,.va (.c1 (.pt 0 0))),(4,.va (.c1 (.pt 1 0))),(9,.va (.c1 (.fz (s.ss.map aD)))),(10,iS .i64 s.ss.length),(11,iS .i64 i)]) (fun _=>[.cells (aA s) 25,.cells [.vl (.string (mk [])),.vl (.slice none 0 0)] 50])
  (fun i=>i<=s.ss.length/\fS (s.ss.drop i) n=fS s.ss n) (fun i=>s.ss.length-i) 0 2 ⟨aP _,rfl⟩ ?_ ?_ ?_
 · simp[go_sem]
 · simp[go_sem,aA]
 rintro i ⟨hi,ho⟩
 rcases bB i s.ss.length with hlt|hge
 · have hg:decide ((i:Int)<(s.ss.length:Int))=true:=by simp;omega
   obtain ⟨t,hx⟩:∃e,s.ss[i]? = some e:=⟨_,aX hlt⟩
   have q2:=aS (row:=aD) hx
   have htm:=cC hx
   rw[fS,kP hx] at ho
   cases hc:decide (t.nm=n) with
   |true=>
    rw[hc,aQ] at ho
    rw[<-ho] at hK
    simp(maxSteps:=9^6)-dsimp only[go_sem,hg,↓q2,aD,aA,cK,hc]
    refine ⟨by omega,aTC (hs.ok.ss t htm) (hs.sm t htm) ?_⟩
    simp(maxSteps:=9^6)-dsimp only[go_sem,aD]
    exact .z ((by simpa[go_sem,aD] using hK))
   |false=>
    rw[hc,aI] at ho
    simp(maxSteps:=9^6)-dsimp only[go_sem,hg,↓q2,aD,aA,cK,hc]
    refine ⟨by omega,by omega,aC (i+1) 2 ⟨by omega,ho⟩ (by omega) ?_ ?_⟩
    · simp[go_sem]
    · simp[go_sem,aA]
 · have hg:decide ((i:Int)<(s.ss.length:Int))=false:=by simp;omega
   obtain rfl:i=s.ss.length:=by omega
   rw[dT] at ho
   rw[<-ho] at hK
   simp -dsimp only[go_sem,hg,aA]
   exact .z ((by simpa[go_sem,fS,J8] using hK))
def fF (l:List Fl) (k:Int):Option Fl:=l.find? fun f=>decide (f.num=k)
def wY:W.Spec:=fun av H K=>∃(t:St) (k:Int),av=[.va (.gs (aD t)),iS .i64 k]/\H=[]/\t.ok/\(∀f∈t.fs,TySm f.ty)/\K (.tu [.gs (aN ((fF t.fs k).getD default)),bA (fF t.fs k).isSome]) []
theorem nA {t:St} {k:Int} {K:S->Hp->Prop} (h:t.ok) (h2:∀f∈t.fs,TySm f.ty) (hK:K (.tu [.gs (aN ((fF t.fs k).getD default)),bA (fF t.fs k).isSome]) []):wY [.va (.gs (aD t)),iS .i64 k] [] K:=⟨t,k,rfl,rfl,h,h2,hK⟩
theorem sL:Meets Tryz.prog 69 wY:=by
 refine aF Tryz.func69 a9F 2 (by rw[Tryz.ntmps69];decide) (aE HL (aB _)) (fun av H K h=>by obtain ⟨_,_,rfl,_⟩:=h;rfl) ?_
 rintro av H K ⟨s,n,rfl,rfl,hs,hsm,hK⟩
 have hl:=hs.len
 simp -dsimp only[go_sem,aD,aU4,aQJ]
 refine aO (α:=Nat) (fun i=>[(1,iS .i64 n),(2,.va (.c1 (.pt 0 0))),(4,.va (.c1 (.pt 1 0))),(9,.va (.c1 (.fz (s.fs.map aN)))),(10,iS .i64 s.fs.length),(11,iS .i64 i)]) (fun _=>[.cells (aD s) 50,.cells [.vl (.int .i64 0),.vl (.string (mk [])),.vl (.int .i64 0),.vl (.int .i64 0),.vl (.string (mk [])),.vl (.slice none 0 0),.vl (.bool false)] 47])
  (fun i=>i<=s.fs.length/\fF (s.fs.drop i) n=fF s.fs n) (fun i=>s.fs.length-i) 0 2 ⟨aP _,rfl⟩ ?_ ?_ ?_
 · simp[go_sem]
 · simp[go_sem,aD]
 rintro i ⟨hi,ho⟩
 rcases bB i s.fs.length with hlt|hge
 · have hg:decide ((i:Int)<(s.fs.length:Int))=true:=by simp;omega
   obtain ⟨t,hx⟩:∃e,s.fs[i]? = some e:=⟨_,aX hlt⟩
   have q2:=aS (row:=aN) hx
   have htm:=cC hx
   rw[fF,kP hx] at ho
   have hq:(t.num==n)=decide (t.num=n):=rfl
   cases hc:decide (t.num=n) with
   |true=>
    rw[hc,aQ] at ho
    rw[<-ho] at hK
    simp(maxSteps:=9^6)-dsimp only[go_sem,hg,↓q2,aN,aD,hq,hc]
    refine ⟨by omega,aA0 (hs.fs t htm) (hsm t htm) ?_⟩
    simp(maxSteps:=9^6)-dsimp only[go_sem,aN]
    exact .z ((by simpa[go_sem,aN] using hK))
   |false=>
    rw[hc,aI] at ho
    simp(maxSteps:=9^6)-dsimp only[go_sem,hg,↓q2,aN,aD,hq,hc]
    refine ⟨by omega,by omega,aC (i+1) 2 ⟨by omega,ho⟩ (by omega) ?_ ?_⟩
    · simp[go_sem]
    · simp[go_sem,aD]
 · have hg:decide ((i:Int)<(s.fs.length:Int))=false:=by simp;omega
   obtain rfl:i=s.fs.length:=by omega
   rw[dT] at ho
   rw[<-ho] at hK
   simp -dsimp only[go_sem,hg,aD]
   exact .z ((by simpa[go_sem,fF,lH] using hK))
@[go_sem] theorem bBY (t:Ty) (H:Hp):(aK t).map (C.bor H)=aK t:=by rw[aY];rfl
noncomputable def l5 (a b:Ty):Bool:=@decide (a=b) (Classical.propDecidable _)
theorem xX {a b:Ty} (h:a=b):l5 a b=true:=by unfold l5;simp[h]
theorem H5 {a b:Ty} (h:a≠b):l5 a b=false:=by unfold l5;simp[h]
theorem rQ {a b:Ty}:l5 a b=true ↔ a=b:=by unfold l5;simp
def IF (N:Nat):List S->Prop:=fun av=>match av with
 |[.va (.gs r),.va (.gs q)]=>dG r/\dG q/\(C.ty r).h<=N
 |_=>False
theorem fD {N:Nat} {av:List S} (h:IF N av):∃a b,av=[.va (.gs (aK a)),.va (.gs (aK b))]/\TyOk a/\TyOk b/\a.h<=N:=by
 unfold IF at h
 split at h
 · obtain ⟨⟨a,rfl,ha⟩,⟨b,rfl,hb⟩,hh⟩:=h
   rw[eF] at hh
   exact ⟨a,b,rfl,ha,hb,hh⟩
 · exact h.elim
noncomputable def YR:List S->A:=fun av=>match av with
 |[.va (.gs r),.va (.gs q)]=>bA (l5 (C.ty r) (C.ty q))
 |_=>.gs []
noncomputable def MO (N:Nat):Fun:=⟨IF N,YR,fun av h=>by obtain ⟨a,b,rfl,_⟩:=fD h;trivial⟩
theorem RX {N:Nat}:∀av H K,(MO N).sp av H K->av.length=2:=fun av H K h=>by obtain ⟨a,b,rfl,_⟩:=fD h.1.1;rfl
attribute [go_sem] MO IF YR
theorem DH {k s k' s':Int} {n n':ByteArray} {e e':List Ty}:(Ty.mk k s n e=Ty.mk k' s' n' e') ↔ (k=k'/\s=s'/\n=n'/\e=e'):=by simp
theorem aBW:∀N,Meets Tryz.prog 119 (MO N).sp
 |0=>⟨by kernel_rfl,by rintro xs vs E ro w K _ _ _ ⟨⟨h,_⟩,_⟩;obtain ⟨a,_,_,_,_,h⟩:=fD h;have:=a.h_pos;omega⟩
 |N+1=>by
  refine aF Tryz.func119 a2T 2 (by rw[Tryz.ntmps119];decide) (aG (aBW N) (aB _)) RX ?_
  rintro av H K ⟨⟨h,rfl⟩,hK⟩
  obtain ⟨a,b,rfl,ha,hb,hh⟩:=fD h
  have hK:K (bS (l5 a b)) []:=by
   have:(MO (N+1)).val [.va (.gs (aK a)),.va (.gs (aK b))]=bA (l5 a b):=by simp -dsimp only[go_sem]
   rw[this] at hK;exact hK
  clear h
  have fin:∀(x:Bool) (R:Hp),l5 a b=x->W.Fin 0 K (bS x) R:=fun x R h=>by
   rw[h] at hK
   exact .z ((by simpa[go_sem] using hK))
  obtain ⟨k,s,n,e⟩:=a
  obtain ⟨k',s',n',e'⟩:=b
  have hla:=ha.len
  have hoa:=ha.e
  have hob:=hb.e
  simp only[Ty.e] at hla hoa hob
  simp(maxSteps:=9^6)-dsimp only[go_sem,aK,aR,aMR,aL4,cK]
  refine ⟨fun h1=>fin false _ (H5 fun he=>?_),fun h1=>?_⟩
  · obtain ⟨rfl,rfl,rfl,rfl⟩:=DH.1 he
    simp at h1
  simp only[cY,bne_eq_false_iff_eq,nP,fU] at h1
  obtain ⟨⟨⟨rfl,rfl⟩,rfl⟩,hl⟩:=h1
  have hl:e.length=e'.length:=by omega
  refine aO (α:=Nat) (fun i=>[(2,.va (.c1 (.pt 0 0))),(3,.va (.c1 (.pt 1 0))),(36,iS .i64 e.length),(37,iS .i64 i)]) (fun i=>[.cells (aK (.mk k s n e)) 45,.cells (aK (.mk k s n e')) 45])
   (fun i=>i<=e.length/\∀j,j<i->e[j]? = e'[j]?) (fun i=>e.length-i) 0 2 ⟨aP _,fun j hj=>by omega⟩ ?_ ?_ ?_
  · simp -dsimp only[go_sem]<;>simp
  · simp -dsimp only[go_sem,aK,aR]<;>simp
  rintro i ⟨hi,ho⟩
  rcases bB i e.length with hlt|hge
  · have hg:decide ((i:Int)<(e.length:Int))=true:=by simp;omega
    obtain ⟨u,hx⟩:∃t,e[i]? = some t:=⟨_,aX hlt⟩
    obtain ⟨v,hy⟩:∃t,e'[i]? = some t:=⟨_,aX (by omega)⟩
    have q1:=aS (row:=aK) hx
    have q2:=aS (row:=aK) hy
    have hu:dG (aK u):=bM (hoa u (cC hx))
    have hv:dG (aK v):=bM (hob v (cC hy))
    have huh:u.h<=N:=by have:=Ty.hs_mem (cC hx);rw[Ty.h] at hh;omega
    simp(maxSteps:=9^6)-dsimp only[go_sem,hg,aK,aR]
    simp(maxSteps:=9^6)-dsimp only[go_sem,dR,hu,hv,hx,hy,aM,forall_eq']
    refine ⟨by omega,by omega,huh,fun h1=>fin false _ (H5 fun he=>?_),fun h1=>?_⟩
    · obtain ⟨_,_,_,rfl⟩:=DH.1 he
      rw[hx] at hy
      rw[xX (dV hy)] at h1
      simp at h1
    · have h1:u=v:=rQ.1 (by simpa using h1)
      subst h1
      refine ⟨by omega,aC (i+1) 2 ⟨by omega,fun j hj=>?_⟩ (by omega) ?_ ?_⟩
      · rcases bB j i with h4|h4
        · exact ho j h4
        · obtain rfl:j=i:=by omega
          rw[hx,hy]
      · simp -dsimp only[go_sem]<;>simp
      · simp -dsimp only[go_sem,aK,aR]<;>simp
  · have hg:decide ((i:Int)<(e.length:Int))=false:=by simp;omega
    obtain rfl:i=e.length:=by omega
    simp(maxSteps:=9^6)-dsimp only[go_sem,hg]
    refine fin true _ (xX ?_)
    rw[DH]
    refine ⟨rfl,rfl,rfl,iF fun j=>?_⟩
    rcases bB j e.length with h4|h4
    · exact ho j h4
    · rw[iE h4,iE (by omega)]
def QD:List S->Prop:=fun av=>match av with
 |[.va (.gs r),.va (.gs q)]=>dG r/\dG q
 |_=>False
theorem pL {av:List S} (h:QD av):∃a b,av=[.va (.gs (aK a)),.va (.gs (aK b))]/\TyOk a/\TyOk b:=by
 unfold QD at h
 split at h
 · obtain ⟨⟨a,rfl,ha⟩,⟨b,rfl,hb⟩⟩:=h
   exact ⟨a,b,rfl,ha,hb⟩
 · exact h.elim
noncomputable def sFn:Fun:=⟨QD,YR,fun av h=>by obtain ⟨a,b,rfl,_⟩:=pL h;trivial⟩
attribute [go_sem] sFn QD
theorem aRD:Meets Tryz.prog 119 sFn.sp:=dB 0 aBW fun av H K ⟨⟨h,e⟩,hK⟩=>by
 obtain ⟨a,b,rfl,ha,hb⟩:=pL h
 exact ⟨a.h,⟨⟨⟨bM ha,bM hb,by rw[eF];exact bE _⟩,e⟩,hK⟩⟩
end Go.Proofs.YtblfcdllimkbhaaGreat
namespace Go.Proofs.YtblfcdllimkbhaaGreat
def uL:Nat->Nat->List UInt8
 |0,_=>[]
 |f+1,n=>bif decide (n<128) then [n.toUInt8] else (n % 128+128).toUInt8::uL f (n / 128)
theorem rG {f n:Nat} (hf:0<f) (h:n<128):uL f n=[n.toUInt8]:=by
 obtain ⟨g,rfl⟩:∃g,f=g+1:=⟨f-1,by omega⟩
 rw[uL,decide_eq_true h];rfl
theorem yB {f n:Nat} (h:¬ n<128):uL (f+1) n=(n % 128+128).toUInt8::uL f (n / 128):=by
 rw[uL,decide_eq_false h];rfl
theorem a2U:∀x:Nat,x<256->bits BinOp.or IntKind.u8 (x:Int) 128=((x % 128+128:Nat):Int):=by decide +kernel
theorem aZK (w:World) (b k:Nat) (hk:k+1<=10):(Instr.sliceAt 144 (.pointer (some ⟨b,0,none⟩)) none (some (.int .i64 ((k:Int)+1))) none).run Tryz.prog w=.ok (.slice (some ⟨b,0,none⟩) (k+1) 10) w:=by
 have e:((k:Int)+1).toNat=k+1:=by omega
 simp[Instr.sliceAt,Instr.sureAddr,run_underlying Tryz.underlying144,Instr.sliceBounds,run_sliceBound,e,(by omega:(0:Int)<=(k:Int)+1),(by omega:(k:Int)+1<=10),Addr.add]
theorem aF3 (N:Nat) (h1:N<2^64) (w:World) :
 Calls Tryz.prog 65 #[.int .u64 N] w fun e w'=>e=.returned (.string ⟨(uL 10 N).toArray⟩)/\∃C,w'=w.alloc (.cells C 144 (0,0)):=by
 go_enter Tryz.func65,Tryz.ntmps65
 go_wp2
 go_loopw [0,4] (fun n k w'=>∃(m k':Nat) (C:Array Value) (pre:List UInt8),n=.int .u64 m/\k=.int .i64 k'/\w'=w.alloc (.cells C 144 (0,0))/\C.size=10/\pre.length=k'/\(∀(j:Nat) (c:UInt8),pre[j]? = some c->C[j]? = some (.int .u8 c.toNat))/\uL 10 N=pre++uL (10-k') m/\k'<=9/\m<128 ^ (10-k')) (fun n _ w'=>match n with | .int _ m=>m.toNat|_=>0)
 case atStart=>refine ⟨N,0,_,[],rfl,rfl,rfl,rfl,rfl,fun j c h=>by simp at h,rfl,by omega,by omega⟩
 case round=>
  obtain ⟨m,k,C,pre,rfl,rfl,rfl,hC,hpl,hp,hu,hk,hm⟩:=hrel
  have hck:∃u,C[k]? = some u:=⟨_,Array.getElem?_eq_getElem (by omega)⟩
  obtain ⟨u,hck⟩:=hck
  by_cases hlt:m<128
  · have hsl:=aZK
    have hcv:(convert 145 9 (.slice (some ⟨w.heap.size,0,none⟩) (k+1) 10)).run Tryz.prog (w.alloc (.cells (C.setIfInBounds k (.int .u8 m)) 144 (0,0)))=.ok (.string ⟨(uL 10 N).toArray⟩) (w.alloc (.cells (C.setIfInBounds k (.int .u8 m)) 144 (0,0))):=by
     have hul:uL 10 N=pre++[m.toUInt8]:=by rw[hu,rG (by omega) hlt]
     have hl:(pre++[m.toUInt8]).length=k+1:=by simp[hpl]
     have:=run_convert_bytes_back (P:=Tryz.prog) (w.alloc (.cells (C.setIfInBounds k (.int .u8 m)) 144 (0,0))) 145 9 5 ⟨w.heap.size,0,none⟩ 10 (pre++[m.toUInt8]) Tryz.underlying145 Tryz.underlying5 Tryz.underlying9 (fun j hj=>by
      have e0:(⟨w.heap.size,0,none⟩:Addr).add j=⟨w.heap.size,j,none⟩:=by simp[Addr.add];omega
      rw[e0,World.cell?_alloc_mark]
      rcases T5 j k with h|h
      · have hx:pre[j]? = some pre[j]:=List.getElem?_eq_getElem (by omega)
        rw[List.getElem_append_left (by omega),aC1 (by omega)]
        exact hp j _ hx
      · obtain rfl:j=k:=by omega
        rw[List.getElem_append_right (by omega)]
        simp[hC,show j<10 by omega,Nat.mod_eq_of_lt (show m<256 by omega)])
     rw[hl] at this
     rw[hul];exact this
    go_wp2
    go_ret
    exact ⟨by rw[hu];rfl,_,rfl⟩
  · have hge:(128:Int)<=m:=by omega
    have hk8:k<=8:=by
     rcases T5 k 9 with h|h
     · omega
     · have:k=9:=by omega
       subst this;simp at hm;omega
    go_wp2
    refine ⟨⟨m / 128,k+1,_,pre++[(m % 128+128).toUInt8],by simp,by simp,rfl,by simp[hC],by simp[hpl],fun j c hc=>?_,?_,by omega,?_⟩,?_⟩
    · rcases T5 j k with h|h
      · rw[lY (by omega)] at hc
        rw[aC1 (by omega)]
        exact hp j c hc
      · have hj:=(List.getElem?_eq_some_iff.1 hc).1
        obtain rfl:j=k:=by simp[hpl] at hj;omega
        rw[List.getElem?_append_right (by omega),hpl] at hc
        simp at hc
        subst hc
        have e1:((m:Int) % 256)=((m % 256:Nat):Int):=by omega
        rw[e1,a2U _ (Nat.mod_lt _ (by decide))]
        have e2:m % 256 % 128=m % 128:=by omega
        simp[hC,show j<10 by omega,e2]
        omega
    · rw[hu,show 10-k=10-(k+1)+1 by omega,yB hlt,List.append_assoc];rfl
    · have:128 ^ (10-k)=128 ^ (10-(k+1))*128:=by rw[<-Nat.pow_succ];congr 1;omega
      rw[this] at hm
      exact Nat.div_lt_of_lt_mul (by rw[Nat.mul_comm];exact hm)
    · show ((m:Int) / 128).toNat<(m:Int).toNat
      omega
end Go.Proofs.YtblfcdllimkbhaaGreat
namespace Go.Proofs.YtblfcdllimkbhaaGreat
open Go.W
def aW7:PC:=.S [.q 2 (.mv d8)] (.R [.v 3 0,.q 4 (.lnS lW),.q 5 (.cvt .u64 (.t 4)),.u 6 65 [kM],.v 7 0,.k 8 .add 6 7,.v 2 8])
def aS0:List RV:=[.mv (.t 2)]
theorem a74:aU Tryz.prog true ⟨fun r k=>if r=1/\k=3 then .q else .own [],fun _=>false⟩ Tryz.f66=some (aW7,aS0):=by kernel_rfl
def aJE:PC:=.S [.q 2 (.mv d8)] (.R [.v 3 0,.q 4 (.cvt .u64 lW),.b 5 .shl (.t 4) O1,.v 6 0,.b 7 .shr jZ (.k (.int .u64 63)),.q 8 (.cvt .u64 iX),.k 9 .xor 5 8,.u 10 65 [iR],.v 2 10])
def aLY:List RV:=[.mv (.t 2)]
theorem aYY:aU Tryz.prog true ⟨fun r k=>if r=1/\k=7 then .q else .own [],fun _=>false⟩ Tryz.f110=some (aJE,aLY):=by kernel_rfl
def aKC:PC:=.S [.q 2 (.mv (.k (.pointer none)))] (.R [.v 3 0,.q 4 (.bd [(.string (mk [])),(.int .i64 0),(.int .i64 0)] [(0,1,lW)]),.z 5 208 4,.v 2 5])
def aJO:List RV:=[.mv (.t 2)]
theorem a23:aU Tryz.prog true ⟨fun _ _=>.own [],fun _=>false⟩ Tryz.f155=some (aKC,aJO):=by kernel_rfl
def J3:PC:=.seq (.gh (.reg [.r 7 3,.v 2 7])) .ret
@[go_sem ↓] theorem a5J:a7 J3:=a8 _
def J5:PC:=.seq (.gh (.reg [.v 4 0,.q 5 (.mf 174 [lW]),.a 6 (.cl 173 [(.t 4),kM] [0,1])])) J3
@[go_sem ↓] theorem a3Y:a7 J5:=a8 _
def aLG:PC:=.S [.q 2 (.mv pZ)] (.S [.e 3 (.al (.int .u64 0) 112),.s (.st 1 lW pZ)] J5)
def aJQ:List RV:=[.mv (.t 2)]
theorem a2X:aU Tryz.prog true ⟨fun r k=>if r=2/\k=2 then .own [0,1] else .own [],fun r=>[2,3].contains r⟩ Tryz.f156=some (aLG,aJQ):=by kernel_rfl
def aIJ:PC:=.S [.c 2 0] (.seq (.S [.v 3 0,.q 4 (.eqP false lW (.k (.pointer none)))] (.I 4 (.R [.c 2 6]))) (.R [.v 5 0,.q 6 (.nc kM),.f 7 2 6,.r 8 7,.v 2 8]))
def aMA:List RV:=[.mv (.t 2)]
theorem a2V:aU Tryz.prog true ⟨fun _ _=>.own [],fun _=>false⟩ Tryz.f157=some (aIJ,aMA):=by kernel_rfl
def aNB:PC:=.S [.c 2 0] (.seq (.S [.v 3 0,.q 4 (.eqP false lW (.k (.pointer none)))] (.I 4 (.R [.c 2 0]))) (.R [.v 5 0,.q 6 (.nc kM),.f 7 0 6,.r 8 7,.q 9 (.lnS rS),.v 10 0,.q 11 (.nc jK),.f 12 1 11,.r 13 12,.k 14 .sub 9 13,.v 2 14]))
def aMO:List RV:=[.mv (.t 2)]
theorem a2M:aU Tryz.prog true ⟨fun _ _=>.own [],fun _=>false⟩ Tryz.f158=some (aNB,aMO):=by kernel_rfl
def LA:PC:=.seq (.gh (.reg [.v 6 3,.b 7 .shr jZ O1,.q 8 (.cvt .i64 iX),.v 9 3,.b 10 .and iR O1,.q 11 (.cvt .i64 jK),.q 12 (.neg false kJ),.k 13 .xor 8 12,.v 2 13])) .ret
@[go_sem ↓] theorem a4H:a7 LA:=a8 _
def aMI:PC:=.S [.c 2 0] (.S [.v 4 0,.a 5 (.cl 156 [(.t 4)] [0]),.v 3 5] LA)
def aJ8:List RV:=[.mv (.t 2)]
theorem a0Q:aU Tryz.prog true ⟨fun r k=>if r=1/\k=1 then .own [0] else .own [],fun r=>[2].contains r⟩ Tryz.f159=some (aMI,aJ8):=by kernel_rfl
def DU:PC:=.seq (.seq (.gh (.reg [.v 29 5,.h 30 .neq 29 0])) (.I 30 (.R [.v 31 0,.v 32 5,.q 33 (.nc pV),.f 34 2 33,.w 1 34 32]))) (.reg [.v 35 0,.q 36 (.nc qG),.f 37 1 36,.r 38 37,.v 39 4,.k 40 .add 38 39,.q 41 (.nc qG),.f 42 1 41,.w 1 42 40])
@[go_sem ↓] theorem a5E:a7 DU:=a8 _
def KS:PC:=.seq (.gh (.ord [.q (.v 16 1),.q (.v 17 0),.q (.q 18 (.nc mH)),.q (.f 19 0 18),.q (.r 20 19),.q (.v 21 0),.q (.q 22 (.nc hJ)),.q (.f 23 1 22),.q (.r 24 23),.q (.q 25 (.ss jS (some kQ) none)),.m (.a 26 (.ca lC [kI] [1])),.q (.v 15 26),.q (.y 27 15 0),.q (.y 28 15 1),.m (.v 4 27),.rc (.y 28 15 1),.m (.v 5 28)])) DU
@[go_sem ↓] theorem a29:a7 KS:=a8 _
def aMU:PC:=.seq (.S [.v 6 0,.q 7 (.eqP false jZ (.k (.pointer none))),.v 8 7,.N 9 8 (.v 0),.N 10 8 (.q (.nc iR)),.N 11 8 (.f 2 10),.N 12 8 (.r 11),.N 13 8 (.h .neq 12 0),.o 14 8 13] (.I 14 .ret)) KS
def aMJ:List RV:=[]
theorem aZ1:aU Tryz.prog true ⟨fun r k=>if r=1/\k=10 then .own [1] else .own [],fun r=>[1,2].contains r⟩ Tryz.f173=some (aMU,aMJ):=by kernel_rfl
def MP:PC:=.seq (.gh (.reg [.v 14 5,.w 1 1 14])) (.R [.v 15 6,.v 16 7,.v 3 15,.v 4 16])
@[go_sem ↓] theorem a3N:a7 MP:=a8 _
def aIS:PC:=.S [.c 3 0,.c 4 0] (.S [.v 9 0,.j 10 175 [iR],.v 8 10,.y 11 8 0,.y 12 8 1,.y 13 8 2,.v 5 11,.v 6 12,.v 7 13] MP)
def aLM:List RV:=[.mv (.t 3),.mv (.t 4)]
theorem a1R:aU Tryz.prog true ⟨fun _ _=>.own [],fun r=>[2].contains r⟩ Tryz.f174=some (aIS,aLM):=by kernel_rfl
def aML:PC:=.S [.q 2 (.mv pZ),.c 3 0,.c 4 0] (.S [.q 5 (.mv pZ)] (.seq (.S [.c 8 0] (.block 0 (.loop (.S [.h 9 .lss 8 10] (.seq (.C 9 .skip (.exit 0)) (.seq (.block 1 (.S [.v 10 8,.v 6 10] (.seq (.S [.v 11 6,.v 12 0,.q 13 (.lnS kB),.k 14 .eql 11 13] (.I 14 (.R [.q 2 (.mv pZ),.c 3 0,.c 4 1]))) (.S [.v 15 0,.v 16 6,.a 17 (.ix jR lC),.v 7 17] (.seq (.S [.v 18 6,.h 19 .eql 18 9,.v 20 19,.Y 21 20 (.v 7),.Y 22 20 (.b .gtr hJ (.k (.int .u8 1))),.p 23 20 22] (.I 23 (.R [.q 2 (.mv pZ),.c 3 0,.c 4 2]))) (.S [.v 24 5,.v 25 7,.b 26 .and kI (.k (.int .u8 127)),.q 27 (.cvt .u64 j7),.v 28 6,.b 29 .mul (.i 7) g7,.k 30 .shl 27 29,.k 31 .or 24 30,.v 5 31] (.seq (.S [.v 32 7,.b 33 .geq qA (.k (.int .u8 128))] (.I 33 (.exit 1))) (.seq (.S [.v 34 7,.b 35 .eql rZ (.k (.int .u8 0)),.v 36 35,.Y 37 36 (.v 6),.Y 38 36 (.h .gtr 37 0),.p 39 36 38] (.I 39 (.R [.q 2 (.mv pZ),.c 3 0,.c 4 2]))) (.R [.v 40 5,.v 41 6,.h 42 .add 41 1,.v 2 40,.v 3 42,.c 4 0]))))))))) (.reg [.h 43 .add 8 1,.v 8 43]))))))) (.R [.q 2 (.mv pZ),.c 3 0,.c 4 2])))
def aLI:List RV:=[.mv (.t 2),.mv (.t 3),.mv (.t 4)]
theorem aZS:aU Tryz.prog true ⟨fun _ _=>.own [],fun _=>false⟩ Tryz.f175=some (aML,aLI):=by kernel_rfl
def pc7:PC:=.S [.z 4 25 0,.z 5 25 1,.z 7 29 3,.A 8 gO 29,.c 9 0] (.seq (.S [.n 15 3 4,.u 16 15 [jR],.v 10 16] (.S [.v 17 10,.h 18 .neq 17 0] (.I 18 (.R [.q 19 (.bd [(.int .i64 0),(.int .i64 0),(.string (mk [])),(.slice none 0 0),(.slice none 0 0)] []),.v 20 10,.w 5 8 19,.v 9 20])))) (.seq (.S [.n 21 3 5,.u 22 15 [hJ],.v 11 22] (.S [.v 23 11,.h 24 .neq 23 0] (.I 24 (.R [.q 25 (.bd [(.int .i64 0),(.int .i64 0),(.string (mk [])),(.slice none 0 0),(.slice none 0 0)] []),.v 26 11,.w 5 8 25,.v 9 26])))) (.seq (.S [.n 28 3 4,.v 29 2,.j 30 16 [g7,lB],.v 27 30,.y 31 27 0,.y 32 27 1,.A 12 #[(.string (mk [])),(.slice none 0 0)] 50,.w 2 12 31,.v 13 32] (.S [.v 33 13,.t 34 33] (.I 34 (.R [.q 35 (.bd [(.int .i64 0),(.int .i64 0),(.string (mk [])),(.slice none 0 0),(.slice none 0 0)] []),.w 5 8 35,.c 9 6])))) (.seq (.S [.n 36 3 4,.v 37 2,.q 38 (.bd [(.int .i64 0),(.int .i64 0),(.string (mk [])),(.slice none 0 0)] [(0,1,(.i 6)),(2,1,mI)]),.n 39 5 7,.u 40 17 [kX,mL,kY],.v 14 40] (.S [.v 41 14,.h 42 .neq 41 0] (.I 42 (.R [.q 43 (.bd [(.int .i64 0),(.int .i64 0),(.string (mk [])),(.slice none 0 0),(.slice none 0 0)] []),.v 44 14,.w 5 8 43,.v 9 44])))) (.seq (.S [.n 45 3 4,.n 46 3 5,.v 47 2,.u 48 14 [(.t 45),p7,nJ],.t 49 48] (.I 49 (.R [.q 50 (.bd [(.int .i64 0),(.int .i64 0),(.string (mk [])),(.slice none 0 0),(.slice none 0 0)] []),.w 5 8 50,.c 9 14]))) (.R [.n 51 3 5,.v 52 2,.n 53 5 7,.j 54 18 [(.t 51),pU,tV],.w 5 8 54,.c 9 0]))))))
def rs7:List RV:=[.ld (.ldn 5 (.t 8)),.mv (.t 9)]
theorem ok7:aU Tryz.prog true ⟨fun r k=>if r=1/\k=1 then .q else if r=4/\k=1 then .q else if r=10/\k=4 then .q else if r=13/\k=3 then .q else .own [],fun _=>false⟩ Tryz.f7=some (pc7,rs7):=by kernel_rfl
def ET:PC:=.seq (.gh (.reg [.n 66 3 3,.v 67 9,.j 68 33 [(.t 66),AU],.v 65 68,.y 69 65 0,.y 70 65 1,.A 14 #[(.string (mk [])),(.slice none 0 0),(.slice none 0 0)] 70,.w 3 14 69,.v 15 70])) (.S [.n 72 3 4,.v 73 9,.j 74 33 [AP,(.t 73)],.v 71 74,.y 75 71 0,.y 76 71 1,.A 16 #[(.string (mk [])),(.slice none 0 0),(.slice none 0 0)] 70,.w 3 16 75,.v 17 76] (.S [.f 77 2 14,.r 78 77,.m 79 78,.c 80 0] (.L 3 81 80 79 4 99 (.S [.x 82 1 78 80,.r 83 82,.v 19 83] (.S [.v 84 15,.v 85 84,.Y 86 85 (.v 17),.p 87 85 86,.v 88 87,.Y 89 88 (.f 2 16),.Y 90 88 (.r 89),.Y 91 88 (.v 19),.Y 92 88 (.cq 34 [(.t 90),(.t 91)]),.Y 93 88 (.q (.not (.t 92))),.p 94 88 93] (.I 94 (.reg [.v 95 7,.v 96 19,.v 97 9,.a 98 (.cl 31 [(.t 95),(.i 4),(.t 96),(.t 97)] [2,3])])))))))
@[go_sem ↓] theorem a4Q:a7 ET:=a8 _
def XS:PC:=.S [.z 3 25 0,.z 4 25 1,.q 6 (.mv gH)] (.seq (.S [.n 20 3 3,.u 21 15 [jS],.h 22 .neq 21 0,.v 23 22,.N 24 23 (.n 3 4),.N 25 23 (.cq 15 [kQ]),.N 26 23 (.h .neq 25 0),.o 27 23 26] (.I 27 (.R [.q 6 (.mv gH)]))) (.S [.q 28 (.bd [(.slice none 0 0)] []),.z 29 74 28,.v 7 29] (.seq (.S [.n 30 3 3,.n 31 3 4,.v 32 2,.j 33 30 [oO,pV,qA],.m 34 33,.c 35 0] (.L 0 36 35 34 1 100 (.S [.x 37 1 33 35,.r 38 37,.v 9 38] (.S [.n 40 3 3,.v 41 9,.j 42 16 [nL,nB],.v 39 42,.y 43 39 0,.y 44 39 1,.A 10 #[(.string (mk [])),(.slice none 0 0)] 50,.w 2 10 43,.v 11 44] (.S [.n 46 3 4,.v 47 9,.j 48 16 [p7,nJ],.v 45 48,.y 49 45 0,.y 50 45 1,.A 12 #[(.string (mk [])),(.slice none 0 0)] 50,.w 2 12 49,.v 13 50] (.seq (.block 2 (.S [.v 52 11,.v 53 13,.q 54 (.eqB true pU tV),.v 51 54] (.C 51 (.S [.v 55 7,.v 56 9,.a 57 (.cl 31 [tN,(.i 5),gZ,rT] [2,3])] (.exit 1)) (.S [.v 59 11,.v 58 59] (.I 58 (.reg [.v 60 7,.v 61 9,.n 62 2 10,.n 63 2 12,.a 64 (.cl 32 [sA,tT,(.t 62),(.t 63)] [2,3])])))))) ET)))))) (.S [.v 101 7,.q 102 (.nc (.t 101)),.f 103 0 102,.r 104 103,.a 105 (.cl 35 [(.t 104),(.f 36)] [3])] (.R [.v 106 7,.q 107 (.nc (.t 106)),.f 108 0 107,.r 109 108,.v 6 109])))))
def XG:List RV:=[.mv (.t 6)]
theorem a7U:aU Tryz.prog true ⟨fun r k=>if r=1/\k=1 then .q else if r=1/\k=5 then .q else if r=10/\k=2 then .own [2,3] else if r=12/\k=4 then .own [2,3] else if r=18/\k=8 then .q else if r=19/\k=3 then .own [2,3] else if r=22/\k=4 then .own [3] else .own [],fun r=>[13].contains r⟩ Tryz.f13=some (XS,XG):=by kernel_rfl
def CN:PC:=.seq (.gh (.reg [.v 31 8,.v 32 31,.Y 33 32 (.v 10),.p 34 32 33,.v 35 34,.Y 36 35 (.n 3 3),.Y 37 35 (.n 3 4),.Y 38 35 (.v 2),.Y 39 35 (.cl 13 [kX,mI,mL] []),.Y 40 35 (.m 39),.Y 41 35 (.h .eql 40 0),.p 42 35 41,.v 6 42])) .ret
@[go_sem ↓] theorem a7B:a7 CN:=a8 _
def SM:PC:=.seq (.gh (.reg [.n 26 3 4,.v 27 2,.j 28 16 [j7,oN],.v 25 28,.y 29 25 0,.y 30 25 1,.A 9 #[(.string (mk [])),(.slice none 0 0)] 50,.w 2 9 29,.v 10 30])) CN
@[go_sem ↓] theorem a61:a7 SM:=a8 _
def YG:PC:=.S [.z 3 25 0,.z 4 25 1,.F 6] (.seq (.S [.n 11 3 3,.u 12 15 [kJ],.h 13 .neq 12 0,.v 14 13,.N 15 14 (.n 3 4),.N 16 14 (.cq 15 [jR]),.N 17 14 (.h .neq 16 0),.o 18 14 17] (.I 18 (.R [.F 6]))) (.S [.n 20 3 3,.v 21 2,.j 22 16 [jS,hJ],.v 19 22,.y 23 19 0,.y 24 19 1,.A 7 #[(.string (mk [])),(.slice none 0 0)] 50,.w 2 7 23,.v 8 24] SM))
def YL:List RV:=[.mv (.t 6)]
theorem a8T:aU Tryz.prog true ⟨fun r k=>if r=1/\k=1 then .q else if r=1/\k=5 then .q else .own [],fun r=>[4,5].contains r⟩ Tryz.f14=some (YG,YL):=by kernel_rfl
def aUZ:PC:=.S [.z 3 25 0,.z 4 25 1,.q 6 (.mv gH)] (.S [.v 11 2,.e 12 (.bsl 9 1 [kJ]),.v 7 12] (.S [.n 13 3 4,.v 14 2,.j 15 72 [kW,oL],.v 8 15] (.seq (.S [.n 16 3 3,.v 17 2,.j 18 72 [lC,mH],.m 19 18,.c 20 0] (.L 0 21 20 19 1 31 (.S [.x 22 1 18 20,.r 23 22,.v 10 23] (.S [.v 24 8,.v 25 10,.u 26 73 [kQ,kI]] (.I 26 (.reg [.v 27 7,.v 28 10,.e 29 (.bsl 9 1 [g7]),.e 30 (.ap 9 1 16 oN lB),.v 7 30])))))) (.R [.v 32 7,.v 6 32]))))
def aQ7:List RV:=[.mv (.t 6)]
theorem a54:aU Tryz.prog true ⟨fun r k=>if r=6/\k=2 then .q else .own [],fun _=>false⟩ Tryz.f30=some (aUZ,aQ7):=by kernel_rfl
def aRJ:PC:=.S [.v 11 1,.v 12 2,.v 13 3,.q 14 (.bd [(.int .i64 0),(.int .i64 0),(.string (mk []))] [(0,1,kJ),(1,1,kB),(2,1,kW)]),.A 8 #[(.int .i64 0),(.int .i64 0),(.string (mk []))] 55,.w 3 8 14] (.seq (.S [.v 15 0,.q 16 (.nc jR),.f 17 0 16,.r 18 17,.m 19 18,.c 20 0] (.L 0 21 20 19 1 27 (.S [.x 22 3 18 20,.n 23 3 22,.A 10 #[(.int .i64 0),(.int .i64 0),(.string (mk []))] 55,.w 3 10 23] (.S [.n 24 3 8,.n 25 3 10,.q 26 (.eqT false [(0,.int .i64),(1,.int .i64),(2,.str)] kQ kI)] (.I 26 .ret))))) (.ord [.q (.v 28 0),.q (.v 29 0),.q (.q 30 (.nc lB)),.q (.f 31 0 30),.q (.r 32 31),.q (.n 33 3 8),.m (.e 34 (.bsl 55 3 [mJ])),.rc (.v 28 0),.rc (.v 29 0),.rc (.q 30 (.nc lB)),.rc (.f 31 0 30),.rc (.r 32 31),.m (.e 35 (.ap 55 3 32 qA rZ)),.rc (.v 28 0),.q (.q 36 (.nc g7)),.q (.f 37 0 36),.m (.w 1 37 35)]))
def aSE:List RV:=[]
theorem a56:aU Tryz.prog true ⟨fun _ _=>.own [],fun _=>false⟩ Tryz.f31=some (aRJ,aSE):=by kernel_rfl
def aTB:PC:=.S [.z 6 50 2,.z 7 50 3] (.seq (.S [.f 16 1 6,.r 17 16,.m 18 17,.c 19 0] (.L 0 20 19 18 1 61 (.S [.x 21 7 17 19,.n 22 7 21,.A 9 #[(.int .i64 0),(.string (mk [])),(.int .i64 0),(.int .i64 0),(.string (mk [])),(.slice none 0 0),(.bool false)] 47,.w 7 9 22] (.S [.n 24 2 7,.f 25 0 9,.r 26 25,.j 27 69 [kQ,j7],.v 23 27,.y 28 23 0,.y 29 23 1,.A 10 #[(.int .i64 0),(.string (mk [])),(.int .i64 0),(.int .i64 0),(.string (mk [])),(.slice none 0 0),(.bool false)] 47,.w 7 10 28,.v 11 29] (.seq (.S [.v 30 11,.t 31 30] (.I 31 (.seq (.S [.f 32 6 9,.r 33 32,.t 34 33] (.I 34 (.reg [.v 35 0,.f 36 0 9,.r 37 36,.v 38 1,.a 39 (.cl 31 [qG,qK,mI,mL] [0,1])]))) (.exit 1)))) (.seq (.S [.f 40 2 9,.n 41 4 40,.f 42 2 10,.n 43 4 42,.u 44 74 [nB,mM],.t 45 44] (.I 45 (.reg [.v 46 0,.f 47 0 9,.r 48 47,.v 49 1,.a 50 (.cl 31 [p7,lR,r8,pX] [0,1])]))) (.S [.f 51 6 9,.r 52 51,.f 53 6 10,.r 54 53,.q 55 (.eqB true pU wN)] (.I 55 (.reg [.v 56 0,.f 57 0 9,.r 58 57,.v 59 1,.a 60 (.cl 31 [rT,(.i 3),(.t 58),rR] [0,1])]))))))))) (.S [.f 62 1 7,.r 63 62,.m 64 63,.c 65 0] (.L 2 66 65 64 3 88 (.S [.x 67 7 63 65,.n 68 7 67,.A 13 #[(.int .i64 0),(.string (mk [])),(.int .i64 0),(.int .i64 0),(.string (mk [])),(.slice none 0 0),(.bool false)] 47,.w 7 13 68] (.S [.n 70 2 6,.f 71 0 13,.r 72 71,.j 73 69 [(.t 70),AP],.v 69 73,.y 74 69 0,.y 75 69 1,.A 14 #[(.int .i64 0),(.string (mk [])),(.int .i64 0),(.int .i64 0),(.string (mk [])),(.slice none 0 0),(.bool false)] 47,.w 7 14 74,.v 15 75] (.S [.v 76 15,.t 77 76,.v 78 77,.Y 79 78 (.f 6 13),.Y 80 78 (.r 79),.Y 81 78 (.q (.not (.t 80))),.p 82 78 81] (.I 82 (.reg [.v 83 0,.f 84 0 13,.r 85 84,.v 86 1,.a 87 (.cl 31 [(.t 83),qK,(.t 85),(.t 86)] [0,1])]))))))))
def aRS:List RV:=[]
theorem a63:aU Tryz.prog true ⟨fun r k=>if r=7/\k=4 then .own [0,1] else if r=8/\k=4 then .q else if r=9/\k=4 then .own [0,1] else if r=11/\k=4 then .own [0,1] else if r=18/\k=4 then .own [0,1] else .own [],fun _=>false⟩ Tryz.f32=some (aTB,aRS):=by kernel_rfl
def aEH:PC:=.S [.z 2 45 0,.z 3 45 1,.F 4] (.seq (.S [.n 7 4 2,.n 8 4 3,.u 9 119 [iX,rS]] (.I 9 (.R [.T 4]))) (.seq (.S [.f 10 0 2,.r 11 10,.f 12 0 3,.r 13 12,.k 14 .neq 11 13,.v 15 14,.N 16 15 (.f 2 2),.N 17 15 (.r 16),.N 18 15 (.f 2 3),.N 19 15 (.r 18),.N 20 15 (.k .neq 17 19),.o 21 15 20] (.I 21 (.R [.F 4]))) (.seq (.S [.f 22 0 2,.r 23 22,.h 24 .eql 23 5] (.I 24 (.R [.f 25 3 2,.r 26 25,.m 27 26,.h 28 .eql 27 1,.v 29 28,.Y 30 29 (.f 3 3),.Y 31 29 (.r 30),.Y 32 29 (.m 31),.Y 33 29 (.h .eql 32 1),.p 34 29 33,.v 35 34,.Y 36 35 (.f 1 3),.Y 37 35 (.r 36),.Y 38 35 (.f 1 2),.Y 39 35 (.r 38),.Y 40 35 (.k .geq 37 39),.p 41 35 40,.v 42 41,.Y 43 42 (.f 3 2),.Y 44 42 (.r 43),.Y 45 42 (.l (.ia 4 m7 gZ)),.Y 46 42 (.n 4 45),.Y 47 42 (.f 3 3),.Y 48 42 (.r 47),.Y 49 42 (.l (.ia 4 r8 gZ)),.Y 50 42 (.n 4 49),.Y 51 42 (.cq 74 [p7,oP]),.p 52 42 51,.v 4 52]))) (.S [.n 53 4 3,.A 5 #[(.int .i64 0),(.int .i64 0),(.string (mk [])),(.slice none 0 0)] 45,.w 4 5 53] (.S [.f 54 1 2,.r 55 54,.f 56 1 5,.w 1 56 55] (.S [.f 57 0 2,.r 58 57,.h 59 .eql 58 2,.v 60 59,.N 61 60 (.f 0 2),.N 62 60 (.r 61),.N 63 60 (.h .eql 62 3),.o 64 60 63,.v 6 64] (.R [.v 65 6,.v 66 65,.N 67 66 (.f 0 2),.N 68 66 (.r 67),.N 69 66 (.h .eql 68 4),.o 70 66 69,.v 71 70,.Y 72 71 (.f 1 3),.Y 73 71 (.r 72),.Y 74 71 (.f 1 2),.Y 75 71 (.r 74),.Y 76 71 (.k .gtr 73 75),.p 77 71 76,.v 78 77,.Y 79 78 (.n 4 2),.Y 80 78 (.n 4 5),.Y 81 78 (.cq 119 [(.t 79),(.t 80)]),.p 82 78 81,.v 4 82])))))))
def aHZ:List RV:=[.mv (.t 4)]
theorem a65:aU Tryz.prog true ⟨fun r k=>if r=1/\k=2 then .q else if r=6/\k=26 then .q else if r=10/\k=16 then .q else .own [],fun _=>false⟩ Tryz.f74=some (aEH,aHZ):=by kernel_rfl
def YQ:List S->Prop:=fun av=>match av with
 |[.va (.c1 (.vl (.int .u64 n)))]=>0<=n/\n<18446744073709551616
 |_=>False
theorem NY {av:List S} (h:YQ av):∃n:Nat,av=[iS .u64 n]/\n<18446744073709551616:=by
 unfold YQ at h
 split at h
 · rename_i n
   exact ⟨n.toNat,by rw[s0 h.1],by omega⟩
 · exact h.elim
def aFE (f:Nat->Value):List S->A:=fun av=>match av with
 |[.va (.c1 (.vl (.int .u64 n)))]=>.c1 (.vl (f n.toNat))
 |_=>.gs []
def uFn (f:Nat->Value):Fun:=⟨YQ,aFE f,fun av h=>by obtain ⟨n,rfl,_⟩:=NY h;trivial⟩
attribute [go_sem] uFn YQ aFE
def vi (n:Nat):List UInt8:=uL 10 n
theorem I6:Meets Tryz.prog 65 (uFn fun n=>.string (mk (vi n))).sp:=by
 refine ⟨by kernel_rfl,?_⟩
 rintro av vs E ro w K hlen hrel hR ⟨⟨h,hE⟩,hK⟩ _
 obtain ⟨n,rfl,hn⟩:=NY h
 obtain ⟨v0,rfl⟩:∃v0,vs=[v0]:=by
  match vs,hlen with
  |[v0],_=>exact ⟨v0,rfl⟩
 have h0:v0=.int .u64 n:=hrel 0 _ _ rfl rfl
 subst h0
 refine (aF3 n hn w).mono ?_
 rintro e w' ⟨rfl,C,rfl⟩
 have hK:K (tS (mk (vi n))) []:=by simpa[uFn,aFE] using hK
 exact ⟨tS (mk (vi n)),_,E,ro,rfl,rfl,by rw[hE];exact hK,hR.aside (fun b hb=>kH w _ b hb) (iW w _) rfl rfl rfl⟩
theorem aAL:∀(f n:Nat),(uL f n).length<=f
 |0,_=>bE _
 |f+1,n=>by
  by_cases h:n<128
  · rw[rG (Nat.succ_pos _) h];simp
  · rw[yB h];have:=aAL f (n / 128);simp;omega
theorem aAJ (n:Nat):(vi n).length<=10:=aAL 10 n
def oC (x:Int):List UInt8:=vi (IntKind.u64.wrap x).toNat
theorem rP (x:Int):(oC x).length<=10:=aAJ _
theorem aAY (x:Int):(0<=IntKind.u64.wrap x/\IntKind.u64.wrap x<18446744073709551616)=True:=by
 have h:IntKind.u64.wrap x=x % 18446744073709551616:=by simp[IntKind.wrap,IntKind.signed,IntKind.bits]
 rw[h];exact eq_true ⟨by omega,by omega⟩
theorem CD (x:Int):(0<=IntKind.u64.wrap x)=True:=eq_true (of_eq_true (aAY x)).1
theorem CY (x:Int):(IntKind.u64.wrap x<18446744073709551616)=True:=eq_true (of_eq_true (aAY x)).2
theorem rB (x:Int):vi (IntKind.u64.wrap x).toNat=oC x:=rfl
def wR (l:List UInt8):List UInt8:=oC l.length++l
def aJC (f:Int->Value):List S->A:=fun av=>match av with
 |[.va (.c1 (.vl (.int .i64 n)))]=>.c1 (.vl (f n))
 |_=>.gs []
attribute [go_sem] aJC
end Go.Proofs.YtblfcdllimkbhaaGreat
