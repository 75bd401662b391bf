/- Lemmas and walks for the proof. -/
import Derived.Test.YtblfcdllimkbhaaGreatCf
import Derived.Test.YtblfcdllimkbhaaGreatProg
import Derived.KernelRfl
import Derived.Test.YtblfcdllimkbhaaGreatRows
set_option maxRecDepth 100000
set_option maxHeartbeats 8000000
open Nat renaming zero_le→aP,le_refl→bE,mul_le_mul_right→gD,mul_comm→qO,div_add_mod→aC2,succ_le_succ→UK
open List renaming getElem_mem→eM,drop_eq_getElem_cons→cG,drop_eq_nil_iff→iD,take_succ_cons→eG,take_zero→eH,length_cons→bP,length_nil→dZ,mem_cons_self→eI,mem_cons_of_mem→eD,map_append→C7,flatMap_append→s4,append_nil→fI,take_of_length_le→sE,mem_singleton→dS,length_take→eJ,take_length→eC,take_append_drop→sH,length_append→bW,mem_cons→bU,mem_map→dO,mem_range→oQ,mem_iff_getElem?→eN,all_eq_true→nN,contains_iff_mem→aD5,length_map→cE,mem_map_of_mem→aC8
open Bool renaming true_and→bF,false_and→bL,not_true→bN,not_false→bV,true_or→cR,false_or→bK,or_false→oV,or_eq_false_iff→cY,and_eq_true→bI
open Option renaming isSome_none→nS,getD_none→oT,isSome_some→lG,map_none→qL,map_some→cQ,bind_some→nR
namespace Go.Proofs.YtblfcdllimkbhaaGreat
open Go.W
def JK:PC:=.seq (.seq (.gh (.reg [.v 10 6,.h 11 .lss 10 0])) (.I 11 (.R [.q 12 (.bd [(.int .i64 0),(.int .i64 0),(.string (mk [])),(.slice none 0 0),(.slice none 0 0)] []),.w 5 4 12,.F 5]))) (.R [.f 13 4 2,.r 14 13,.v 15 6,.x 16 6 14 15,.f 17 1 16,.n 18 5 17,.j 19 107 [iV],.w 5 4 19,.T 5])
@[go_sem ↓] theorem a7Q:a7 JK:=a8 _
def aHV:PC:=.S [.z 2 29 0,.A 4 gO 29,.F 5] (.S [.n 7 5 2,.v 8 1,.u 9 106 [iX,rS],.v 6 9] JK)
def aFX:List RV:=[.ld (.ldn 5 (.t 4)),.mv (.t 5)]
theorem bAQ:aU Tryz.prog true ⟨fun r k=>if r=1/\k=2 then .q else .own [],fun r=>[2].contains r⟩ Tryz.f62=some (aHV,aFX):=by kernel_rfl
def aUC:PC:=.S [.z 2 29 0,.z 3 29 1,.F 4] (.R [.n 5 5 2,.n 6 5 3,.j 7 108 [kM,jZ],.h 8 .eql 7 0,.v 4 8])
def aVR:List RV:=[.mv (.t 4)]
theorem a8M:aU Tryz.prog true ⟨fun r k=>if r=1/\k=2 then .own [] else .own [],fun _=>false⟩ Tryz.f63=some (aUC,aVR):=by kernel_rfl
def aLR:PC:=.S [.z 2 29 0,.z 3 3 1,.c 4 0] (.seq (.S [.f 5 0 2,.r 6 5,.h 7 .neq 6 6] (.I 7 (.R [.c 4 (-1)]))) (.R [.f 8 4 2,.r 9 8,.q 10 (.mf 149 [lW]),.a 11 (.cl 148 [iR,jK] [1]),.v 4 11]))
def aH6:List RV:=[.mv (.t 4)]
theorem a1E:aU Tryz.prog true ⟨fun r k=>if r=3/\k=3 then .own [1] else .own [],fun _=>false⟩ Tryz.f106=some (aLR,aH6):=by kernel_rfl
def aMM:PC:=.S [.z 1 29 0,.A 2 gO 29] (.S [.f 9 3 1,.r 10 9,.f 11 4 1,.r 12 11,.v 3 10,.v 4 12] (.S [.f 13 3 1,.s (.st 1 kW gH),.f 14 4 1,.s (.st 1 oL gH)] (.seq (.S [.v 15 3,.m 16 15,.c 17 0] (.L 0 18 17 16 1 28 (.S [.x 19 5 15 17,.n 20 5 19,.A 6 gO 29,.w 5 6 20] (.ord [.q (.f 21 3 1),.q (.r 22 21),.q (.n 23 5 6),.m (.j 24 107 [jP]),.rc (.f 21 3 1),.rc (.r 22 21),.m (.e 25 (.bsl 29 5 [kQ])),.rc (.f 21 3 1),.rc (.r 22 21),.m (.e 26 (.ap 29 5 80 jO kI)),.q (.f 27 3 1),.m (.w 1 27 26)])))) (.seq (.S [.v 29 4,.m 30 29,.c 31 0] (.L 2 32 31 30 3 46 (.S [.x 33 6 29 31,.n 34 6 33,.A 8 #[(.int .i64 0),(.int .i64 0),(.int .i64 0),(.string (mk [])),(.slice none 0 0),(.slice none 0 0)] 42,.w 6 8 34] (.ord [.q (.f 35 4 1),.q (.r 36 35),.q (.f 37 0 8),.q (.r 38 37),.q (.f 39 1 8),.q (.n 40 5 39),.m (.j 41 107 [nL]),.rc (.f 35 4 1),.rc (.r 36 35),.rc (.f 37 0 8),.rc (.r 38 37),.q (.q 42 (.bd [(.int .i64 0),(.int .i64 0),(.int .i64 0),(.string (mk [])),(.slice none 0 0),(.slice none 0 0)] [(0,1,mL),(1,5,nB)])),.m (.e 43 (.bsl 42 6 [tP])),.rc (.f 35 4 1),.rc (.r 36 35),.m (.e 44 (.ap 42 6 88 kX mM)),.q (.f 45 4 1),.m (.w 1 45 44)])))) (.R [.n 47 5 1,.w 5 2 47])))))
def aK5:List RV:=[.ld (.ldn 5 (.t 2))]
theorem aYV:aU Tryz.prog true ⟨fun _ _=>.own [],fun _=>false⟩ Tryz.f107=some (aMM,aK5):=by kernel_rfl
def G4:PC:=.seq (.gh (.reg [.f 41 4 2,.r 42 41,.f 43 4 3,.r 44 43,.j 45 153 [tP,m7,(.f 154)],.v 4 45])) .ret
@[go_sem ↓] theorem a2F:a7 G4:=a8 _
def F3:PC:=.seq (.seq (.gh (.reg [.f 33 3 2,.r 34 33,.f 35 3 3,.r 36 35,.j 37 152 [rZ,kX,(.f 108)],.v 8 37])) (.S [.v 38 8,.h 39 .neq 38 0] (.I 39 (.R [.v 40 8,.v 4 40])))) G4
@[go_sem ↓] theorem aZA:a7 F3:=a8 _
def L5:PC:=.seq (.seq (.gh (.reg [.f 25 2 2,.r 26 25,.f 27 2 3,.r 28 27,.u 29 38 [j7,g7],.v 7 29])) (.S [.v 30 7,.h 31 .neq 30 0] (.I 31 (.R [.v 32 7,.v 4 32])))) F3
@[go_sem ↓] theorem a4D:a7 L5:=a8 _
def MF:PC:=.seq (.seq (.gh (.reg [.f 17 1 2,.r 18 17,.f 19 1 3,.r 20 19,.u 21 151 [iV,jS],.v 6 21])) (.S [.v 22 6,.h 23 .neq 22 0] (.I 23 (.R [.v 24 6,.v 4 24])))) L5
@[go_sem ↓] theorem a3I:a7 MF:=a8 _
def aJL:PC:=.S [.z 2 29 0,.z 3 29 1,.c 4 0] (.seq (.S [.f 9 0 2,.r 10 9,.f 11 0 3,.r 12 11,.u 13 150 [jK,kB],.v 5 13] (.S [.v 14 5,.h 15 .neq 14 0] (.I 15 (.R [.v 16 5,.v 4 16])))) MF)
def aJU:List RV:=[.mv (.t 4)]
theorem a1G:aU Tryz.prog true ⟨fun r k=>if r=1/\k=4 then .q else if r=4/\k=4 then .q else if r=7/\k=4 then .q else .own [],fun r=>[4,7,10,13].contains r⟩ Tryz.f108=some (aJL,aJU):=by kernel_rfl
def aJY:PC:=.S [.z 2 42 0,.F 3] (.R [.f 4 0 2,.r 5 4,.r 6 1,.k 7 .eql 5 6,.v 3 7])
def aLJ:List RV:=[.mv (.t 3)]
theorem aZ3:aU Tryz.prog true ⟨fun _ _=>.own [],fun _=>false⟩ Tryz.f149=some (aJY,aLJ):=by kernel_rfl
def aM2:PC:=.S [.c 4 0] (.seq (.block 0 (.S [.v 6 0,.v 7 1,.k 8 .lss 6 7,.v 5 8] (.C 5 (.R [.c 4 (-1)]) (.S [.v 10 0,.v 11 1,.k 12 .gtr 10 11,.v 9 12] (.I 9 (.R [.c 4 1])))))) (.R [.c 4 0]))
def aMW:List RV:=[.mv (.t 4)]
theorem a2Z:aU Tryz.prog true ⟨fun _ _=>.own [],fun _=>false⟩ Tryz.f150=some (aM2,aMW):=by kernel_rfl
def aLQ:PC:=.S [.c 4 0] (.seq (.block 0 (.S [.v 6 0,.v 7 1,.k 8 .lss 6 7,.v 5 8] (.C 5 (.R [.c 4 (-1)]) (.S [.v 10 0,.v 11 1,.k 12 .gtr 10 11,.v 9 12] (.I 9 (.R [.c 4 1])))))) (.R [.c 4 0]))
def aKN:List RV:=[.mv (.t 4)]
theorem aY6:aU Tryz.prog true ⟨fun _ _=>.own [],fun _=>false⟩ Tryz.f151=some (aLQ,aKN):=by kernel_rfl
def aKO:PC:=.S [.c 6 0] (.seq (.S [.v 11 0,.m 12 11,.c 13 0] (.L 0 14 13 12 1 33 (.S [.v 15 13,.x 16 5 11 13,.n 17 5 16,.A 8 gO 29,.v 7 15,.w 5 8 17] (.seq (.S [.v 18 7,.v 19 1,.m 20 19,.k 21 .geq 18 20] (.I 21 (.R [.c 6 1]))) (.S [.v 22 1,.v 23 7,.x 24 5 22 23,.n 25 5 24,.A 9 gO 29,.w 5 9 25] (.S [.v 26 2,.n 27 5 8,.n 28 5 9,.a 29 (.ca j7 [oN,g7] []),.v 10 29] (.S [.v 30 10,.h 31 .neq 30 0] (.I 31 (.R [.v 32 10,.v 6 32]))))))))) (.seq (.S [.v 34 0,.m 35 34,.v 36 1,.m 37 36,.k 38 .lss 35 37] (.I 38 (.R [.c 6 (-1)]))) (.R [.c 6 0])))
def aM1:List RV:=[.mv (.t 6)]
theorem a1D:aU Tryz.prog true ⟨fun _ _=>.own [],fun _=>false⟩ Tryz.f152=some (aKO,aM1):=by kernel_rfl
def aMY:PC:=.S [.c 6 0] (.seq (.S [.v 11 0,.m 12 11,.c 13 0] (.L 0 14 13 12 1 33 (.S [.v 15 13,.x 16 6 11 13,.n 17 6 16,.A 8 #[(.int .i64 0),(.int .i64 0),(.int .i64 0),(.string (mk [])),(.slice none 0 0),(.slice none 0 0)] 42,.v 7 15,.w 6 8 17] (.seq (.S [.v 18 7,.v 19 1,.m 20 19,.k 21 .geq 18 20] (.I 21 (.R [.c 6 1]))) (.S [.v 22 1,.v 23 7,.x 24 6 22 23,.n 25 6 24,.A 9 #[(.int .i64 0),(.int .i64 0),(.int .i64 0),(.string (mk [])),(.slice none 0 0),(.slice none 0 0)] 42,.w 6 9 25] (.S [.v 26 2,.n 27 6 8,.n 28 6 9,.a 29 (.ca j7 [oN,g7] []),.v 10 29] (.S [.v 30 10,.h 31 .neq 30 0] (.I 31 (.R [.v 32 10,.v 6 32]))))))))) (.seq (.S [.v 34 0,.m 35 34,.v 36 1,.m 37 36,.k 38 .lss 35 37] (.I 38 (.R [.c 6 (-1)]))) (.R [.c 6 0])))
def aMF:List RV:=[.mv (.t 6)]
theorem a2N:aU Tryz.prog true ⟨fun _ _=>.own [],fun _=>false⟩ Tryz.f153=some (aMY,aMF):=by kernel_rfl
def LR:PC:=.seq (.gh (.reg [.f 14 1 2,.n 15 5 14,.f 16 1 3,.n 17 5 16,.j 18 108 [jR,mH],.v 4 18])) .ret
@[go_sem ↓] theorem a5I:a7 LR:=a8 _
def aII:PC:=.S [.z 2 42 0,.z 3 42 1,.c 4 0] (.seq (.S [.f 6 0 2,.r 7 6,.f 8 0 3,.r 9 8,.u 10 150 [iX,iR],.v 5 10] (.S [.v 11 5,.h 12 .neq 11 0] (.I 12 (.R [.v 13 5,.v 4 13])))) LR)
def aMX:List RV:=[.mv (.t 4)]
theorem a1Q:aU Tryz.prog true ⟨fun r k=>if r=1/\k=4 then .q else if r=4/\k=4 then .own [] else .own [],fun r=>[4].contains r⟩ Tryz.f154=some (aII,aMX):=by kernel_rfl
theorem aNF (a b:ByteArray) (w:World):Calls Tryz.prog 38 #[.string a,.string b] w fun e w'=>e=.returned (.int .i64 (Lib.compareBytes a.data.toList b.data.toList))/\w'=w:=Any.strings_Compare Tryz.lays106 a b w
def PF:List S->Prop:=fun av=>match av with
 |[.va (.c1 (.vl (.string _))),.va (.c1 (.vl (.string _)))]=>True
 |_=>False
theorem IK {av:List S} (h:PF av):∃a b:ByteArray,av=[tS a,tS b]:=by
 unfold PF at h
 split at h
 · exact ⟨_,_,rfl⟩
 · exact h.elim
def aLZ:List S->A:=fun av=>match av with
 |[.va (.c1 (.vl (.string a))),.va (.c1 (.vl (.string b)))]=>iA .i64 (Lib.compareBytes (bl a) (bl b))
 |_=>.gs []
def scFn:Fun:=⟨PF,aLZ,fun av h=>by obtain ⟨a,b,rfl⟩:=IK h;trivial⟩
attribute [go_sem] scFn PF aLZ
theorem aPU:Meets Tryz.prog 38 scFn.sp:=by
 refine ⟨by kernel_rfl,?_⟩
 rintro av vs E ro w K hlen hrel hR ⟨⟨h,hE⟩,hK⟩ _
 obtain ⟨a,b,rfl⟩:=IK h
 obtain ⟨v0,v1,rfl⟩:∃v0 v1,vs=[v0,v1]:=by
  match vs,hlen with
  |[v0,v1],_=>exact ⟨v0,v1,rfl⟩
 have h0:v0=.string a:=hrel 0 _ _ rfl rfl
 have h1:v1=.string b:=hrel 1 _ _ rfl rfl
 subst h0 h1
 refine (aNF a b w).mono ?_
 rintro e w' ⟨rfl,rfl⟩
 exact ⟨iS .i64 (Lib.compareBytes (bl a) (bl b)),_,E,ro,rfl,rfl,by rw[hE];exact hK,hR⟩
theorem aAG:∀(a b:List UInt8),(Lib.compareBytes a b==0)=(a==b)
 |[],[]=>rfl
 |[],_::_=>rfl
 |_::_,[]=>rfl
 |x::a,y::b=>by
  rw[Lib.compareBytes]
  split
  · rename_i h
    have:(x::a==y::b)=false:=by
     rw[beq_eq_false_iff_ne];intro e;cases e;exact UInt8.lt_irrefl _ h
    rw[this];rfl
  · split
    · rename_i h
      have:(x::a==y::b)=false:=by
       rw[beq_eq_false_iff_ne];intro e;cases e;exact UInt8.lt_irrefl _ h
      rw[this];rfl
    · rename_i h1 h2
      have e:x=y:=UInt8.le_antisymm (UInt8.not_lt.1 h2) (UInt8.not_lt.1 h1)
      rw[e,aAG a b]
      simp
theorem S8 (a b:Int):(sX a b==0)=(a==b):=by
 unfold sX
 cases h1:decide (a<b) with
 |true=>
  have:=iO h1
  rw[aQ,show (a==b)=false by simp;omega];rfl
 |false=>
  have h1:=gL h1
  rw[aI]
  cases h2:decide (b<a) with
  |true=>
   have:=iO h2
   rw[aQ,show (a==b)=false by simp;omega];rfl
  |false=>
   have h2:=gL h2
   rw[aI,show (a==b)=true by simp;omega];rfl
theorem aMG:Meets Tryz.prog 150 sgFn.sp:=by
 refine aF Tryz.func150 a2Z 2 (by rw[Tryz.ntmps150];decide) (aB _) G6 ?_
 rintro av H K ⟨⟨h,rfl⟩,hK⟩
 obtain ⟨a,b,rfl⟩:=p5 h
 have hK:K (iS .i64 (sX a b)) []:=hK
 clear h
 unfold sX at hK
 simp(maxSteps:=9^7)-dsimp only[go_sem,aM2,aMW]
 refine ⟨fun h1=>?_,fun h1=>⟨fun h2=>?_,fun h2=>?_⟩⟩
 · rw[h1] at hK;exact .done hK
 · rw[h1,h2] at hK;exact .done hK
 · rw[h1,h2] at hK;exact .done hK
theorem a17:Meets Tryz.prog 151 sgFn.sp:=by
 refine aF Tryz.func151 aY6 2 (by rw[Tryz.ntmps151];decide) (aB _) G6 ?_
 rintro av H K ⟨⟨h,rfl⟩,hK⟩
 obtain ⟨a,b,rfl⟩:=p5 h
 have hK:K (iS .i64 (sX a b)) []:=hK
 clear h
 unfold sX at hK
 simp(maxSteps:=9^7)-dsimp only[go_sem,aLQ,aKN]
 refine ⟨fun h1=>?_,fun h1=>⟨fun h2=>?_,fun h2=>?_⟩⟩
 · rw[h1] at hK;exact .done hK
 · rw[h1,h2] at hK;exact .done hK
 · rw[h1,h2] at hK;exact .done hK
def TR (N:Nat):W.Spec:=fun av H K=>∃a b:Vl,av=[.va (.gs (aW a)),.va (.gs (aW b))]/\H=[]/\VlOk a/\VlOk b/\a.h<=N/\∀r:Int,(r==0)=iM a b->K (iS .i64 r) []
theorem Q5 {N:Nat} {a b:Vl} {K:S->Hp->Prop} (h1:VlOk a) (h2:VlOk b) (h3:a.h<=N) (hK:∀r:Int,(r==0)=iM a b->K (iS .i64 r) []) :
 TR N [.va (.gs [.vl (.int .i64 a.k),.vl (.int .i64 a.n),.vl (.string a.s),.fz (a.l.map aW),.fz (a.f.map bG)]),.va (.gs [.vl (.int .i64 b.k),.vl (.int .i64 b.n),.vl (.string b.s),.fz (b.l.map aW),.fz (b.f.map bG)])] [] K:=
 ⟨a,b,by rw[aJ,aJ],rfl,h1,h2,h3,hK⟩
abbrev cmV:S:=.va (.c1 (.fn 108 []))
abbrev cnV:S:=.va (.c1 (.fn 154 []))
def aR2 (N:Nat):W.Spec:=fun av H K=>∃a b:List Vl,av=[.va (.c1 (.fz (a.map aW))),.va (.c1 (.fz (b.map aW))),cmV]/\H=[]/\(∀x∈a,VlOk x/\x.h<=N)/\(∀x∈b,VlOk x)/\a.length<=1000000000000000/\b.length<=1000000000000000/\∀r:Int,(r==0)=qD a b->K (iS .i64 r) []
theorem aVY {N:Nat} {a b:List Vl} {K:S->Hp->Prop} (h1:∀x∈a,VlOk x/\x.h<=N) (h2:∀x∈b,VlOk x) (h3:a.length<=1000000000000000) (h4:b.length<=1000000000000000) (hK:∀r:Int,(r==0)=qD a b->K (iS .i64 r) []) :
 aR2 N [.va (.c1 (.fz (a.map aW))),.va (.c1 (.fz (b.map aW))),cmV] [] K:=⟨a,b,rfl,rfl,h1,h2,h3,h4,hK⟩
theorem aG2 (x y:Vl) (a b:List Vl):qD (x::a) (y::b)=(iM x y&&qD a b):=by rw[qD]
theorem aZV {N:Nat} (hC:Meets Tryz.prog 108 (TR N)):Meets Tryz.prog 152 (aR2 N):=by
 refine aF Tryz.func152 a1D 3 (by rw[Tryz.ntmps152];decide) (aE hC (aB _)) (fun av H K h=>by obtain ⟨_,_,rfl,_⟩:=h;rfl) ?_
 rintro av H K ⟨a,b,rfl,rfl,ha,hb,hla,hlb,hK⟩
 have fin:∀(r:Int) (R:Hp),(r==0)=qD a b->W.Fin 0 K (iS .i64 r) R:=fun r R h=>.z ((by simpa[go_sem] using hK r h))
 simp(maxSteps:=9^7)-dsimp only[go_sem,aKO,aM1]
 refine aO (α:=Nat) (fun i=>[(0,.va (.c1 (.fz (a.map aW)))),(1,.va (.c1 (.fz (b.map aW)))),(2,cmV),(11,.va (.c1 (.fz (a.map aW)))),(12,iS .i64 a.length),(13,iS .i64 i)]) (fun _=>[])
  (fun i=>i<=a.length/\i<=b.length/\qD (a.drop i) (b.drop i)=qD a b) (fun i=>a.length-i) 0 0 ⟨aP _,aP _,rfl⟩ ?_ ?_ ?_
 · simp -dsimp only[go_sem]<;>simp
 · simp -dsimp only[go_sem]<;>simp
 rintro i ⟨hi,hib,ho⟩
 rcases bB i a.length with hlt|hge
 · have hg:decide ((i:Int)<(a.length:Int))=true:=by simp;omega
   have hx:a[i]? = some a[i]:=aX hlt
   have q1:=sC hx
   have hxo:=ha _ (eM hlt)
   rw[cG hlt] at ho
   generalize a[i]=x at *
   rcases bB i b.length with hlt2|hge2
   · have hg2:decide ((b.length:Int)<=(i:Int))=false:=by simp;omega
     have hy:b[i]? = some b[i]:=aX hlt2
     have q2:=sC hy
     have hyo:=hb _ (eM hlt2)
     rw[cG hlt2,aG2] at ho
     generalize b[i]=y at *
     simp(maxSteps:=9^7)-dsimp only[go_sem,hg,hg2,↓q1,↓q2]
     refine ⟨by omega,by omega,Q5 hxo.1 hyo hxo.2 fun r hr=>?_⟩
     simp(maxSteps:=9^7)-dsimp only[go_sem]
     refine ⟨fun h1=>fin r _ ?_,fun h1=>?_⟩
     · have h2:(r==0)=false:=by simpa using h1
       rw[h2] at hr ⊢
       rw[<-ho,<-hr];rfl
     · have h2:(r==0)=true:=by simpa using h1
       rw[h2] at hr
       rw[<-hr,bF] at ho
       refine ⟨by omega,aC (i+1) 0 ⟨by omega,by omega,ho⟩ (by omega) ?_ ?_⟩
       · simp -dsimp only[go_sem]<;>simp
       · simp -dsimp only[go_sem]<;>simp
   · have hg2:decide ((b.length:Int)<=(i:Int))=true:=by simp;omega
     have hd:b.drop i=[]:=iD.2 hge2
     rw[hd,qD] at ho
     simp(maxSteps:=9^7)-dsimp only[go_sem,hg,hg2,↓q1]
     exact ⟨by omega,fin 1 _ ho⟩
 · have hg:decide ((i:Int)<(a.length:Int))=false:=by simp;omega
   have hd:a.drop i=[]:=iD.2 hge
   rw[hd] at ho
   simp(maxSteps:=9^7)-dsimp only[go_sem,hg]
   refine ⟨fun h1=>fin (-1) _ ?_,fun h1=>fin 0 _ ?_⟩
   · have h1:=iO h1
     have hlt2:i<b.length:=by omega
     rw[cG hlt2,qD] at ho
     exact ho
   · have h1:=gL h1
     have hd2:b.drop i=[]:=iD.2 (by omega)
     rw[hd2,qD] at ho
     exact ho
def aUT (N:Nat):W.Spec:=fun av H K=>∃x y:Int×Vl,av=[.va (.gs (bG x)),.va (.gs (bG y))]/\H=[]/\VlOk x.2/\VlOk y.2/\x.2.h<=N/\∀r:Int,(r==0)=(x.1==y.1&&iM x.2 y.2)->K (iS .i64 r) []
theorem aSC {N:Nat} {x y:Int×Vl} {K:S->Hp->Prop} (h1:VlOk x.2) (h2:VlOk y.2) (h3:x.2.h<=N) (hK:∀r:Int,(r==0)=(x.1==y.1&&iM x.2 y.2)->K (iS .i64 r) []) :
 aUT N [.va (.gs [.vl (.int .i64 x.1),.vl (.int .i64 x.2.k),.vl (.int .i64 x.2.n),.vl (.string x.2.s),.fz (x.2.l.map aW),.fz (x.2.f.map bG)]),.va (.gs [.vl (.int .i64 y.1),.vl (.int .i64 y.2.k),.vl (.int .i64 y.2.n),.vl (.string y.2.s),.fz (y.2.l.map aW),.fz (y.2.f.map bG)])] [] K:=
 ⟨x,y,by rw[l9,l9],rfl,h1,h2,h3,hK⟩
theorem aY1 {N:Nat} (hC:Meets Tryz.prog 108 (TR N)):Meets Tryz.prog 154 (aUT N):=by
 refine aF Tryz.func154 a1Q 2 (by rw[Tryz.ntmps154];decide) (aG aMG (aE hC (aB _))) (fun av H K h=>by obtain ⟨_,_,rfl,_⟩:=h;rfl) ?_
 rintro av H K ⟨x,y,rfl,rfl,hx,hy,hh,hK⟩
 have fin:∀(r:Int) (R:Hp),(r==0)=(x.1==y.1&&iM x.2 y.2)->W.Fin 0 K (iS .i64 r) R:=fun r R h=>.z ((by simpa[go_sem] using hK r h))
 have hs:=S8 x.1 y.1
 simp(maxSteps:=9^7)-dsimp only[go_sem,l9 x,l9 y,aII,aMX]
 refine ⟨fun h1=>fin _ _ ?_,fun h1=>aH rfl (.done ?_)⟩
 · have h2:(sX x.1 y.1==0)=false:=by simpa using h1
   rw[h2] at hs ⊢
   rw[<-hs];rfl
 · have h2:(sX x.1 y.1==0)=true:=by simpa using h1
   rw[h2] at hs
   simp(maxSteps:=9^7)-dsimp only[go_sem,LR,eG,eH,bP,dZ]
   refine Q5 hx hy hh fun r hr=>?_
   simp(maxSteps:=9^7)-dsimp only[go_sem]
   exact fin r _ (by rw[hr,<-hs];rfl)
def aI7 (N:Nat):W.Spec:=fun av H K=>∃a b:List (Int×Vl),av=[.va (.c1 (.fz (a.map bG))),.va (.c1 (.fz (b.map bG))),cnV]/\H=[]/\(∀x∈a,VlOk x.2/\x.2.h<=N)/\(∀x∈b,VlOk x.2)/\a.length<=1000000000000000/\b.length<=1000000000000000/\∀r:Int,(r==0)=oA a b->K (iS .i64 r) []
theorem aP5 {N:Nat} {a b:List (Int×Vl)} {K:S->Hp->Prop} (h1:∀x∈a,VlOk x.2/\x.2.h<=N) (h2:∀x∈b,VlOk x.2) (h3:a.length<=1000000000000000) (h4:b.length<=1000000000000000) (hK:∀r:Int,(r==0)=oA a b->K (iS .i64 r) []) :
 aI7 N [.va (.c1 (.fz (a.map bG))),.va (.c1 (.fz (b.map bG))),cnV] [] K:=⟨a,b,rfl,rfl,h1,h2,h3,h4,hK⟩
theorem aZP {N:Nat} (hC:Meets Tryz.prog 108 (TR N)):Meets Tryz.prog 153 (aI7 N):=by
 refine aF Tryz.func153 a2N 3 (by rw[Tryz.ntmps153];decide) (aE (aY1 hC) (aB _)) (fun av H K h=>by obtain ⟨_,_,rfl,_⟩:=h;rfl) ?_
 rintro av H K ⟨a,b,rfl,rfl,ha,hb,hla,hlb,hK⟩
 have fin:∀(r:Int) (R:Hp),(r==0)=oA a b->W.Fin 0 K (iS .i64 r) R:=fun r R h=>.z ((by simpa[go_sem] using hK r h))
 simp(maxSteps:=9^7)-dsimp only[go_sem,aMY,aMF]
 refine aO (α:=Nat) (fun i=>[(0,.va (.c1 (.fz (a.map bG)))),(1,.va (.c1 (.fz (b.map bG)))),(2,cnV),(11,.va (.c1 (.fz (a.map bG)))),(12,iS .i64 a.length),(13,iS .i64 i)]) (fun _=>[])
  (fun i=>i<=a.length/\i<=b.length/\oA (a.drop i) (b.drop i)=oA a b) (fun i=>a.length-i) 0 0 ⟨aP _,aP _,rfl⟩ ?_ ?_ ?_
 · simp -dsimp only[go_sem]<;>simp
 · simp -dsimp only[go_sem]<;>simp
 rintro i ⟨hi,hib,ho⟩
 rcases bB i a.length with hlt|hge
 · have hg:decide ((i:Int)<(a.length:Int))=true:=by simp;omega
   have hx:a[i]? = some a[i]:=aX hlt
   have q1:=kZ hx
   have hxo:=ha _ (eM hlt)
   rw[cG hlt] at ho
   generalize a[i]=x at *
   rcases bB i b.length with hlt2|hge2
   · have hg2:decide ((b.length:Int)<=(i:Int))=false:=by simp;omega
     have hy:b[i]? = some b[i]:=aX hlt2
     have q2:=kZ hy
     have hyo:=hb _ (eM hlt2)
     rw[cG hlt2,aHC] at ho
     generalize b[i]=y at *
     simp(maxSteps:=9^7)-dsimp only[go_sem,hg,hg2,↓q1,↓q2]
     refine ⟨by omega,by omega,aSC hxo.1 hyo hxo.2 fun r hr=>?_⟩
     rw[<-Bool.and_assoc,<-hr] at ho
     simp(maxSteps:=9^7)-dsimp only[go_sem]
     refine ⟨fun h1=>fin r _ ?_,fun h1=>?_⟩
     · have h2:(r==0)=false:=by simpa using h1
       rw[h2,bL] at ho
       rw[h2];exact ho
     · have h2:(r==0)=true:=by simpa using h1
       rw[h2,bF] at ho
       refine ⟨by omega,aC (i+1) 0 ⟨by omega,by omega,ho⟩ (by omega) ?_ ?_⟩
       · simp -dsimp only[go_sem]<;>simp
       · simp -dsimp only[go_sem]<;>simp
   · have hg2:decide ((b.length:Int)<=(i:Int))=true:=by simp;omega
     have hd:b.drop i=[]:=iD.2 hge2
     have he:oA (x::a.drop (i+1)) []=false:=by obtain ⟨j,x⟩:=x;rw[oA]
     rw[hd,he] at ho
     simp(maxSteps:=9^7)-dsimp only[go_sem,hg,hg2,↓q1]
     exact ⟨by omega,fin 1 _ ho⟩
 · have hg:decide ((i:Int)<(a.length:Int))=false:=by simp;omega
   have hd:a.drop i=[]:=iD.2 hge
   rw[hd] at ho
   simp(maxSteps:=9^7)-dsimp only[go_sem,hg]
   refine ⟨fun h1=>fin (-1) _ ?_,fun h1=>fin 0 _ ?_⟩
   · have h1:=iO h1
     have hlt2:i<b.length:=by omega
     rw[cG hlt2] at ho
     have he:∀y:Int×Vl,oA [] (y::b.drop (i+1))=false:=fun y=>by obtain ⟨j,y⟩:=y;rw[oA]
     rw[he] at ho
     exact ho
   · have h1:=gL h1
     have hd2:b.drop i=[]:=iD.2 (by omega)
     rw[hd2,oA] at ho
     exact ho
theorem CS:∀N,Meets Tryz.prog 108 (TR N)
 |0=>⟨by kernel_rfl,by rintro xs vs E ro w K _ _ _ ⟨a,_,_,_,_,_,h,_⟩;have:=a.h_pos;omega⟩
 |N+1=>by
  refine aF Tryz.func108 a1G 2 (by rw[Tryz.ntmps108];decide) (aG aMG (aG a17 (aG aPU (aE (aZV (CS N)) (aE (aZP (CS N)) (aB _)))))) (fun av H K h=>by obtain ⟨_,_,rfl,_⟩:=h;rfl) ?_
  rintro av H K ⟨a,b,rfl,rfl,ha,hb,hh,hK⟩
  have hE:=aSQ a b
  have fin:∀(r:Int) (R:Hp),(r==0)=iM a b->W.Fin 0 K (iS .i64 r) R:=fun r R h=>.z ((by simpa[go_sem] using hK r h))
  have hs1:=S8 a.k b.k
  have hs2:=S8 a.n b.n
  have hs3:=aAG (bl a.s) (bl b.s)
  have hla:=ha.ll
  have hlb:=hb.ll
  have hfa:=ha.lf
  have hfb:=hb.lf
  simp(maxSteps:=9^7)-dsimp only[go_sem,aJ a,aJ b,aJL,aJU]
  refine ⟨fun h1=>fin _ _ ?_,fun h1=>aH rfl (.done ?_)⟩
  · have h2:(sX a.k b.k==0)=false:=by simpa using h1
    rw[h2] at hs1 ⊢
    rw[hE,<-hs1];rfl
  have h2:(sX a.k b.k==0)=true:=by simpa using h1
  rw[h2] at hs1
  rw[<-hs1,bF] at hE
  simp(maxSteps:=9^7)-dsimp only[go_sem,MF]
  refine ⟨fun h1=>fin _ _ ?_,fun h1=>aH rfl (.done ?_)⟩
  · have h2:(sX a.n b.n==0)=false:=by simpa using h1
    rw[h2] at hs2 ⊢
    rw[hE,<-hs2];rfl
  have h2:(sX a.n b.n==0)=true:=by simpa using h1
  rw[h2] at hs2
  rw[<-hs2,bF] at hE
  simp(maxSteps:=9^7)-dsimp only[go_sem,L5]
  refine ⟨fun h1=>fin _ _ ?_,fun h1=>aH rfl (.done ?_)⟩
  · have h2:(Lib.compareBytes (bl a.s) (bl b.s)==0)=false:=by simpa using h1
    rw[h2] at hs3 ⊢
    rw[hE,<-hs3];rfl
  have h2:(Lib.compareBytes (bl a.s) (bl b.s)==0)=true:=by simpa using h1
  rw[h2] at hs3
  rw[<-hs3,bF] at hE
  simp(maxSteps:=9^7)-dsimp only[go_sem,F3]
  refine aVY (fun x hx=>⟨ha.l x hx,by have:=Vl.h_l hx;omega⟩) hb.l (by omega) (by omega) fun r hr=>?_
  simp(maxSteps:=9^7)-dsimp only[go_sem]
  refine ⟨fun h1=>fin _ _ ?_,fun h1=>aH rfl (.done ?_)⟩
  · have h2:(r==0)=false:=by simpa using h1
    rw[h2] at hr ⊢
    rw[hE,<-hr];rfl
  have h2:(r==0)=true:=by simpa using h1
  rw[h2] at hr
  rw[<-hr,bF] at hE
  simp(maxSteps:=9^7)-dsimp only[go_sem,G4]
  refine aP5 (fun x hx=>⟨ha.f x hx,by have:=Vl.h_f hx;omega⟩) hb.f (by omega) (by omega) fun r hr=>?_
  simp(maxSteps:=9^7)-dsimp only[go_sem]
  exact fin r _ (by rw[hr,hE])
def O7:List S->Prop:=fun av=>match av with
 |[.va (.gs r),.va (.gs q)]=>qH r/\qH q
 |_=>False
theorem HW {av:List S} (h:O7 av):∃a b:Vl,av=[.va (.gs (aW a)),.va (.gs (aW b))]/\VlOk a/\VlOk b:=by
 unfold O7 at h
 split at h
 · obtain ⟨⟨a,rfl,h1⟩,⟨b,rfl,h2⟩⟩:=h;exact ⟨a,b,rfl,h1,h2⟩
 · exact h.elim
noncomputable def aLD:List S->A:=fun av=>match av with
 |[.va (.gs r),.va (.gs q)]=>bA (iM (C.vv r) (C.vv q))
 |_=>.gs []
noncomputable def eqFn2:Fun:=⟨O7,aLD,fun av h=>by obtain ⟨a,b,rfl,_⟩:=HW h;trivial⟩
attribute [go_sem] eqFn2 O7 aLD
theorem aHU (N:Nat):Meets Tryz.prog 63 (fun av H K=>∃a b:Vl,av=[.va (.gs (aW a)),.va (.gs (aW b))]/\H=[]/\VlOk a/\VlOk b/\a.h<=N/\K (bS (iM a b)) []):=by
 refine aF Tryz.func63 a8M 2 (by rw[Tryz.ntmps63];decide) (aE (CS N) (aB _)) (fun av H K h=>by obtain ⟨_,_,rfl,_⟩:=h;rfl) ?_
 rintro av H K ⟨a,b,rfl,rfl,ha,hb,hh,hK⟩
 simp(maxSteps:=9^7)-dsimp only[go_sem,aJ a,aJ b,aUC,aVR]
 refine Q5 ha hb hh fun r hr=>?_
 simp(maxSteps:=9^7)-dsimp only[go_sem]
 exact .z ((by rw[hr];simpa[go_sem] using hK))
theorem UZ:Meets Tryz.prog 63 eqFn2.sp:=dB (0:Nat) aHU fun av H K h=>by
 obtain ⟨⟨h,e⟩,hK⟩:=h
 obtain ⟨a,b,rfl,ha,hb⟩:=HW h
 have hK:K (bS (iM (C.vv (aW a)) (C.vv (aW b)))) []:=hK
 rw[jL,jL] at hK
 exact ⟨a.h,a,b,rfl,e,ha,hb,bE _,hK⟩
def tC (L:List (Int×Vl)):List Value:=L.map fun y=>.int .i64 y.1
def vY (L:List (Int×Vl)):List A:=L.map fun y=>.gs (aW y.2)
theorem aAF (k:Int):∀(L:List (Int×Vl)),j0 (tC L) (vY L) (.int .i64 k)=(dH L k).map fun y=>.gs (aW y.2)
 |[]=>rfl
 |y::L=>by
  have ih:=aAF k L
  unfold j0 at ih ⊢
  show ((mG (.int .i64 y.1::tC L) (.int .i64 k)).bind fun i=>(A.gs (aW y.2)::vY L)[i]?)=_
  rw[mG,pA]
  show ((bif k==y.1 then some 0 else (mG (tC L) (.int .i64 k)).map (· + 1)).bind fun i=>(A.gs (aW y.2)::vY L)[i]?)=_
  by_cases h:y.1=k
  · rw[if_pos h,show (k==y.1)=true by simp[h]];rfl
  · rw[if_neg h,show (k==y.1)=false by simp;omega,aI,<-ih]
    cases mG (tC L) (.int .i64 k)<;>rfl
theorem aCG {L:List (Int×Vl)} {k:Int} (h:∀x∈L,x.1<k):mG (tC L) (.int .i64 k)=none:=by
 induction L with
 |nil=>rfl
 |cons y L ih=>
  show mG (.int .i64 y.1::tC L) (.int .i64 k)=none
  rw[mG]
  show (bif k==y.1 then some 0 else (mG (tC L) (.int .i64 k)).map (· + 1))=none
  have:=h y (eI ..)
  rw[show (k==y.1)=false by simp;omega,aI,ih fun x hx=>h x (eD _ hx)];rfl
theorem aO4 {L:List (Int×Vl)} {k:Int} (h:∀x∈L,x.1<k) (v:Vl):mN (tC L) (.int .i64 k)=tC (L++[(k,v)]):=by
 unfold mN
 rw[aCG h]
 unfold tC
 rw[C7];rfl
theorem aQC {L:List (Int×Vl)} {k:Int} (h:∀x∈L,x.1<k) (v:Vl):nE (tC L) (vY L) (.int .i64 k) (.gs (aW v))=vY (L++[(k,v)]):=by
 unfold nE
 rw[aCG h]
 unfold vY
 rw[C7];rfl
theorem aQG {s:Sc} {t:Ty} {z:Vl} {K:S->Hp->Prop} (h1:s.fit) (h2:TyOk t) (hz:z=zF s 23 t) (hK:K (.va (.gs [.vl (.int .i64 z.k),.vl (.int .i64 z.n),.vl (.string z.s),.fz (z.l.map aW),.fz (z.f.map bG)])) []) :
 SO [.va (.gs [.vl (.int .i64 s.ver),.fz (s.es.map aV),.fz (s.ss.map aD)]),.va (.gs [.vl (.int .i64 t.k),.vl (.int .i64 t.s),.vl (.string t.n),.fz (t.e.map aK)])] [] K:=by
 subst hz
 exact KE h1 h2 (by rw[aJ];exact hK)
theorem aPQ (f:Nat->Option Nat) (v:Vl):(aW v).map (C.ren f)=aW v:=by rw[aJ];rfl
theorem pD (f:Nat->Option Nat) (L:List (Int×Vl)):(vY L).map (A.ren f)=vY L:=by
 unfold vY
 rw[List.map_map]
 refine List.map_congr_left fun y _=>?_
 show A.gs ((aW y.2).map (C.ren f))=_
 rw[aPQ]
theorem aFW {s:Sc} {fs:List Fl} {L:List (Int×Vl)} {i:Nat} {f:Fl} (h:fs[i]? = some f):tE s (fs.take (i+1)) L=tE s (fs.take i) L++TK s L f:=by
 unfold tE;rw[cM h,s4];simp
structure DsP (N:Nat) (s:Sc) (u:St):Prop where
 d:Dg s
 f:s.fit
 t:∃t:Ty,stOf s t=u
 n:∀f∈u.fs,pS s f.ty<N
def aKR (N:Nat):W.Spec:=fun av H K=>∃(s:Sc) (u:St) (b:List UInt8),av=[.va (.gs (aA s)),.va (.gs (aD u)),tS (mk b)]/\H=[]/\DsP N s u/\b.length<=1000000000/\K (.tu [.gs (aW (tF (d9 s N) s u.fs b).1),iA .i64 (tF (d9 s N) s u.fs b).2]) []
theorem UY {N:Nat} {s:Sc} {u:St} {b:List UInt8} {K:S->Hp->Prop} (hp:DsP N s u) (hb:b.length<=1000000000) (hK:K (.tu [.gs (aW (tF (d9 s N) s u.fs b).1),iA .i64 (tF (d9 s N) s u.fs b).2]) []) :
 aKR N [.va (.gs [.vl (.int .i64 s.ver),.fz (s.es.map aV),.fz (s.ss.map aD)]),.va (.gs [.vl (.string u.nm),.fz (u.fs.map aN)]),tS (mk b)] [] K:=⟨s,u,b,rfl,rfl,hp,hb,hK⟩
noncomputable def WG (N:Nat):eX:=[(68,.s PG),(69,.s wY),(70,.s (LS N)),(64,.s SO),(63,.f eqFn2)]
theorem aVS (N:Nat):sp (WG N) 68=PG:=rfl
theorem aTW (N:Nat):sp (WG N) 69=wY:=rfl
theorem aU7 (N:Nat):sp (WG N) 70=LS N:=rfl
theorem aAD (N:Nat):sp (WG N) 64=SO:=rfl
theorem JL (N:Nat):A6 (WG N) 63=some eqFn2:=rfl
abbrev zvC:List C:=[.vl (.int .i64 0),.vl (.int .i64 0),.vl (.string (mk [])),.vl (.slice none 0 0),.vl (.slice none 0 0)]
theorem BQ {N:Nat} (hD:Meets Tryz.prog 70 (LS N)):Meets Tryz.prog 28 (aKR N):=by
 refine aF (Γ:=WG N) Tryz.func28 a6Y 3 (by rw[Tryz.ntmps28];decide) (aE aOU (aE sL (aE hD (aE aKL (aG UZ (aB _)))))) (fun av H K h=>by obtain ⟨_,_,_,rfl,_⟩:=h;rfl) ?_
 rintro av H K ⟨s,u,b,rfl,rfl,⟨hd,hs,⟨t,htu⟩,hfd⟩,hb,hK⟩
 have hnst:=hd.ni.stOf t
 have huo:=pQ hs t
 rw[htu] at hnst huo
 have hus:∀f∈u.fs,TySm f.ty:=by
  rw[<-htu]
  unfold stOf
  cases hf:fS s.ss t.n with
  |none=>exact fun f hf=>(List.not_mem_nil hf).elim
  |some w=>exact (hs.sm w (fQ hf).1).2
 have hul:=hnst.l
 have fin:∀(v:Vl) (e:Int) (R:Hp),tF (d9 s N) s u.fs b=(v,e)->W.Fin 0 K (.tu [.gs (aW v),iA .i64 e]) R:=fun v e R h=>by
  rw[h] at hK;exact .z ((by rw[aJ] at hK ⊢;simpa[go_sem] using hK))
 have fin2:∀(l:List (Int×Vl)),tF (d9 s N) s u.fs b=(.mk 6 0 (mk []) [] l,0)->K (.tu [.gs (aW (.mk 6 0 (mk []) [] l)),iA .i64 0]) []:=fun l h=>by rw[h] at hK;exact hK
 clear hK
 unfold tF at fin fin2
 simp(maxSteps:=9^7)-dsimp only[go_sem,aA,aD,aTG,aTJ]
 refine aO (α:=Nat×Int×List UInt8×List (Int×Vl)) (fun z=>[(2,tS (mk z.2.2.1)),(3,.va (.c1 (.pt 0 0))),(4,.va (.c1 (.pt 1 0))),(6,.va (.c1 (.pt 2 0))),(8,.va (.c1 (.mp 3))),(9,iS .i64 z.2.1)])
  (fun z=>[.cells [.vl (.int .i64 s.ver),.fz (s.es.map aV),.fz (s.ss.map aD)] 25,.cells [.vl (.string u.nm),.fz (u.fs.map aN)] 50,.cells zvC 29,.map (.int .i64) (tC z.2.2.2) (vY z.2.2.2)])
  (fun z=>z.2.2.1.length<=z.1/\z.2.2.1.length<=b.length/\(∀x∈z.2.2.2,x.1<=z.2.1/\VlOk x.2)/\w5 z.2.2.2 (lL (d9 s N) s u.fs z.1 z.2.1 z.2.2.1)=lL (d9 s N) s u.fs b.length 0 b) (fun z=>z.1) (b.length,0,b,[]) 4
  ⟨bE _,bE _,fun x h=>(by cases h),aN6 (aL8 _ _ _)⟩ ?_ ?_ ?_
 · simp -dsimp only[go_sem]<;>simp
 · simp -dsimp only[go_sem]<;>simp[tC,vY]
 rintro ⟨g,last,x,acc⟩ ⟨hg,hl,ha,ho⟩
 simp only at hg hl ha ho ⊢
 by_cases hb0:x=[]
 · subst hb0
   have e0:(([]:List UInt8)==[])=true:=rfl
   rw[KT,aS2,fI] at ho
   rw[<-ho] at fin2
   have fin2:=fin2 (tE s u.fs acc) rfl
   simp(maxSteps:=9^7)-dsimp only[go_sem,e0,bN]
   refine aH rfl (.done ?_)
   simp(maxSteps:=9^7)-dsimp only[go_sem,KP]
   refine aH rfl (.done ?_)
   simp(maxSteps:=9^7)-dsimp only[go_sem,M0]
   clear ho hg hl e0
   refine dL (α:=Nat) (fun i=>[(3,.va (.c1 (.pt 0 0))),(6,.va (.c1 (.pt 2 0))),(8,.va (.c1 (.mp 3))),(16,.va (.c1 (.pt 4 0))),(92,.va (.c1 (.fz (u.fs.map aN)))),(93,iS .i64 u.fs.length),(94,iS .i64 i)])
    (fun i=>[.cells [.vl (.int .i64 s.ver),.fz (s.es.map aV),.fz (s.ss.map aD)] 25,.cells [.vl (.string u.nm),.fz (u.fs.map aN)] 50,.cells zvC 29,.map (.int .i64) (tC acc) (vY acc),
      .cells [.vl (.int .i64 6),.vl (.int .i64 0),.vl (.string (mk [])),.vl (.slice none 0 0),.sl 5 (tE s (u.fs.take i) acc).length] 29,.row ((tE s (u.fs.take i) acc).map bG) 42 6])
    (fun i=>i<=u.fs.length) (fun i=>u.fs.length-i) (.nilc 4 4 42 6 _ _ rfl rfl (lA 0 6 (aP _) ?_ ?_)) ?_
   · simp -dsimp only[go_sem]<;>simp
   · simp -dsimp only[go_sem]<;>simp[tE,pD]
   intro i hi
   have hli:=Nat.le_trans (VF s (u.fs.take i) acc) (List.length_take_le i u.fs)
   rcases bB i u.fs.length with hlt|hge
   · have hg:decide ((i:Int)<(u.fs.length:Int))=true:=by simp;omega
     have hx:u.fs[i]? = some u.fs[i]:=aX hlt
     have q2:=aS (row:=aN) hx
     have hfo:=(huo.fs _ (eM hlt)).ty
     have hnx:=aFW (s:=s) (L:=acc) hx
     generalize u.fs[i]=f at *
     unfold TK at hnx
     have hmi:=aAF f.num acc
     simp(maxSteps:=9^7)-dsimp only[go_sem,hg,↓q2,aN]
     refine ⟨by omega,aH rfl (.done ?_)⟩
     cases hv:dH acc f.num with
     |some y=>
      rw[hv] at hmi hnx
      have hmi:j0 (tC acc) (vY acc) (.int .i64 f.num)=some (.gs [.vl (.int .i64 y.2.k),.vl (.int .i64 y.2.n),.vl (.string y.2.s),.fz (y.2.l.map aW),.fz (y.2.f.map bG)]):=by rw[hmi,<-aJ];rfl
      have hnx:tE s (u.fs.take (i+1)) acc=tE s (u.fs.take i) acc++[(f.num,y.2)]:=hnx
      simp(maxSteps:=9^7)-dsimp only[go_sem,DS,hmi,lkS]
      refine aH rfl (.done ?_)
      simp(maxSteps:=9^7)-dsimp only[go_sem,yT,bN,bL]
      refine aH rfl (.done ?_)
      simp(maxSteps:=9^7)-dsimp only[go_sem,EP,bN]
      refine aH rfl (.done ?_)
      simp(maxSteps:=9^7)-dsimp only[go_sem,EV,eG,eH,bP,dZ]
      refine ⟨by omega,by omega,aC (i+1) 6 (by omega) (by omega) ?_ ?_⟩
      · simp -dsimp only[go_sem]<;>simp
      · simp -dsimp only[go_sem,hnx]<;>simp[pD,l9]
     |none=>
      rw[hv] at hmi hnx
      have hmi:j0 (tC acc) (vY acc) (.int .i64 f.num)=none:=hmi
      have hnx:tE s (u.fs.take (i+1)) acc=tE s (u.fs.take i) acc++(bif f.opt then [] else [(f.num,zF s 23 f.ty)]):=hnx
      simp(maxSteps:=9^7)-dsimp only[go_sem,DS,hmi,lkS]
      refine aH rfl (.done ?_)
      cases hopt:f.opt with
      |true=>
       rw[hopt,aQ,fI] at hnx
       simp(maxSteps:=9^7)-dsimp only[go_sem,yT,bV,bF,hopt]
       refine ⟨by omega,aC (i+1) 6 (by omega) (by omega) ?_ ?_⟩
       · simp -dsimp only[go_sem]<;>simp
       · simp -dsimp only[go_sem,hnx]<;>simp[pD]
      |false=>
       rw[hopt,aI] at hnx
       simp(maxSteps:=9^7)-dsimp only[go_sem,yT,bV,bF,hopt]
       refine aH rfl (.done ?_)
       simp(maxSteps:=9^7)-dsimp only[go_sem,EP,bV]
       refine aH rfl (.done ?_)
       simp(maxSteps:=9^7)-dsimp only[go_sem,KY,aAD,eG,eH,List.drop_succ_cons,List.drop_zero,bP,dZ]
       refine KE hs hfo ?_
       generalize zF s 23 f.ty=w at *
       simp(maxSteps:=9^7)-dsimp only[go_sem,aJ w]
       refine aH rfl (.done ?_)
       simp(maxSteps:=9^7)-dsimp only[go_sem,EV,eG,eH,bP,dZ]
       refine ⟨by omega,by omega,aC (i+1) 6 (by omega) (by omega) ?_ ?_⟩
       · simp -dsimp only[go_sem]<;>simp
       · simp -dsimp only[go_sem,hnx]<;>simp[pD,l9]
   · have hg:decide ((i:Int)<(u.fs.length:Int))=false:=by simp;omega
     rw[sE hge] at *
     simp(maxSteps:=9^7)-dsimp only[go_sem,hg]
     refine .pub 5 _ _ _ rfl (.sel [] (by simp) (by simp[cS]) rfl (.done ?_))
     rw[aJ] at fin2
     simp -dsimp only[go_sem,cS]
     simpa[Vl.k,Vl.n,Vl.s,Vl.l,Vl.f] using fin2
 · have e0:(x==[])=false:=by simpa using hb0
   obtain ⟨g,rfl⟩:∃k,g=k+1:=⟨g-1,by have:=List.length_pos_iff.2 hb0;omega⟩
   rw[zQ hb0] at ho
   have hfl:=ZP x last
   have hfo:=a2E x last
   simp(maxSteps:=9^7)-dsimp only[go_sem,e0,bV]
   refine aH rfl (.done ?_)
   simp(maxSteps:=9^7)-dsimp only[go_sem,R6,aVS]
   refine aP6 (by omega) ?_
   generalize cH x last=z at *
   obtain ⟨⟨a,c⟩,r,e⟩:=z
   simp only at ho hfl hfo ⊢
   simp(maxSteps:=9^7)-dsimp only[go_sem]
   refine aH rfl (.done ?_)
   cases c1:e != 0 with
   |true=>
    rw[c1,aQ,J0 acc c1] at ho
    rw[<-ho] at fin
    simp only[c1,aQ] at fin
    simp(maxSteps:=9^7)-dsimp only[go_sem,IN,c1]
    exact fin v0 _ _ rfl
   |false=>
   rw[c1,aI] at ho
   have hlt:=hfl.2.2 (wW c1)
   obtain ⟨ha1,ha2,ha3⟩:last<a/\0<=a/\a<=2147483647:=by
    rcases hfo with h|⟨_,h1,h2,h3,_⟩
    · exact absurd (wW c1) h
    · exact ⟨h1,h2,h3⟩
   simp(maxSteps:=9^7)-dsimp only[go_sem,IN,c1]
   refine aH rfl (.done ?_)
   simp(maxSteps:=9^7)-dsimp only[go_sem,S7]
   refine aH rfl (.done ?_)
   simp(maxSteps:=9^7)-dsimp only[go_sem,TW,aTW]
   refine nA (t:=u) huo hus ?_
   cases hf:fF u.fs a with
   |none=>
    rw[hf] at ho
    simp only[nS,bV,aQ] at ho
    simp(maxSteps:=9^7)-dsimp only[go_sem,oT,nS,lH]
    refine aH rfl (.done ?_)
    simp(maxSteps:=9^7)-dsimp only[go_sem,HF,bV]
    refine aC (g,a,r,acc) 4 ⟨by simp only;omega,by simp only;omega,fun y hy=>⟨by have:=(ha y hy).1;simp only;omega,(ha y hy).2⟩,ho⟩ (by simp only;omega) ?_ ?_
    · simp -dsimp only[go_sem]<;>simp
    · simp -dsimp only[go_sem]<;>simp[pD]
   |some f=>
    obtain ⟨hfm,hfe⟩:=aJB hf
    have hfo:=(huo.fs f hfm).ty
    have hfv:=hnst.v f hfm
    have hfN:=hfd f hfm
    have hvo:=D6 hs hd N f.ty c hfo hfv (by omega)
    have hnew:∀y∈acc,y.1<a:=fun y hy=>by have:=(ha y hy).1;omega
    rw[hf] at ho
    simp only[lG,bN,aI,Option.getD_some] at ho
    unfold FC at ho
    simp(maxSteps:=9^7)-dsimp only[go_sem,Option.getD_some,lG,aN]
    refine aH rfl (.done ?_)
    simp(maxSteps:=9^7)-dsimp only[go_sem,HF,bN]
    refine aH rfl (.done ?_)
    simp(maxSteps:=9^7)-dsimp only[go_sem,L4,aU7]
    refine aB4 hd hs hfo hfv hfN (by omega) ?_
    generalize d9 s N f.ty c=w at *
    obtain ⟨v,e2⟩:=w
    simp only at ho hvo ⊢
    simp(maxSteps:=9^7)-dsimp only[go_sem]
    refine aH rfl (.done ?_)
    cases d1:e2 != 0 with
    |true=>
     have d0:(e2==0)=false:=by simpa using N6 d1
     rw[d1,aQ,d1,aQ,J0 acc d1] at ho
     rw[<-ho] at fin
     simp only[d1,aQ] at fin
     simp(maxSteps:=9^7)-dsimp only[go_sem,y7,o8,d0,bL]
     refine aH rfl (.done ?_)
     simp(maxSteps:=9^7)-dsimp only[go_sem,pK,d1]
     exact fin v0 _ _ rfl
    |false=>
     have d0:=wW d1
     subst d0
     have e00:((0:Int)==0)=true:=rfl
     have e20:((2:Int) != 0)=true:=rfl
     rw[d1,aI] at ho
     have hpk:=aO4 hnew v
     have hpv:=aQC hnew v
     rw[aJ v] at hpv
     have bad:(!f.opt&&(iM v (zF s 23 f.ty)&&(f.ty.k != 6||c==[])))=true->∀R:Hp,W.Fin 0 K (.tu [.gs (aW v0),iA .i64 2]) R:=fun h R=>by
      rw[h,aQ,e20,aQ,J0 acc e20] at ho
      rw[<-ho] at fin
      exact fin v0 2 R rfl
     have good:(!f.opt&&(iM v (zF s 23 f.ty)&&(f.ty.k != 6||c==[])))=false->w5 (acc++[(a,v)]) (lL (d9 s N) s u.fs g a r)=lL (d9 s N) s u.fs b.length 0 b:=fun h=>by
      rw[h,aI,d1,aI,aWW] at ho
      exact ho
     have hacc:∀y∈acc++[(a,v)],y.1<=a/\VlOk y.2:=fun y hy=>by
      rcases List.mem_append.1 hy with hy|hy
      · exact ⟨by have:=hnew y hy;omega,(ha y hy).2⟩
      · obtain rfl:=dS.1 hy;exact ⟨Int.le_refl _,hvo⟩
     clear ho fin fin2
     cases hopt:f.opt with
     |true=>
      rw[hopt] at good
      have good:=good rfl
      simp(maxSteps:=9^7)-dsimp only[go_sem,y7,o8,e00,hopt,bN,bF,bL]
      refine aH rfl (.done ?_)
      simp(maxSteps:=9^7)-dsimp only[go_sem,pK,d1]
      refine aH rfl (.done ?_)
      simp(maxSteps:=9^7)-dsimp only[go_sem,y5,hpk,hpv]
      refine aC (g,a,r,acc++[(a,v)]) 4 ⟨by simp only;omega,by simp only;omega,hacc,good⟩ (by simp only;omega) ?_ ?_
      · simp -dsimp only[go_sem]<;>simp
      · simp -dsimp only[go_sem]<;>simp[pD]
     |false=>
      rw[hopt] at good bad
      simp only[bV,bF] at good bad
      have hzo:=O6 hs 23 f.ty hfo
      obtain ⟨z,hz⟩:∃z,z=zF s 23 f.ty:=⟨_,rfl⟩
      rw[<-hz] at good bad hzo
      simp(maxSteps:=9^7)-dsimp only[go_sem,y7,e00,hopt,bV,bN,bF,bL,aAD]
      refine aQG hs hfo hz ?_
      clear hz
      have k1:=dE hvo
      have k2:=fV v
      have kz1:=dE hzo
      have kz2:=fV z
      cases heq:iM v z with
      |false=>
       rw[heq] at good
       have good:=good rfl
       simp(maxSteps:=9^7)-dsimp only[go_sem,o8,JL,k1,k2,kz1,kz2,heq,bF,bL]
       refine aH rfl (.done ?_)
       simp(maxSteps:=9^7)-dsimp only[go_sem,pK,d1]
       refine aH rfl (.done ?_)
       simp(maxSteps:=9^7)-dsimp only[go_sem,y5,hpk,hpv]
       refine aC (g,a,r,acc++[(a,v)]) 4 ⟨by simp only;omega,by simp only;omega,hacc,good⟩ (by simp only;omega) ?_ ?_
       · simp -dsimp only[go_sem]<;>simp
       · simp -dsimp only[go_sem]<;>simp[pD]
      |true=>
       rw[heq] at good bad
       simp only[bF] at good bad
       cases h6:f.ty.k != 6 with
       |true=>
        rw[h6] at bad
        have bad:=bad rfl
        simp(maxSteps:=9^7)-dsimp only[go_sem,o8,JL,k1,k2,kz1,kz2,heq,h6,bF,cR]
        refine aH rfl (.done ?_)
        simp(maxSteps:=9^7)-dsimp only[go_sem,pK,e20]
        exact bad _
       |false=>
        rw[h6] at good bad
        simp only[bK] at good bad
        cases hc:c==[] with
        |true=>
         have bad:=bad hc
         simp(maxSteps:=9^7)-dsimp only[go_sem,o8,JL,k1,k2,kz1,kz2,heq,h6,hc,bF,bK]
         refine aH rfl (.done ?_)
         simp(maxSteps:=9^7)-dsimp only[go_sem,pK,e20]
         exact bad _
        |false=>
         have good:=good hc
         simp(maxSteps:=9^7)-dsimp only[go_sem,o8,JL,k1,k2,kz1,kz2,heq,h6,hc,bF,bK]
         refine aH rfl (.done ?_)
         simp(maxSteps:=9^7)-dsimp only[go_sem,pK,d1]
         refine aH rfl (.done ?_)
         simp(maxSteps:=9^7)-dsimp only[go_sem,y5,hpk,hpv]
         refine aC (g,a,r,acc++[(a,v)]) 4 ⟨by simp only;omega,by simp only;omega,hacc,good⟩ (by simp only;omega) ?_ ?_
         · simp -dsimp only[go_sem]<;>simp
         · simp -dsimp only[go_sem]<;>simp[pD]
def aW8 (N:Nat):W.Spec:=fun av H K=>∃v:Vl,av=[.va (.gs (aW v))]/\H=[]/\VlOk v/\v.h<=N/\K (.va (.gs (aW v))) []
theorem QA {N:Nat} {v:Vl} {K:S->Hp->Prop} (h1:VlOk v) (h2:v.h<=N) (hK:K (.va (.gs [.vl (.int .i64 v.k),.vl (.int .i64 v.n),.vl (.string v.s),.fz (v.l.map aW),.fz (v.f.map bG)])) []) :
 aW8 N [.va (.gs [.vl (.int .i64 v.k),.vl (.int .i64 v.n),.vl (.string v.s),.fz (v.l.map aW),.fz (v.f.map bG)])] [] K:=⟨v,by rw[aJ],rfl,h1,h2,by rw[aJ];exact hK⟩
theorem WU:∀N,Meets Tryz.prog 107 (aW8 N)
 |0=>⟨by kernel_rfl,by rintro xs vs E ro w K _ _ _ ⟨v,_,_,_,h,_⟩;have:=v.h_pos;omega⟩
 |N+1=>by
  refine aF Tryz.func107 aYV 1 (by rw[Tryz.ntmps107];decide) (aE (WU N) (aB _)) (fun av H K h=>by obtain ⟨_,rfl,_⟩:=h;rfl) ?_
  rintro av H K ⟨v,rfl,rfl,hv,hh,hK⟩
  have hll:=hv.ll
  have hlf:=hv.lf
  rw[aJ] at hK
  simp(maxSteps:=9^7)-dsimp only[go_sem,aJ v,aMM,aK5]
  refine dL (α:=Nat) (fun i=>[(1,.va (.c1 (.pt 0 0))),(2,.va (.c1 (.pt 1 0))),(4,.va (.c1 (.fz (v.f.map bG)))),(15,.va (.c1 (.fz (v.l.map aW)))),(16,iS .i64 v.l.length),(17,iS .i64 i)])
   (fun i=>[.cells [.vl (.int .i64 v.k),.vl (.int .i64 v.n),.vl (.string v.s),.sl 2 i,.vl (.slice none 0 0)] 29,.cells [.vl (.int .i64 0),.vl (.int .i64 0),.vl (.string (mk [])),.vl (.slice none 0 0),.vl (.slice none 0 0)] 29,.row ((v.l.take i).map aW) 29 5])
   (fun i=>i<=v.l.length) (fun i=>v.l.length-i) (.nilc 0 3 29 5 [.vl (.int .i64 v.k),.vl (.int .i64 v.n),.vl (.string v.s),.vl (.slice none 0 0),.vl (.slice none 0 0)] 29 rfl rfl (lA 0 3 (aP _) ?_ ?_)) ?_
  · simp -dsimp only[go_sem]<;>simp
  · simp -dsimp only[go_sem]<;>simp
  intro i hi
  have hz:(v.l.take i).length=i:=by rw[eJ];omega
  rcases bB i v.l.length with hlt|hge
  · have hg:decide ((i:Int)<(v.l.length:Int))=true:=by simp;omega
    have hx:v.l[i]? = some v.l[i]:=aX hlt
    have q1:=sC hx
    have hxm:=eM hlt
    have hxo:=hv.l _ hxm
    have hxh:v.l[i].h<=N:=by have:=Vl.h_l hxm;omega
    have htk:=cM hx
    generalize v.l[i]=x at *
    simp(maxSteps:=9^7)-dsimp only[go_sem,hg,↓q1]
    refine ⟨by omega,QA hxo hxh ?_⟩
    simp(maxSteps:=9^7)-dsimp only[go_sem]
    refine ⟨hz,by omega,by omega,aC (i+1) 3 (by omega) (by omega) ?_ ?_⟩
    · simp -dsimp only[go_sem]<;>simp
    · simp -dsimp only[go_sem,htk]<;>simp[aJ x]
  · have hg:decide ((i:Int)<(v.l.length:Int))=false:=by simp;omega
    obtain rfl:i=v.l.length:=by omega
    rw[eC]
    simp(maxSteps:=9^7)-dsimp only[go_sem,hg]
    clear hi hge hg hz
    refine dL (α:=Nat) (fun i=>[(1,.va (.c1 (.pt 0 0))),(2,.va (.c1 (.pt 1 0))),(29,.va (.c1 (.fz (v.f.map bG)))),(30,iS .i64 v.f.length),(31,iS .i64 i)])
     (fun i=>[.cells [.vl (.int .i64 v.k),.vl (.int .i64 v.n),.vl (.string v.s),.sl 2 v.l.length,.sl 3 i] 29,.cells [.vl (.int .i64 0),.vl (.int .i64 0),.vl (.string (mk [])),.vl (.slice none 0 0),.vl (.slice none 0 0)] 29,.row (v.l.map aW) 29 5,.row ((v.f.take i).map bG) 42 6])
     (fun i=>i<=v.f.length) (fun i=>v.f.length-i) (.nilc 0 4 42 6 [.vl (.int .i64 v.k),.vl (.int .i64 v.n),.vl (.string v.s),.sl 2 v.l.length,.vl (.slice none 0 0)] 29 rfl rfl (lA 0 4 (aP _) ?_ ?_)) ?_
    · simp -dsimp only[go_sem]<;>simp
    · simp -dsimp only[go_sem]<;>simp
    intro i hi
    have hz:(v.f.take i).length=i:=by rw[eJ];omega
    rcases bB i v.f.length with hlt|hge
    · have hg:decide ((i:Int)<(v.f.length:Int))=true:=by simp;omega
      have hx:v.f[i]? = some v.f[i]:=aX hlt
      have q1:=kZ hx
      have hxm:=eM hlt
      have hxo:=hv.f _ hxm
      have hxh:v.f[i].2.h<=N:=by have:=Vl.h_f hxm;omega
      have htk:=cM hx
      generalize v.f[i]=x at *
      simp(maxSteps:=9^7)-dsimp only[go_sem,hg,↓q1,eG,eH,bP,dZ]
      refine ⟨by omega,QA hxo hxh ?_⟩
      simp(maxSteps:=9^7)-dsimp only[go_sem]
      refine ⟨hz,by omega,by omega,aC (i+1) 4 (by omega) (by omega) ?_ ?_⟩
      · simp -dsimp only[go_sem]<;>simp
      · simp -dsimp only[go_sem,htk]<;>simp[l9 x]
    · have hg:decide ((i:Int)<(v.f.length:Int))=false:=by simp;omega
      obtain rfl:i=v.f.length:=by omega
      rw[eC]
      simp(maxSteps:=9^7)-dsimp only[go_sem,hg]
      refine .pub 2 _ _ _ rfl (.pub 3 _ _ _ rfl (.sel [] (by simp) (by simp[cS]) rfl (.done ?_)))
      simp -dsimp only[go_sem,cS]
      simpa using hK
abbrev fdV:S:=.va (.c1 (.fn 149 [(false,[.pt 0 0])]))
abbrev A2 (k:Int):B:=.cells [.vl (.int .i64 k)] 3
def aH1:W.Spec:=fun av H K=>∃(x:Int×Vl) (k:Int),av=[.va (.gs (W1 x)),.va (.c1 (.pt 0 0))]/\H=[A2 k]/\K (bS (x.1==k)) [A2 k]
theorem aN8 {x:Int×Vl} {k:Int} {K:S->Hp->Prop} (hK:K (bS (x.1==k)) [A2 k]):aH1 [.va (.gs (W1 x)),.va (.c1 (.pt 0 0))] [A2 k] K:=⟨x,k,rfl,rfl,hK⟩
theorem aPF:Meets Tryz.prog 149 aH1:=by
 refine aF Tryz.func149 aZ3 2 (by rw[Tryz.ntmps149];decide) (aB _) (fun av H K h=>by obtain ⟨_,_,rfl,_⟩:=h;rfl) ?_
 rintro av H K ⟨x,k,rfl,rfl,hK⟩
 simp -dsimp only[go_sem,W1,aJY,aLJ]
 exact .sel [0] (by simp) (by simp) rfl (.done (by simpa[go_sem] using hK))
def aT0:W.Spec:=fun av H K=>∃(l:List (Int×Vl)) (k:Int),av=[.va (.c1 (.fz (l.map bG))),fdV]/\H=[A2 k]/\l.length<=9223372036854775807/\K (iS .i64 (pR k l 0)) [A2 k]
theorem aVQ {l:List (Int×Vl)} {k:Int} {K:S->Hp->Prop} (h:l.length<=9223372036854775807) (hK:K (iS .i64 (pR k l 0)) [A2 k]):aT0 [.va (.c1 (.fz (l.map bG))),fdV] [A2 k] K:=⟨l,k,rfl,rfl,h,hK⟩
theorem aOJ:Meets Tryz.prog 148 aT0:=by
 refine aF Tryz.func148 aK9 2 (by rw[Tryz.ntmps148];decide) (aE aPF (aB _)) (fun av H K h=>by obtain ⟨_,_,rfl,_⟩:=h;rfl) ?_
 rintro av H K ⟨l,k,rfl,rfl,hl,hK⟩
 simp -dsimp only[go_sem,ZC,XQ]
 refine aO (α:=Nat) (fun i=>[(0,.va (.c1 (.fz (l.map bG)))),(1,fdV),(7,iS .i64 l.length),(8,iS .i64 i)]) (fun _=>[A2 k])
  (fun i=>i<=l.length/\pR k (l.drop i) i=pR k l 0) (fun i=>l.length-i) 0 1 ⟨aP _,rfl⟩ ?_ ?_ ?_
 · simp -dsimp only[go_sem]<;>simp
 · simp -dsimp only[go_sem]<;>simp
 rintro i ⟨hi,ho⟩
 rcases bB i l.length with hlt|hge
 · have hg:decide ((i:Int)<(l.length:Int))=true:=by simp;omega
   have hx:l[i]? = some l[i]:=aX hlt
   have q2:=kZ hx
   rw[cG hlt,pR] at ho
   generalize l[i]=y at *
   simp -dsimp only[go_sem,hg,↓q2]
   refine ⟨by omega,aN8 ?_⟩
   cases hc:y.1==k with
   |true=>
    rw[hc,aQ] at ho
    simp -dsimp only[go_sem]
    exact .sel [0] (by simp) (by simp) rfl (.done (by simpa[go_sem,ho] using hK))
   |false=>
    rw[hc,aI] at ho
    simp -dsimp only[go_sem]
    refine ⟨by omega,aC (i+1) 1 ⟨by omega,ho⟩ (by omega) ?_ ?_⟩
    · simp -dsimp only[go_sem]<;>simp
    · simp -dsimp only[go_sem]<;>simp
 · have hg:decide ((i:Int)<(l.length:Int))=false:=by simp;omega
   have:l.drop i=[]:=iD.2 (by omega)
   rw[this] at ho
   simp -dsimp only[go_sem,hg]
   exact .sel [0] (by simp) (by simp) rfl (.done (by rw[show pR k l 0=-1 from ho.symm] at hK;simpa[go_sem] using hK))
theorem QW (k:Int):∀(l:List (Int×Vl)) (i:Nat),(dH l k=none/\pR k l i=-1)\/(∃j x,l[j]? = some x/\dH l k=some x/\pR k l i=((i+j:Nat):Int))
 |[],_=>.inl ⟨rfl,rfl⟩
 |y::l,i=>by
  rw[pR]
  unfold dH
  rw[List.find?_cons]
  by_cases h:y.1=k
  · rw[show (y.1==k)=true by simpa using h,eE h]
    exact .inr ⟨0,y,rfl,rfl,rfl⟩
  · rw[show (y.1==k)=false by simpa using h,dP h,aI]
    rcases QW k l (i+1) with ⟨h1,h2⟩|⟨j,x,h1,h2,h3⟩
    · exact .inl ⟨h1,h2⟩
    · exact .inr ⟨j+1,x,by simpa using h1,h2,by rw[h3];congr 1;omega⟩
def PB:List S->Prop:=fun av=>match av with
 |[.va (.gs r),.va (.c1 (.vl (.int .i64 _)))]=>qH r/\(C.vv r).k=6
 |_=>False
theorem A0 {av:List S} (h:PB av):∃(v:Vl) (k:Int),av=[.va (.gs (aW v)),iS .i64 k]/\VlOk v/\v.k=6:=by
 unfold PB at h
 split at h
 · obtain ⟨⟨v,rfl,h1⟩,h2⟩:=h;rw[jL] at h2;exact ⟨v,_,rfl,h1,h2⟩
 · exact h.elim
noncomputable def aLX:List S->A:=fun av=>match av with
 |[.va (.gs r),.va (.c1 (.vl (.int .i64 k)))]=>iA .i64 (pR k (C.vv r).f 0)
 |_=>.gs []
noncomputable def vxFn:Fun:=⟨PB,aLX,fun av h=>by obtain ⟨v,k,rfl,_⟩:=A0 h;trivial⟩
theorem aEQ:∀av H K,vxFn.sp av H K->av.length=2:=fun av H K h=>by obtain ⟨v,k,rfl,_⟩:=A0 h.1.1;rfl
attribute [go_sem] vxFn PB aLX
theorem aP2:Meets Tryz.prog 106 vxFn.sp:=by
 refine aF Tryz.func106 a1E 2 (by rw[Tryz.ntmps106];decide) (aE aOJ (aB _)) aEQ ?_
 rintro av H K ⟨⟨h,rfl⟩,hK⟩
 obtain ⟨v,k,rfl,hv,h6⟩:=A0 h
 have hK:K (iS .i64 (pR k (C.vv (aW v)).f 0)) []:=hK
 rw[jL] at hK
 clear h
 have g6:(v.k != 6)=false:=by rw[h6];rfl
 have hl:=hv.lf
 simp(maxSteps:=9^7)-dsimp only[go_sem,aJ v,aLR,aH6,g6]
 refine aVQ (by omega) ?_
 simp(maxSteps:=9^7)-dsimp only[go_sem]
 exact .z ((by simpa[go_sem] using hK))
theorem aG7 (N:Nat):Meets Tryz.prog 62 (fun av H K=>∃(v:Vl) (k:Int),av=[.va (.gs (aW v)),iS .i64 k]/\H=[]/\VlOk v/\v.k=6/\v.h<=N/\K (.tu [.gs (aW (((dH v.f k).map (·.2)).getD default)),bA (dH v.f k).isSome]) []):=by
 refine aF Tryz.func62 bAQ 2 (by rw[Tryz.ntmps62];decide) (aG aP2 (aE (WU N) (aB _))) (fun av H K h=>by obtain ⟨_,_,rfl,_⟩:=h;rfl) ?_
 rintro av H K ⟨v,k,rfl,rfl,hv,h6,hh,hK⟩
 have k1:=dE hv
 have k2:=fV v
 have k3:(v.k=6)=True:=eq_true h6
 have hl:=hv.lf
 rcases QW k v.f 0 with ⟨e1,e2⟩|⟨j,x,e0,e1,e2⟩
 · rw[e1] at hK
   have g0:decide ((-1:Int)<0)=true:=rfl
   simp(maxSteps:=9^7)-dsimp only[go_sem,aJ v,aHV,aFX,k1,k2,k3,e2]
   refine aH rfl (.done ?_)
   simp(maxSteps:=9^7)-dsimp only[go_sem,JK,g0]
   exact .z ((by simpa[go_sem,L3] using hK))
 · rw[e1] at hK
   rw[Nat.zero_add] at e2
   have hj:=(bT.1 e0).1
   have g0:decide (((j:Nat):Int)<0)=false:=by simp
   have q2:=kZ e0
   have hxm:=cC e0
   simp(maxSteps:=9^7)-dsimp only[go_sem,aJ v,aHV,aFX,k1,k2,k3,e2]
   refine aH rfl (.done ?_)
   simp(maxSteps:=9^7)-dsimp only[go_sem,JK,g0,↓q2,eG,eH,bP,dZ]
   refine ⟨by omega,QA (hv.f x hxm) (by have:=Vl.h_f hxm;omega) ?_⟩
   simp(maxSteps:=9^7)-dsimp only[go_sem]
   exact .z ((by simpa[go_sem,aJ x.2] using hK))
theorem aOI:Meets Tryz.prog 62 aEI:=dB (0:Nat) aG7 fun av H K h=>by
 obtain ⟨v,k,rfl,e,hv,h6,hK⟩:=h
 exact ⟨v.h,v,k,rfl,e,hv,h6,bE _,hK⟩
def PQ (P:Sc->St->Vl->Prop):List S->Prop:=fun av=>match av with
 |[.va (.gs r),.va (.gs q),.va (.gs p)]=>kF r/\aHQ q/\qH p/\P (C.sc r) (C.st q) (C.vv p)
 |_=>False
theorem BK {P:Sc->St->Vl->Prop} {av:List S} (h:PQ P av):∃s t v,av=[.va (.gs (aA s)),.va (.gs (aD t)),.va (.gs (aW v))]/\s.fit/\t.ok/\VlOk v/\P s t v:=by
 unfold PQ at h
 split at h
 · obtain ⟨⟨s,rfl,hs⟩,⟨t,rfl,ht⟩,⟨v,rfl,hv⟩,h⟩:=h
   rw[cT,HY,jL] at h
   exact ⟨s,t,v,rfl,hs,ht,hv,h⟩
 · exact h.elim
noncomputable def aH4 (f:Sc->St->Vl->Value):List S->A:=fun av=>match av with
 |[.va (.gs r),.va (.gs q),.va (.gs p)]=>.c1 (.vl (f (C.sc r) (C.st q) (C.vv p)))
 |_=>.gs []
noncomputable def QF (P:Sc->St->Vl->Prop) (f:Sc->St->Vl->Value):Fun:=⟨PQ P,aH4 f,fun av h=>by obtain ⟨_,_,_,rfl,_⟩:=BK h;trivial⟩
theorem aFS {P:Sc->St->Vl->Prop} {f:Sc->St->Vl->Value}:∀av H K,(QF P f).sp av H K->av.length=3:=fun av H K h=>by obtain ⟨_,_,_,rfl,_⟩:=BK h.1.1;rfl
attribute [go_sem] QF PQ aH4
theorem aOX {P:Sc->St->Vl->Prop} {f:Sc->St->Vl->Value} {av:List S} {H:Hp} {K:S->Hp->Prop} (h:(QF P f).sp av H K) :
 ∃s t v,av=[.va (.gs (aA s)),.va (.gs (aD t)),.va (.gs (aW v))]/\H=[]/\s.fit/\t.ok/\VlOk v/\P s t v/\K (.va (.c1 (.vl (f s t v)))) []:=by
 obtain ⟨⟨h,rfl⟩,hK⟩:=h
 obtain ⟨s,t,v,rfl,hs,ht,hv,hp⟩:=BK h
 have:(QF P f).val [.va (.gs (aA s)),.va (.gs (aD t)),.va (.gs (aW v))]=.c1 (.vl (f s t v)):=by simp -dsimp only[go_sem]
 rw[this] at hK
 exact ⟨s,t,v,rfl,rfl,hs,ht,hv,hp,hK⟩
theorem aVN (t:St):C.st [.vl (.string t.nm),.fz (t.fs.map aN)]=t:=HY t
theorem aB5 {t:St} (h:t.ok):aHQ [.vl (.string t.nm),.fz (t.fs.map aN)]:=aNY h
def PY:List S->Prop:=fun xs=>match xs with
 |[.va (.c1 (.vl (.string s)))]=>(bl s).length<=9223372036854775797
 |_=>False
theorem AO {xs:List S} (h:PY xs):∃s,xs=[tS s]/\(bl s).length<=9223372036854775797:=by
 unfold PY at h
 split at h
 · exact ⟨_,rfl,h⟩
 · exact h.elim
def aHT (f:List UInt8->Value):Fun:=⟨PY,RA f,fun xs h=>by obtain ⟨s,rfl,_⟩:=AO h;trivial⟩
theorem aEJ {f:List UInt8->Value}:∀xs H K,(aHT f).sp xs H K->xs.length=1:=fun xs H K h=>by obtain ⟨s,rfl,_⟩:=AO h.1.1;rfl
attribute [go_sem] aHT PY
theorem W3:Meets Tryz.prog 66 (aHT fun l=>.string (mk (wR l))).sp:=by
 refine aF Tryz.func66 a74 1 (by rw[Tryz.ntmps66];decide) (aG I6 (aB _)) aEJ ?_
 rintro av H K ⟨⟨h,rfl⟩,hK⟩
 obtain ⟨s,rfl,hs⟩:=AO h
 have hK:K (tS (mk (oC (bl s).length++bl s))) []:=hK
 have hl:=rP (bl s).length
 simp(maxSteps:=9^7)-dsimp only[go_sem,aW7,aS0,CD,CY,rB]
 exact ⟨by omega,.done hK⟩
structure EsP (N:Nat) (s:Sc) (u:St) (v:Vl):Prop where
 d:Dg s
 n:N<=8
 h:∀x∈v.f,x.2.h<=N
 t:∃t:Ty,TyOk t/\(t.k==6)=true/\stOf s t=u/\gB s t v=0
def EcP (N:Nat) (s:Sc) (t:Ty) (v:Vl):Prop:=Dg s/\N<=8/\v.h<=N/\gB s t v=0
noncomputable def M2 (N:Nat):Fun:=kK (EcP N) fun s t v=>.string (mk (eV s N t v))
noncomputable def XD (N:Nat):Fun:=QF (EsP N) fun s u v=>.string (mk (lK (eV s N) s u.fs v.f))
theorem aHF (R:Ty->Vl->List UInt8) (s:Sc) (fs:List Fl) (F:List (Int×Vl)) (i:Nat):(lK R s (fs.take i) F).length<=(lK R s fs F).length:=by
 have h:lK R s fs F=lK R s (fs.take i) F++lK R s (fs.drop i) F:=by unfold lK;rw[<-s4,sH]
 rw[h,bW];omega
theorem aFR {R:Ty->Vl->List UInt8} {s:Sc} {fs:List Fl} {F:List (Int×Vl)} {i:Nat} {g:Fl} (h:fs[i]? = some g):lK R s (fs.take (i+1)) F=lK R s (fs.take i) F++BR R s F g:=by
 unfold lK;rw[cM h,s4];simp
theorem aPL {s:Sc} (hd:Dg s) {N:Nat} (hN:N<=8) {t:Ty} {v:Vl} (h6:(t.k==6)=true) (h0:gB s t v=0) (hh:∀x∈v.f,x.2.h<=N):(lK (eV s N) s (stOf s t).fs v.f).length<=4000000000000000000:=by
 obtain ⟨_,_,_,_,h2⟩:=(m9 h0).st h6
 have hl:=(hd.ni.stOf t).l
 have hB:=xU hN
 have h5:(lK (eV s N) s (stOf s t).fs v.f).length<=(stOf s t).fs.length*(20+eB N):=yU fun g hg=>WY hd hg fun x hx=>pO hd N _ x.2 (hh x hx) (h2 x hx)
 have h6:(stOf s t).fs.length*(20+eB N)<=16*(20+eB N):=gD _ hl
 omega
theorem B4 {N:Nat} (hE:Meets Tryz.prog 67 (M2 N).sp):Meets Tryz.prog 27 (XD N).sp:=by
 refine aF Tryz.func27 a7C 3 (by rw[Tryz.ntmps27];decide) (aE aOI (aE aKL (aG UZ (aG I6 (aG hE (aG W3 (aB _))))))) aFS ?_
 intro av H K h
 obtain ⟨s,u,v,rfl,rfl,hs,hu,hv,⟨hd,hN,hh,t,hto,h6,htu,h0⟩,hK⟩:=aOX h
 clear h
 have hlen:=aPL hd hN h6 h0 hh
 have hc:=m9 h0
 obtain ⟨_,_,_,_,hck⟩:=hc.st h6
 have hkk:v.k=6:=by rw[hc.kk];exact eq_of_beq h6
 have hnst:=hd.ni.stOf t
 have hul:=hnst.l
 have hfl:∀g∈u.fs,n8 (stOf s t) g.num=g:=fun g hg=>LQ hd (by rw[htu];exact hg)
 rw[htu] at hlen hck hnst hfl hul
 have k6:=fZ hs
 have k7:=kL s
 simp(maxSteps:=9^7)-dsimp only[go_sem,aA,aD,aJ v,aR5,aYD]
 refine aO (α:=Nat) (fun i=>[(3,.va (.c1 (.pt 0 0))),(5,.va (.c1 (.pt 2 0))),(7,tS (mk (lK (eV s N) s (u.fs.take i) v.f))),(13,.va (.c1 (.fz (u.fs.map aN)))),(14,iS .i64 u.fs.length),(15,iS .i64 i)])
  (fun _=>[.cells [.vl (.int .i64 s.ver),.fz (s.es.map aV),.fz (s.ss.map aD)] 25,.cells [.vl (.string u.nm),.fz (u.fs.map aN)] 50,.cells [.vl (.int .i64 v.k),.vl (.int .i64 v.n),.vl (.string v.s),.fz (v.l.map aW),.fz (v.f.map bG)] 29])
  (fun i=>i<=u.fs.length) (fun i=>u.fs.length-i) 0 3 (aP _) ?_ ?_ ?_
 · simp -dsimp only[go_sem]<;>simp[lK]
 · simp -dsimp only[go_sem]<;>simp
 intro i hi
 rcases bB i u.fs.length with hlt|hge
 · have hg:decide ((i:Int)<(u.fs.length:Int))=true:=by simp;omega
   have hx:u.fs[i]? = some u.fs[i]:=aX hlt
   have q2:=aS (row:=aN) hx
   have hgm:=eM hlt
   have hgo:=(hu.fs _ hgm).ty
   have hnx:=aFR (R:=eV s N) (s:=s) (F:=v.f) hx
   have hl1:=aHF (eV s N) s u.fs v.f (i+1)
   have hgf:=hfl _ hgm
   generalize u.fs[i]=g at *
   rw[hnx] at hl1
   rw[H8] at hnx hl1
   unfold sO at hnx hl1
   simp(maxSteps:=9^7)-dsimp only[go_sem,hg,↓q2,aN]
   refine ⟨by omega,aAO hv hkk ?_⟩
   cases hvf:dH v.f g.num with
   |none=>
    rw[hvf] at hnx
    have hnx:lK (eV s N) s (u.fs.take (i+1)) v.f=lK (eV s N) s (u.fs.take i) v.f:=by rw[hnx];exact fI _
    simp(maxSteps:=9^7)-dsimp only[go_sem,qL,oT,nS,L3]
    refine aH rfl (.done ?_)
    simp(maxSteps:=9^7)-dsimp only[go_sem,B7,bL,bV,bN,cR]
    refine ⟨by omega,aC (i+1) 3 (by omega) (by omega) ?_ ?_⟩
    · simp -dsimp only[go_sem,hnx]<;>simp
    · simp -dsimp only[go_sem]<;>simp
   |some x=>
    obtain ⟨hxm,hxe⟩:=yR hvf
    have hxo:=hv.f x hxm
    have hxc:=hck x hxm
    rw[hxe,hgf] at hxc
    have hxh:=hh x hxm
    rw[hvf] at hnx hl1
    simp only[lG,bN,bK,cQ,Option.getD_some] at hnx hl1 ⊢
    have k1:=dE hxo
    have k2:=fV x.2
    have k4:=iL hgo
    have k5:=n7 g.ty
    have k8:EcP N s g.ty x.2=True:=eq_true ⟨hd,hN,hxh,hxc⟩
    have hvl:=rP g.num
    have k9:=pO hd N g.ty x.2 hxh hxc
    have k10:=xU hN
    have k11:=yF (eV s N g.ty x.2)
    have k12:((eV s N g.ty x.2).length<=9223372036854775797)=True:=eq_true (by omega)
    simp(maxSteps:=9^7)-dsimp only[go_sem,aJ x.2]
    refine aH rfl (.done ?_)
    cases ho:g.opt with
    |true=>
     simp(maxSteps:=9^7)-dsimp only[go_sem,B7,bF,bL,bV,bN,oV,bK]
     rw[ho] at hnx hl1
     simp only[bN,bL,aI,bW] at hnx hl1
     refine aH rfl (.done ?_)
     simp(maxSteps:=9^7)-dsimp only[go_sem,JC,M2,CD,CY,rB,k1,k2,k4,k5,k6,k7,k8,k12,eG,eH,bP,dZ]
     refine ⟨by omega,by omega,by omega,aC (i+1) 3 (by omega) (by omega) ?_ ?_⟩
     · simp -dsimp only[go_sem,hnx,k2,k5,k7,rB]<;>simp
     · simp -dsimp only[go_sem]<;>simp
    |false=>
     rw[ho] at hnx hl1
     simp only[bV,bF] at hnx hl1
     simp(maxSteps:=9^7)-dsimp only[go_sem,B7,bF,bL,bV,bN,oV,bK]
     refine KE hs hgo ?_
     have hzo:=O6 hs 23 g.ty hgo
     generalize zF s 23 g.ty=z at *
     have kz1:=dE hzo
     have kz2:=fV z
     cases he:iM x.2 z with
     |true=>
      rw[he,aQ,fI] at hnx
      simp(maxSteps:=9^7)-dsimp only[go_sem,aJ z,k1,k2,kz1,kz2,he,eG,eH,bP,dZ]
      refine ⟨by omega,aC (i+1) 3 (by omega) (by omega) ?_ ?_⟩
      · simp -dsimp only[go_sem,hnx]<;>simp
      · simp -dsimp only[go_sem]<;>simp
     |false=>
      rw[he] at hnx hl1
      simp only[aI,bW] at hnx hl1
      simp(maxSteps:=9^7)-dsimp only[go_sem,aJ z,k1,k2,kz1,kz2,he,eG,eH,bP,dZ]
      refine aH rfl (.done ?_)
      simp(maxSteps:=9^7)-dsimp only[go_sem,JC,M2,CD,CY,rB,k1,k2,k4,k5,k6,k7,k8,k12,eG,eH,bP,dZ]
      refine ⟨by omega,by omega,by omega,aC (i+1) 3 (by omega) (by omega) ?_ ?_⟩
      · simp -dsimp only[go_sem,hnx,k2,k5,k7,rB]<;>simp
      · simp -dsimp only[go_sem]<;>simp
 · have hg:decide ((i:Int)<(u.fs.length:Int))=false:=by simp;omega
   rw[sE hge] at *
   simp(maxSteps:=9^7)-dsimp only[go_sem,hg]
   refine .z (?_)
   simp -dsimp only[go_sem]
   exact hK
abbrev osB (o:List UInt8):B:=.cells [.vl (.string (mk o))] 9
def aWC (N:Nat):W.Spec:=fun av H K=>∃(s:Sc) (t u:Ty) (v:Vl) (o:List UInt8),av=[.va (.gs (aW v)),.va (.c1 (.pt 0 0)),.va (.c1 (.pt 1 0)),.va (.c1 (.pt 2 0))]/\H=[osB o,.cells (aA s) 25,.cells (aK t) 45]/\
 t.e=[u]/\s.fit/\TyOk u/\VlOk v/\EcP N s u v/\o.length<=4000000000000000000/\K (.tu []) [osB (o++wR (eV s N u v)),.cells (aA s) 25,.cells (aK t) 45]
theorem aSA {N:Nat} {s:Sc} {t u:Ty} {v:Vl} {o:List UInt8} {K:S->Hp->Prop} (h1:t.e=[u]) (h2:s.fit) (h3:TyOk u) (h4:VlOk v) (h5:EcP N s u v) (h6:o.length<=4000000000000000000)
 (hK:K (.tu []) [osB (o++wR (eV s N u v)),.cells (aA s) 25,.cells [.vl (.int .i64 t.k),.vl (.int .i64 t.s),.vl (.string t.n),.fz (t.e.map aK)] 45]) :
 aWC N [.va (.gs [.vl (.int .i64 v.k),.vl (.int .i64 v.n),.vl (.string v.s),.fz (v.l.map aW),.fz (v.f.map bG)]),.va (.c1 (.pt 0 0)),.va (.c1 (.pt 1 0)),.va (.c1 (.pt 2 0))]
  [osB o,.cells [.vl (.int .i64 s.ver),.fz (s.es.map aV),.fz (s.ss.map aD)] 25,.cells [.vl (.int .i64 t.k),.vl (.int .i64 t.s),.vl (.string t.n),.fz (t.e.map aK)] 45] K:=
 ⟨s,t,u,v,o,by rw[aJ],by rw[aY];rfl,h1,h2,h3,h4,h5,h6,by rw[aY];exact hK⟩
theorem aE2 {N:Nat} (hE:Meets Tryz.prog 67 (M2 N).sp):Meets Tryz.prog 111 (aWC N):=by
 refine aF Tryz.func111 a2Y 4 (by rw[Tryz.ntmps111];decide) (aG hE (aG W3 (aB _))) (fun av H K h=>by obtain ⟨_,_,_,_,_,rfl,_⟩:=h;rfl) ?_
 rintro av H K ⟨s,t,u,v,o,rfl,rfl,he,hs,hu,hv,hp,ho,hK⟩
 have hd:=hp.1
 have k1:=dE hv
 have k2:=fV v
 have k4:=iL hu
 have k5:=n7 u
 have k6:=fZ hs
 have k7:=kL s
 have k8:EcP N s u v=True:=eq_true hp
 have k9:=pO hd N u v hp.2.2.1 hp.2.2.2
 have k10:=xU hp.2.1
 have k11:=yF (eV s N u v)
 have k12:((eV s N u v).length<=9223372036854775797)=True:=eq_true (by omega)
 have z0:(0:Int)<((1:Nat):Int):=by decide
 have z1:(0:Int)<=0:=by decide
 simp(maxSteps:=9^7)-dsimp only[go_sem,aA,aY t,aJ v,he,aY u,aJ3,aID,M2,k1,k2,k4,k5,k6,k7,k8,k12,forall_eq',z0,z1,bP,dZ,eG,eH]
 refine ⟨by omega,.sel [0,1,2] (by simp) (by simp) rfl (.done ?_)⟩
 simp -dsimp only[aA,aY t,he,List.map_cons,List.map_nil,aY u] at hK
 simp -dsimp only[go_sem]
 exact hK
abbrev e1V:S:=.va (.c1 (.fn 111 [(false,[.pt 3 0]),(false,[.pt 0 0]),(false,[.pt 1 0])]))
theorem aG1 (R:Ty->Vl->List UInt8) (t:Ty) (l:List Vl) (i:Nat):(sP R t (l.take i)).length<=(sP R t l).length:=by
 have h:sP R t l=sP R t (l.take i)++sP R t (l.drop i):=by unfold sP;rw[<-s4,sH]
 rw[h,bW];omega
theorem aET {R:Ty->Vl->List UInt8} {t:Ty} {l:List Vl} {i:Nat} {x:Vl} (h:l[i]? = some x):sP R t (l.take (i+1))=sP R t (l.take i)++wR (R t x):=by
 unfold sP;rw[cM h,s4];simp
theorem aOB {s:Sc} (hd:Dg s) {N:Nat} (hN:N<=8) {u:Ty} {l:List Vl} (h:∀x∈l,x.h<=N/\gB s u x=0) (hl:l.length<=32):(sP (eV s N) u l).length<=3000000000000000000:=by
 have hB:=xU hN
 have h5:(sP (eV s N) u l).length<=l.length*(10+eB N):=yU fun x hx=>by
  have:=pO hd N u x (h x hx).1 (h x hx).2
  have:=yF (eV s N u x)
  omega
 have h6:l.length*(10+eB N)<=32*(10+eB N):=gD _ hl
 omega
theorem F7:∀N,Meets Tryz.prog 67 (M2 N).sp
 |0=>⟨by kernel_rfl,by rintro xs vs E ro w K _ _ _ h;obtain ⟨_,_,v,_,_,_,_,_,h,_⟩:=gQ h;have:=v.h_pos;have h2:=h.2.2.1;omega⟩
 |N+1=>by
  refine aF Tryz.func67 a9S 3 (by rw[Tryz.ntmps67];decide) (aG I6 (aG a0W (aE (aE2 (F7 N)) (aE jJ (aG (B4 (F7 N)) (aB _)))))) jM ?_
  intro av H K h
  obtain ⟨s,t,v,rfl,rfl,hs,ht,hv,⟨hd,hN,hh,h0⟩,hK⟩:=gQ h
  clear h
  have fin:∀(x:List UInt8) (R:Hp),eV s (N+1) t v=x->W.Fin 0 K (tS (mk x)) R:=fun x R h=>by
   rw[h] at hK;exact .z ((by simpa[go_sem] using hK))
  clear hK
  have hc:=m9 h0
  have hvn:=hv.n
  have k1:=dE hv
  have k2:=fV v
  have k6:=fZ hs
  have k7:=kL s
  rw[zR] at fin
  simp(maxSteps:=9^7)-dsimp only[go_sem,aA,aY t,aJ v,aRA,aV7]
  refine aH rfl (.done ?_)
  cases c1:t.k==1||(t.k==3||t.k==7) with
  |true=>
   rw[c1,aQ] at fin
   have go:∀b1 b3 b7:Bool,(t.k==1)=b1->(t.k==3)=b3->(t.k==7)=b7->(b1||(b3||b7))=true:=fun b1 b3 b7 h1 h3 h7=>by rw[<-h1,<-h3,<-h7];exact c1
   cases q1:t.k==1<;>cases q3:t.k==3<;>cases q7:t.k==7<;>first
    |exact absurd (go _ _ _ q1 q3 q7) (by decide)
    | (simp(maxSteps:=9^7)-dsimp only[go_sem,vB,q1,q3,q7,CD,CY,rB]
       exact fin _ _ rfl)
  |false=>
  have c1':=c1
  rw[cY,cY] at c1'
  rw[c1,aI] at fin
  cases c2:t.k==2 with
  |true=>
   rw[c2,aQ] at fin
   simp(maxSteps:=9^7)-dsimp only[go_sem,vB,c1'.1,c1'.2.1,c1'.2.2,c2,hvn]
   exact fin _ _ rfl
  |false=>
  rw[c2,aI] at fin
  cases c4:t.k==4 with
  |true=>
   rw[c4,aQ] at fin
   simp(maxSteps:=9^7)-dsimp only[go_sem,vB,c1'.1,c1'.2.1,c1'.2.2,c2,c4]
   have:=fin (bl v.s)
   rw[qC] at this
   exact this _ rfl
  |false=>
  rw[c4,aI] at fin
  cases c5:t.k==5 with
  |true=>
   rw[c5,aQ] at fin
   obtain ⟨u,he,hu⟩:=GU hc.va c5
   have hto:=ht.e u (by rw[he];exact dS.2 rfl)
   obtain ⟨_,_,_,e4,e5⟩:=hc.ls c5
   have h32:=(yY hc.va).2 c5
   rw[he] at fin e5
   simp only[List.headD_cons] at fin e5
   have hxs:∀x∈v.l,x.h<=N/\gB s u x=0:=fun x hx=>⟨by have:=Vl.h_l hx;omega,e5 x hx⟩
   have hlen:=aOB hd (N:=N) (by omega) hxs (by omega)
   have hvl:=rP v.l.length
   simp(maxSteps:=9^7)-dsimp only[go_sem,vB,c1'.1,c1'.2.1,c1'.2.2,c2,c4,c5]
   refine aH rfl (.done ?_)
   simp(maxSteps:=9^7)-dsimp only[go_sem,KN,CD,CY,rB]
   refine aO (α:=Nat) (fun i=>[(3,.va (.c1 (.pt 0 0))),(4,.va (.c1 (.pt 1 0))),(7,.va (.c1 (.pt 3 0))),(8,e1V),(41,.va (.c1 (.fz (v.l.map aW)))),(42,iS .i64 v.l.length),(43,iS .i64 i)])
    (fun i=>[.cells [.vl (.int .i64 s.ver),.fz (s.es.map aV),.fz (s.ss.map aD)] 25,.cells [.vl (.int .i64 t.k),.vl (.int .i64 t.s),.vl (.string t.n),.fz (t.e.map aK)] 45,.cells [.vl (.int .i64 v.k),.vl (.int .i64 v.n),.vl (.string v.s),.fz (v.l.map aW),.fz (v.f.map bG)] 29,osB (oC v.l.length++sP (eV s N) u (v.l.take i))])
    (fun i=>i<=v.l.length) (fun i=>v.l.length-i) 0 4 (aP _) ?_ ?_ ?_
   · simp -dsimp only[go_sem]<;>simp
   · simp -dsimp only[go_sem]<;>simp[sP]
   intro i hi
   have hlt1:=aG1 (eV s N) u v.l i
   rcases bB i v.l.length with hlt|hge
   · have hg:decide ((i:Int)<(v.l.length:Int))=true:=by simp;omega
     have hx:v.l[i]? = some v.l[i]:=aX hlt
     have q1:=sC hx
     have hxm:=eM hlt
     have hxo:=hv.l _ hxm
     have hxp:=hxs _ hxm
     have hnx:=aET (R:=eV s N) (t:=u) hx
     generalize v.l[i]=x at *
     simp(maxSteps:=9^7)-dsimp only[go_sem,hg,↓q1]
     refine ⟨by omega,aH rfl (.done ?_)⟩
     simp(maxSteps:=9^7)-dsimp only[go_sem,MJ]
     refine aSA he hs hto hxo ⟨hd,by omega,hxp.1,hxp.2⟩ (by rw[bW];omega) ?_
     simp(maxSteps:=9^7)-dsimp only[go_sem,aA]
     refine ⟨by omega,aC (i+1) 4 (by omega) (by omega) ?_ ?_⟩
     · simp -dsimp only[go_sem]<;>simp
     · simp -dsimp only[go_sem,hnx]<;>simp
   · have hg:decide ((i:Int)<(v.l.length:Int))=false:=by simp;omega
     rw[sE hge] at *
     simp(maxSteps:=9^7)-dsimp only[go_sem,hg]
     refine aH rfl (.done ?_)
     simp(maxSteps:=9^7)-dsimp only[go_sem,KU]
     exact fin _ _ rfl
  |false=>
   rw[c5,aI] at fin
   have c6:(t.k==6)=true:=YB hc.va c1'.1 (by rw[c2,c1'.2.1,c1'.2.2];rfl) c4 c5
   obtain ⟨_,_,_,_,e5⟩:=hc.st c6
   have hst:=pQ hs t
   have k4:=aB5 hst
   have k5:=aVN (stOf s t)
   have k8:EsP N s (stOf s t) v=True:=eq_true ⟨hd,by omega,fun x hx=>by have:=Vl.h_f hx;omega,t,ht,c6,rfl,h0⟩
   simp(maxSteps:=9^7)-dsimp only[go_sem,vB,c1'.1,c1'.2.1,c1'.2.2,c2,c4,c5]
   refine aH rfl (.done ?_)
   simp(maxSteps:=9^7)-dsimp only[go_sem,MH]
   refine dJ hs ?_
   rw[show (fS s.ss t.n).getD default=stOf s t from rfl]
   generalize stOf s t=w at *
   simp(maxSteps:=9^7)-dsimp only[go_sem,aD]
   refine aH rfl (.done ?_)
   simp(maxSteps:=9^7)-dsimp only[go_sem,L2,XD,k1,k2,k4,k5,k6,k7,k8]
   exact fin _ _ rfl
abbrev nU (nm:ByteArray):Ty:=.mk 6 0 nm []
theorem aXL {nm:ByteArray} (h:nm.size<=9223372036854775807):TyOk (nU nm):=.mk ⟨by decide,by decide⟩ ⟨by decide,by decide⟩ h (aP _) fun t h=>(by cases h)
def OM (s:Sc) (nm:ByteArray):St×Int:=bif aL s != 0 then (default,aL s) else bif !(aZ s.ss nm) then (default,6) else (stOf s (nU nm),0)
def aRT:W.Spec:=fun av H K=>∃(s:Sc) (nm:ByteArray),av=[.va (.gs (aA s)),tS nm]/\H=[]/\s.fit/\K (.tu [.gs (aD (OM s nm).1),iA .i64 (OM s nm).2]) []
theorem aB3 {s:Sc} {nm:ByteArray} {K:S->Hp->Prop} (h:s.fit) (hK:K (.tu [.gs (aD (OM s nm).1),iA .i64 (OM s nm).2]) []):aRT [.va (.gs [.vl (.int .i64 s.ver),.fz (s.es.map aV),.fz (s.ss.map aD)]),tS nm] [] K:=⟨s,nm,rfl,rfl,h,hK⟩
theorem AW:aD default=[.vl (.string (mk [])),.fz []]:=rfl
theorem WK:Meets Tryz.prog 25 aRT:=by
 refine aF Tryz.func25 bAD 2 (by rw[Tryz.ntmps25];decide) (aG yO (aE jJ (aB _))) (fun av H K h=>by obtain ⟨_,_,rfl,_⟩:=h;rfl) ?_
 rintro av H K ⟨s,nm,rfl,rfl,hs,hK⟩
 have fin:∀(u:St) (e:Int) (R:Hp),OM s nm=(u,e)->W.Fin 0 K (.tu [.gs (aD u),iA .i64 e]) R:=fun u e R h=>by
  rw[h] at hK;exact .z ((by simpa[go_sem,aD] using hK))
 clear hK
 unfold OM at fin
 have k6:=fZ hs
 have k7:=kL s
 simp(maxSteps:=9^7)-dsimp only[go_sem,aA,aX4,aR8,k6,k7]
 refine aH rfl (.done ?_)
 cases c1:aL s != 0 with
 |true=>
  rw[c1,aQ] at fin
  simp(maxSteps:=9^7)-dsimp only[go_sem,JI,c1]
  exact fin _ _ _ rfl
 |false=>
 rw[c1,aI] at fin
 simp(maxSteps:=9^7)-dsimp only[go_sem,JI,c1]
 refine aH rfl (.done ?_)
 simp(maxSteps:=9^7)-dsimp only[go_sem,S9]
 refine dJ hs ?_
 rw[show (fS s.ss nm).getD default=stOf s (nU nm) from rfl]
 generalize stOf s (nU nm)=u at *
 simp(maxSteps:=9^7)-dsimp only[go_sem,aD]
 refine aH rfl (.done ?_)
 cases c2:aZ s.ss nm with
 |false=>
  rw[c2,bV,aQ] at fin
  simp(maxSteps:=9^7)-dsimp only[go_sem,HJ,bV]
  exact fin _ _ _ rfl
 |true=>
  rw[c2,bN,aI] at fin
  simp(maxSteps:=9^7)-dsimp only[go_sem,HJ,bN]
  exact fin _ _ _ rfl
def aS6:W.Spec:=fun av H K=>∃nm:ByteArray,av=[tS nm]/\H=[]/\K (.va (.gs (aK (nU nm)))) []
theorem aCO {nm:ByteArray} {K:S->Hp->Prop} (hK:K (.va (.gs (aK (nU nm)))) []):aS6 [tS nm] [] K:=⟨nm,rfl,rfl,hK⟩
theorem US:Meets Tryz.prog 26 aS6:=by
 refine aF Tryz.func26 bAJ 1 (by rw[Tryz.ntmps26];decide) (aB _) (fun av H K h=>by obtain ⟨_,rfl,_⟩:=h;rfl) ?_
 rintro av H K ⟨nm,rfl,rfl,hK⟩
 simp(maxSteps:=9^7)-dsimp only[go_sem,aUU,aW9]
 exact .z ((by simpa[go_sem,aY,Ty.k,Ty.s,Ty.n,Ty.e] using hK))
def aV4:W.Spec:=fun av H K=>∃(s:Sc) (nm:ByteArray) (v:Vl),av=[.va (.gs (aA s)),tS nm,.va (.gs (aW v))]/\H=[]/\s.fit/\nm.size<=9223372036854775807/\VlOk v/\K (.tu [tA (mk (BV s nm v).1),iA .i64 (BV s nm v).2]) []
theorem aVI {s:Sc} {nm:ByteArray} {v:Vl} {K:S->Hp->Prop} (h1:s.fit) (h2:nm.size<=9223372036854775807) (h3:VlOk v) (hK:K (.tu [tA (mk (BV s nm v).1),iA .i64 (BV s nm v).2]) []) :
 aV4 [.va (.gs [.vl (.int .i64 s.ver),.fz (s.es.map aV),.fz (s.ss.map aD)]),tS nm,.va (.gs [.vl (.int .i64 v.k),.vl (.int .i64 v.n),.vl (.string v.s),.fz (v.l.map aW),.fz (v.f.map bG)])] [] K:=⟨s,nm,v,by rw[aJ];rfl,rfl,h1,h2,h3,hK⟩
theorem aPW:Meets Tryz.prog 10 aV4:=by
 refine aF Tryz.func10 a58 3 (by rw[Tryz.ntmps10];decide) (aE WK (aE US (aG VM (aG (B4 (F7 8)) (aB _))))) (fun av H K h=>by obtain ⟨_,_,_,rfl,_⟩:=h;rfl) ?_
 rintro av H K ⟨s,nm,v,rfl,rfl,hs,hnm,hv,hK⟩
 have fin:∀(x:List UInt8) (e:Int) (R:Hp),BV s nm v=(x,e)->W.Fin 0 K (.tu [tA (mk x),iA .i64 e]) R:=fun x e R h=>by
  rw[h] at hK;exact .z ((by simpa[go_sem] using hK))
 clear hK
 unfold BV at fin
 have hty:=aXL hnm
 have k1:=dE hv
 have k2:=fV v
 have k4:=iL hty
 have k5:=n7 (nU nm)
 have k6:=fZ hs
 have k7:=kL s
 simp(maxSteps:=9^7)-dsimp only[go_sem,aA,aJ v,aQV,aXB]
 refine aB3 hs ?_
 have hch:OM s nm=bif aL s != 0 then (default,aL s) else bif !(aZ s.ss nm) then (default,6) else (stOf s (nU nm),0):=rfl
 have hst:=pQ hs (nU nm)
 cases c1:aL s != 0 with
 |true=>
  rw[c1,aQ] at fin hch
  rw[hch]
  simp(maxSteps:=9^7)-dsimp only[go_sem,AW]
  refine aH rfl (.done ?_)
  simp(maxSteps:=9^7)-dsimp only[go_sem,yH,c1]
  exact fin _ _ _ rfl
 |false=>
 have hd:=O0 hs (wW c1)
 rw[c1,aI] at fin hch
 cases c2:aZ s.ss nm with
 |false=>
  rw[c2,bV,aQ] at fin hch
  rw[hch]
  simp(maxSteps:=9^7)-dsimp only[go_sem,AW]
  refine aH rfl (.done ?_)
  have g:((6:Int) != 0)=true:=rfl
  simp(maxSteps:=9^7)-dsimp only[go_sem,yH,g]
  exact fin _ _ _ rfl
 |true=>
 rw[c2,bN,aI] at fin hch
 rw[hch]
 cases c3:lN s (nU nm) v != 0 with
 |true=>
  rw[c3,aQ] at fin
  generalize stOf s (nU nm)=w at *
  simp(maxSteps:=9^7)-dsimp only[go_sem,aD]
  refine aH rfl (.done ?_)
  simp(maxSteps:=9^7)-dsimp only[go_sem,yH,bne_self_eq_false]
  refine aH rfl (.done ?_)
  simp(maxSteps:=9^7)-dsimp only[go_sem,HG]
  refine aCO ?_
  simp(maxSteps:=9^7)-dsimp only[go_sem,aY (nU nm),k1,k2,k4,k5,k6,k7,c3]
  exact fin _ _ _ rfl
 |false=>
  rw[c3,aI] at fin
  have hck:=wW c3
  have h0:=(GC hck).1
  have hh:=aTO hck
  have q4:=aB5 hst
  have q5:=aVN (stOf s (nU nm))
  have q8:EsP 8 s (stOf s (nU nm)) v=True:=eq_true ⟨hd,bE _,fun x hx=>by have:=Vl.h_f hx;omega,nU nm,hty,rfl,rfl,h0⟩
  generalize stOf s (nU nm)=w at *
  simp(maxSteps:=9^7)-dsimp only[go_sem,aD]
  refine aH rfl (.done ?_)
  simp(maxSteps:=9^7)-dsimp only[go_sem,yH,bne_self_eq_false]
  refine aH rfl (.done ?_)
  simp(maxSteps:=9^7)-dsimp only[go_sem,HG]
  refine aCO ?_
  simp(maxSteps:=9^7)-dsimp only[go_sem,aY (nU nm),k1,k2,k4,k5,k6,k7,c3]
  refine aH rfl (.done ?_)
  cases c4:decide (2000<((lK (eV s 8) s w.fs v.f).length:Int)) with
  |true=>
   rw[c4,aQ] at fin
   simp(maxSteps:=9^7)-dsimp only[go_sem,HO,XD,k1,k2,q4,q5,k6,k7,q8,c4]
   exact fin _ _ _ rfl
  |false=>
   rw[c4,aI] at fin
   simp(maxSteps:=9^7)-dsimp only[go_sem,HO,XD,k1,k2,q4,q5,k6,k7,q8,c4]
   exact fin _ _ _ rfl
theorem GA:∀N,Meets Tryz.prog 70 (LS N)
 |0=>⟨by kernel_rfl,by rintro xs vs E ro w K _ _ _ ⟨s,t,_,_,_,_,_,_,_,h,_⟩;have:=v7 s t;omega⟩
 |N+1=>by
  refine aF Tryz.func70 a69 3 (by rw[Tryz.ntmps70];decide) (aE UR (aE OT (aE (UO (GA N)) (aE jJ (aE (BQ (GA N)) (aB _)))))) (fun av H K h=>by obtain ⟨_,_,_,rfl,_⟩:=h;rfl) ?_
  rintro av H K ⟨s,t,b,rfl,rfl,hd,hs,ht,hv,hf,hb,hK⟩
  have fin:∀(v:Vl) (e:Int) (R:Hp),d9 s (N+1) t b=(v,e)->W.Fin 0 K (.tu [.gs [.vl (.int .i64 v.k),.vl (.int .i64 v.n),.vl (.string v.s),.fz (v.l.map aW),.fz (v.f.map bG)],iA .i64 e]) R:=fun v e R h=>by
   rw[h] at hK;exact .z ((by rw[aJ] at hK;simpa[go_sem] using hK))
  clear hK
  rw[GM] at fin
  simp(maxSteps:=9^7)-dsimp only[go_sem,aA,aY t,aYC,aWU]
  refine aH rfl (.done ?_)
  cases c1:t.k==1 with
  |true=>
   rw[c1,aQ] at fin
   simp(maxSteps:=9^7)-dsimp only[go_sem,sR,c1]
   refine aYF (by omega) ?_
   generalize BN b=w at *
   obtain ⟨v,e⟩:=w
   simp(maxSteps:=9^7)-dsimp only[go_sem,aJ v]
   exact fin _ _ _ rfl
  |false=>
  rw[c1,aI] at fin
  cases c2:t.k==2||(t.k==3||t.k==7) with
  |true=>
   rw[c2,aQ] at fin
   have go:∀b2 b3 b7:Bool,(t.k==2)=b2->(t.k==3)=b3->(t.k==7)=b7->(b2||(b3||b7))=true:=fun b2 b3 b7 h1 h3 h7=>by rw[<-h1,<-h3,<-h7];exact c2
   cases q2:t.k==2<;>cases q3:t.k==3<;>cases q7:t.k==7<;>first
    |exact absurd (go _ _ _ q2 q3 q7) (by decide)
    | (simp(maxSteps:=9^7)-dsimp only[go_sem,sR,c1,q2,q3,q7]
       refine aSN hd hs ht hv c2 (by omega) ?_
       generalize BX s t b=w at *
       obtain ⟨v,e⟩:=w
       simp(maxSteps:=9^7)-dsimp only[go_sem,aJ v]
       exact fin _ _ _ rfl)
  |false=>
  have c2':=c2
  rw[cY,cY] at c2'
  rw[c2,aI] at fin
  cases c4:t.k==4 with
  |true=>
   rw[c4,aQ] at fin
   unfold dTx at fin
   cases d:decide (t.s<(b.length:Int)) with
   |true=>
    rw[d,aQ] at fin
    simp(maxSteps:=9^7)-dsimp only[go_sem,sR,c1,c2'.1,c2'.2.1,c2'.2.2,c4,d]
    exact fin v0 _ _ rfl
   |false=>
    rw[d,aI] at fin
    simp(maxSteps:=9^7)-dsimp only[go_sem,sR,c1,c2'.1,c2'.2.1,c2'.2.2,c4,d]
    exact fin (.mk 4 0 (mk b) [] []) _ _ rfl
  |false=>
  rw[c4,aI] at fin
  cases c5:t.k==5 with
  |true=>
   rw[c5,aQ] at fin
   simp(maxSteps:=9^7)-dsimp only[go_sem,sR,c1,c2'.1,c2'.2.1,c2'.2.2,c4,c5]
   refine aYM hd hs ht hv c5 hf hb ?_
   generalize sU (d9 s N (t.e.headD default)) t.s b=w at *
   obtain ⟨v,e⟩:=w
   simp(maxSteps:=9^7)-dsimp only[go_sem,aJ v]
   exact fin _ _ _ rfl
  |false=>
   rw[c5,aI] at fin
   have c6:=YB hv c1 c2 c4 c5
   have hst:=rV hd hv c6
   have hfd:=u5 (s:=s) c6
   have hp:DsP N s (stOf s t):=⟨hd,hs,⟨t,rfl⟩,fun f hf=>by have:=hst.2.2 f hf;omega⟩
   simp(maxSteps:=9^7)-dsimp only[go_sem,sR,c1,c2'.1,c2'.2.1,c2'.2.2,c4,c5]
   refine aH rfl (.done ?_)
   simp(maxSteps:=9^7)-dsimp only[go_sem,K7]
   refine dJ hs ?_
   rw[show (fS s.ss t.n).getD default=stOf s t from rfl]
   generalize stOf s t=u at *
   simp(maxSteps:=9^7)-dsimp only[go_sem,aD]
   refine aH rfl (.done ?_)
   simp(maxSteps:=9^7)-dsimp only[go_sem,LZ]
   refine UY hp hb ?_
   generalize tF (d9 s N) s u.fs b=w at *
   obtain ⟨v,e⟩:=w
   simp(maxSteps:=9^7)-dsimp only[go_sem,aJ v]
   exact fin _ _ _ rfl
def aVD:W.Spec:=fun av H K=>∃(s:Sc) (nm:ByteArray) (b:List UInt8),av=[.va (.gs (aA s)),tS nm,tS (mk b)]/\H=[]/\s.fit/\b.length<=9223372036854775807/\K (.tu [.gs (aW (B0 s nm b).1),iA .i64 (B0 s nm b).2]) []
theorem aST {s:Sc} {nm:ByteArray} {b:List UInt8} {K:S->Hp->Prop} (h1:s.fit) (h2:b.length<=9223372036854775807)
 (hK:K (.tu [.gs [.vl (.int .i64 (B0 s nm b).1.k),.vl (.int .i64 (B0 s nm b).1.n),.vl (.string (B0 s nm b).1.s),.fz ((B0 s nm b).1.l.map aW),.fz ((B0 s nm b).1.f.map bG)],iA .i64 (B0 s nm b).2]) []) :
 aVD [.va (.gs [.vl (.int .i64 s.ver),.fz (s.es.map aV),.fz (s.ss.map aD)]),tS nm,tS (mk b)] [] K:=⟨s,nm,b,rfl,rfl,h1,h2,by rw[aJ];exact hK⟩
theorem aPN:Meets Tryz.prog 11 aVD:=by
 refine aF Tryz.func11 a9Q 3 (by rw[Tryz.ntmps11];decide) (aE WK (aE (BQ (GA 8)) (aB _))) (fun av H K h=>by obtain ⟨_,_,_,rfl,_⟩:=h;rfl) ?_
 rintro av H K ⟨s,nm,b,rfl,rfl,hs,hb,hK⟩
 have fin:∀(v:Vl) (e:Int) (R:Hp),B0 s nm b=(v,e)->W.Fin 0 K (.tu [.gs [.vl (.int .i64 v.k),.vl (.int .i64 v.n),.vl (.string v.s),.fz (v.l.map aW),.fz (v.f.map bG)],iA .i64 e]) R:=fun v e R h=>by
  rw[h] at hK;exact .z ((by rw[aJ] at hK;simpa[go_sem] using hK))
 clear hK
 unfold B0 at fin
 simp(maxSteps:=9^7)-dsimp only[go_sem,aA,aUY,aQ4]
 refine aB3 hs ?_
 have hch:OM s nm=bif aL s != 0 then (default,aL s) else bif !(aZ s.ss nm) then (default,6) else (stOf s (nU nm),0):=rfl
 cases c1:aL s != 0 with
 |true=>
  rw[c1,aQ] at fin hch
  rw[hch]
  simp(maxSteps:=9^7)-dsimp only[go_sem,AW]
  refine aH rfl (.done ?_)
  simp(maxSteps:=9^7)-dsimp only[go_sem,xN,c1]
  exact fin v0 _ _ rfl
 |false=>
 have hd:=O0 hs (wW c1)
 rw[c1,aI] at fin hch
 cases c2:aZ s.ss nm with
 |false=>
  rw[c2,bV,aQ] at fin hch
  rw[hch]
  simp(maxSteps:=9^7)-dsimp only[go_sem,AW]
  refine aH rfl (.done ?_)
  have g:((6:Int) != 0)=true:=rfl
  simp(maxSteps:=9^7)-dsimp only[go_sem,xN,g]
  exact fin v0 _ _ rfl
 |true=>
 rw[c2,bN,aI] at fin hch
 rw[hch]
 obtain ⟨hfd,hv⟩:=aVG hd c2
 have hst:=rV hd hv rfl
 have hp:DsP 8 s (stOf s (nU nm)):=⟨hd,hs,⟨nU nm,rfl⟩,fun f hf=>by have:=hst.2.2 f hf;have:=hst.2.1;omega⟩
 cases c3:decide (2000<(b.length:Int)) with
 |true=>
  rw[c3,aQ] at fin
  generalize stOf s (nU nm)=w at *
  simp(maxSteps:=9^7)-dsimp only[go_sem,aD]
  refine aH rfl (.done ?_)
  simp(maxSteps:=9^7)-dsimp only[go_sem,xN,bne_self_eq_false,c3]
  exact fin v0 _ _ rfl
 |false=>
  rw[c3,aI] at fin
  have hb2:=gL c3
  generalize stOf s (nU nm)=w at *
  simp(maxSteps:=9^7)-dsimp only[go_sem,aD]
  refine aH rfl (.done ?_)
  simp(maxSteps:=9^7)-dsimp only[go_sem,xN,bne_self_eq_false,c3]
  refine aH rfl (.done ?_)
  simp(maxSteps:=9^7)-dsimp only[go_sem,SZ]
  refine UY hp (by omega) ?_
  generalize tF (d9 s 8) s w.fs b=z at *
  obtain ⟨v,e⟩:=z
  simp(maxSteps:=9^7)-dsimp only[go_sem,aJ v]
  exact fin _ _ _ rfl
abbrev nTop:ByteArray:=mk [84,111,112]
abbrev nX:ByteArray:=mk [120]
def tyA:Ty:=.mk 2 8 (mk []) []
def tyW:Ty:=.mk 2 16 (mk []) []
def flA:Fl:=⟨2,nX,tyA,false⟩
def flW:Fl:=⟨2,nX,tyW,false⟩
def stX:St:=⟨nTop,[flA]⟩
def stY:St:=⟨nTop,[flW]⟩
def exA:Sc:=⟨1,[],[stX]⟩
def exB:Sc:=⟨2,[],[stY]⟩
theorem V1 {v s:Int} (h1:cB v) (h2:cB s):(⟨v,[],[⟨nTop,[⟨2,nX,.mk 2 s (mk []) [],false⟩]⟩]⟩:Sc).fit:=by
 have hok:TyOk (.mk 2 s (mk []) []):=.mk (by unfold cB;omega) h2 (by decide) (aP _) (fun t h=>by cases h)
 have hsm:TySm (.mk 2 s (mk []) []):=.mk (aP _) (fun t h=>by cases h)
 have hst:∀t∈[(⟨nTop,[⟨2,nX,.mk 2 s (mk []) [],false⟩]⟩:St)],t=⟨nTop,[⟨2,nX,.mk 2 s (mk []) [],false⟩]⟩:=fun t ht=>by simpa using ht
 have n1:nTop.size<=9223372036854775807:=by decide
 have n2:nX.size<=9223372036854775807:=by decide
 have n3:cB 2:=by unfold cB;decide
 refine ⟨⟨h1,by simp,by simp,fun e he=>(by cases he),fun t ht=>?_⟩,fun t ht f hf=>?_,fun t ht=>?_,fun e he=>(by cases he)⟩
 · rw[hst t ht]
   refine ⟨n1,by simp,fun f hf=>?_⟩
   obtain rfl:=dS.1 hf
   exact ⟨n3,n2,hok⟩
 · rw[hst t ht] at hf
   obtain rfl:=dS.1 hf
   show (cJ (.mk 2 s (mk []) [])).1<=1000000000
   rw[show (cJ (.mk 2 s (mk []) [])).1=0 from rfl];omega
 · rw[hst t ht]
   refine ⟨by simp,fun f hf=>?_⟩
   obtain rfl:=dS.1 hf
   exact hsm
theorem XN:exA.fit:=V1 (v:=1) (s:=8) (by unfold cB;omega) (by unfold cB;omega)
theorem X1:exB.fit:=V1 (v:=2) (s:=16) (by unfold cB;omega) (by unfold cB;omega)
theorem Q9 (ss:List St) (n x:ByteArray):bJ (dA ss n) x=bJ (gP ss n) x:=by
 rw[Bool.eq_iff_iff,m6,m6,dA,FX]
theorem a06:gP exA.ss nTop=[]:=by decide +kernel
theorem a2I:gP exB.ss nTop=[]:=by decide +kernel
theorem aM8:exA.ss.any (fun t=>bJ (dA exA.ss t.nm) t.nm)=false:=by
 simp only[Q9];decide +kernel
theorem aJX:exB.ss.any (fun t=>bJ (dA exB.ss t.nm) t.nm)=false:=by
 simp only[Q9];decide +kernel
theorem M3:aL exA=0:=by
 have h1:c9 exA=false:=by decide +kernel
 have h2:vQ exA=0:=by decide +kernel
 have h3:tH exA=0:=by decide +kernel
 have g:=uM XN h1 h3
 have ac:wL exA.ss:=fun t ht=>g5 aM8 t ht
 have hd:dD exA.ss nTop=1:=by
  have h:=EC g ac (g.nd stX (by simp[exA]))
  rw[show nTop=stX.nm from rfl,h]
  rfl
 have h:jQ exA.ss=0:=by
  unfold jQ
  rw[aM8]
  have e:exA.ss.any (fun t=>decide (6<dD exA.ss t.nm))=(decide (6<dD exA.ss nTop)||false):=rfl
  rw[e,hd];rfl
 unfold aL
 rw[h1,h2,h3,h];rfl
theorem L7:aL exB=0:=by
 have h1:c9 exB=false:=by decide +kernel
 have h2:vQ exB=0:=by decide +kernel
 have h3:tH exB=0:=by decide +kernel
 have g:=uM X1 h1 h3
 have ac:wL exB.ss:=fun t ht=>g5 aJX t ht
 have hd:dD exB.ss nTop=1:=by
  have h:=EC g ac (g.nd stY (by simp[exB]))
  rw[show nTop=stY.nm from rfl,h]
  rfl
 have h:jQ exB.ss=0:=by
  unfold jQ
  rw[aJX]
  have e:exB.ss.any (fun t=>decide (6<dD exB.ss t.nm))=(decide (6<dD exB.ss nTop)||false):=rfl
  rw[e,hd];rfl
 unfold aL
 rw[h1,h2,h3,h];rfl
theorem OD {ss:List St} {n:ByteArray} (h:gP ss n=[]):dA ss n=[]:=by
 rw[dA,h];exact List.eq_nil_iff_forall_not_mem.2 fun x hx=>by rw[FX] at hx;cases hx
theorem a6G:jY exA nTop=[]:=by unfold jY;rw[OD a06];cases pN exA nTop<;>rfl
theorem a8S:jY exB nTop=[]:=by unfold jY;rw[OD a2I];cases pN exB nTop<;>rfl
theorem a05:c8 tyA tyW=true:=o9.2 (.inr ⟨rfl,rfl,.inr ⟨by decide,.inl rfl,by decide,rfl⟩⟩)
theorem a0B:c8 tyW tyA=false:=by
 cases h:c8 tyW tyA with
 |false=>rfl
 |true=>
  rcases o9.1 h with h|⟨_,_,h|⟨_,_,h,_⟩⟩
  · have:=congrArg Ty.s h;exact absurd this (by decide)
  · exact absurd h.1 (by decide)
  · exact absurd h (by decide)
theorem ZJ:aZ exA.ss nTop=true:=by decide +kernel
theorem XO:aZ exB.ss nTop=true:=by decide +kernel
theorem aT2:fS exA.ss nTop=some stX:=rfl
theorem aQO:fS exB.ss nTop=some stY:=rfl
theorem aXR:n9 exA exB nTop=[]:=by
 have h:n9 exA exB nTop=iU exA exB nTop++[]:=by unfold n9 mF;rw[a6G];rfl
 rw[h]
 unfold iU
 rw[ZJ,XO,aT2,aQO]
 have h1:lP nTop stX stY=[]:=by
  have h2:dX nTop stY flA=[]:=by
   unfold dX
   rw[show fF stY.fs flA.num=some flW from rfl]
   simp only
   rw[show c8 flA.ty flW.ty=true from a05];rfl
  have h3:kT nTop stX flW=[]:=rfl
  show (dX nTop stY flA++[])++(kT nTop stX flW++[])=[]
  rw[h2,h3];rfl
 simp only[Option.getD_some,h1]
 rfl
theorem aVH:n9 exB exA nTop=[⟨1,2,nTop⟩]:=by
 have h:n9 exB exA nTop=iU exB exA nTop++[]:=by unfold n9 mF;rw[a8S];rfl
 rw[h]
 unfold iU
 rw[ZJ,XO,aT2,aQO]
 have h1:lP nTop stY stX=[⟨1,2,nTop⟩]:=by
  have h2:dX nTop stX flW=[⟨1,2,nTop⟩]:=by
   unfold dX
   rw[show fF stX.fs flW.num=some flA from rfl]
   simp only
   rw[show c8 flW.ty flA.ty=false from a0B];rfl
  have h3:kT nTop stY flA=[]:=rfl
  show (dX nTop stX flW++[])++(kT nTop stY flA++[])=_
  rw[h2,h3];rfl
 simp only[Option.getD_some,h1]
 rfl
theorem a1Y:m5 exA exB nTop=[]:=by unfold m5;rw[M3,L7,aXR];rfl
theorem aZB:m5 exB exA nTop=[⟨1,2,nTop⟩]:=by unfold m5;rw[M3,L7,aVH];rfl
theorem aZ7:l0 exA exB nTop=true:=by unfold l0;rw[M3,L7,ZJ,XO,a1Y];rfl
theorem aNK {Γ:eX} {k0:Nat} {x:PC} {fr:Fr} {H:Hp} {K:Ex->Fr->Hp->Prop} {up:List (Nat×S)} {Hs:Hp} (ns:List Nat) (h:vc Γ k0 x.ungh (gY up) Hs K) (h3:ns.Nodup) (h4:∀n∈ns,n<H.length) (h5:ns.take k0=List.range k0)
 (h1:I0 ns fr up) (h2:(wI H ns).map (B.ren (gN ns))=Hs):Gh k0 (fun fr' H'=>vc Γ k0 x.ungh fr' H' K) fr H:=
 .sel ns h3 h4 h5 (.wk _ (SJ h1) (.done (by rw[h2];exact h)))
def awFn:Fun:=⟨fun av=>av=[],fun _=>bA true,fun _av _=>trivial⟩
attribute [go_sem] awFn
theorem aWH:Meets Tryz.prog 6 awFn.sp:=by
 refine aF Tryz.func6 ok6 0 (by rw[Tryz.ntmps6];decide) (aE W0 (aG FB (aB _))) (fun av H K h=>by obtain ⟨⟨rfl,_⟩,_⟩:=h;rfl) ?_
 rintro av H K ⟨⟨rfl,rfl⟩,hK⟩
 have hK:K (bS true) []:=hK
 simp(maxSteps:=9^7)-dsimp only[go_sem,pc6,rs6]
 have e1:aA exA=[.vl (.int .i64 1),.fz [],.fz [aD stX]]:=rfl
 have e2:aA exB=[.vl (.int .i64 2),.fz [],.fz [aD stY]]:=rfl
 have e3:aD stX=[.vl (.string nTop),.fz [aN flA]]:=rfl
 have e4:aD stY=[.vl (.string nTop),.fz [aN flW]]:=rfl
 have e5:aN flA=[.vl (.int .i64 2),.vl (.string nX),.vl (.int .i64 2),.vl (.int .i64 8),.vl (.string (mk [])),.fz [],.vl (.bool false)]:=rfl
 have e6:aN flW=[.vl (.int .i64 2),.vl (.string nX),.vl (.int .i64 2),.vl (.int .i64 16),.vl (.string (mk [])),.fz [],.vl (.bool false)]:=rfl
 refine aH rfl (.opn 0 _ _ _ rfl (.nfr 0 _ _ _ rfl (.shu 0 _ _ _ rfl ?_ (.pub 0 _ _ _ rfl (.shu 1 _ _ _ rfl ?_ (.pub 1 _ _ _ rfl (.opn 3 _ _ _ rfl (.nfr 3 _ _ _ rfl (.shu 3 _ _ _ rfl ?_ (.pub 3 _ _ _ rfl (.shu 4 _ _ _ rfl ?_ (.pub 4 _ _ _ rfl ?_))))))))))))
 · simp[C.shut,C.nf]
 · simp[C.shut,C.pub]
 · simp[C.shut,C.nf]
 · simp[C.shut,C.pub]
 refine aNK (up:=[(1,.va (.c1 (.pt 0 0))),(2,.va (.c1 (.pt 1 0)))]) (Hs:=[.cells [.vl (.int .i64 1),.vl (.slice none 0 0),.fz [aD stX]] 25,.cells [.vl (.int .i64 2),.vl (.slice none 0 0),.fz [aD stY]] 25]) [2,5] ?_ (by simp) (by simp[cS]) rfl ?_ ?_
 rotate_left
 · simp -dsimp only[go_sem]<;>simp
 · simp -dsimp only[go_sem,cS,e3,e4,e5,e6]<;>simp[C.pub,C.nf]
 simp(maxSteps:=9^7)-dsimp only[go_sem,YV]
 refine QV (o:=exB) (n:=exA) (x:=nTop) X1 XN ?_
 rw[aZB]
 simp(maxSteps:=9^7)-dsimp only[go_sem]
 refine bZ (up:=[(1,.va (.c1 (.pt 0 0))),(2,.va (.c1 (.pt 1 0))),(3,.va (.c1 (.fz [bR ⟨1,2,nTop⟩])))]) (Hs:=[.cells [.vl (.int .i64 1),.vl (.slice none 0 0),.fz [aD stX]] 25,.cells [.vl (.int .i64 2),.vl (.slice none 0 0),.fz [aD stY]] 25]) 2 ?_ ?_ ?_
 rotate_left
 · simp -dsimp only[go_sem]<;>simp
 · simp -dsimp only[go_sem]<;>simp
 have h1:=cN XN
 have h2:=cN X1
 have d1:=cT exA
 have d2:=cT exB
 rw[e1] at h1 d1
 rw[e2] at h2 d2
 have k1:((1:Int)==1)=true:=rfl
 have k2:((2:Int)==2)=true:=rfl
 have k3:(bl nTop==bl nTop)=true:=by simp
 simp(maxSteps:=9^7)-dsimp only[go_sem,XZ,h1,h2,d1,d2,aZ7,bR]
 refine ⟨fun _=>⟨⟨by omega,fun r hr=>by subst hr;rfl⟩,fun r hr=>?_⟩,fun h=>absurd h (by simp)⟩
 subst hr
 simp(maxSteps:=9^7)-dsimp only[go_sem,k1,k2]
 exact .z ((by simpa[go_sem] using hK))
def JZ:PC:=.seq (.gh (.reg [.v 72 14,.h 73 .eql 72 0,.v 74 73,.Y 75 74 (.n 5 13),.Y 76 74 (.n 5 7),.Y 77 74 (.cq 9 [AB,(.t 76)]),.p 78 74 77,.v 79 78,.Y 80 79 (.cq 6 []),.p 81 79 80,.v 6 81])) .ret
@[go_sem ↓] theorem a4X:a7 JZ:=a8 _
def DY:PC:=.seq (.seq (.gh (.reg [.v 59 12,.h 60 .neq 59 0])) (.I 60 (.R [.v 61 12,.h 62 .eql 61 3,.v 63 62,.Y 64 63 (.cq 6 []),.p 65 63 64,.v 6 65]))) (.S [.n 67 3 4,.v 68 11,.j 69 11 [AU,(.k (.string (mk [84,111,112]))),(.t 68)],.v 66 69,.y 70 66 0,.y 71 66 1,.A 13 gO 29,.w 5 13 70,.v 14 71] JZ)
@[go_sem ↓] theorem a3K:a7 DY:=a8 _
def IJ:PC:=.seq (.seq (.gh (.reg [.v 41 8,.v 42 10,.k 43 .neq 41 42,.v 44 43,.N 45 44 (.n 5 7),.N 46 44 (.n 5 9),.N 47 44 (.cq 9 [(.t 45),p7]),.N 48 44 (.q (.not nJ)),.o 49 44 48])) (.I 49 (.R [.F 6]))) (.seq (.S [.v 50 8,.h 51 .neq 50 0] (.I 51 (.R [.u 52 6 [],.v 6 52]))) (.S [.n 54 3 3,.n 55 5 5,.j 56 10 [wN,(.k (.string (mk [84,111,112]))),tN],.v 53 56,.y 57 53 0,.y 58 53 1,.v 11 57,.v 12 58] DY))
@[go_sem ↓] theorem a6Q:a7 IJ:=a8 _
def SC:PC:=.seq (.gh (.reg [.n 35 3 3,.n 36 3 4,.n 37 5 5,.j 38 8 [qG,kX,(.k (.string (mk [84,111,112]))),mI],.v 34 38,.y 39 34 0,.y 40 34 1,.A 9 gO 29,.w 5 9 39,.v 10 40])) IJ
@[go_sem ↓] theorem a71:a7 SC:=a8 _
def R8:PC:=.S [.z 3 25 0,.z 4 25 1,.z 5 29 2,.F 6] (.seq (.S [.n 15 3 3,.u 16 4 [jR],.v 17 16,.N 18 17 (.n 3 4),.N 19 17 (.cq 4 [iV]),.o 20 17 19,.v 21 20,.N 22 21 (.n 5 5),.N 23 21 (.cq 5 [jO]),.N 24 21 (.h .gtr 23 300),.o 25 21 24] (.I 25 (.R [.u 26 6 [],.v 6 26]))) (.S [.n 28 3 3,.n 29 3 4,.n 30 5 5,.j 31 7 [g7,lB,(.k (.string (mk [84,111,112]))),oO],.v 27 31,.y 32 27 0,.y 33 27 1,.A 7 gO 29,.w 5 7 32,.v 8 33] SC))
def QP:List RV:=[.mv (.t 6)]
theorem a7F:aU Tryz.prog true ⟨fun r k=>if r=1/\k=1 then .q else if r=1/\k=4 then .q else if r=1/\k=8 then .q else if r=2/\k=0 then .q else if r=5/\k=6 then .q else if r=8/\k=0 then .q else if r=11/\k=3 then .q else if r=13/\k=5 then .q else if r=13/\k=8 then .q else .own [],fun r=>[4,5,10,13].contains r⟩ Tryz.f3=some (R8,QP):=by kernel_rfl
def ZA:List S->Prop:=fun av=>match av with
 |[.va (.gs r),.va (.gs q),.va (.gs p)]=>kF r/\kF q/\∃v,p=aW v/\VlOk v/\v.h<=1000000
 |_=>False
theorem HX {av:List S} (h:ZA av):∃(s m:Sc) (v:Vl),av=[.va (.gs (aA s)),.va (.gs (aA m)),.va (.gs (aW v))]/\s.fit/\m.fit/\VlOk v/\v.h<=1000000:=by
 unfold ZA at h
 split at h
 · obtain ⟨⟨s,rfl,hs⟩,⟨m,rfl,hm⟩,⟨v,rfl,hv,hh⟩⟩:=h;exact ⟨s,m,v,rfl,hs,hm,hv,hh⟩
 · exact h.elim
def lqFn:Fun:=⟨ZA,fun _=>bA true,fun _ _=>trivial⟩
theorem aX7 {s m:Sc} {n:ByteArray} {v:Vl} (h:VlOk v):VlOk (mC s m n v).1:=by
 unfold mC
 cases aL s != 0<;>cases aL m != 0<;>cases aZ s.ss n<;>cases lN s (sN n) v != 0<;>cases l0 s m n<;>first|exact nH|exact aUA h
theorem aEZ {s m:Sc} {n:ByteArray} {v:Vl} (h:(mC s m n v).2=0):l0 s m n=true/\lN s (sN n) v=0/\(mC s m n v).1=pj m (sN n) v:=by
 unfold mC at h ⊢
 cases c1:aL s != 0 with
 |true=>rw[c1] at h;exact absurd h (N6 c1)
 |false=>
 cases c2:aL m != 0 with
 |true=>rw[c1,c2] at h;exact absurd h (N6 c2)
 |false=>
 cases c3:aZ s.ss n with
 |false=>rw[c1,c2,c3] at h;cases h
 |true=>
 cases c4:lN s (sN n) v != 0 with
 |true=>rw[c1,c2,c3,c4] at h;exact absurd h (N6 c4)
 |false=>
 cases c5:l0 s m n with
 |false=>rw[c1,c2,c3,c4,c5] at h;cases h
 |true=>
  obtain ⟨_,e2,_,e4,_⟩:=ZX c5
  refine ⟨rfl,wW c4,?_⟩
  show qI m n v=_
  unfold qI
  rw[e4,e2];rfl
theorem QZ:Meets Tryz.prog 3 lqFn.sp:=by
 refine aF Tryz.func3 a7F 3 (by rw[Tryz.ntmps3];decide) (aG aFN (aG aRH (aG aWH (aE aD6 (aE ZO (aG aOV (aE aPW (aE aPN (aB _))))))))) (fun av H K h=>by obtain ⟨_,_,_,rfl,_⟩:=HX h.1.1;rfl) ?_
 rintro av H K ⟨⟨h,rfl⟩,hK⟩
 obtain ⟨s,m,v,rfl,hs,hm,hv,hh⟩:=HX h
 have hK:K (bS true) []:=hK
 clear h
 have fin:∀R:Hp,W.Fin 0 K (bS true) R:=fun R=>.z ((by simpa[go_sem] using hK))
 clear hK
 have s1:rH [.vl (.int .i64 s.ver),.fz (s.es.map aV),.fz (s.ss.map aD)]:=yI hs.ok
 have s2:=kL s
 have m1:rH [.vl (.int .i64 m.ver),.fz (m.es.map aV),.fz (m.ss.map aD)]:=yI hm.ok
 have m2:=kL m
 have k1:=dE hv
 have k2:=fV v
 cases f1:rK s with
 |false=>
  simp(maxSteps:=9^7)-dsimp only[go_sem,aA,aJ v,R8,QP,s1,s2,f1,k1,k2,bV]
  exact fin _
 |true=>
 cases f2:rK m with
 |false=>
  simp(maxSteps:=9^7)-dsimp only[go_sem,aA,aJ v,R8,QP,s1,s2,m1,m2,f1,f2,k1,k2,bV,bN]
  exact fin _
 |true=>
 cases f3:decide (C0 v > 300) with
 |true=>
  simp(maxSteps:=9^7)-dsimp only[go_sem,aA,aJ v,R8,QP,s1,s2,m1,m2,f1,f2,f3,k1,k2,bV,bN]
  exact fin _
 |false=>
 have cv:=fun K h=>aO9 (s:=s) (m:=m) (n:=mk [84,111,112]) (v:=v) (K:=K) hs hm (by decide) hv hh h
 have hx:=aX7 (s:=s) (m:=m) (n:=mk [84,111,112]) hv
 have hz:=aEZ (s:=s) (m:=m) (n:=mk [84,111,112]) (v:=v)
 generalize mC s m (mk [84,111,112]) v=z at cv hx hz
 obtain ⟨x,e⟩:=z
 simp only at cv hx hz
 have k3:=dE hx
 have k4:=fV x
 simp(maxSteps:=9^7)-dsimp only[go_sem,aA,aJ v,R8,QP,s1,s2,m1,m2,f1,f2,f3,k1,k2,bN]
 refine cv _ ?_
 simp(maxSteps:=9^7)-dsimp only[go_sem]
 refine aH rfl (.done ?_)
 simp(maxSteps:=9^7)-dsimp only[go_sem,SC]
 refine cv _ ?_
 simp(maxSteps:=9^7)-dsimp only[go_sem]
 refine aH rfl (.done ?_)
 cases c1:e != 0 with
 |true=>
  simp(maxSteps:=9^7)-dsimp only[go_sem,IJ,k3,bne_self_eq_false,bN,c1]
  exact fin _
 |false=>
  obtain ⟨h1,h2,h3⟩:=hz (wW c1)
  simp(maxSteps:=9^7)-dsimp only[go_sem,IJ,k3,bne_self_eq_false,bN,c1]
  refine aVI hs (by decide) hv ?_
  rcases a9K hs hm hv h1 h2 with ⟨e1,e2,e3⟩|e1
  · generalize BV s (mk [84,111,112]) v=w at *
    obtain ⟨b,g⟩:=w
    simp only at e1 e2 e3
    subst e1
    simp(maxSteps:=9^7)-dsimp only[go_sem]
    refine aH rfl (.done ?_)
    simp(maxSteps:=9^7)-dsimp only[go_sem,DY,bne_self_eq_false]
    refine aST hm (by omega) ?_
    rw[e3,show pj m (.mk 6 0 (mk [84,111,112]) []) v=x from h3.symm]
    simp(maxSteps:=9^7)-dsimp only[go_sem]
    refine aH rfl (.done ?_)
    simp(maxSteps:=9^7)-dsimp only[go_sem,JZ,k3,beq_self_eq_true]
    exact fin _
  · rw[e1]
    have g3:((3:Int) != 0)=true:=rfl
    simp(maxSteps:=9^7)-dsimp only[go_sem]
    refine aH rfl (.done ?_)
    simp(maxSteps:=9^7)-dsimp only[go_sem,DY,g3,beq_self_eq_true]
    exact fin _
end Go.Proofs.YtblfcdllimkbhaaGreat
namespace Go.W
open Go.RowKit
inductive Fit (P:Program):TypeId->List C->Prop
 |int {t:TypeId} {k:IntKind} {n:Int}:P.underlying t=some (.int k)->(Lit.int k n).wf=true->Fit P t [.vl (.int k n)]
 |bool {t:TypeId} {b:Bool}:P.underlying t=some .bool->Fit P t [.vl (.bool b)]
 |str {t:TypeId} {s:ByteArray}:P.underlying t=some .string->s.size<=maxLen->Fit P t [.vl (.string s)]
 |sl {t e:TypeId} {xs:List (List C)}:P.underlying t=some (.slice e)->xs.length<=maxLen->(∀r∈xs,Fit P e r)->Fit P t [.fz xs]
 |st {t:TypeId} {fs:Array Field} {parts:List (List C)}:P.underlying t=some (.struct fs)->parts.length=fs.size->(∀(i:Nat) (f:Field) (p:List C),fs[i]? = some f->parts[i]? = some p->Fit P f.type p)->Fit P t parts.flatten
section
variable {P:Program} {t e:TypeId} {xs:List C}
theorem Fit.inv_int {k:IntKind} (ht:P.underlying t=some (.int k)) (h:Fit P t xs):∃n:Int,xs=[.vl (.int k n)]/\(Lit.int k n).wf=true:=by
 cases h with
 |int h1 h2=>rw[ht] at h1;cases h1;exact ⟨_,rfl,h2⟩
 |bool h1=>rw[ht] at h1;cases h1
 |str h1=>rw[ht] at h1;cases h1
 |sl h1=>rw[ht] at h1;cases h1
 |st h1=>rw[ht] at h1;cases h1
theorem Fit.inv_bool (ht:P.underlying t=some .bool) (h:Fit P t xs):∃b:Bool,xs=[.vl (.bool b)]:=by
 cases h with
 |int h1 h2=>rw[ht] at h1;cases h1
 |bool h1=>exact ⟨_,rfl⟩
 |str h1=>rw[ht] at h1;cases h1
 |sl h1=>rw[ht] at h1;cases h1
 |st h1=>rw[ht] at h1;cases h1
theorem Fit.inv_str (ht:P.underlying t=some .string) (h:Fit P t xs):∃s:ByteArray,xs=[.vl (.string s)]/\s.size<=maxLen:=by
 cases h with
 |int h1 h2=>rw[ht] at h1;cases h1
 |bool h1=>rw[ht] at h1;cases h1
 |str h1 h2=>exact ⟨_,rfl,h2⟩
 |sl h1=>rw[ht] at h1;cases h1
 |st h1=>rw[ht] at h1;cases h1
theorem Fit.inv_sl (ht:P.underlying t=some (.slice e)) (h:Fit P t xs):∃ys:List (List C),xs=[.fz ys]/\ys.length<=maxLen/\∀r∈ys,Fit P e r:=by
 cases h with
 |int h1 h2=>rw[ht] at h1;cases h1
 |bool h1=>rw[ht] at h1;cases h1
 |str h1=>rw[ht] at h1;cases h1
 |sl h1 h2 h3=>rw[ht] at h1;cases h1;exact ⟨_,rfl,h2,h3⟩
 |st h1=>rw[ht] at h1;cases h1
theorem Fit.inv_st {fs:Array Field} (ht:P.underlying t=some (.struct fs)) (h:Fit P t xs):∃parts:List (List C),xs=parts.flatten/\parts.length=fs.size/\∀(i:Nat) (f:Field) (p:List C),fs[i]? = some f->parts[i]? = some p->Fit P f.type p:=by
 cases h with
 |int h1 h2=>rw[ht] at h1;cases h1
 |bool h1=>rw[ht] at h1;cases h1
 |str h1=>rw[ht] at h1;cases h1
 |sl h1=>rw[ht] at h1;cases h1
 |st h1 h2 h3=>rw[ht] at h1;cases h1;exact ⟨_,rfl,h2,h3⟩
end
theorem Fit.rows {P:Program} {e:TypeId} {α:Type} {row:α->List C} {Q:α->Prop} {ys:List (List C)} (hi:∀r,Fit P e r->∃a,r=row a/\Q a) (h:∀r∈ys,Fit P e r):∃l:List α,ys=l.map row/\∀a∈l,Q a:=by
 induction ys with
 |nil=>exact ⟨[],rfl,fun a h=>by cases h⟩
 |cons r ys ih=>
  obtain ⟨l,h1,h2⟩:=ih fun r hr=>h r (eD _ hr)
  obtain ⟨a,h3,h4⟩:=hi r (h r (by simp))
  refine ⟨a::l,by rw[h1,h3];rfl,fun x hx=>?_⟩
  rcases bU.1 hx with rfl|hx
  · exact h4
  · exact h2 x hx
def TZ (P:Program):Nat->List Field->Option Nat
 |o,[]=>some o
 |o,f::r=>if f.offset=o then TZ P (o+P.cellsOf f.type) r else none
def Y8 (P:Program) (ts:List TypeId):Bool:=ts.all fun t=>match P.underlying t with
 |some (.int _)|some .bool|some .string=>true
 |some (.slice e)=>ts.contains e&&decide (0<P.cellsOf e)
 |some (.struct fs)=>fs.toList.all (fun f=>ts.contains f.type)&&TZ P 0 fs.toList==some (P.cellsOf t)
 |_=>false
theorem aT3 {P:Program} {R:C->Value->Prop} {Q:Field->List C->Prop} {cs:List Value}:∀(fs:List Field) (o:Nat),TZ P o fs=some cs.length->
 (∀(i:Nat) (f:Field),fs[i]? = some f->∃p,Q f p/\All2 R p ((cs.drop f.offset).take (P.cellsOf f.type)))->
 ∃parts:List (List C),parts.length=fs.length/\(∀(i:Nat) (f:Field) (p:List C),fs[i]? = some f->parts[i]? = some p->Q f p)/\All2 R parts.flatten (cs.drop o)
 |[],o,ho,_=>by
  simp only[TZ,aM] at ho
  subst ho
  exact ⟨[],rfl,fun i f p h=>by simp at h,by simpa using All2.nil⟩
 |f::fs,o,ho,h=>by
  simp only[TZ] at ho
  split at ho
  · rename_i hf
    obtain ⟨parts,h1,h2,h3⟩:=aT3 fs _ ho fun i f hf=>h (i+1) f (by simpa using hf)
    obtain ⟨p,h4,h5⟩:=h 0 f rfl
    refine ⟨p::parts,by simp[h1],fun i g q hg hq=>?_,?_⟩
    · cases i with
      |zero=>simp at hg hq;subst hg hq;exact h4
      |succ i=>exact h2 i g q (by simpa using hg) (by simpa using hq)
    · have:cs.drop o=(cs.drop f.offset).take (P.cellsOf f.type)++cs.drop (o+P.cellsOf f.type):=by
       rw[hf,<-List.drop_drop,sH]
      rw[List.flatten_cons,this]
      exact h5.app h3
  · cases ho
section
variable {H:Type} {enc:TypeId×Value->H} {P:Program} {W:World} {ts:List TypeId}
theorem aAC {b off len cap sz:Nat} {oa:Option Addr} (hoa:len≠0->oa=some ⟨b,off,none⟩) (hsz:0<sz) (X:Nat->List C) (hl:∀i,i<len->(X i).length=sz) (hc:len<=cap)
 (h:∀i,i<len->∀j c,(X i)[j]? = some c->∃v,W.cell? ⟨b,off+(i*sz+j),none⟩=some v/\c.fv (uZ W) v/\c.shut=true) :
 FzR (uZ W) ((List.range len).map X) (.slice oa len cap):=by
 have hz:∀x∈(List.range len).map X,x.length=sz:=fun x hx=>by
  obtain ⟨i,hi,rfl⟩:=dO.1 hx
  exact hl i (oQ.1 hi)
 have hfl:∀k c,((List.range len).map X).flatten[k]? = some c->∃v,W.cell? ⟨b,off+k,none⟩=some v/\c.fv (uZ W) v/\c.shut=true:=fun k c hk=>by
  have hkl:k<len*sz:=by
   have h1:=(bT.1 hk).1
   rw[F0 _ hz] at h1
   simpa using h1
  have hi:k / sz<len:=(Nat.div_lt_iff_lt_mul hsz).2 hkl
  have hj:=Nat.mod_lt k hsz
  have hg:=vM hz (i:=k / sz) (j:=k % sz) (by simpa using hi) hj
  rw[qO,aC2,hk] at hg
  have hxi:((List.range len).map X)[k / sz]? = some (X (k / sz)):=by simp[hi]
  rw[hxi,nR] at hg
  have:=h (k / sz) hi (k % sz) c hg.symm
  rwa [qO,aC2] at this
 have hr:=FzR.mk (ro:=uZ W) ((List.range len).map X) sz (some (b,off)) oa (fun hne=>hoa (fun e=>by subst e;simp at hne)) cap (fun k=>(W.cell? ⟨b,off+k,none⟩).getD undef) hz (by simpa using hc) (fun _=>rfl)
  (fun k c hk=>by
    obtain ⟨v,h2,_⟩:=hfl k c hk
    simp[uZ,h2])
  (fun k v hk=>by
    obtain ⟨u,h1,h2,_⟩:=hfl k _ hk
    have:u=v:=h2
    simp[h1,this])
  (fun k ys hk=>by
    obtain ⟨u,h1,h2,_⟩:=hfl k _ hk
    have:FzR (uZ W) ys u:=h2
    simpa[h1] using this)
  (fun c hc=>by
    obtain ⟨k,hk⟩:=eN.1 hc
    obtain ⟨u,_,_,h3⟩:=hfl k c hk
    exact h3)
 simpa using hr
theorem TA {cs:List C} {vs:Array Value} (h:All2 (C.fv (uZ W)) cs (Value.agg vs).cells.toList) (hs:∀c∈cs,c.shut=true):(S.va (.gs cs)).rel (gm []) (uZ W) (.agg vs):=
 ⟨vs.toList,by simp,⟨by simpa[Value.cells] using h.1,fun i c v hc hv=>(C.rel_shut (hs c (cC hc))).2 (h.2 i c v hc (by simpa[Value.cells] using hv))⟩⟩
end
end Go.W
namespace Go.Proofs.YtblfcdllimkbhaaGreat
open Go.W
theorem v3:Tryz.prog.underlying 3=some (.int .i64):=by kernel_rfl
theorem v4:Tryz.prog.underlying 4=some .bool:=by kernel_rfl
theorem v9:Tryz.prog.underlying 9=some .string:=by kernel_rfl
theorem v22:Tryz.prog.underlying 22=some (.slice 70):=by kernel_rfl
theorem v23:Tryz.prog.underlying 23=some (.slice 50):=by kernel_rfl
theorem v30:Tryz.prog.underlying 48=some (.slice 47):=by kernel_rfl
theorem v35:Tryz.prog.underlying 67=some (.slice 9):=by kernel_rfl
theorem v38:Tryz.prog.underlying 43=some (.slice 45):=by kernel_rfl
theorem v45:Tryz.prog.underlying 68=some (.slice 3):=by kernel_rfl
theorem v40:Tryz.prog.underlying 45=some (.struct #[⟨"Kind",3,0,false,"","",0⟩,⟨"Size",3,1,false,"","",8⟩,⟨"Name",9,2,false,"","",16⟩,⟨"Elem",43,3,false,"","",32⟩]):=by kernel_rfl
theorem v53:Tryz.prog.underlying 47=some (.struct #[⟨"Number",3,0,false,"","",0⟩,⟨"Name",9,1,false,"","",8⟩,⟨"Type",45,2,false,"","",24⟩,⟨"Optional",4,6,false,"","",80⟩]):=by kernel_rfl
theorem v32:Tryz.prog.underlying 50=some (.struct #[⟨"Name",9,0,false,"","",0⟩,⟨"Fields",48,1,false,"","",16⟩]):=by kernel_rfl
theorem v47:Tryz.prog.underlying 70=some (.struct #[⟨"Name",9,0,false,"","",0⟩,⟨"Names",67,1,false,"","",16⟩,⟨"Numbers",68,2,false,"","",40⟩]):=by kernel_rfl
theorem v25:Tryz.prog.underlying 25=some (.struct #[⟨"Version",3,0,false,"","",0⟩,⟨"Enums",22,1,false,"","",8⟩,⟨"Structs",23,2,false,"","",32⟩]):=by kernel_rfl
theorem pT {α:Type} {row:α->List C} {Q:α->Prop} {ys:List (List C)} (h:∀r∈ys,∃a,r=row a/\Q a):∃l:List α,ys=l.map row/\∀a∈l,Q a:=by
 induction ys with
 |nil=>exact ⟨[],rfl,fun a h=>by cases h⟩
 |cons r ys ih=>
  obtain ⟨l,h1,h2⟩:=ih fun r hr=>h r (eD _ hr)
  obtain ⟨a,h3,h4⟩:=h r eI
  refine ⟨a::l,by rw[h1,h3];rfl,fun x hx=>?_⟩
  rcases bU.1 hx with rfl|hx
  · exact h4
  · exact h2 x hx
theorem B8 {n:Int} (h:(Lit.int .i64 n).wf=true):cB n:=by simpa[cB,Lit.wf,IntKind.min,IntKind.max,IntKind.signed,IntKind.bits] using h
theorem LU {n:Nat} (h:n<=maxLen):n<=9223372036854775807:=by unfold maxLen at h;exact h
theorem GN {H:Type} {d:DataW H}:∀{l:List (DataW H)},d∈l->Rows.uptoBulk d<=Rows.uptoBulkAll l
 |x::r,h=>by
  simp only[Rows.uptoBulkAll]
  rcases bU.1 h with rfl|e
  · omega
  · have:=GN e;omega
theorem SV {H:Type} (d:DataW H):0<Rows.uptoBulk d:=by
 cases d with
 |lit l=>cases l<;>simp[Rows.uptoBulk]
 |_=>simp[Rows.uptoBulk]
theorem OC {H:Type}:∀l:List (DataW H),l.length<=Rows.uptoBulkAll l
 |[]=>aP _
 |d::l=>by have:=OC l;have:=SV d;simp only[Rows.uptoBulkAll,bP];omega
inductive FitB (P:Program):TypeId->List C->Nat->Prop
 |int {t:TypeId} {k:IntKind} {n:Int} {m:Nat}:P.underlying t=some (.int k)->(Lit.int k n).wf=true->FitB P t [.vl (.int k n)] m
 |bool {t:TypeId} {b:Bool} {m:Nat}:P.underlying t=some .bool->FitB P t [.vl (.bool b)] m
 |str {t:TypeId} {s:ByteArray} {m:Nat}:P.underlying t=some .string->s.size<=maxLen->FitB P t [.vl (.string s)] m
 |sl {t e:TypeId} {xs:List (List C)} {m:Nat}:P.underlying t=some (.slice e)->xs.length<=maxLen->xs.length<=m->(∀r∈xs,FitB P e r m)->FitB P t [.fz xs] (m+1)
 |st {t:TypeId} {fs:Array Field} {parts:List (List C)} {m:Nat}:P.underlying t=some (.struct fs)->parts.length=fs.size->(∀(i:Nat) (f:Field) (p:List C),fs[i]? = some f->parts[i]? = some p->FitB P f.type p m)->FitB P t parts.flatten (m+1)
theorem FitB.fit {P:Program} {t:TypeId} {xs:List C} {m:Nat} (h:FitB P t xs m):Fit P t xs:=by
 induction h with
 |int h1 h2=>exact .int h1 h2
 |bool h1=>exact .bool h1
 |str h1 h2=>exact .str h1 h2
 |sl h1 h2 _ _ ih=>exact .sl h1 h2 ih
 |st h1 h2 _ ih=>exact .st h1 h2 ih
theorem FitB.mono {P:Program} {t:TypeId} {xs:List C} {m:Nat} (h:FitB P t xs m):∀{n:Nat},m<=n->FitB P t xs n:=by
 induction h with
 |int h1 h2=>exact fun _=>.int h1 h2
 |bool h1=>exact fun _=>.bool h1
 |str h1 h2=>exact fun _=>.str h1 h2
 | @sl t e xs m h1 h2 h3 _ ih=>
  intro n hn
  obtain ⟨n,rfl⟩:∃k,n=k+1:=⟨n-1,by omega⟩
  exact .sl h1 h2 (by omega) fun r hr=>ih r hr (by omega)
 | @st t fs parts m h1 h2 _ ih=>
  intro n hn
  obtain ⟨n,rfl⟩:∃k,n=k+1:=⟨n-1,by omega⟩
  exact .st h1 h2 fun i f p hf hp=>ih i f p hf hp (by omega)
section
variable {P:Program} {t e:TypeId} {xs:List C} {m:Nat}
theorem FitB.inv_sl (ht:P.underlying t=some (.slice e)) (h:FitB P t xs (m+1)):∃ys:List (List C),xs=[.fz ys]/\ys.length<=m/\∀r∈ys,FitB P e r m:=by
 generalize hm:m+1=k at h
 cases h with
 |int h1 h2=>rw[ht] at h1;cases h1
 |bool h1=>rw[ht] at h1;cases h1
 |str h1=>rw[ht] at h1;cases h1
 |sl h1 h2 h3 h4=>rw[ht] at h1;cases h1;cases hm;exact ⟨_,rfl,h3,h4⟩
 |st h1 h2 h3=>rw[ht] at h1;cases h1
theorem FitB.inv_st {fs:Array Field} (ht:P.underlying t=some (.struct fs)) (h:FitB P t xs (m+1)):∃parts:List (List C),xs=parts.flatten/\parts.length=fs.size/\∀(i:Nat) (f:Field) (p:List C),fs[i]? = some f->parts[i]? = some p->FitB P f.type p m:=by
 generalize hm:m+1=k at h
 cases h with
 |int h1 h2=>rw[ht] at h1;cases h1
 |bool h1=>rw[ht] at h1;cases h1
 |str h1=>rw[ht] at h1;cases h1
 |sl h1=>rw[ht] at h1;cases h1
 |st h1 h2 h3=>rw[ht] at h1;cases h1;cases hm;exact ⟨_,rfl,h2,h3⟩
theorem FitB.inv_sl' (ht:P.underlying t=some (.slice e)) (h:FitB P t xs m):∃ys:List (List C),xs=[.fz ys]/\ys.length<=m/\∀r∈ys,FitB P e r m:=by
 obtain ⟨ys,h1,h2,h3⟩:=FitB.inv_sl ht (h.mono (Nat.le_succ m))
 exact ⟨ys,h1,h2,h3⟩
theorem FitB.inv_st' {fs:Array Field} (ht:P.underlying t=some (.struct fs)) (h:FitB P t xs m):∃parts:List (List C),xs=parts.flatten/\parts.length=fs.size/\∀(i:Nat) (f:Field) (p:List C),fs[i]? = some f->parts[i]? = some p->FitB P f.type p m:=
 FitB.inv_st ht (h.mono (Nat.le_succ m))
end
section
variable {H:Type} {enc:TypeId×Value->H} {P:Program} {W:World} {ts:List TypeId}
theorem uW (hok:Y8 P ts=true):∀(n:Nat) (t:TypeId) (cs:List Value) (y:DataW H×List MemPlace),t∈ts->DataW.trod enc P W 0 (fun _=>true) true n t cs=some y->
 ∃xs,FitB P t xs (Rows.uptoBulk y.1)/\All2 (C.fv (uZ W)) xs cs/\∀c∈xs,c.shut=true
 |0,t,cs,y,_,h=>by simp[DataW.trod] at h
 |n+1,t,cs,y,ht,h=>by
  have h1:=nN.1 hok t ht
  split at h1
  · rename_i k hu
    obtain ⟨m,rfl,_,hw⟩:=DataW.trod_int hu h
    exact ⟨_,.int hu hw,.cons rfl .nil,fun c hc=>by simp at hc;subst hc;rfl⟩
  · rename_i hu
    obtain ⟨b,rfl,_⟩:=DataW.trod_bool hu h
    exact ⟨_,.bool hu,.cons rfl .nil,fun c hc=>by simp at hc;subst hc;rfl⟩
  · rename_i hu
    obtain ⟨s,rfl,_,hs⟩:=DataW.trod_string hu h
    exact ⟨_,.str hu hs,.cons rfl .nil,fun c hc=>by simp at hc;subst hc;rfl⟩
  · rename_i e hu
    simp only[bI,aD5,fU] at h1
    obtain ⟨he,hpos⟩:=h1
    rcases DataW.trod_slice hu h with ⟨rfl,hy⟩|⟨a,len,cap,elems,rest,n',hn',rfl,hy,_,hl,hm,hel,hi,_⟩
    · refine ⟨_,(FitB.sl (m:=0) hu (aP _) (aP _) (fun r hr=>by cases hr)).mono (SV _),.cons (aSS _) .nil,fun c hc=>by simp at hc;subst hc;rfl⟩
    · obtain rfl:n=n':=by omega
      subst hy
      have hbk:Rows.uptoBulk (DataW.slice (elems.map (·.1)) (rest.map (·.1)))=Rows.uptoBulkAll (elems.map (·.1))+Rows.uptoBulkAll (rest.map (·.1))+1:=by simp only[Rows.uptoBulk]
      generalize hM:Rows.uptoBulkAll (elems.map (·.1))+Rows.uptoBulkAll (rest.map (·.1))=M at hbk
      show ∃xs,FitB P t xs (Rows.uptoBulk (DataW.slice (elems.map (·.1)) (rest.map (·.1))))/\_
      rw[hbk]
      have hlM:len<=M:=by
       have:=OC (elems.map (·.1))
       rw[cE,hel] at this
       omega
      have hall:∀i,i<len->∃x:List C,FitB P e x M/\x.length=P.cellsOf e/\(∀j c,x[j]? = some c->∃v,W.cell? ((a.add (i*P.cellsOf e)).add j)=some v/\c.fv (uZ W) v/\c.shut=true):=fun i hil=>by
       have h1:=hi i hil
       rw[aX (by omega)] at h1
       obtain ⟨cs',h2,h3⟩:=Option.bind_eq_some_iff.1 h1
       obtain ⟨x,h4,h5,h6⟩:=uW hok n e cs' _ he h3
       obtain ⟨_,h7,h8⟩:=World.cells?_some h2
       refine ⟨x,h4.mono ?_,h5.1.trans h7,fun j c hj=>?_⟩
       · have:=GN (aC8 (f:=(·.1)) (eM (show i<elems.length by omega)))
         omega
       obtain ⟨v,h9,h10⟩:=h5.get hj
       have hjl:j<P.cellsOf e:=by rw[<-h7,<-h5.1];exact (bT.1 hj).1
       refine ⟨v,?_,h10,h6 c (cC hj)⟩
       have:=h8 j hjl
       rwa [h9] at this
      by_cases h0:len=0
      · subst h0
        refine ⟨[.fz []],.sl hu (aP _) (aP _) (fun r hr=>by cases hr),.cons ?_ .nil,fun c hc=>by simp at hc;subst hc;rfl⟩
        exact aAC (b:=0) (off:=0) (fun h=>absurd rfl h) hpos (fun _=>[]) (fun i hi=>by omega) (aP _) (fun i hi=>by omega)
      · obtain ⟨x0,_,hx0l,hx0⟩:=hall 0 (by omega)
        have hsp:a.spot=none:=by
         have hx:∃c,x0[0]? = some c:=⟨_,aX (by omega)⟩
         obtain ⟨c,hc⟩:=hx
         obtain ⟨v,hv,_⟩:=hx0 0 c hc
         unfold World.cell? at hv
         split at hv
         · split at hv
           · cases hv
           · rename_i hs;simpa[Addr.add] using hs
         · cases hv
        obtain ⟨b,off,spot⟩:=a
        obtain rfl:spot=none:=hsp
        haveI:Inhabited (List C):=⟨[]⟩
        obtain ⟨X,hX⟩:=Go.Deep.choose_lt hall
        refine ⟨[.fz ((List.range len).map X)],.sl hu (by simp;omega) (by simpa using hlM) (fun r hr=>?_),.cons ?_ .nil,fun c hc=>by simp at hc;subst hc;rfl⟩
        · obtain ⟨i,hi,rfl⟩:=dO.1 hr
          exact (hX i (oQ.1 hi)).1
        · exact aAC (fun _=>rfl) hpos X (fun i hi=>(hX i hi).2.1) hl (fun i hi j c hj=>by
           obtain ⟨v,h2,h3⟩:=(hX i hi).2.2 j c hj
           exact ⟨v,by simpa[Go.WideShapes.add_plain,Nat.add_assoc] using h2,h3⟩)
  · rename_i fs hu
    simp only[bI,nN,aD5,beq_iff_eq] at h1
    obtain ⟨hft,hof⟩:=h1
    obtain ⟨ys,n',hn,hy,hcl,hyl,hf⟩:=DataW.trod_struct hu h
    obtain rfl:n=n':=by omega
    subst hy
    show ∃xs,FitB P t xs (Rows.uptoBulk (DataW.agg (ys.map (·.1))))/\_
    rw[show Rows.uptoBulk (DataW.agg (ys.map (·.1)))=Rows.uptoBulkAll (ys.map (·.1))+1 by simp only[Rows.uptoBulk]]
    obtain ⟨parts,k1,k2,k3⟩:=aT3 (P:=P) (R:=fun c v=>C.fv (uZ W) c v/\c.shut=true) (Q:=fun f p=>FitB P f.type p (Rows.uptoBulkAll (ys.map (·.1)))) (cs:=cs) fs.toList 0 (by rw[hcl];exact hof) (fun i f hfi=>by
     have hfi':fs[i]? = some f:=by simpa using hfi
     have h2:=hf i f hfi'
     have hil:i<fs.size:=(Array.getElem?_eq_some_iff.1 hfi').1
     rw[aX (by omega)] at h2
     obtain ⟨x,h4,h5,h6⟩:=uW hok n f.type _ _ (hft f (cC hfi)) h2
     exact ⟨x,h4.mono (GN (aC8 (f:=(·.1)) (eM (show i<ys.length by omega)))),⟨h5.1,fun j c v hc hv=>⟨h5.2 j c v hc hv,h6 c (cC hc)⟩⟩⟩)
    refine ⟨parts.flatten,.st hu (by simpa using k1) (fun i f p hfi hp=>k2 i f p (by simpa using hfi) hp),?_,fun c hc=>?_⟩
    · simpa using k3.imp (fun _ _ h=>h.1)
    · obtain ⟨j,hj⟩:=eN.1 hc
      obtain ⟨v,_,_,h3⟩:=k3.get hj
      exact h3
  · cases h1
theorem xK (hok:Y8 P ts=true) {t:TypeId} {v:Value} {d:DataW H} {ps:List MemPlace} (ht:t∈ts) (h:DataW.Trod enc P W 0 (fun _=>true) true t v d ps):∃xs,FitB P t xs (Rows.uptoBulk d)/\All2 (C.fv (uZ W)) xs v.cells.toList/\∀c∈xs,c.shut=true:=by
 obtain ⟨n,h⟩:=h
 exact uW hok n t _ _ ht h
end
theorem a2D:∀{t:TypeId} {cs:List C} {m:Nat},FitB Tryz.prog t cs m->m<=1048576->(t=45->∃a,cs=aK a/\TyOk a/\TySm a/\(cJ a).1<=m)/\(t=43->∃l:List Ty,cs=[.fz (l.map aK)]/\l.length<=m/\∀a∈l,TyOk a/\TySm a/\(cJ a).1+1<=m):=by
 intro t cs m h
 induction h with
 |int h1 _=>exact fun _=>⟨fun e=>(by rw[e,v40] at h1;cases h1),fun e=>(by rw[e,v38] at h1;cases h1)⟩
 |bool h1=>exact fun _=>⟨fun e=>(by rw[e,v40] at h1;cases h1),fun e=>(by rw[e,v38] at h1;cases h1)⟩
 |str h1 _=>exact fun _=>⟨fun e=>(by rw[e,v40] at h1;cases h1),fun e=>(by rw[e,v38] at h1;cases h1)⟩
 | @sl t e xs m h1 h2 h3 h4 ih=>
  intro hm
  refine ⟨fun e=>(by rw[e,v40] at h1;cases h1),fun e=>?_⟩
  subst e
  rw[v38] at h1
  cases h1
  obtain ⟨l,rfl,hl⟩:=pT (row:=aK) (Q:=fun a=>TyOk a/\TySm a/\(cJ a).1<=m) fun r hr=>(ih r hr (by omega)).1 rfl
  exact ⟨l,rfl,by simp at h3;omega,fun a ha=>⟨(hl a ha).1,(hl a ha).2.1,UK (hl a ha).2.2⟩⟩
 | @st t fs parts m h1 h2 h3 ih=>
  intro hm
  refine ⟨fun e=>?_,fun e=>(by rw[e,v38] at h1;cases h1)⟩
  subst e
  rw[v40] at h1
  cases h1
  match parts,h2 with
  |[p0,p1,p2,p3],_=>
   obtain ⟨k,rfl,hk⟩:=Fit.inv_int v3 (h3 0 _ p0 rfl rfl).fit
   obtain ⟨s,rfl,hs⟩:=Fit.inv_int v3 (h3 1 _ p1 rfl rfl).fit
   obtain ⟨n,rfl,hn⟩:=Fit.inv_str v9 (h3 2 _ p2 rfl rfl).fit
   obtain ⟨l,rfl,hl,ho⟩:=(ih 3 _ p3 rfl rfl (by omega)).2 rfl
   refine ⟨.mk k s n l,by rw[aK,aR];rfl,.mk (B8 hk) (B8 hs) (LU hn) (by omega) fun a ha=>(ho a ha).1,.mk (by omega) fun a ha=>(ho a ha).2.1,?_⟩
   rw[cJ]
   cases k==5 with
   |false=>exact aP _
   |true=>
    show (N2 l _).1<=m+1
    cases l with
    |nil=>rw[N2];exact aP _
    |cons u r=>rw[N2];have:=(ho u eI).2.2;show (cJ u).1+1<=m+1;omega
theorem aSH (m:Nat) (hm:m<=1048576) (cs:List C) (h:FitB Tryz.prog 45 cs m):∃a,cs=aK a/\TyOk a/\TySm a/\(cJ a).1<=m:=(a2D h hm).1 rfl
theorem aRM {m:Nat} (hm:m<=1048576) {cs:List C} (h:FitB Tryz.prog 47 cs m):∃a:Fl,cs=aN a/\a.ok/\TySm a.ty/\(cJ a.ty).1<=1000000000:=by
 obtain ⟨parts,rfl,h2,h3⟩:=FitB.inv_st' v53 h
 match parts,h2 with
 |[p0,p1,p2,p3],_=>
  obtain ⟨k,rfl,hk⟩:=Fit.inv_int v3 (h3 0 _ p0 rfl rfl).fit
  obtain ⟨n,rfl,hn⟩:=Fit.inv_str v9 (h3 1 _ p1 rfl rfl).fit
  obtain ⟨t,rfl,ht,hs,hl⟩:=aSH _ hm _ (h3 2 _ p2 rfl rfl)
  obtain ⟨b,rfl⟩:=Fit.inv_bool v4 (h3 3 _ p3 rfl rfl).fit
  exact ⟨⟨k,n,t,b⟩,by rw[aY];rfl,⟨B8 hk,LU hn,ht⟩,hs,by show (cJ t).1<=_;omega⟩
theorem aV8 {m:Nat} (hm:m<=1048576) {cs:List C} (h:FitB Tryz.prog 50 cs m):∃a:St,cs=aD a/\a.ok/\a.fs.length<=1000000000/\(∀f∈a.fs,TySm f.ty)/\∀f∈a.fs,(cJ f.ty).1<=1000000000:=by
 obtain ⟨parts,rfl,h2,h3⟩:=FitB.inv_st' v32 h
 match parts,h2 with
 |[p0,p1],_=>
  obtain ⟨n,rfl,hn⟩:=Fit.inv_str v9 (h3 0 _ p0 rfl rfl).fit
  obtain ⟨ys,rfl,hl,hy⟩:=FitB.inv_sl' v30 (h3 1 _ p1 rfl rfl)
  obtain ⟨l,rfl,ho⟩:=pT (row:=aN) (Q:=fun f=>f.ok/\TySm f.ty/\(cJ f.ty).1<=1000000000) fun r hr=>aRM hm (hy r hr)
  rw[cE] at hl
  exact ⟨⟨n,l⟩,rfl,⟨LU hn,by show l.length<=_;omega,fun f hf=>(ho f hf).1⟩,by show l.length<=_;omega,fun f hf=>(ho f hf).2.1,fun f hf=>(ho f hf).2.2⟩
theorem aU1 {m:Nat} (hm:m<=1048576) {cs:List C} (h:FitB Tryz.prog 70 cs m):∃a:En,cs=aV a/\a.ok/\a.ns.length<=1000000000/\a.vs.length<=1000000000:=by
 obtain ⟨parts,rfl,h2,h3⟩:=FitB.inv_st' v47 h
 match parts,h2 with
 |[p0,p1,p2],_=>
  obtain ⟨n,rfl,hn⟩:=Fit.inv_str v9 (h3 0 _ p0 rfl rfl).fit
  obtain ⟨ys,rfl,hl,hy⟩:=FitB.inv_sl' v35 (h3 1 _ p1 rfl rfl)
  obtain ⟨zs,rfl,hl2,hz⟩:=FitB.inv_sl' v45 (h3 2 _ p2 rfl rfl)
  obtain ⟨l,rfl,ho⟩:=pT (row:=bH) (Q:=fun b=>b.size<=9223372036854775807) fun r hr=>by
   obtain ⟨s,rfl,hs⟩:=Fit.inv_str v9 (hy r hr).fit;exact ⟨s,rfl,LU hs⟩
  obtain ⟨k,rfl,hk⟩:=pT (row:=cV) (Q:=cB) fun r hr=>by
   obtain ⟨s,rfl,hs⟩:=Fit.inv_int v3 (hz r hr).fit;exact ⟨s,rfl,B8 hs⟩
  rw[cE] at hl hl2
  exact ⟨⟨n,l,k⟩,rfl,⟨LU hn,by show l.length<=_;omega,by show k.length<=_;omega,ho,hk⟩,by show l.length<=_;omega,by show k.length<=_;omega⟩
theorem aBQ (m:Nat) (hm:m<=1048576) (cs:List C) (h:FitB Tryz.prog 25 cs m):∃a:Sc,cs=aA a/\a.fit:=by
 obtain ⟨parts,rfl,h2,h3⟩:=FitB.inv_st' v25 h
 match parts,h2 with
 |[p0,p1,p2],_=>
  obtain ⟨n,rfl,hn⟩:=Fit.inv_int v3 (h3 0 _ p0 rfl rfl).fit
  obtain ⟨ys,rfl,hl,hy⟩:=FitB.inv_sl' v22 (h3 1 _ p1 rfl rfl)
  obtain ⟨zs,rfl,hl2,hz⟩:=FitB.inv_sl' v23 (h3 2 _ p2 rfl rfl)
  obtain ⟨l,rfl,ho⟩:=pT (row:=aV) (Q:=fun e:En=>e.ok/\e.ns.length<=1000000000/\e.vs.length<=1000000000) fun r hr=>aU1 hm (hy r hr)
  obtain ⟨k,rfl,hk⟩:=pT (row:=aD) (Q:=fun a:St=>a.ok/\a.fs.length<=1000000000/\(∀f∈a.fs,TySm f.ty)/\∀f∈a.fs,(cJ f.ty).1<=1000000000) fun r hr=>aV8 hm (hz r hr)
  rw[cE] at hl hl2
  exact ⟨⟨n,l,k⟩,rfl,⟨⟨B8 hn,by show l.length<=_;omega,by show k.length<=_;omega,fun e he=>(ho e he).1,fun t ht=>(hk t ht).1⟩,fun t ht=>(hk t ht).2.2.2,fun t ht=>⟨(hk t ht).2.1,(hk t ht).2.2.1⟩,fun e he=>(ho e he).2⟩⟩
theorem ZS:Tryz.prog.underlying 29=some (.struct #[⟨"Kind",3,0,false,"","",0⟩,⟨"N",2,1,false,"","",8⟩,⟨"S",9,2,false,"","",16⟩,⟨"L",26,3,false,"","",32⟩,⟨"F",27,4,false,"","",56⟩]):=by kernel_rfl
theorem ZU:Tryz.prog.underlying 42=some (.struct #[⟨"Number",3,0,false,"","",0⟩,⟨"Value",29,1,false,"","",8⟩]):=by kernel_rfl
theorem SE:Tryz.prog.underlying 26=some (.slice 29):=by kernel_rfl
theorem TC:Tryz.prog.underlying 27=some (.slice 42):=by kernel_rfl
theorem yIn:Tryz.prog.underlying 2=some (.int .i64):=by kernel_rfl
theorem aBL {m:Nat}:∀{l:List Vl},(∀v∈l,v.h<=m)->Vl.hl l<=m
 |[],_=>by rw[Vl.hl];exact aP _
 |v::l,h=>by rw[Vl.hl];have:=h v eI;have:=aBL fun x hx=>h x (eD _ hx);omega
theorem aBO {m:Nat}:∀{l:List (Int×Vl)},(∀x∈l,x.2.h<=m)->Vl.hf l<=m
 |[],_=>by rw[Vl.hf];exact aP _
 | (i,v)::l,h=>by rw[Vl.hf];have:=h (i,v) eI;have:=aBO fun x hx=>h x (eD _ hx);dsimp only at *;omega
theorem a2O:∀{t:TypeId} {cs:List C} {m:Nat},FitB Tryz.prog t cs m->m<=1048576->(t=29->∃a,cs=aW a/\VlOk a/\2*a.h<=m)/\(t=26->∃l:List Vl,cs=[.fz (l.map aW)]/\l.length<=m/\1<=m/\∀a∈l,VlOk a/\2*a.h+1<=m)/\
 (t=42->∃x:Int×Vl,cs=bG x/\(cB x.1/\VlOk x.2/\2*x.2.h+1<=m))/\(t=27->∃l:List (Int×Vl),cs=[.fz (l.map bG)]/\l.length<=m/\∀x∈l,cB x.1/\VlOk x.2/\2*x.2.h+1<=m):=by
 intro t cs m h
 induction h with
 |int h1 _=>exact fun _=>⟨fun e=>(by rw[e,ZS] at h1;cases h1),fun e=>(by rw[e,SE] at h1;cases h1),fun e=>(by rw[e,ZU] at h1;cases h1),fun e=>(by rw[e,TC] at h1;cases h1)⟩
 |bool h1=>exact fun _=>⟨fun e=>(by rw[e,ZS] at h1;cases h1),fun e=>(by rw[e,SE] at h1;cases h1),fun e=>(by rw[e,ZU] at h1;cases h1),fun e=>(by rw[e,TC] at h1;cases h1)⟩
 |str h1 _=>exact fun _=>⟨fun e=>(by rw[e,ZS] at h1;cases h1),fun e=>(by rw[e,SE] at h1;cases h1),fun e=>(by rw[e,ZU] at h1;cases h1),fun e=>(by rw[e,TC] at h1;cases h1)⟩
 | @sl t e xs m h1 h2 h3 h4 ih=>
  intro hm
  refine ⟨fun e=>(by rw[e,ZS] at h1;cases h1),fun e=>?_,fun e=>(by rw[e,ZU] at h1;cases h1),fun e=>?_⟩
  · subst e
    rw[SE] at h1
    cases h1
    obtain ⟨l,rfl,hl⟩:=pT (row:=aW) (Q:=fun a=>VlOk a/\2*a.h<=m) fun r hr=>(ih r hr (by omega)).1 rfl
    rw[cE] at h3
    exact ⟨l,rfl,by omega,by omega,fun a ha=>⟨(hl a ha).1,UK (hl a ha).2⟩⟩
  · subst e
    rw[TC] at h1
    cases h1
    obtain ⟨l,rfl,hl⟩:=pT (row:=bG) (Q:=fun x:Int×Vl=>cB x.1/\VlOk x.2/\2*x.2.h+1<=m) fun r hr=>(ih r hr (by omega)).2.2.1 rfl
    rw[cE] at h3
    exact ⟨l,rfl,by omega,fun a ha=>⟨(hl a ha).1,(hl a ha).2.1,Nat.le_succ_of_le (hl a ha).2.2⟩⟩
 | @st t fs parts m h1 h2 h3 ih=>
  intro hm
  refine ⟨fun e=>?_,fun e=>(by rw[e,SE] at h1;cases h1),fun e=>?_,fun e=>(by rw[e,TC] at h1;cases h1)⟩
  · subst e
    rw[ZS] at h1
    cases h1
    match parts,h2 with
    |[p0,p1,p2,p3,p4],_=>
     obtain ⟨k,rfl,hk⟩:=Fit.inv_int v3 (h3 0 _ p0 rfl rfl).fit
     obtain ⟨n,rfl,hn⟩:=Fit.inv_int yIn (h3 1 _ p1 rfl rfl).fit
     obtain ⟨s,rfl,hs⟩:=Fit.inv_str v9 (h3 2 _ p2 rfl rfl).fit
     obtain ⟨l,rfl,hl,hm1,ho⟩:=(ih 3 _ p3 rfl rfl (by omega)).2.1 rfl
     obtain ⟨f,rfl,hf,hp⟩:=(ih 4 _ p4 rfl rfl (by omega)).2.2.2 rfl
     refine ⟨.mk k n s l f,by rw[aW,rI,rC];rfl,.mk (B8 hk) (B8 hn) (LU hs) (by omega) (by omega) (fun x hx=>(ho x hx).1) (fun x hx=>(hp x hx).1) (fun x hx=>(hp x hx).2.1),?_⟩
     rw[Vl.h]
     have a1:Vl.hl l<=(m-1) / 2:=aBL fun x hx=>by have:=(ho x hx).2;omega
     have a2:Vl.hf f<=(m-1) / 2:=aBO fun x hx=>by have:=(hp x hx).2.2;omega
     omega
  · subst e
    rw[ZU] at h1
    cases h1
    match parts,h2 with
    |[p0,p1],_=>
     obtain ⟨k,rfl,hk⟩:=Fit.inv_int v3 (h3 0 _ p0 rfl rfl).fit
     obtain ⟨v,rfl,hv,hh⟩:=(ih 1 _ p1 rfl rfl (by omega)).1 rfl
     exact ⟨(k,v),by simp[bG],B8 hk,hv,UK hh⟩
theorem aRB (m:Nat) (hm:m<=1048576) (cs:List C) (h:FitB Tryz.prog 29 cs m):∃a,cs=aW a/\VlOk a/\2*a.h<=m:=(a2O h hm).1 rfl
end Go.Proofs.YtblfcdllimkbhaaGreat
