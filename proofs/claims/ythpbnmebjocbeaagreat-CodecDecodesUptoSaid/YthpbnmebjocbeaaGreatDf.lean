/- Lemmas and walks for the proof. -/
import Derived.Test.YthpbnmebjocbeaaGreatDe
import Derived.Shelf.Small.Strs
import Derived.Test.YthpbnmebjocbeaaGreatProg
set_option maxRecDepth 100000
set_option maxHeartbeats 8000000
namespace Go.Proofs
open Go.Shelf
def Tryz.lays106_ren:Go.Shelf.Ren:=⟨fun|106=>121|213=>152|265=>160|n=>n,fun|9=>9|3=>3|n=>n,fun|n=>n⟩
theorem Tryz.lays106:Go.Proofs.Lays.n106 Tryz.prog Tryz.lays106_ren:={
 mixed:=by kernel_rfl
 f106:=Tryz.func121.trans (congrArg some (by kernel_rfl))
 f213:=Tryz.func152.trans (congrArg some (by kernel_rfl))
 f265:=Tryz.func160.trans (congrArg some (by kernel_rfl))
 t3:=Tryz.underlying3
 a3:=Tryz.isAgg3
 z3:=Tryz.sizeOf3
 v3:=Tryz.zeroValue3
 t9:=Tryz.underlying9
 a9:=Tryz.isAgg9
 z9:=Tryz.sizeOf9
 v9:=Tryz.zeroValue9 }
end Go.Proofs
namespace Go.Proofs.YthpbnmebjocbeaaGreat
open Go.W
theorem aAY (a b:ByteArray) (w:World):Calls Tryz.prog 121 #[.string a,.string b] w fun e w'=>e=.returned (.int .i64 (Lib.compareBytes a.data.toList b.data.toList))/\w'=w:=Any.strings_Compare Tryz.lays106 a b w
def FX:List S->Prop:=fun av=>match av with
 |[.va (.c1 (.vl (.string _))),.va (.c1 (.vl (.string _)))]=>True
 |_=>False
theorem z8 {av:List S} (h:FX av):∃a b:ByteArray,av=[tS a,tS b]:=by
 unfold FX at h
 split at h
 · exact ⟨_,_,rfl⟩
 · exact h.elim
def OD:List S->A:=fun av=>match av with
 |[.va (.c1 (.vl (.string a))),.va (.c1 (.vl (.string b)))]=>iA .i64 (Lib.compareBytes (bl a) (bl b))
 |_=>.gs []
def scFn:Fun:=⟨FX,OD,fun av h=>by obtain ⟨a,b,rfl⟩:=z8 h;trivial⟩
attribute [go_sem] scFn FX OD
theorem aC2:Meets Tryz.prog 121 scFn.sp:=by
 refine ⟨by kernel_rfl,?_⟩
 rintro av vs E ro w K hlen hrel hR ⟨⟨h,hE⟩,hK⟩ _
 obtain ⟨a,b,rfl⟩:=z8 h
 obtain ⟨v0,v1,rfl⟩:∃v0 v1,vs=[v0,v1]:=by
  match vs,hlen with
  |[v0,v1],_=>exact ⟨v0,v1,rfl⟩
 have h0:v0=.string a:=hrel 0 _ _ rfl rfl
 have h1:v1=.string b:=hrel 1 _ _ rfl rfl
 subst h0 h1
 refine (aAY a b w).mono ?_
 rintro e w' ⟨rfl,rfl⟩
 exact ⟨iS .i64 (Lib.compareBytes (bl a) (bl b)),_,E,ro,rfl,rfl,by rw[hE];exact hK,hR⟩
theorem G9:∀(a b:List UInt8),(Lib.compareBytes a b==0)=(a==b)
 |[],[]=>rfl
 |[],_::_=>rfl
 |_::_,[]=>rfl
 |x::a,y::b=>by
  rw[Lib.compareBytes]
  split
  · rename_i h
    have:(x::a==y::b)=false:=by
     rw[beq_eq_false_iff_ne];intro e;cases e;exact UInt8.lt_irrefl _ h
    rw[this];rfl
  · split
    · rename_i h
      have:(x::a==y::b)=false:=by
       rw[beq_eq_false_iff_ne];intro e;cases e;exact UInt8.lt_irrefl _ h
      rw[this];rfl
    · rename_i h1 h2
      have e:x=y:=UInt8.le_antisymm (UInt8.not_lt.1 h2) (UInt8.not_lt.1 h1)
      rw[e,G9 a b]
      simp
theorem nX (a b:Int):(mG a b==0)=(a==b):=by
 unfold mG
 cases h1:decide (a<b) with
 |true=>
  have:=of_decide_eq_true h1
  rw[cond_true,show (a==b)=false by simp;omega];rfl
 |false=>
  have h1:=of_decide_eq_false h1
  rw[cond_false]
  cases h2:decide (b<a) with
  |true=>
   have:=of_decide_eq_true h2
   rw[cond_true,show (a==b)=false by simp;omega];rfl
  |false=>
   have h2:=of_decide_eq_false h2
   rw[cond_false,show (a==b)=true by simp;omega];rfl
theorem Z2:Meets Tryz.prog 119 sgFn.sp:=by
 refine aF Tryz.func119 aO6 2 (by rw[Tryz.ntmps119];decide) (aB _) yR ?_
 rintro av H K ⟨⟨h,rfl⟩,hK⟩
 obtain ⟨a,b,rfl⟩:=kK h
 have hK:K (iS .i64 (mG a b)) []:=hK
 clear h
 unfold mG at hK
 simp(maxSteps:=9^6)-dsimp only[go_sem,Z8,ZJ]
 refine ⟨fun h1=>?_,fun h1=>⟨fun h2=>?_,fun h2=>?_⟩⟩
 · rw[h1] at hK;exact .done hK
 · rw[h1,h2] at hK;exact .done hK
 · rw[h1,h2] at hK;exact .done hK
theorem aOI:Meets Tryz.prog 120 sgFn.sp:=by
 refine aF Tryz.func120 aO1 2 (by rw[Tryz.ntmps120];decide) (aB _) yR ?_
 rintro av H K ⟨⟨h,rfl⟩,hK⟩
 obtain ⟨a,b,rfl⟩:=kK h
 have hK:K (iS .i64 (mG a b)) []:=hK
 clear h
 unfold mG at hK
 simp(maxSteps:=9^6)-dsimp only[go_sem,aAP,W4]
 refine ⟨fun h1=>?_,fun h1=>⟨fun h2=>?_,fun h2=>?_⟩⟩
 · rw[h1] at hK;exact .done hK
 · rw[h1,h2] at hK;exact .done hK
 · rw[h1,h2] at hK;exact .done hK
def DS (N:Nat):W.Spec:=fun av H K=>∃a b:Vl,av=[.va (.gs (aP a)),.va (.gs (aP b))]/\H=[]/\VlOk a/\VlOk b/\a.h<=N/\∀r:Int,(r==0)=dA a b->K (iS .i64 r) []
theorem pL {N:Nat} {a b:Vl} {K:S->Hp->Prop} (h1:VlOk a) (h2:VlOk b) (h3:a.h<=N) (hK:∀r:Int,(r==0)=dA a b->K (iS .i64 r) []) :
 DS N [.va (.gs [.vl (.int .i64 a.k),.vl (.int .i64 a.n),.vl (.string a.s),.fz (a.l.map aP),.fz (a.f.map bD)]),.va (.gs [.vl (.int .i64 b.k),.vl (.int .i64 b.n),.vl (.string b.s),.fz (b.l.map aP),.fz (b.f.map bD)])] [] K:=
 ⟨a,b,by rw[aJ,aJ],rfl,h1,h2,h3,hK⟩
abbrev cmV:S:=.va (.c1 (.fn 82 []))
abbrev cnV:S:=.va (.c1 (.fn 124 []))
def aE2 (N:Nat):W.Spec:=fun av H K=>∃a b:List Vl,av=[.va (.c1 (.fz (a.map aP))),.va (.c1 (.fz (b.map aP))),cmV]/\H=[]/\(∀x∈a,VlOk x/\x.h<=N)/\(∀x∈b,VlOk x)/\a.length<=1000000000000000/\b.length<=1000000000000000/\∀r:Int,(r==0)=gS a b->K (iS .i64 r) []
theorem aIF {N:Nat} {a b:List Vl} {K:S->Hp->Prop} (h1:∀x∈a,VlOk x/\x.h<=N) (h2:∀x∈b,VlOk x) (h3:a.length<=1000000000000000) (h4:b.length<=1000000000000000) (hK:∀r:Int,(r==0)=gS a b->K (iS .i64 r) []) :
 aE2 N [.va (.c1 (.fz (a.map aP))),.va (.c1 (.fz (b.map aP))),cmV] [] K:=⟨a,b,rfl,rfl,h1,h2,h3,h4,hK⟩
theorem JE (x y:Vl) (a b:List Vl):gS (x::a) (y::b)=(dA x y&&gS a b):=by rw[gS]
theorem aLX {N:Nat} (hC:Meets Tryz.prog 82 (DS N)):Meets Tryz.prog 122 (aE2 N):=by
 refine aF Tryz.func122 aPM 3 (by rw[Tryz.ntmps122];decide) (aC hC (aB _)) (fun av H K h=>by obtain ⟨_,_,rfl,_⟩:=h;rfl) ?_
 rintro av H K ⟨a,b,rfl,rfl,ha,hb,hla,hlb,hK⟩
 have fin:∀(r:Int) (R:Hp),(r==0)=gS a b->W.Fin 0 K (iS .i64 r) R:=fun r R h=>.z ((by simpa[go_sem] using hK r h))
 simp(maxSteps:=9^6)-dsimp only[go_sem,XU,VK]
 refine aL (α:=Nat) (fun i=>[(0,.va (.c1 (.fz (a.map aP)))),(1,.va (.c1 (.fz (b.map aP)))),(2,cmV),(11,.va (.c1 (.fz (a.map aP)))),(12,iS .i64 a.length),(13,iS .i64 i)]) (fun _=>[])
  (fun i=>i<=a.length/\i<=b.length/\gS (a.drop i) (b.drop i)=gS a b) (fun i=>a.length-i) 0 0 ⟨Nat.zero_le _,Nat.zero_le _,rfl⟩ ?_ ?_ ?_
 · simp -dsimp only[go_sem]<;>simp
 · simp -dsimp only[go_sem]<;>simp
 rintro i ⟨hi,hib,ho⟩
 rcases bB i a.length with hlt|hge
 · have hg:decide ((i:Int)<(a.length:Int))=true:=by simp;omega
   have hx:a[i]? = some a[i]:=aU hlt
   have q1:=m0 hx
   have hxo:=ha _ (List.getElem_mem hlt)
   rw[List.drop_eq_getElem_cons hlt] at ho
   generalize a[i]=x at *
   rcases bB i b.length with hlt2|hge2
   · have hg2:decide ((b.length:Int)<=(i:Int))=false:=by simp;omega
     have hy:b[i]? = some b[i]:=aU hlt2
     have q2:=m0 hy
     have hyo:=hb _ (List.getElem_mem hlt2)
     rw[List.drop_eq_getElem_cons hlt2,JE] at ho
     generalize b[i]=y at *
     simp(maxSteps:=9^6)-dsimp only[go_sem,hg,hg2,↓q1,↓q2]
     refine ⟨by omega,by omega,pL hxo.1 hyo hxo.2 fun r hr=>?_⟩
     simp(maxSteps:=9^6)-dsimp only[go_sem]
     refine ⟨fun h1=>fin r _ ?_,fun h1=>?_⟩
     · have h2:(r==0)=false:=by simpa using h1
       rw[h2] at hr ⊢
       rw[<-ho,<-hr];rfl
     · have h2:(r==0)=true:=by simpa using h1
       rw[h2] at hr
       rw[<-hr,Bool.true_and] at ho
       refine ⟨by omega,aE (i+1) 0 ⟨by omega,by omega,ho⟩ (by omega) ?_ ?_⟩
       · simp -dsimp only[go_sem]<;>simp
       · simp -dsimp only[go_sem]<;>simp
   · have hg2:decide ((b.length:Int)<=(i:Int))=true:=by simp;omega
     have hd:b.drop i=[]:=List.drop_eq_nil_iff.2 hge2
     rw[hd,gS] at ho
     simp(maxSteps:=9^6)-dsimp only[go_sem,hg,hg2,↓q1]
     exact ⟨by omega,fin 1 _ ho⟩
 · have hg:decide ((i:Int)<(a.length:Int))=false:=by simp;omega
   have hd:a.drop i=[]:=List.drop_eq_nil_iff.2 hge
   rw[hd] at ho
   simp(maxSteps:=9^6)-dsimp only[go_sem,hg]
   refine ⟨fun h1=>fin (-1) _ ?_,fun h1=>fin 0 _ ?_⟩
   · have h1:=of_decide_eq_true h1
     have hlt2:i<b.length:=by omega
     rw[List.drop_eq_getElem_cons hlt2,gS] at ho
     exact ho
   · have h1:=of_decide_eq_false h1
     have hd2:b.drop i=[]:=List.drop_eq_nil_iff.2 (by omega)
     rw[hd2,gS] at ho
     exact ho
def aHK (N:Nat):W.Spec:=fun av H K=>∃x y:Int×Vl,av=[.va (.gs (bD x)),.va (.gs (bD y))]/\H=[]/\VlOk x.2/\VlOk y.2/\x.2.h<=N/\∀r:Int,(r==0)=(x.1==y.1&&dA x.2 y.2)->K (iS .i64 r) []
theorem aFB {N:Nat} {x y:Int×Vl} {K:S->Hp->Prop} (h1:VlOk x.2) (h2:VlOk y.2) (h3:x.2.h<=N) (hK:∀r:Int,(r==0)=(x.1==y.1&&dA x.2 y.2)->K (iS .i64 r) []) :
 aHK N [.va (.gs [.vl (.int .i64 x.1),.vl (.int .i64 x.2.k),.vl (.int .i64 x.2.n),.vl (.string x.2.s),.fz (x.2.l.map aP),.fz (x.2.f.map bD)]),.va (.gs [.vl (.int .i64 y.1),.vl (.int .i64 y.2.k),.vl (.int .i64 y.2.n),.vl (.string y.2.s),.fz (y.2.l.map aP),.fz (y.2.f.map bD)])] [] K:=
 ⟨x,y,by rw[cH,cH],rfl,h1,h2,h3,hK⟩
theorem aLB {N:Nat} (hC:Meets Tryz.prog 82 (DS N)):Meets Tryz.prog 124 (aHK N):=by
 refine aF Tryz.func124 aMH 2 (by rw[Tryz.ntmps124];decide) (aG Z2 (aC hC (aB _))) (fun av H K h=>by obtain ⟨_,_,rfl,_⟩:=h;rfl) ?_
 rintro av H K ⟨x,y,rfl,rfl,hx,hy,hh,hK⟩
 have fin:∀(r:Int) (R:Hp),(r==0)=(x.1==y.1&&dA x.2 y.2)->W.Fin 0 K (iS .i64 r) R:=fun r R h=>.z ((by simpa[go_sem] using hK r h))
 have hs:=nX x.1 y.1
 simp(maxSteps:=9^6)-dsimp only[go_sem,cH x,cH y,XI,ZF]
 refine ⟨fun h1=>fin _ _ ?_,fun h1=>aA rfl (.done ?_)⟩
 · have h2:(mG x.1 y.1==0)=false:=by simpa using h1
   rw[h2] at hs ⊢
   rw[<-hs];rfl
 · have h2:(mG x.1 y.1==0)=true:=by simpa using h1
   rw[h2] at hs
   simp(maxSteps:=9^6)-dsimp only[go_sem,CS,List.take_succ_cons,List.take_zero,List.length_cons,List.length_nil]
   refine pL hx hy hh fun r hr=>?_
   simp(maxSteps:=9^6)-dsimp only[go_sem]
   exact fin r _ (by rw[hr,<-hs];rfl)
def WH (N:Nat):W.Spec:=fun av H K=>∃a b:List (Int×Vl),av=[.va (.c1 (.fz (a.map bD))),.va (.c1 (.fz (b.map bD))),cnV]/\H=[]/\(∀x∈a,VlOk x.2/\x.2.h<=N)/\(∀x∈b,VlOk x.2)/\a.length<=1000000000000000/\b.length<=1000000000000000/\∀r:Int,(r==0)=gH a b->K (iS .i64 r) []
theorem aDA {N:Nat} {a b:List (Int×Vl)} {K:S->Hp->Prop} (h1:∀x∈a,VlOk x.2/\x.2.h<=N) (h2:∀x∈b,VlOk x.2) (h3:a.length<=1000000000000000) (h4:b.length<=1000000000000000) (hK:∀r:Int,(r==0)=gH a b->K (iS .i64 r) []) :
 WH N [.va (.c1 (.fz (a.map bD))),.va (.c1 (.fz (b.map bD))),cnV] [] K:=⟨a,b,rfl,rfl,h1,h2,h3,h4,hK⟩
theorem aLT {N:Nat} (hC:Meets Tryz.prog 82 (DS N)):Meets Tryz.prog 123 (WH N):=by
 refine aF Tryz.func123 aLV 3 (by rw[Tryz.ntmps123];decide) (aC (aLB hC) (aB _)) (fun av H K h=>by obtain ⟨_,_,rfl,_⟩:=h;rfl) ?_
 rintro av H K ⟨a,b,rfl,rfl,ha,hb,hla,hlb,hK⟩
 have fin:∀(r:Int) (R:Hp),(r==0)=gH a b->W.Fin 0 K (iS .i64 r) R:=fun r R h=>.z ((by simpa[go_sem] using hK r h))
 simp(maxSteps:=9^6)-dsimp only[go_sem,Z4,aAG]
 refine aL (α:=Nat) (fun i=>[(0,.va (.c1 (.fz (a.map bD)))),(1,.va (.c1 (.fz (b.map bD)))),(2,cnV),(11,.va (.c1 (.fz (a.map bD)))),(12,iS .i64 a.length),(13,iS .i64 i)]) (fun _=>[])
  (fun i=>i<=a.length/\i<=b.length/\gH (a.drop i) (b.drop i)=gH a b) (fun i=>a.length-i) 0 0 ⟨Nat.zero_le _,Nat.zero_le _,rfl⟩ ?_ ?_ ?_
 · simp -dsimp only[go_sem]<;>simp
 · simp -dsimp only[go_sem]<;>simp
 rintro i ⟨hi,hib,ho⟩
 rcases bB i a.length with hlt|hge
 · have hg:decide ((i:Int)<(a.length:Int))=true:=by simp;omega
   have hx:a[i]? = some a[i]:=aU hlt
   have q1:=kO hx
   have hxo:=ha _ (List.getElem_mem hlt)
   rw[List.drop_eq_getElem_cons hlt] at ho
   generalize a[i]=x at *
   rcases bB i b.length with hlt2|hge2
   · have hg2:decide ((b.length:Int)<=(i:Int))=false:=by simp;omega
     have hy:b[i]? = some b[i]:=aU hlt2
     have q2:=kO hy
     have hyo:=hb _ (List.getElem_mem hlt2)
     rw[List.drop_eq_getElem_cons hlt2,JQ] at ho
     generalize b[i]=y at *
     simp(maxSteps:=9^6)-dsimp only[go_sem,hg,hg2,↓q1,↓q2]
     refine ⟨by omega,by omega,aFB hxo.1 hyo hxo.2 fun r hr=>?_⟩
     rw[<-Bool.and_assoc,<-hr] at ho
     simp(maxSteps:=9^6)-dsimp only[go_sem]
     refine ⟨fun h1=>fin r _ ?_,fun h1=>?_⟩
     · have h2:(r==0)=false:=by simpa using h1
       rw[h2,Bool.false_and] at ho
       rw[h2];exact ho
     · have h2:(r==0)=true:=by simpa using h1
       rw[h2,Bool.true_and] at ho
       refine ⟨by omega,aE (i+1) 0 ⟨by omega,by omega,ho⟩ (by omega) ?_ ?_⟩
       · simp -dsimp only[go_sem]<;>simp
       · simp -dsimp only[go_sem]<;>simp
   · have hg2:decide ((b.length:Int)<=(i:Int))=true:=by simp;omega
     have hd:b.drop i=[]:=List.drop_eq_nil_iff.2 hge2
     have he:gH (x::a.drop (i+1)) []=false:=by obtain ⟨j,x⟩:=x;rw[gH]
     rw[hd,he] at ho
     simp(maxSteps:=9^6)-dsimp only[go_sem,hg,hg2,↓q1]
     exact ⟨by omega,fin 1 _ ho⟩
 · have hg:decide ((i:Int)<(a.length:Int))=false:=by simp;omega
   have hd:a.drop i=[]:=List.drop_eq_nil_iff.2 hge
   rw[hd] at ho
   simp(maxSteps:=9^6)-dsimp only[go_sem,hg]
   refine ⟨fun h1=>fin (-1) _ ?_,fun h1=>fin 0 _ ?_⟩
   · have h1:=of_decide_eq_true h1
     have hlt2:i<b.length:=by omega
     rw[List.drop_eq_getElem_cons hlt2] at ho
     have he:∀y:Int×Vl,gH [] (y::b.drop (i+1))=false:=fun y=>by obtain ⟨j,y⟩:=y;rw[gH]
     rw[he] at ho
     exact ho
   · have h1:=of_decide_eq_false h1
     have hd2:b.drop i=[]:=List.drop_eq_nil_iff.2 (by omega)
     rw[hd2,gH] at ho
     exact ho
theorem tL:∀N,Meets Tryz.prog 82 (DS N)
 |0=>⟨by kernel_rfl,by rintro xs vs E ro w K _ _ _ ⟨a,_,_,_,_,_,h,_⟩;have:=a.h_pos;omega⟩
 |N+1=>by
  refine aF Tryz.func82 aSA 2 (by rw[Tryz.ntmps82];decide) (aG Z2 (aG aOI (aG aC2 (aC (aLX (tL N)) (aC (aLT (tL N)) (aB _)))))) (fun av H K h=>by obtain ⟨_,_,rfl,_⟩:=h;rfl) ?_
  rintro av H K ⟨a,b,rfl,rfl,ha,hb,hh,hK⟩
  have hE:=P3 a b
  have fin:∀(r:Int) (R:Hp),(r==0)=dA a b->W.Fin 0 K (iS .i64 r) R:=fun r R h=>.z ((by simpa[go_sem] using hK r h))
  have hs1:=nX a.k b.k
  have hs2:=nX a.n b.n
  have hs3:=G9 (bl a.s) (bl b.s)
  have hla:=ha.ll
  have hlb:=hb.ll
  have hfa:=ha.lf
  have hfb:=hb.lf
  simp(maxSteps:=9^6)-dsimp only[go_sem,aJ a,aJ b,aKW,aG2]
  refine ⟨fun h1=>fin _ _ ?_,fun h1=>aA rfl (.done ?_)⟩
  · have h2:(mG a.k b.k==0)=false:=by simpa using h1
    rw[h2] at hs1 ⊢
    rw[hE,<-hs1];rfl
  have h2:(mG a.k b.k==0)=true:=by simpa using h1
  rw[h2] at hs1
  rw[<-hs1,Bool.true_and] at hE
  simp(maxSteps:=9^6)-dsimp only[go_sem,JY]
  refine ⟨fun h1=>fin _ _ ?_,fun h1=>aA rfl (.done ?_)⟩
  · have h2:(mG a.n b.n==0)=false:=by simpa using h1
    rw[h2] at hs2 ⊢
    rw[hE,<-hs2];rfl
  have h2:(mG a.n b.n==0)=true:=by simpa using h1
  rw[h2] at hs2
  rw[<-hs2,Bool.true_and] at hE
  simp(maxSteps:=9^6)-dsimp only[go_sem,GH]
  refine ⟨fun h1=>fin _ _ ?_,fun h1=>aA rfl (.done ?_)⟩
  · have h2:(Lib.compareBytes (bl a.s) (bl b.s)==0)=false:=by simpa using h1
    rw[h2] at hs3 ⊢
    rw[hE,<-hs3];rfl
  have h2:(Lib.compareBytes (bl a.s) (bl b.s)==0)=true:=by simpa using h1
  rw[h2] at hs3
  rw[<-hs3,Bool.true_and] at hE
  simp(maxSteps:=9^6)-dsimp only[go_sem,C3]
  refine aIF (fun x hx=>⟨ha.l x hx,by have:=Vl.h_l hx;omega⟩) hb.l (by omega) (by omega) fun r hr=>?_
  simp(maxSteps:=9^6)-dsimp only[go_sem]
  refine ⟨fun h1=>fin _ _ ?_,fun h1=>aA rfl (.done ?_)⟩
  · have h2:(r==0)=false:=by simpa using h1
    rw[h2] at hr ⊢
    rw[hE,<-hr];rfl
  have h2:(r==0)=true:=by simpa using h1
  rw[h2] at hr
  rw[<-hr,Bool.true_and] at hE
  simp(maxSteps:=9^6)-dsimp only[go_sem,BF]
  refine aDA (fun x hx=>⟨ha.f x hx,by have:=Vl.h_f hx;omega⟩) hb.f (by omega) (by omega) fun r hr=>?_
  simp(maxSteps:=9^6)-dsimp only[go_sem]
  exact fin r _ (by rw[hr,hE])
def FR:List S->Prop:=fun av=>match av with
 |[.va (.gs r),.va (.gs q)]=>o9 r/\o9 q
 |_=>False
theorem qY {av:List S} (h:FR av):∃a b:Vl,av=[.va (.gs (aP a)),.va (.gs (aP b))]/\VlOk a/\VlOk b:=by
 unfold FR at h
 split at h
 · obtain ⟨⟨a,rfl,h1⟩,⟨b,rfl,h2⟩⟩:=h;exact ⟨a,b,rfl,h1,h2⟩
 · exact h.elim
noncomputable def YR:List S->A:=fun av=>match av with
 |[.va (.gs r),.va (.gs q)]=>bA (dA (C.vv r) (C.vv q))
 |_=>.gs []
noncomputable def eqFn2:Fun:=⟨FR,YR,fun av h=>by obtain ⟨a,b,rfl,_⟩:=qY h;trivial⟩
attribute [go_sem] eqFn2 FR YR
theorem VC (N:Nat):Meets Tryz.prog 44 (fun av H K=>∃a b:Vl,av=[.va (.gs (aP a)),.va (.gs (aP b))]/\H=[]/\VlOk a/\VlOk b/\a.h<=N/\K (bS (dA a b)) []):=by
 refine aF Tryz.func44 aU6 2 (by rw[Tryz.ntmps44];decide) (aC (tL N) (aB _)) (fun av H K h=>by obtain ⟨_,_,rfl,_⟩:=h;rfl) ?_
 rintro av H K ⟨a,b,rfl,rfl,ha,hb,hh,hK⟩
 simp(maxSteps:=9^6)-dsimp only[go_sem,aJ a,aJ b,aDQ,aI7]
 refine pL ha hb hh fun r hr=>?_
 simp(maxSteps:=9^6)-dsimp only[go_sem]
 exact .z ((by rw[hr];simpa[go_sem] using hK))
theorem KS:Meets Tryz.prog 44 eqFn2.sp:=dW (0:Nat) VC fun av H K h=>by
 obtain ⟨⟨h,e⟩,hK⟩:=h
 obtain ⟨a,b,rfl,ha,hb⟩:=qY h
 have hK:K (bS (dA (C.vv (aP a)) (C.vv (aP b)))) []:=hK
 rw[iR,iR] at hK
 exact ⟨a.h,a,b,rfl,e,ha,hb,Nat.le_refl _,hK⟩
def aJI (N:Nat):W.Spec:=fun av H K=>∃v:Vl,av=[.va (.gs (aP v))]/\H=[]/\VlOk v/\v.h<=N/\K (.va (.gs (aP v))) []
theorem GM {N:Nat} {v:Vl} {K:S->Hp->Prop} (h1:VlOk v) (h2:v.h<=N) (hK:K (.va (.gs [.vl (.int .i64 v.k),.vl (.int .i64 v.n),.vl (.string v.s),.fz (v.l.map aP),.fz (v.f.map bD)])) []) :
 aJI N [.va (.gs [.vl (.int .i64 v.k),.vl (.int .i64 v.n),.vl (.string v.s),.fz (v.l.map aP),.fz (v.f.map bD)])] [] K:=⟨v,by rw[aJ],rfl,h1,h2,by rw[aJ];exact hK⟩
theorem MR:∀N,Meets Tryz.prog 81 (aJI N)
 |0=>⟨by kernel_rfl,by rintro xs vs E ro w K _ _ _ ⟨v,_,_,_,h,_⟩;have:=v.h_pos;omega⟩
 |N+1=>by
  refine aF Tryz.func81 aS7 1 (by rw[Tryz.ntmps81];decide) (aC (MR N) (aB _)) (fun av H K h=>by obtain ⟨_,rfl,_⟩:=h;rfl) ?_
  rintro av H K ⟨v,rfl,rfl,hv,hh,hK⟩
  have hll:=hv.ll
  have hlf:=hv.lf
  rw[aJ] at hK
  simp(maxSteps:=9^6)-dsimp only[go_sem,aJ v,aJG,aIL]
  refine cM (α:=Nat) (fun i=>[(1,.va (.c1 (.pt 0 0))),(2,.va (.c1 (.pt 1 0))),(4,.va (.c1 (.fz (v.f.map bD)))),(15,.va (.c1 (.fz (v.l.map aP)))),(16,iS .i64 v.l.length),(17,iS .i64 i)])
   (fun i=>[.cells [.vl (.int .i64 v.k),.vl (.int .i64 v.n),.vl (.string v.s),.sl 2 i,.vl (.slice none 0 0)] 29,.cells [.vl (.int .i64 0),.vl (.int .i64 0),.vl (.string (mk [])),.vl (.slice none 0 0),.vl (.slice none 0 0)] 29,.row ((v.l.take i).map aP) 29 5])
   (fun i=>i<=v.l.length) (fun i=>v.l.length-i) (.nilc 0 3 29 5 [.vl (.int .i64 v.k),.vl (.int .i64 v.n),.vl (.string v.s),.vl (.slice none 0 0),.vl (.slice none 0 0)] 29 rfl rfl (jD 0 3 (Nat.zero_le _) ?_ ?_)) ?_
  · simp -dsimp only[go_sem]<;>simp
  · simp -dsimp only[go_sem]<;>simp
  intro i hi
  have hz:(v.l.take i).length=i:=by rw[List.length_take];omega
  rcases bB i v.l.length with hlt|hge
  · have hg:decide ((i:Int)<(v.l.length:Int))=true:=by simp;omega
    have hx:v.l[i]? = some v.l[i]:=aU hlt
    have q1:=m0 hx
    have hxm:=List.getElem_mem hlt
    have hxo:=hv.l _ hxm
    have hxh:v.l[i].h<=N:=by have:=Vl.h_l hxm;omega
    have htk:=dB hx
    generalize v.l[i]=x at *
    simp(maxSteps:=9^6)-dsimp only[go_sem,hg,↓q1]
    refine ⟨by omega,GM hxo hxh ?_⟩
    simp(maxSteps:=9^6)-dsimp only[go_sem]
    refine ⟨hz,by omega,by omega,aE (i+1) 3 (by omega) (by omega) ?_ ?_⟩
    · simp -dsimp only[go_sem]<;>simp
    · simp -dsimp only[go_sem,htk]<;>simp[aJ x]
  · have hg:decide ((i:Int)<(v.l.length:Int))=false:=by simp;omega
    obtain rfl:i=v.l.length:=by omega
    rw[List.take_length]
    simp(maxSteps:=9^6)-dsimp only[go_sem,hg]
    clear hi hge hg hz
    refine cM (α:=Nat) (fun i=>[(1,.va (.c1 (.pt 0 0))),(2,.va (.c1 (.pt 1 0))),(29,.va (.c1 (.fz (v.f.map bD)))),(30,iS .i64 v.f.length),(31,iS .i64 i)])
     (fun i=>[.cells [.vl (.int .i64 v.k),.vl (.int .i64 v.n),.vl (.string v.s),.sl 2 v.l.length,.sl 3 i] 29,.cells [.vl (.int .i64 0),.vl (.int .i64 0),.vl (.string (mk [])),.vl (.slice none 0 0),.vl (.slice none 0 0)] 29,.row (v.l.map aP) 29 5,.row ((v.f.take i).map bD) 76 6])
     (fun i=>i<=v.f.length) (fun i=>v.f.length-i) (.nilc 0 4 76 6 [.vl (.int .i64 v.k),.vl (.int .i64 v.n),.vl (.string v.s),.sl 2 v.l.length,.vl (.slice none 0 0)] 29 rfl rfl (jD 0 4 (Nat.zero_le _) ?_ ?_)) ?_
    · simp -dsimp only[go_sem]<;>simp
    · simp -dsimp only[go_sem]<;>simp
    intro i hi
    have hz:(v.f.take i).length=i:=by rw[List.length_take];omega
    rcases bB i v.f.length with hlt|hge
    · have hg:decide ((i:Int)<(v.f.length:Int))=true:=by simp;omega
      have hx:v.f[i]? = some v.f[i]:=aU hlt
      have q1:=kO hx
      have hxm:=List.getElem_mem hlt
      have hxo:=hv.f _ hxm
      have hxh:v.f[i].2.h<=N:=by have:=Vl.h_f hxm;omega
      have htk:=dB hx
      generalize v.f[i]=x at *
      simp(maxSteps:=9^6)-dsimp only[go_sem,hg,↓q1,List.take_succ_cons,List.take_zero,List.length_cons,List.length_nil]
      refine ⟨by omega,GM hxo hxh ?_⟩
      simp(maxSteps:=9^6)-dsimp only[go_sem]
      refine ⟨hz,by omega,by omega,aE (i+1) 4 (by omega) (by omega) ?_ ?_⟩
      · simp -dsimp only[go_sem]<;>simp
      · simp -dsimp only[go_sem,htk]<;>simp[cH x]
    · have hg:decide ((i:Int)<(v.f.length:Int))=false:=by simp;omega
      obtain rfl:i=v.f.length:=by omega
      rw[List.take_length]
      simp(maxSteps:=9^6)-dsimp only[go_sem,hg]
      refine .pub 2 _ _ _ rfl (.pub 3 _ _ _ rfl (.sel [] (by simp) (by simp[b5]) rfl (.done ?_)))
      simp -dsimp only[go_sem,b5]
      simpa using hK
abbrev fdV:S:=.va (.c1 (.fn 118 [(false,[.pt 0 0])]))
abbrev rY (k:Int):B:=.cells [.vl (.int .i64 k)] 3
def VH:W.Spec:=fun av H K=>∃(x:Int×Vl) (k:Int),av=[.va (.gs (MX x)),.va (.c1 (.pt 0 0))]/\H=[rY k]/\K (bS (x.1==k)) [rY k]
theorem aBL {x:Int×Vl} {k:Int} {K:S->Hp->Prop} (hK:K (bS (x.1==k)) [rY k]):VH [.va (.gs (MX x)),.va (.c1 (.pt 0 0))] [rY k] K:=⟨x,k,rfl,rfl,hK⟩
theorem aCS:Meets Tryz.prog 118 VH:=by
 refine aF Tryz.func118 aM8 2 (by rw[Tryz.ntmps118];decide) (aB _) (fun av H K h=>by obtain ⟨_,_,rfl,_⟩:=h;rfl) ?_
 rintro av H K ⟨x,k,rfl,rfl,hK⟩
 simp -dsimp only[go_sem,MX,V7,Y7]
 exact .sel [0] (by simp) (by simp) rfl (.done (by simpa[go_sem] using hK))
def aGS:W.Spec:=fun av H K=>∃(l:List (Int×Vl)) (k:Int),av=[.va (.c1 (.fz (l.map bD))),fdV]/\H=[rY k]/\l.length<=9223372036854775807/\K (iS .i64 (kG k l 0)) [rY k]
theorem aH9 {l:List (Int×Vl)} {k:Int} {K:S->Hp->Prop} (h:l.length<=9223372036854775807) (hK:K (iS .i64 (kG k l 0)) [rY k]):aGS [.va (.c1 (.fz (l.map bD))),fdV] [rY k] K:=⟨l,k,rfl,rfl,h,hK⟩
theorem aBV:Meets Tryz.prog 117 aGS:=by
 refine aF Tryz.func117 X3 2 (by rw[Tryz.ntmps117];decide) (aC aCS (aB _)) (fun av H K h=>by obtain ⟨_,_,rfl,_⟩:=h;rfl) ?_
 rintro av H K ⟨l,k,rfl,rfl,hl,hK⟩
 simp -dsimp only[go_sem,N9,NO]
 refine aL (α:=Nat) (fun i=>[(0,.va (.c1 (.fz (l.map bD)))),(1,fdV),(7,iS .i64 l.length),(8,iS .i64 i)]) (fun _=>[rY k])
  (fun i=>i<=l.length/\kG k (l.drop i) i=kG k l 0) (fun i=>l.length-i) 0 1 ⟨Nat.zero_le _,rfl⟩ ?_ ?_ ?_
 · simp -dsimp only[go_sem]<;>simp
 · simp -dsimp only[go_sem]<;>simp
 rintro i ⟨hi,ho⟩
 rcases bB i l.length with hlt|hge
 · have hg:decide ((i:Int)<(l.length:Int))=true:=by simp;omega
   have hx:l[i]? = some l[i]:=aU hlt
   have q2:=kO hx
   rw[List.drop_eq_getElem_cons hlt,kG] at ho
   generalize l[i]=y at *
   simp -dsimp only[go_sem,hg,↓q2]
   refine ⟨by omega,aBL ?_⟩
   cases hc:y.1==k with
   |true=>
    rw[hc,bE] at ho
    simp -dsimp only[go_sem]
    exact .sel [0] (by simp) (by simp) rfl (.done (by simpa[go_sem,ho] using hK))
   |false=>
    rw[hc,a8] at ho
    simp -dsimp only[go_sem]
    refine ⟨by omega,aE (i+1) 1 ⟨by omega,ho⟩ (by omega) ?_ ?_⟩
    · simp -dsimp only[go_sem]<;>simp
    · simp -dsimp only[go_sem]<;>simp
 · have hg:decide ((i:Int)<(l.length:Int))=false:=by simp;omega
   have:l.drop i=[]:=List.drop_eq_nil_iff.2 (by omega)
   rw[this] at ho
   simp -dsimp only[go_sem,hg]
   exact .sel [0] (by simp) (by simp) rfl (.done (by rw[show kG k l 0=-1 from ho.symm] at hK;simpa[go_sem] using hK))
theorem G4 (k:Int):∀(l:List (Int×Vl)) (i:Nat),(bR l k=none/\kG k l i=-1)\/(∃j x,l[j]? = some x/\bR l k=some x/\kG k l i=((i+j:Nat):Int))
 |[],_=>.inl ⟨rfl,rfl⟩
 |y::l,i=>by
  rw[kG]
  unfold bR
  rw[List.find?_cons]
  by_cases h:y.1=k
  · rw[show (y.1==k)=true by simpa using h,decide_eq_true h]
    exact .inr ⟨0,y,rfl,rfl,rfl⟩
  · rw[show (y.1==k)=false by simpa using h,decide_eq_false h,cond_false]
    rcases G4 k l (i+1) with ⟨h1,h2⟩|⟨j,x,h1,h2,h3⟩
    · exact .inl ⟨h1,h2⟩
    · exact .inr ⟨j+1,x,by simpa using h1,h2,by rw[h3];congr 1;omega⟩
def FV:List S->Prop:=fun av=>match av with
 |[.va (.gs r),.va (.c1 (.vl (.int .i64 _)))]=>o9 r/\(C.vv r).k=6
 |_=>False
theorem rW {av:List S} (h:FV av):∃(v:Vl) (k:Int),av=[.va (.gs (aP v)),iS .i64 k]/\VlOk v/\v.k=6:=by
 unfold FV at h
 split at h
 · obtain ⟨⟨v,rfl,h1⟩,h2⟩:=h;rw[iR] at h2;exact ⟨v,_,rfl,h1,h2⟩
 · exact h.elim
noncomputable def ZD:List S->A:=fun av=>match av with
 |[.va (.gs r),.va (.c1 (.vl (.int .i64 k)))]=>iA .i64 (kG k (C.vv r).f 0)
 |_=>.gs []
noncomputable def vxFn:Fun:=⟨FV,ZD,fun av h=>by obtain ⟨v,k,rfl,_⟩:=rW h;trivial⟩
theorem SV:∀av H K,vxFn.sp av H K->av.length=2:=fun av H K h=>by obtain ⟨v,k,rfl,_⟩:=rW h.1.1;rfl
attribute [go_sem] vxFn FV ZD
theorem aC9:Meets Tryz.prog 80 vxFn.sp:=by
 refine aF Tryz.func80 aTL 2 (by rw[Tryz.ntmps80];decide) (aC aBV (aB _)) SV ?_
 rintro av H K ⟨⟨h,rfl⟩,hK⟩
 obtain ⟨v,k,rfl,hv,h6⟩:=rW h
 have hK:K (iS .i64 (kG k (C.vv (aP v)).f 0)) []:=hK
 rw[iR] at hK
 clear h
 have g6:(v.k != 6)=false:=by rw[h6];rfl
 have hl:=hv.lf
 simp(maxSteps:=9^6)-dsimp only[go_sem,aJ v,aG7,aF2,g6]
 refine aH9 (by omega) ?_
 simp(maxSteps:=9^6)-dsimp only[go_sem]
 exact .z ((by simpa[go_sem] using hK))
theorem U0 (N:Nat):Meets Tryz.prog 43 (fun av H K=>∃(v:Vl) (k:Int),av=[.va (.gs (aP v)),iS .i64 k]/\H=[]/\VlOk v/\v.k=6/\v.h<=N/\K (.tu [.gs (aP (((bR v.f k).map (·.2)).getD default)),bA (bR v.f k).isSome]) []):=by
 refine aF Tryz.func43 aWA 2 (by rw[Tryz.ntmps43];decide) (aG aC9 (aC (MR N) (aB _))) (fun av H K h=>by obtain ⟨_,_,rfl,_⟩:=h;rfl) ?_
 rintro av H K ⟨v,k,rfl,rfl,hv,h6,hh,hK⟩
 have k1:=cY hv
 have k2:=gD v
 have k3:(v.k=6)=True:=eq_true h6
 have hl:=hv.lf
 rcases G4 k v.f 0 with ⟨e1,e2⟩|⟨j,x,e0,e1,e2⟩
 · rw[e1] at hK
   have g0:decide ((-1:Int)<0)=true:=rfl
   simp(maxSteps:=9^6)-dsimp only[go_sem,aJ v,TT,TW,k1,k2,k3,e2]
   refine aA rfl (.done ?_)
   simp(maxSteps:=9^6)-dsimp only[go_sem,AD,g0]
   exact .z ((by simpa[go_sem,vW] using hK))
 · rw[e1] at hK
   rw[Nat.zero_add] at e2
   have hj:=(bJ.1 e0).1
   have g0:decide (((j:Nat):Int)<0)=false:=by simp
   have q2:=kO e0
   have hxm:=bY e0
   simp(maxSteps:=9^6)-dsimp only[go_sem,aJ v,TT,TW,k1,k2,k3,e2]
   refine aA rfl (.done ?_)
   simp(maxSteps:=9^6)-dsimp only[go_sem,AD,g0,↓q2,List.take_succ_cons,List.take_zero,List.length_cons,List.length_nil]
   refine ⟨by omega,GM (hv.f x hxm) (by have:=Vl.h_f hxm;omega) ?_⟩
   simp(maxSteps:=9^6)-dsimp only[go_sem]
   exact .z ((by simpa[go_sem,aJ x.2] using hK))
theorem aBU:Meets Tryz.prog 43 SP:=dW (0:Nat) U0 fun av H K h=>by
 obtain ⟨v,k,rfl,e,hv,h6,hK⟩:=h
 exact ⟨v.h,v,k,rfl,e,hv,h6,Nat.le_refl _,hK⟩
def F7 (P:Sc->St->Vl->Prop):List S->Prop:=fun av=>match av with
 |[.va (.gs r),.va (.gs q),.va (.gs p)]=>gK r/\VA q/\o9 p/\P (C.sc r) (C.st q) (C.vv p)
 |_=>False
theorem sQ {P:Sc->St->Vl->Prop} {av:List S} (h:F7 P av):∃s t v,av=[.va (.gs (aD s)),.va (.gs (aH t)),.va (.gs (aP v))]/\s.fit/\t.ok/\VlOk v/\P s t v:=by
 unfold F7 at h
 split at h
 · obtain ⟨⟨s,rfl,hs⟩,⟨t,rfl,ht⟩,⟨v,rfl,hv⟩,h⟩:=h
   rw[dF,HK,iR] at h
   exact ⟨s,t,v,rfl,hs,ht,hv,h⟩
 · exact h.elim
noncomputable def VM (f:Sc->St->Vl->Value):List S->A:=fun av=>match av with
 |[.va (.gs r),.va (.gs q),.va (.gs p)]=>.c1 (.vl (f (C.sc r) (C.st q) (C.vv p)))
 |_=>.gs []
noncomputable def GQ (P:Sc->St->Vl->Prop) (f:Sc->St->Vl->Value):Fun:=⟨F7 P,VM f,fun av h=>by obtain ⟨_,_,_,rfl,_⟩:=sQ h;trivial⟩
theorem TJ {P:Sc->St->Vl->Prop} {f:Sc->St->Vl->Value}:∀av H K,(GQ P f).sp av H K->av.length=3:=fun av H K h=>by obtain ⟨_,_,_,rfl,_⟩:=sQ h.1.1;rfl
attribute [go_sem] GQ F7 VM
theorem aCE {P:Sc->St->Vl->Prop} {f:Sc->St->Vl->Value} {av:List S} {H:Hp} {K:S->Hp->Prop} (h:(GQ P f).sp av H K) :
 ∃s t v,av=[.va (.gs (aD s)),.va (.gs (aH t)),.va (.gs (aP v))]/\H=[]/\s.fit/\t.ok/\VlOk v/\P s t v/\K (.va (.c1 (.vl (f s t v)))) []:=by
 obtain ⟨⟨h,rfl⟩,hK⟩:=h
 obtain ⟨s,t,v,rfl,hs,ht,hv,hp⟩:=sQ h
 have:(GQ P f).val [.va (.gs (aD s)),.va (.gs (aH t)),.va (.gs (aP v))]=.c1 (.vl (f s t v)):=by simp -dsimp only[go_sem]
 rw[this] at hK
 exact ⟨s,t,v,rfl,rfl,hs,ht,hv,hp,hK⟩
theorem aH7 (t:St):C.st [.vl (.string t.nm),.fz (t.fs.map aS)]=t:=HK t
theorem RI {t:St} (h:t.ok):VA [.vl (.string t.nm),.fz (t.fs.map aS)]:=aBG h
def GD:List S->Prop:=fun xs=>match xs with
 |[.va (.c1 (.vl (.string s)))]=>(bl s).length<=9223372036854775797
 |_=>False
theorem mX {xs:List S} (h:GD xs):∃s,xs=[tS s]/\(bl s).length<=9223372036854775797:=by
 unfold GD at h
 split at h
 · exact ⟨_,rfl,h⟩
 · exact h.elim
def OX (f:List UInt8->Value):Fun:=⟨GD,HM f,fun xs h=>by obtain ⟨s,rfl,_⟩:=mX h;trivial⟩
theorem GV {f:List UInt8->Value}:∀xs H K,(OX f).sp xs H K->xs.length=1:=fun xs H K h=>by obtain ⟨s,rfl,_⟩:=mX h.1.1;rfl
attribute [go_sem] OX GD
theorem M1:Meets Tryz.prog 47 (OX fun l=>.string (mk (mP l))).sp:=by
 refine aF Tryz.func47 aSS 1 (by rw[Tryz.ntmps47];decide) (aG AQ (aB _)) GV ?_
 rintro av H K ⟨⟨h,rfl⟩,hK⟩
 obtain ⟨s,rfl,hs⟩:=mX h
 have hK:K (tS (mk (eI (bl s).length++bl s))) []:=hK
 have hl:=hT (bl s).length
 simp(maxSteps:=9^6)-dsimp only[go_sem,aHG,aJ2,iL,iT,d9]
 exact ⟨by omega,.done hK⟩
structure EsP (N:Nat) (s:Sc) (u:St) (v:Vl):Prop where
 d:Dg s
 n:N<=8
 h:∀x∈v.f,x.2.h<=N
 t:∃t:Ty,TyOk t/\(t.k==6)=true/\stOf s t=u/\cT s t v=0
def A1 (N:Nat) (s:Sc) (t:Ty) (v:Vl):Prop:=Dg s/\N<=8/\v.h<=N/\cT s t v=0
noncomputable def j8 (N:Nat):Fun:=kM (A1 N) fun s t v=>.string (mk (bO s N t v))
noncomputable def NC (N:Nat):Fun:=GQ (EsP N) fun s u v=>.string (mk (dT (bO s N) s u.fs v.f))
theorem JT (R:Ty->Vl->List UInt8) (s:Sc) (fs:List Fl) (F:List (Int×Vl)) (i:Nat):(dT R s (fs.take i) F).length<=(dT R s fs F).length:=by
 have h:dT R s fs F=dT R s (fs.take i) F++dT R s (fs.drop i) F:=by unfold dT;rw[<-List.flatMap_append,List.take_append_drop]
 rw[h,List.length_append];omega
theorem HY {R:Ty->Vl->List UInt8} {s:Sc} {fs:List Fl} {F:List (Int×Vl)} {i:Nat} {g:Fl} (h:fs[i]? = some g):dT R s (fs.take (i+1)) F=dT R s (fs.take i) F++tD R s F g:=by
 unfold dT;rw[dB h,List.flatMap_append];simp
theorem MK {s:Sc} (hd:Dg s) {N:Nat} (hN:N<=8) {t:Ty} {v:Vl} (h6:(t.k==6)=true) (h0:cT s t v=0) (hh:∀x∈v.f,x.2.h<=N):(dT (bO s N) s (stOf s t).fs v.f).length<=4000000000000000000:=by
 obtain ⟨_,_,_,_,h2⟩:=(i6 h0).st h6
 have hl:=(hd.ni.stOf t).l
 have hB:=jP hN
 have h5:(dT (bO s N) s (stOf s t).fs v.f).length<=(stOf s t).fs.length*(20+eB N):=qC fun g hg=>MU hd hg fun x hx=>fT hd N _ x.2 (hh x hx) (h2 x hx)
 have h6:(stOf s t).fs.length*(20+eB N)<=16*(20+eB N):=Nat.mul_le_mul_right _ hl
 omega
theorem s3 {N:Nat} (hE:Meets Tryz.prog 48 (j8 N).sp):Meets Tryz.prog 26 (NC N).sp:=by
 refine aF Tryz.func26 aWO 3 (by rw[Tryz.ntmps26];decide) (aC aBU (aC X2 (aG KS (aG AQ (aG hE (aG M1 (aB _))))))) TJ ?_
 intro av H K h
 obtain ⟨s,u,v,rfl,rfl,hs,hu,hv,⟨hd,hN,hh,t,hto,h6,htu,h0⟩,hK⟩:=aCE h
 clear h
 have hlen:=MK hd hN h6 h0 hh
 have hc:=i6 h0
 obtain ⟨_,_,_,_,hck⟩:=hc.st h6
 have hkk:v.k=6:=by rw[hc.kk];exact eq_of_beq h6
 have hnst:=hd.ni.stOf t
 have hul:=hnst.l
 have hfl:∀g∈u.fs,kT (stOf s t) g.num=g:=fun g hg=>kF hd (by rw[htu];exact hg)
 rw[htu] at hlen hck hnst hfl hul
 have k6:=dQ hs
 have k7:=gV s
 simp(maxSteps:=9^6)-dsimp only[go_sem,aD,aH,aJ v,aHO,aJK]
 refine aL (α:=Nat) (fun i=>[(3,.va (.c1 (.pt 0 0))),(5,.va (.c1 (.pt 2 0))),(7,tS (mk (dT (bO s N) s (u.fs.take i) v.f))),(13,.va (.c1 (.fz (u.fs.map aS)))),(14,iS .i64 u.fs.length),(15,iS .i64 i)])
  (fun _=>[.cells [.vl (.int .i64 s.ver),.fz (s.es.map aZ),.fz (s.ss.map aH)] 25,.cells [.vl (.string u.nm),.fz (u.fs.map aS)] 48,.cells [.vl (.int .i64 v.k),.vl (.int .i64 v.n),.vl (.string v.s),.fz (v.l.map aP),.fz (v.f.map bD)] 29])
  (fun i=>i<=u.fs.length) (fun i=>u.fs.length-i) 0 3 (Nat.zero_le _) ?_ ?_ ?_
 · simp -dsimp only[go_sem]<;>simp[dT]
 · simp -dsimp only[go_sem]<;>simp
 intro i hi
 rcases bB i u.fs.length with hlt|hge
 · have hg:decide ((i:Int)<(u.fs.length:Int))=true:=by simp;omega
   have hx:u.fs[i]? = some u.fs[i]:=aU hlt
   have q2:=aT (row:=aS) hx
   have hgm:=List.getElem_mem hlt
   have hgo:=(hu.fs _ hgm).ty
   have hnx:=HY (R:=bO s N) (s:=s) (F:=v.f) hx
   have hl1:=JT (bO s N) s u.fs v.f (i+1)
   have hgf:=hfl _ hgm
   generalize u.fs[i]=g at *
   rw[hnx] at hl1
   rw[mA] at hnx hl1
   unfold kX at hnx hl1
   simp(maxSteps:=9^6)-dsimp only[go_sem,hg,↓q2,aS]
   refine ⟨by omega,HG hv hkk ?_⟩
   cases hvf:bR v.f g.num with
   |none=>
    rw[hvf] at hnx
    have hnx:dT (bO s N) s (u.fs.take (i+1)) v.f=dT (bO s N) s (u.fs.take i) v.f:=by rw[hnx];exact List.append_nil _
    simp(maxSteps:=9^6)-dsimp only[go_sem,Option.map_none,Option.getD_none,Option.isSome_none,vW]
    refine aA rfl (.done ?_)
    simp(maxSteps:=9^6)-dsimp only[go_sem,tE,Bool.false_and,Bool.not_false,Bool.not_true,Bool.true_or]
    refine ⟨by omega,aE (i+1) 3 (by omega) (by omega) ?_ ?_⟩
    · simp -dsimp only[go_sem,hnx]<;>simp
    · simp -dsimp only[go_sem]<;>simp
   |some x=>
    obtain ⟨hxm,hxe⟩:=nA hvf
    have hxo:=hv.f x hxm
    have hxc:=hck x hxm
    rw[hxe,hgf] at hxc
    have hxh:=hh x hxm
    rw[hvf] at hnx hl1
    simp only[Option.isSome_some,Bool.not_true,Bool.false_or,Option.map_some,Option.getD_some] at hnx hl1 ⊢
    have k1:=cY hxo
    have k2:=gD x.2
    have k4:=gL hgo
    have k5:=lM g.ty
    have k8:A1 N s g.ty x.2=True:=eq_true ⟨hd,hN,hxh,hxc⟩
    have hvl:=hT g.num
    have k9:=fT hd N g.ty x.2 hxh hxc
    have k10:=jP hN
    have k11:=lK (bO s N g.ty x.2)
    have k12:((bO s N g.ty x.2).length<=9223372036854775797)=True:=eq_true (by omega)
    simp(maxSteps:=9^6)-dsimp only[go_sem,aJ x.2]
    refine aA rfl (.done ?_)
    cases ho:g.opt with
    |true=>
     simp(maxSteps:=9^6)-dsimp only[go_sem,tE,Bool.true_and,Bool.false_and,Bool.not_false,Bool.not_true,Bool.or_false,Bool.false_or]
     rw[ho] at hnx hl1
     simp only[Bool.not_true,Bool.false_and,cond_false,List.length_append] at hnx hl1
     refine aA rfl (.done ?_)
     simp(maxSteps:=9^6)-dsimp only[go_sem,A3,j8,iL,iT,d9,k1,k2,k4,k5,k6,k7,k8,k12,List.take_succ_cons,List.take_zero,List.length_cons,List.length_nil]
     refine ⟨by omega,by omega,by omega,aE (i+1) 3 (by omega) (by omega) ?_ ?_⟩
     · simp -dsimp only[go_sem,hnx,k2,k5,k7,d9]<;>simp
     · simp -dsimp only[go_sem]<;>simp
    |false=>
     rw[ho] at hnx hl1
     simp only[Bool.not_false,Bool.true_and] at hnx hl1
     simp(maxSteps:=9^6)-dsimp only[go_sem,tE,Bool.true_and,Bool.false_and,Bool.not_false,Bool.not_true,Bool.or_false,Bool.false_or]
     refine BM hs hgo ?_
     have hzo:=oC hs 23 g.ty hgo
     generalize zF s 23 g.ty=z at *
     have kz1:=cY hzo
     have kz2:=gD z
     cases he:dA x.2 z with
     |true=>
      rw[he,cond_true,List.append_nil] at hnx
      simp(maxSteps:=9^6)-dsimp only[go_sem,aJ z,k1,k2,kz1,kz2,he,List.take_succ_cons,List.take_zero,List.length_cons,List.length_nil]
      refine ⟨by omega,aE (i+1) 3 (by omega) (by omega) ?_ ?_⟩
      · simp -dsimp only[go_sem,hnx]<;>simp
      · simp -dsimp only[go_sem]<;>simp
     |false=>
      rw[he] at hnx hl1
      simp only[cond_false,List.length_append] at hnx hl1
      simp(maxSteps:=9^6)-dsimp only[go_sem,aJ z,k1,k2,kz1,kz2,he,List.take_succ_cons,List.take_zero,List.length_cons,List.length_nil]
      refine aA rfl (.done ?_)
      simp(maxSteps:=9^6)-dsimp only[go_sem,A3,j8,iL,iT,d9,k1,k2,k4,k5,k6,k7,k8,k12,List.take_succ_cons,List.take_zero,List.length_cons,List.length_nil]
      refine ⟨by omega,by omega,by omega,aE (i+1) 3 (by omega) (by omega) ?_ ?_⟩
      · simp -dsimp only[go_sem,hnx,k2,k5,k7,d9]<;>simp
      · simp -dsimp only[go_sem]<;>simp
 · have hg:decide ((i:Int)<(u.fs.length:Int))=false:=by simp;omega
   rw[List.take_of_length_le hge] at *
   simp(maxSteps:=9^6)-dsimp only[go_sem,hg]
   refine .z (?_)
   simp -dsimp only[go_sem]
   exact hK
abbrev PK (o:List UInt8):B:=.cells [.vl (.string (mk o))] 9
def aIT (N:Nat):W.Spec:=fun av H K=>∃(s:Sc) (t u:Ty) (v:Vl) (o:List UInt8),av=[.va (.gs (aP v)),.va (.c1 (.pt 0 0)),.va (.c1 (.pt 1 0)),.va (.c1 (.pt 2 0))]/\H=[PK o,.cells (aD s) 25,.cells (aQ t) 42]/\
 t.e=[u]/\s.fit/\TyOk u/\VlOk v/\A1 N s u v/\o.length<=4000000000000000000/\K (.tu []) [PK (o++mP (bO s N u v)),.cells (aD s) 25,.cells (aQ t) 42]
theorem aE9 {N:Nat} {s:Sc} {t u:Ty} {v:Vl} {o:List UInt8} {K:S->Hp->Prop} (h1:t.e=[u]) (h2:s.fit) (h3:TyOk u) (h4:VlOk v) (h5:A1 N s u v) (h6:o.length<=4000000000000000000)
 (hK:K (.tu []) [PK (o++mP (bO s N u v)),.cells (aD s) 25,.cells [.vl (.int .i64 t.k),.vl (.int .i64 t.s),.vl (.string t.n),.fz (t.e.map aQ)] 42]) :
 aIT N [.va (.gs [.vl (.int .i64 v.k),.vl (.int .i64 v.n),.vl (.string v.s),.fz (v.l.map aP),.fz (v.f.map bD)]),.va (.c1 (.pt 0 0)),.va (.c1 (.pt 1 0)),.va (.c1 (.pt 2 0))]
  [PK o,.cells [.vl (.int .i64 s.ver),.fz (s.es.map aZ),.fz (s.ss.map aH)] 25,.cells [.vl (.int .i64 t.k),.vl (.int .i64 t.s),.vl (.string t.n),.fz (t.e.map aQ)] 42] K:=
 ⟨s,t,u,v,o,by rw[aJ],by rw[aR];rfl,h1,h2,h3,h4,h5,h6,by rw[aR];exact hK⟩
theorem S2 {N:Nat} (hE:Meets Tryz.prog 48 (j8 N).sp):Meets Tryz.prog 85 (aIT N):=by
 refine aF Tryz.func85 aS6 4 (by rw[Tryz.ntmps85];decide) (aG hE (aG M1 (aB _))) (fun av H K h=>by obtain ⟨_,_,_,_,_,rfl,_⟩:=h;rfl) ?_
 rintro av H K ⟨s,t,u,v,o,rfl,rfl,he,hs,hu,hv,hp,ho,hK⟩
 have hd:=hp.1
 have k1:=cY hv
 have k2:=gD v
 have k4:=gL hu
 have k5:=lM u
 have k6:=dQ hs
 have k7:=gV s
 have k8:A1 N s u v=True:=eq_true hp
 have k9:=fT hd N u v hp.2.2.1 hp.2.2.2
 have k10:=jP hp.2.1
 have k11:=lK (bO s N u v)
 have k12:((bO s N u v).length<=9223372036854775797)=True:=eq_true (by omega)
 have z0:(0:Int)<((1:Nat):Int):=by decide
 have z1:(0:Int)<=0:=by decide
 simp(maxSteps:=9^6)-dsimp only[go_sem,aD,aR t,aJ v,he,aR u,aJU,aH5,j8,k1,k2,k4,k5,k6,k7,k8,k12,forall_eq',z0,z1,List.length_cons,List.length_nil,List.take_succ_cons,List.take_zero]
 refine ⟨by omega,.sel [0,1,2] (by simp) (by simp) rfl (.done ?_)⟩
 simp -dsimp only[aD,aR t,he,List.map_cons,List.map_nil,aR u] at hK
 simp -dsimp only[go_sem]
 exact hK
abbrev e1V:S:=.va (.c1 (.fn 85 [(false,[.pt 3 0]),(false,[.pt 0 0]),(false,[.pt 1 0])]))
theorem JC (R:Ty->Vl->List UInt8) (t:Ty) (l:List Vl) (i:Nat):(jI R t (l.take i)).length<=(jI R t l).length:=by
 have h:jI R t l=jI R t (l.take i)++jI R t (l.drop i):=by unfold jI;rw[<-List.flatMap_append,List.take_append_drop]
 rw[h,List.length_append];omega
theorem G5 {R:Ty->Vl->List UInt8} {t:Ty} {l:List Vl} {i:Nat} {x:Vl} (h:l[i]? = some x):jI R t (l.take (i+1))=jI R t (l.take i)++mP (R t x):=by
 unfold jI;rw[dB h,List.flatMap_append];simp
theorem LD {s:Sc} (hd:Dg s) {N:Nat} (hN:N<=8) {u:Ty} {l:List Vl} (h:∀x∈l,x.h<=N/\cT s u x=0) (hl:l.length<=32):(jI (bO s N) u l).length<=3000000000000000000:=by
 have hB:=jP hN
 have h5:(jI (bO s N) u l).length<=l.length*(10+eB N):=qC fun x hx=>by
  have:=fT hd N u x (h x hx).1 (h x hx).2
  have:=lK (bO s N u x)
  omega
 have h6:l.length*(10+eB N)<=32*(10+eB N):=Nat.mul_le_mul_right _ hl
 omega
theorem xG:∀N,Meets Tryz.prog 48 (j8 N).sp
 |0=>⟨by kernel_rfl,by rintro xs vs E ro w K _ _ _ h;obtain ⟨_,_,v,_,_,_,_,_,h,_⟩:=fV h;have:=v.h_pos;have h2:=h.2.2.1;omega⟩
 |N+1=>by
  refine aF Tryz.func48 aWJ 3 (by rw[Tryz.ntmps48];decide) (aG AQ (aG aMW (aC (S2 (xG N)) (aC lL (aG (s3 (xG N)) (aB _)))))) iV ?_
  intro av H K h
  obtain ⟨s,t,v,rfl,rfl,hs,ht,hv,⟨hd,hN,hh,h0⟩,hK⟩:=fV h
  clear h
  have fin:∀(x:List UInt8) (R:Hp),bO s (N+1) t v=x->W.Fin 0 K (tS (mk x)) R:=fun x R h=>by
   rw[h] at hK;exact .z ((by simpa[go_sem] using hK))
  clear hK
  have hc:=i6 h0
  have hvn:=hv.n
  have k1:=cY hv
  have k2:=gD v
  have k6:=dQ hs
  have k7:=gV s
  rw[dL] at fin
  simp(maxSteps:=9^6)-dsimp only[go_sem,aD,aR t,aJ v,aFO,aKI]
  refine aA rfl (.done ?_)
  cases c1:t.k==1||(t.k==3||t.k==7) with
  |true=>
   rw[c1,cond_true] at fin
   have go:∀b1 b3 b7:Bool,(t.k==1)=b1->(t.k==3)=b3->(t.k==7)=b7->(b1||(b3||b7))=true:=fun b1 b3 b7 h1 h3 h7=>by rw[<-h1,<-h3,<-h7];exact c1
   cases q1:t.k==1<;>cases q3:t.k==3<;>cases q7:t.k==7<;>first
    |exact absurd (go _ _ _ q1 q3 q7) (by decide)
    | (simp(maxSteps:=9^6)-dsimp only[go_sem,nO,q1,q3,q7,iL,iT,d9]
       exact fin _ _ rfl)
  |false=>
  have c1':=c1
  rw[Bool.or_eq_false_iff,Bool.or_eq_false_iff] at c1'
  rw[c1,cond_false] at fin
  cases c2:t.k==2 with
  |true=>
   rw[c2,cond_true] at fin
   simp(maxSteps:=9^6)-dsimp only[go_sem,nO,c1'.1,c1'.2.1,c1'.2.2,c2,hvn]
   exact fin _ _ rfl
  |false=>
  rw[c2,cond_false] at fin
  cases c4:t.k==4 with
  |true=>
   rw[c4,cond_true] at fin
   simp(maxSteps:=9^6)-dsimp only[go_sem,nO,c1'.1,c1'.2.1,c1'.2.2,c2,c4]
   have:=fin (bl v.s)
   rw[gW] at this
   exact this _ rfl
  |false=>
  rw[c4,cond_false] at fin
  cases c5:t.k==5 with
  |true=>
   rw[c5,cond_true] at fin
   obtain ⟨u,he,hu⟩:=rV hc.va c5
   have hto:=ht.e u (by rw[he];exact List.mem_singleton.2 rfl)
   obtain ⟨_,_,_,e4,e5⟩:=hc.ls c5
   have h32:=(kH hc.va).2 c5
   rw[he] at fin e5
   simp only[List.headD_cons] at fin e5
   have hxs:∀x∈v.l,x.h<=N/\cT s u x=0:=fun x hx=>⟨by have:=Vl.h_l hx;omega,e5 x hx⟩
   have hlen:=LD hd (N:=N) (by omega) hxs (by omega)
   have hvl:=hT v.l.length
   simp(maxSteps:=9^6)-dsimp only[go_sem,nO,c1'.1,c1'.2.1,c1'.2.2,c2,c4,c5]
   refine aA rfl (.done ?_)
   simp(maxSteps:=9^6)-dsimp only[go_sem,B7,iL,iT,d9]
   refine aL (α:=Nat) (fun i=>[(3,.va (.c1 (.pt 0 0))),(4,.va (.c1 (.pt 1 0))),(7,.va (.c1 (.pt 3 0))),(8,e1V),(41,.va (.c1 (.fz (v.l.map aP)))),(42,iS .i64 v.l.length),(43,iS .i64 i)])
    (fun i=>[.cells [.vl (.int .i64 s.ver),.fz (s.es.map aZ),.fz (s.ss.map aH)] 25,.cells [.vl (.int .i64 t.k),.vl (.int .i64 t.s),.vl (.string t.n),.fz (t.e.map aQ)] 42,.cells [.vl (.int .i64 v.k),.vl (.int .i64 v.n),.vl (.string v.s),.fz (v.l.map aP),.fz (v.f.map bD)] 29,PK (eI v.l.length++jI (bO s N) u (v.l.take i))])
    (fun i=>i<=v.l.length) (fun i=>v.l.length-i) 0 4 (Nat.zero_le _) ?_ ?_ ?_
   · simp -dsimp only[go_sem]<;>simp
   · simp -dsimp only[go_sem]<;>simp[jI]
   intro i hi
   have hlt1:=JC (bO s N) u v.l i
   rcases bB i v.l.length with hlt|hge
   · have hg:decide ((i:Int)<(v.l.length:Int))=true:=by simp;omega
     have hx:v.l[i]? = some v.l[i]:=aU hlt
     have q1:=m0 hx
     have hxm:=List.getElem_mem hlt
     have hxo:=hv.l _ hxm
     have hxp:=hxs _ hxm
     have hnx:=G5 (R:=bO s N) (t:=u) hx
     generalize v.l[i]=x at *
     simp(maxSteps:=9^6)-dsimp only[go_sem,hg,↓q1]
     refine ⟨by omega,aA rfl (.done ?_)⟩
     simp(maxSteps:=9^6)-dsimp only[go_sem,CP]
     refine aE9 he hs hto hxo ⟨hd,by omega,hxp.1,hxp.2⟩ (by rw[List.length_append];omega) ?_
     simp(maxSteps:=9^6)-dsimp only[go_sem,aD]
     refine ⟨by omega,aE (i+1) 4 (by omega) (by omega) ?_ ?_⟩
     · simp -dsimp only[go_sem]<;>simp
     · simp -dsimp only[go_sem,hnx]<;>simp
   · have hg:decide ((i:Int)<(v.l.length:Int))=false:=by simp;omega
     rw[List.take_of_length_le hge] at *
     simp(maxSteps:=9^6)-dsimp only[go_sem,hg]
     refine aA rfl (.done ?_)
     simp(maxSteps:=9^6)-dsimp only[go_sem,DF]
     exact fin _ _ rfl
  |false=>
   rw[c5,cond_false] at fin
   have c6:(t.k==6)=true:=u2 hc.va c1'.1 (by rw[c2,c1'.2.1,c1'.2.2];rfl) c4 c5
   obtain ⟨_,_,_,_,e5⟩:=hc.st c6
   have hst:=eZ hs t
   have k4:=RI hst
   have k5:=aH7 (stOf s t)
   have k8:EsP N s (stOf s t) v=True:=eq_true ⟨hd,by omega,fun x hx=>by have:=Vl.h_f hx;omega,t,ht,c6,rfl,h0⟩
   simp(maxSteps:=9^6)-dsimp only[go_sem,nO,c1'.1,c1'.2.1,c1'.2.2,c2,c4,c5]
   refine aA rfl (.done ?_)
   simp(maxSteps:=9^6)-dsimp only[go_sem,BG]
   refine fU hs ?_
   rw[show (fS s.ss t.n).getD default=stOf s t from rfl]
   generalize stOf s t=w at *
   simp(maxSteps:=9^6)-dsimp only[go_sem,aH]
   refine aA rfl (.done ?_)
   simp(maxSteps:=9^6)-dsimp only[go_sem,BW,NC,k1,k2,k4,k5,k6,k7,k8]
   exact fin _ _ rfl
abbrev b9 (nm:ByteArray):Ty:=.mk 6 0 nm []
theorem RY {nm:ByteArray} (h:nm.size<=9223372036854775807):TyOk (b9 nm):=.mk ⟨by decide,by decide⟩ ⟨by decide,by decide⟩ h (Nat.zero_le _) fun t h=>(by cases h)
def qI (s:Sc) (nm:ByteArray):St×Int:=bif bI s != 0 then (default,bI s) else bif !(cD s.ss nm) then (default,6) else (stOf s (b9 nm),0)
def aES:W.Spec:=fun av H K=>∃(s:Sc) (nm:ByteArray),av=[.va (.gs (aD s)),tS nm]/\H=[]/\s.fit/\K (.tu [.gs (aH (qI s nm).1),iA .i64 (qI s nm).2]) []
theorem RG {s:Sc} {nm:ByteArray} {K:S->Hp->Prop} (h:s.fit) (hK:K (.tu [.gs (aH (qI s nm).1),iA .i64 (qI s nm).2]) []):aES [.va (.gs [.vl (.int .i64 s.ver),.fz (s.es.map aZ),.fz (s.ss.map aH)]),tS nm] [] K:=⟨s,nm,rfl,rfl,h,hK⟩
theorem sF:aH default=[.vl (.string (mk [])),.fz []]:=rfl
theorem MD:Meets Tryz.prog 23 aES:=by
 refine aF Tryz.func23 aWL 2 (by rw[Tryz.ntmps23];decide) (aG aHL (aC lL (aB _))) (fun av H K h=>by obtain ⟨_,_,rfl,_⟩:=h;rfl) ?_
 rintro av H K ⟨s,nm,rfl,rfl,hs,hK⟩
 have fin:∀(u:St) (e:Int) (R:Hp),qI s nm=(u,e)->W.Fin 0 K (.tu [.gs (aH u),iA .i64 e]) R:=fun u e R h=>by
  rw[h] at hK;exact .z ((by simpa[go_sem,aH] using hK))
 clear hK
 unfold qI at fin
 have k6:=dQ hs
 have k7:=gV s
 simp(maxSteps:=9^6)-dsimp only[go_sem,aD,aHX,aHY,k6,k7]
 refine aA rfl (.done ?_)
 cases c1:bI s != 0 with
 |true=>
  rw[c1,cond_true] at fin
  simp(maxSteps:=9^6)-dsimp only[go_sem,y8,c1]
  exact fin _ _ _ rfl
 |false=>
 rw[c1,cond_false] at fin
 simp(maxSteps:=9^6)-dsimp only[go_sem,y8,c1]
 refine aA rfl (.done ?_)
 simp(maxSteps:=9^6)-dsimp only[go_sem,HB]
 refine fU hs ?_
 rw[show (fS s.ss nm).getD default=stOf s (b9 nm) from rfl]
 generalize stOf s (b9 nm)=u at *
 simp(maxSteps:=9^6)-dsimp only[go_sem,aH]
 refine aA rfl (.done ?_)
 cases c2:cD s.ss nm with
 |false=>
  rw[c2,Bool.not_false,cond_true] at fin
  simp(maxSteps:=9^6)-dsimp only[go_sem,y3,Bool.not_false]
  exact fin _ _ _ rfl
 |true=>
  rw[c2,Bool.not_true,cond_false] at fin
  simp(maxSteps:=9^6)-dsimp only[go_sem,y3,Bool.not_true]
  exact fin _ _ _ rfl
def aFX:W.Spec:=fun av H K=>∃nm:ByteArray,av=[tS nm]/\H=[]/\K (.va (.gs (aQ (b9 nm)))) []
theorem R4 {nm:ByteArray} {K:S->Hp->Prop} (hK:K (.va (.gs (aQ (b9 nm)))) []):aFX [tS nm] [] K:=⟨nm,rfl,rfl,hK⟩
theorem KG:Meets Tryz.prog 25 aFX:=by
 refine aF Tryz.func25 aWD 1 (by rw[Tryz.ntmps25];decide) (aB _) (fun av H K h=>by obtain ⟨_,rfl,_⟩:=h;rfl) ?_
 rintro av H K ⟨nm,rfl,rfl,hK⟩
 simp(maxSteps:=9^6)-dsimp only[go_sem,aKD,aE6]
 exact .z ((by simpa[go_sem,aR,Ty.k,Ty.s,Ty.n,Ty.e] using hK))
def I0:W.Spec:=fun av H K=>∃(s:Sc) (nm:ByteArray) (v:Vl),av=[.va (.gs (aD s)),tS nm,.va (.gs (aP v))]/\H=[]/\s.fit/\nm.size<=9223372036854775807/\VlOk v/\K (.tu [tA (mk (oK s nm v).1),iA .i64 (oK s nm v).2]) []
theorem aH3 {s:Sc} {nm:ByteArray} {v:Vl} {K:S->Hp->Prop} (h1:s.fit) (h2:nm.size<=9223372036854775807) (h3:VlOk v) (hK:K (.tu [tA (mk (oK s nm v).1),iA .i64 (oK s nm v).2]) []) :
 I0 [.va (.gs [.vl (.int .i64 s.ver),.fz (s.es.map aZ),.fz (s.ss.map aH)]),tS nm,.va (.gs [.vl (.int .i64 v.k),.vl (.int .i64 v.n),.vl (.string v.s),.fz (v.l.map aP),.fz (v.f.map bD)])] [] K:=⟨s,nm,v,by rw[aJ];rfl,rfl,h1,h2,h3,hK⟩
theorem aC4:Meets Tryz.prog 9 I0:=by
 refine aF Tryz.func9 ok9 3 (by rw[Tryz.ntmps9];decide) (aC MD (aC KG (aG aBY (aG (s3 (xG 8)) (aB _))))) (fun av H K h=>by obtain ⟨_,_,_,rfl,_⟩:=h;rfl) ?_
 rintro av H K ⟨s,nm,v,rfl,rfl,hs,hnm,hv,hK⟩
 have fin:∀(x:List UInt8) (e:Int) (R:Hp),oK s nm v=(x,e)->W.Fin 0 K (.tu [tA (mk x),iA .i64 e]) R:=fun x e R h=>by
  rw[h] at hK;exact .z ((by simpa[go_sem] using hK))
 clear hK
 unfold oK at fin
 have hty:=RY hnm
 have k1:=cY hv
 have k2:=gD v
 have k4:=gL hty
 have k5:=lM (b9 nm)
 have k6:=dQ hs
 have k7:=gV s
 simp(maxSteps:=9^6)-dsimp only[go_sem,aD,aJ v,pc9,rs9]
 refine RG hs ?_
 have hch:qI s nm=bif bI s != 0 then (default,bI s) else bif !(cD s.ss nm) then (default,6) else (stOf s (b9 nm),0):=rfl
 have hst:=eZ hs (b9 nm)
 cases c1:bI s != 0 with
 |true=>
  rw[c1,cond_true] at fin hch
  rw[hch]
  simp(maxSteps:=9^6)-dsimp only[go_sem,sF]
  refine aA rfl (.done ?_)
  simp(maxSteps:=9^6)-dsimp only[go_sem,uF,c1]
  exact fin _ _ _ rfl
 |false=>
 have hd:=zB hs (cU c1)
 rw[c1,cond_false] at fin hch
 cases c2:cD s.ss nm with
 |false=>
  rw[c2,Bool.not_false,cond_true] at fin hch
  rw[hch]
  simp(maxSteps:=9^6)-dsimp only[go_sem,sF]
  refine aA rfl (.done ?_)
  have g:((6:Int) != 0)=true:=rfl
  simp(maxSteps:=9^6)-dsimp only[go_sem,uF,g]
  exact fin _ _ _ rfl
 |true=>
 rw[c2,Bool.not_true,cond_false] at fin hch
 rw[hch]
 cases c3:lA s (b9 nm) v != 0 with
 |true=>
  rw[c3,cond_true] at fin
  generalize stOf s (b9 nm)=w at *
  simp(maxSteps:=9^6)-dsimp only[go_sem,aH]
  refine aA rfl (.done ?_)
  simp(maxSteps:=9^6)-dsimp only[go_sem,uF,bne_self_eq_false]
  refine aA rfl (.done ?_)
  simp(maxSteps:=9^6)-dsimp only[go_sem,GG]
  refine R4 ?_
  simp(maxSteps:=9^6)-dsimp only[go_sem,aR (b9 nm),k1,k2,k4,k5,k6,k7,c3]
  exact fin _ _ _ rfl
 |false=>
  rw[c3,cond_false] at fin
  have hck:=cU c3
  have h0:=(xK hck).1
  have hh:=TL hck
  have q4:=RI hst
  have q5:=aH7 (stOf s (b9 nm))
  have q8:EsP 8 s (stOf s (b9 nm)) v=True:=eq_true ⟨hd,Nat.le_refl _,fun x hx=>by have:=Vl.h_f hx;omega,b9 nm,hty,rfl,rfl,h0⟩
  generalize stOf s (b9 nm)=w at *
  simp(maxSteps:=9^6)-dsimp only[go_sem,aH]
  refine aA rfl (.done ?_)
  simp(maxSteps:=9^6)-dsimp only[go_sem,uF,bne_self_eq_false]
  refine aA rfl (.done ?_)
  simp(maxSteps:=9^6)-dsimp only[go_sem,GG]
  refine R4 ?_
  simp(maxSteps:=9^6)-dsimp only[go_sem,aR (b9 nm),k1,k2,k4,k5,k6,k7,c3]
  refine aA rfl (.done ?_)
  cases c4:decide (2000<((dT (bO s 8) s w.fs v.f).length:Int)) with
  |true=>
   rw[c4,cond_true] at fin
   simp(maxSteps:=9^6)-dsimp only[go_sem,FF,NC,k1,k2,q4,q5,k6,k7,q8,c4]
   exact fin _ _ _ rfl
  |false=>
   rw[c4,cond_false] at fin
   simp(maxSteps:=9^6)-dsimp only[go_sem,FF,NC,k1,k2,q4,q5,k6,k7,q8,c4]
   exact fin _ _ _ rfl
theorem F4 {x:Int} (h0:0<=x) (h:x<18446744073709551616):IntKind.u64.wrap x=x:=by
 have:=jO (n:=x.toNat) (by omega)
 rwa [Int.toNat_of_nonneg h0] at this
theorem T3:Meets Tryz.prog 132 (JV fun n=>.int .u64 (iF n)).sp:=by
 refine aF Tryz.func132 aFU 1 (by rw[Tryz.ntmps132];decide) (aB _) yX ?_
 rintro av H K ⟨⟨h,rfl⟩,hK⟩
 obtain ⟨n,rfl,hn⟩:=kP h
 have hK:K (iS .u64 (iF n)) []:=hK
 clear h
 unfold bT at hn
 unfold iF at hK
 cases c1:decide (n<0) with
 |true=>
  have g1:=of_decide_eq_true c1
  rw[if_pos g1] at hK
  have e1:IntKind.u64.wrap (0-(n+1))=0-(n+1):=F4 (by omega) (by omega)
  have e2:(2*(-(n+1))+1).toNat=((2*(-(n+1))+1).toNat:Int):=rfl
  have e3:((2*(-(n+1))+1).toNat:Int)=2*(0-(n+1))+1:=by omega
  rw[e3] at hK
  simp(maxSteps:=9^6)-dsimp only[go_sem,H0,I8,c1,e1]
  and_intros
  all_goals first|omega|exact .done hK
 |false=>
  have g1:=of_decide_eq_false c1
  rw[if_neg g1] at hK
  have e1:IntKind.u64.wrap n=n:=F4 (by omega) (by omega)
  have e3:((2*n).toNat:Int)=2*n:=by omega
  rw[e3] at hK
  simp(maxSteps:=9^6)-dsimp only[go_sem,H0,I8,c1,e1]
  and_intros
  all_goals first|omega|exact .done hK
theorem aOM:Meets Tryz.prog 93 (JV fun n=>.string (mk (vi (iF n)))).sp:=by
 refine aF Tryz.func93 aOZ 1 (by rw[Tryz.ntmps93];decide) (aG T3 (aG zP (aB _))) yX ?_
 rintro av H K ⟨⟨h,rfl⟩,hK⟩
 obtain ⟨n,rfl,hn⟩:=kP h
 have hK:K (tS (mk (vi (iF n)))) []:=hK
 clear h
 have hz:iF n<18446744073709551616:=by
  unfold bT at hn
  unfold iF
  split<;>omega
 have k1:bT n=True:=eq_true hn
 simp(maxSteps:=9^6)-dsimp only[go_sem,aAT,ZC,k1,Int.toNat_natCast]
 exact ⟨⟨by omega,by omega⟩,.done hK⟩
theorem xD {s:Sc} (hs:s.fit) (t:Ty):∀f∈(stOf s t).fs,TySm f.ty:=by
 unfold stOf
 cases h:fS s.ss t.n with
 |none=>exact fun f hf=>by cases hf
 |some u=>exact (hs.sm u (List.mem_of_find?_eq_some h)).2
def aDW (N:Nat):W.Spec:=fun av H K=>∃(s:Sc) (t:Ty) (n:Nat),av=[.va (.gs (aD s)),.va (.gs (aQ t)),iS .i64 (n:Int)]/\H=[]/\s.fit/\TyOk t/\TySm t/\n<N/\N<=100/\K (.va (.gs (aP (zF s n t)))) []
theorem Q4 {N:Nat} {s:Sc} {t:Ty} {n:Nat} {K:S->Hp->Prop} (h1:s.fit) (h2:TyOk t) (h5:TySm t) (h3:n<N) (h4:N<=100) (hK:K (.va (.gs (aP (zF s n t)))) []):aDW N [.va (.gs [.vl (.int .i64 s.ver),.fz (s.es.map aZ),.fz (s.ss.map aH)]),.va (.gs [.vl (.int .i64 t.k),.vl (.int .i64 t.s),.vl (.string t.n),.fz (t.e.map aQ)]),iS .i64 (n:Int)] [] K:=⟨s,t,n,by rw[aR];rfl,rfl,h1,h2,h5,h3,h4,hK⟩
theorem LN:∀N,Meets Tryz.prog 92 (aDW N)
 |0=>⟨by kernel_rfl,by rintro xs vs E ro w K _ _ _ ⟨_,_,n,_,_,_,_,_,h,_⟩;exact absurd h (Nat.not_lt_zero n)⟩
 |N+1=>by
  refine aF Tryz.func92 aV8 3 (by rw[Tryz.ntmps92];decide) (aG J9 (aC T9 (aC (LN N) (aB _)))) (fun av H K h=>by obtain ⟨_,_,_,rfl,_⟩:=h;rfl) ?_
  rintro av H K ⟨s,t,n,rfl,rfl,hs,ht,htm,hn,hN,hK⟩
  have k4:=gL ht
  have k5:=lM t
  have k6:=dQ hs
  have k7:=gV s
  have fin:∀{v:Vl} (R:Hp),zF s n t=v->W.Fin 0 K (.va (.gs (aP v))) R:=fun {v} R h=>by
   rw[h] at hK;refine .z (?_)
   rw[aJ] at hK ⊢
   simpa[go_sem] using hK
  cases n with
  |zero=>
   have g:decide (((0:Nat):Int)<1)=true:=rfl
   simp(maxSteps:=9^6)-dsimp only[go_sem,aD,aR t,IW,HD,k4,k5,k6,k7,g,Bool.or_true]
   exact fin (v:=.mk 0 0 (mk []) [] []) _ rfl
  |succ n=>
   have g:decide (((n+1:Nat):Int)<1)=false:=by rw[decide_eq_false_iff_not];omega
   have g':((n+1:Nat):Int)-1=n:=by omega
   rw[fR] at fin
   cases h1:valF s.ss s.es t with
   |false=>
    rw[h1,a8] at fin
    simp(maxSteps:=9^6)-dsimp only[go_sem,aD,aR t,IW,HD,g,k4,k5,k6,k7,h1]
    exact fin _ rfl
   |true=>
   rw[h1,bE] at fin
   cases h2:t.k==6 with
   |false=>
    have h2':(t.k != 6)=true:=by rw[bne,h2];rfl
    rw[h2,a8] at fin
    simp(maxSteps:=9^6)-dsimp only[go_sem,aD,aR t,IW,HD,g,k4,k5,k6,k7,h1,h2',Bool.not_true,Bool.or_self]
    exact fin _ rfl
   |true=>
   have h2':(t.k != 6)=false:=by rw[bne,h2];rfl
   rw[h2,bE] at fin
   simp(maxSteps:=9^6)-dsimp only[go_sem,aD,aR t,IW,HD,g,k4,k5,k6,k7,h1,h2',Bool.not_true,Bool.or_self]
   refine fU hs ?_
   rw[show (fS s.ss t.n).getD default=stOf s t from rfl]
   have hok:=eZ hs t
   have hsm:=B6 hs t
   have htsm:=xD hs t
   have hz6:zF s (n+1) t=.mk 6 0 (mk []) [] (zE s n (stOf s t).fs):=by rw[fR,h1,h2];rfl
   rw[hz6,aJ] at hK
   clear hz6 fin
   generalize stOf s t=u at *
   simp(maxSteps:=9^6)-dsimp only[go_sem,aH]
   have hlen:=fun i=>Nat.le_trans (JO s n (u.fs.take i)) (Nat.le_trans (List.length_take_le' i u.fs) hsm)
   refine cM (α:=Nat) (fun i=>[(2,iS .i64 ((n+1:Nat):Int)),(3,.va (.c1 (.pt 0 0))),(4,.va (.c1 (.pt 1 0))),(6,.va (.c1 (.pt 2 0))),(7,.va (.c1 (.pt 3 0))),(8,.va (.c1 (.pt 4 0))),(10,iS .i64 i)])
    (fun i=>[.cells [.vl (.int .i64 s.ver),.fz (s.es.map aZ),.fz (s.ss.map aH)] 25,.cells [.vl (.int .i64 t.k),.vl (.int .i64 t.s),.vl (.string t.n),.fz (t.e.map aQ)] 42,.cells [.vl (.int .i64 0),.vl (.int .i64 0),.vl (.string (mk [])),.vl (.slice none 0 0),.vl (.slice none 0 0)] 29,
      .cells [.vl (.int .i64 t.k),.vl (.int .i64 0),.vl (.string (mk [])),.vl (.slice none 0 0),.sl 5 (zE s n (u.fs.take i)).length] 29,.cells [.vl (.string u.nm),.fz (u.fs.map aS)] 48,.row ((zE s n (u.fs.take i)).map bD) 76 6])
    (fun i=>i<=u.fs.length) (fun i=>u.fs.length-i) (.nilc 3 4 76 6 _ _ rfl rfl (jD 0 6 (Nat.zero_le _) ?_ ?_)) ?_
   · simp -dsimp only[go_sem]<;>simp
   · simp -dsimp only[go_sem]<;>simp[zE]
   intro i hi
   have hli:=hlen i
   rcases bB i u.fs.length with hlt|hge
   · have hg:decide ((i:Int)<(u.fs.length:Int))=true:=by simp;omega
     have hx:u.fs[i]? = some u.fs[i]:=aU hlt
     have q2:=aT (row:=aS) hx
     have hfo:=(hok.fs _ (List.getElem_mem hlt)).ty
     have hfm:=htsm _ (List.getElem_mem hlt)
     generalize u.fs[i]=f at *
     have hz:=MG (s:=s) (n:=n) hx
     cases ho:f.opt with
     |true=>
      rw[ho,bE] at hz
      simp(maxSteps:=9^6)-dsimp only[go_sem,hg,↓q2,aS,ho,List.take_succ_cons,List.take_zero,List.length_cons,Bool.not_true]
      refine ⟨⟨by omega,by omega⟩,⟨by omega,by omega⟩,aE (i+1) 6 (by omega) (by omega) ?_ ?_⟩
      · simp -dsimp only[go_sem]<;>simp
      · simp -dsimp only[go_sem,hz]<;>simp
     |false=>
      rw[ho,a8] at hz
      simp(maxSteps:=9^6)-dsimp only[go_sem,hg,↓q2,aS,ho,List.take_succ_cons,List.take_zero,List.length_cons,Bool.not_false,g']
      refine ⟨⟨by omega,by omega⟩,⟨by omega,by omega⟩,⟨by omega,by omega⟩,⟨by omega,by omega⟩,Q4 hs hfo hfm (by omega) (by omega) ?_⟩
      generalize zF s n f.ty=v at *
      simp(maxSteps:=9^6)-dsimp only[go_sem,aJ v]
      refine ⟨⟨by omega,by omega⟩,by omega,⟨by omega,by omega⟩,aE (i+1) 6 (by omega) (by omega) ?_ ?_⟩
      · simp -dsimp only[go_sem]<;>simp
      · simp -dsimp only[go_sem,hz]<;>simp[bD,aJ v]
   · have hg:decide ((i:Int)<(u.fs.length:Int))=false:=by simp;omega
     rw[List.take_of_length_le hge] at *
     have h6:t.k=6:=eq_of_beq h2
     simp(maxSteps:=9^6)-dsimp only[go_sem,hg,h6]
     refine .pub 5 _ _ _ rfl (.sel [] (by simp) (by simp[b5]) rfl (.done ?_))
     simp -dsimp only[go_sem,b5]
     exact hK
theorem l6 {s:Sc} (hd:Dg s):∀(M n m:Nat) (t:Ty),fK s t<M->M<=n->M<=m->zF s n t=zF s m t
 |0,_,_,t,h,_,_=>by have:=eE s t;omega
 |M+1,n,m,t,h,hn,hm=>by
  obtain ⟨n,rfl⟩:∃k,n=k+1:=⟨n-1,by omega⟩
  obtain ⟨m,rfl⟩:∃k,m=k+1:=⟨m-1,by omega⟩
  rw[fR,fR]
  cases h1:valF s.ss s.es t with
  |false=>rfl
  |true=>
  cases h2:t.k==6 with
  |false=>rfl
  |true=>
   have hst:=fX hd h1 h2
   have hfd:=jS (s:=s) h2
   have he:zE s n (stOf s t).fs=zE s m (stOf s t).fs:=by
    unfold zE
    refine List.map_congr_left fun f hf=>?_
    have hf:=(List.mem_filter.1 hf).1
    have h7:=hst.2.2 f hf
    rw[l6 hd M n m f.ty (by omega) (by omega) (by omega)]
   rw[he]
def y9:W.Spec:=fun av H K=>∃(s:Sc) (t:Ty),av=[.va (.gs (aD s)),.va (.gs (aQ t))]/\H=[]/\s.fit/\TyOk t/\TySm t/\K (.va (.gs (aP (zF s 12 t)))) []
theorem CU {s:Sc} {t:Ty} {K:S->Hp->Prop} (h1:s.fit) (h2:TyOk t) (h3:TySm t) (hK:K (.va (.gs (aP (zF s 12 t)))) []):y9 [.va (.gs [.vl (.int .i64 s.ver),.fz (s.es.map aZ),.fz (s.ss.map aH)]),.va (.gs [.vl (.int .i64 t.k),.vl (.int .i64 t.s),.vl (.string t.n),.fz (t.e.map aQ)])] [] K:=⟨s,t,by rw[aR];rfl,rfl,h1,h2,h3,hK⟩
theorem PF:Meets Tryz.prog 51 y9:=by
 refine aF Tryz.func51 aT4 2 (by rw[Tryz.ntmps51];decide) (aC (LN 13) (aB _)) (fun av H K h=>by obtain ⟨_,_,rfl,_⟩:=h;rfl) ?_
 rintro av H K ⟨s,t,rfl,rfl,hs,ht,htm,hK⟩
 simp(maxSteps:=9^6)-dsimp only[go_sem,aD,aR t,aEG,aDP]
 refine Q4 (n:=12) hs ht htm (by decide) (by decide) ?_
 rw[aJ] at hK ⊢
 simp(maxSteps:=9^6)-dsimp only[go_sem]
 refine .z (?_)
 simp -dsimp only[go_sem]
 exact hK
def HE:PC:=.seq (.gh (.reg [.v 25 8,.v 26 10,.q 27 (.bin .eql true (.t 25) (.t 26)),.v 28 27,⟨some 29,(some (28,true)),.l (.ldn 5 (.t 7))⟩,⟨some 30,(some (28,true)),.l (.ldn 5 (.t 9))⟩,⟨some 31,(some (28,true)),.cq 14 [(.t 29),(.t 30)]⟩,.a 32 (.pick (.t 28) (.t 31) (.k (.bool false))),.v 33 32,⟨some 34,(some (33,true)),.cq 11 []⟩,.a 35 (.pick (.t 33) (.t 34) (.k (.bool false))),.v 6 35])) .ret
@[go_sem ↓] theorem aWH:aM HE:=aN _
def H8:PC:=.seq (.gh (.reg [.l 19 (.ldn 3 (.t 3)),.v 20 1,.v 21 2,.a 22 (.cl 13 [(.t 19),(.t 20),(.t 21)] []),.v 18 22,.q 23 (.ex (.t 18) 0),.q 24 (.ex (.t 18) 1),.e 9 (.al (.agg cS) 29),.s (.st 5 (.t 9) (.t 23)),.v 10 24])) (HE)
@[go_sem ↓] theorem aWF:aM H8:=aN _
def aFY:PC:=.seq (.reg [.e 3 (.bx 25 (.t 0)),.q 6 (.mv (.k (.bool false)))]) (.seq (.reg [.l 12 (.ldn 3 (.t 3)),.v 13 1,.v 14 2,.a 15 (.cl 12 [(.t 12),(.t 13),(.t 14)] []),.v 11 15,.q 16 (.ex (.t 11) 0),.q 17 (.ex (.t 11) 1),.e 7 (.al (.agg cS) 29),.s (.st 5 (.t 7) (.t 16)),.v 8 17]) (H8))
def aDO:List RV:=[.mv (.t 6)]
theorem aS1:aO Tryz.prog true ⟨fun r k=>if r=3/\k=6 then .q else if r=3/\k=9 then .q else .own [],fun r=>[2,3].contains r⟩ Tryz.f4=some (aFY,aDO):=by kernel_rfl
def pM:PC:=.seq (.gh (.reg [.v 14 8,.q 15 (.bin .neq true (.t 14) (.i 0))])) (.cond (.t 15) (.seq (.reg [.q 16 (.bd [(.int .i64 0),(.int .i64 0),(.string (mk [])),(.slice none 0 0),(.slice none 0 0)] []),.v 17 8,.s (.st 5 (.t 6) (.t 16)),.v 7 17]) .ret) .skip)
@[go_sem ↓] theorem aQI:aM pM:=aN _
def B4:PC:=.seq (.gh (.reg [.l 23 (.ldn 3 (.t 3)),.v 24 1,.v 25 2,.a 26 (.cl 31 [(.t 23),(.t 24),(.t 25)] []),.v 22 26,.q 27 (.ex (.t 22) 0),.q 28 (.ex (.t 22) 1),.e 9 (.al (.agg cS) 29),.s (.st 5 (.t 9) (.t 27)),.v 10 28])) (.seq (.seq (.reg [.v 29 10,.q 30 (.bin .neq true (.t 29) (.i 0))]) (.cond (.t 30) (.seq (.reg [.q 31 (.bd [(.int .i64 0),(.int .i64 0),(.string (mk [])),(.slice none 0 0),(.slice none 0 0)] []),.v 32 10,.s (.st 5 (.t 6) (.t 31)),.v 7 32]) .ret) .skip)) (.seq (.reg [.l 33 (.ldn 5 (.t 9)),.s (.st 5 (.t 6) (.t 33)),.q 7 (.mv (.i 0))]) .ret))
@[go_sem ↓] theorem aRW:aM B4:=aN _
def u3:PC:=.seq (.seq (.gh (.reg [.v 18 2,.q 19 (.lnS (.t 18)),.q 20 (.bin .gtr true (.t 19) (.i 2000))])) (.cond (.t 20) (.seq (.reg [.q 21 (.bd [(.int .i64 0),(.int .i64 0),(.string (mk [])),(.slice none 0 0),(.slice none 0 0)] []),.s (.st 5 (.t 6) (.t 21)),.q 7 (.mv (.i 3))]) .ret) .skip)) (B4)
@[go_sem ↓] theorem aQ9:aM u3:=aN _
def YQ:PC:=.seq (.reg [.e 3 (.bx 25 (.t 0)),.e 6 (.al (.agg cS) 29),.q 7 (.mv (.i 0))]) (.seq (.seq (.reg [.l 11 (.ldn 3 (.t 3)),.v 12 1,.a 13 (.cq 27 [(.t 11),(.t 12)]),.v 8 13]) (pM)) (u3))
def WB:List RV:=[.ld (.ldn 5 (.t 6)),.mv (.t 7)]
theorem aL9:aO Tryz.prog true ⟨fun r k=>if r=1/\k=2 then .q else .own [],fun r=>[2,4,6].contains r⟩ Tryz.f13=some (YQ,WB):=by kernel_rfl
def oS:List OJ:=[.rc ⟨some 74,(some (73,true)),.q (.fa 1 (.t 13))⟩,.rc ⟨some 75,(some (73,true)),.l (.ld1 (.t 74))⟩,.rc ⟨some 76,(some (73,true)),.l (.ldn 3 (.t 3))⟩,.rc ⟨some 77,(some (73,true)),.q (.fa 2 (.t 16))⟩,.rc ⟨some 78,(some (73,true)),.l (.ldn 4 (.t 77))⟩,.m ⟨some 83,(some (73,true)),.cq 52 [(.t 76),(.t 78),(.t 82)]⟩,.rc ⟨some 74,(some (73,true)),.q (.fa 1 (.t 13))⟩,.rc ⟨some 75,(some (73,true)),.l (.ld1 (.t 74))⟩,.q ⟨some 84,(some (73,true)),.q (.bin .eql true (.t 75) (.t 83))⟩,.q (.a 85 (.pick (.t 73) (.t 84) (.k (.bool false))))]
def rI:PC:=.gh (.reg [.l 87 (.ldn 5 (.t 10)),.q 88 (.fa 0 (.t 13)),.l 89 (.ld1 (.t 88)),.l 90 (.ldn 5 (.t 18)),.a 91 (.cl 57 [(.t 87),(.t 89),(.t 90)] []),.s (.st 5 (.t 10) (.t 91))])
@[go_sem ↓] theorem aO8:aM rI:=aN _
def sC:PC:=.seq (.seq (.gh (.ord  (.q (.q 70 (.fa 6 (.t 16)))::.q (.l 71 (.ld1 (.t 70)))::.q (.q 72 (.not (.t 71)))::.q (.v 73 72)::.q ⟨some 74,(some (73,true)),.q (.fa 1 (.t 13))⟩::.q ⟨some 75,(some (73,true)),.l (.ld1 (.t 74))⟩::.q ⟨some 76,(some (73,true)),.l (.ldn 3 (.t 3))⟩::.q ⟨some 77,(some (73,true)),.q (.fa 2 (.t 16))⟩::.q ⟨some 78,(some (73,true)),.l (.ldn 4 (.t 77))⟩::.q ⟨some 79,(some (73,true)),.l (.ldn 3 (.t 3))⟩::.q ⟨some 80,(some (73,true)),.q (.fa 2 (.t 16))⟩::.q ⟨some 81,(some (73,true)),.l (.ldn 4 (.t 80))⟩::.m ⟨some 82,(some (73,true)),.cl 51 [(.t 79),(.t 81)] []⟩::oS))) (.cond (.t 85) (.seq (.reg [.l 86 (.ldn 5 (.t 10)),.s (.st 5 (.t 6) (.t 86)),.q 7 (.mv (.i 2))]) .ret) .skip)) (rI)
@[go_sem ↓] theorem aMI:aM sC:=aN _
def rH:PC:=.seq (.seq (.gh (.reg [.v 66 15,.q 67 (.bin .neq true (.t 66) (.i 0))])) (.cond (.t 67) (.seq (.reg [.l 68 (.ldn 5 (.t 10)),.v 69 15,.s (.st 5 (.t 6) (.t 68)),.v 7 69]) .ret) .skip)) (sC)
@[go_sem ↓] theorem aLO:aM rH:=aN _
def yC:PC:=.seq (.gh (.reg [.l 58 (.ldn 3 (.t 3)),.q 59 (.fa 2 (.t 16)),.l 60 (.ldn 4 (.t 59)),.q 61 (.fa 1 (.t 13)),.l 62 (.ld1 (.t 61)),.a 63 (.cl 56 [(.t 58),(.t 60),(.t 62)] []),.v 57 63,.q 64 (.ex (.t 57) 0),.q 65 (.ex (.t 57) 1),.e 18 (.al (.agg cS) 29),.s (.st 5 (.t 18) (.t 64)),.v 15 65])) (rH)
@[go_sem ↓] theorem aNA:aM yC:=aN _
def rB:PC:=.seq (.seq (.gh (.reg [.v 55 17,.q 56 (.not (.t 55))])) (.cond (.t 56) (.exit 1) .skip)) (yC)
@[go_sem ↓] theorem aPJ:aM rB:=aN _
def xI:PC:=.seq (.gh (.reg [.l 49 (.ldn 2 (.t 8)),.q 50 (.fa 0 (.t 13)),.l 51 (.ld1 (.t 50)),.a 52 (.cl 18 [(.t 49),(.t 51)] []),.v 48 52,.q 53 (.ex (.t 48) 0),.q 54 (.ex (.t 48) 1),.e 16 (.al (.agg #[(.int .i64 0),(.string (mk [])),(.int .i64 0),(.int .i64 0),(.string (mk [])),(.slice none 0 0),(.bool false)]) 52),.s (.st 7 (.t 16) (.t 53)),.v 17 54])) (rB)
@[go_sem ↓] theorem aMB:aM xI:=aN _
def wE:PC:=.seq (.seq (.gh (.reg [.v 41 15,.q 42 (.bin .neq true (.t 41) (.i 0))])) (.cond (.t 42) (.seq (.reg [.l 43 (.ldn 5 (.t 10)),.v 44 15,.s (.st 5 (.t 6) (.t 43)),.v 7 44]) .ret) .skip)) (.seq (.reg [.v 45 14,.v 12 45]) (.seq (.reg [.q 46 (.fa 0 (.t 13)),.l 47 (.ld1 (.t 46)),.v 11 47]) (xI)))
@[go_sem ↓] theorem aRK:aM wE:=aN _
def yL:PC:=.seq (.gh (.reg [.l 92 (.ldn 5 (.t 10)),.s (.st 5 (.t 6) (.t 92)),.q 7 (.mv (.i 0))])) .ret
@[go_sem ↓] theorem aN3:aM yL:=aN _
def BB:PC:=.seq (.gh (.reg [.q 11 (.mv (.i 0))])) (.seq (.seq (.reg [.q 12 (.mv (.i 0))]) (.block 0 (.loop (.seq (.seq (.reg [.v 29 12,.v 30 2,.q 31 (.lnS (.t 30)),.q 32 (.bin .lss true (.t 29) (.t 31))]) (.cond (.t 32) .skip (.exit 0))) (.block 1 (.seq (.reg [.v 34 2,.v 35 12,.v 36 11,.a 37 (.cl 35 [(.t 34),(.t 35),(.t 36)] []),.v 33 37,.q 38 (.ex (.t 33) 0),.q 39 (.ex (.t 33) 1),.q 40 (.ex (.t 33) 2),.e 13 (.al (.agg #[(.int .i64 0),(.string (mk []))]) 59),.s (.st 2 (.t 13) (.t 38)),.v 14 39,.v 15 40]) (wE))))))) (yL))
@[go_sem ↓] theorem aPS:aM BB:=aN _
def B3:PC:=.seq (.gh (.reg [.l 25 (.ldn 3 (.t 3)),.v 26 1,.q 27 (.bd [(.int .i64 0),(.int .i64 0),(.string (mk [])),(.slice none 0 0)] [(0,1,(.i 6)),(2,1,(.t 26))]),.a 28 (.cl 51 [(.t 25),(.t 27)] []),.e 10 (.al (.agg cS) 29),.s (.st 5 (.t 10) (.t 28))])) (BB)
@[go_sem ↓] theorem aQX:aM B3:=aN _
def WO:PC:=.seq (.reg [.e 3 (.bx 25 (.t 0)),.e 6 (.al (.agg cS) 29),.q 7 (.mv (.i 0))]) (.seq (.reg [.l 20 (.ldn 3 (.t 3)),.v 21 1,.a 22 (.cl 17 [(.t 20),(.t 21)] []),.v 19 22,.q 23 (.ex (.t 19) 0),.q 24 (.ex (.t 19) 1),.e 8 (.al (.agg #[(.string (mk [])),(.slice none 0 0)]) 48),.s (.st 2 (.t 8) (.t 23)),.v 9 24]) (B3))
def XQ:List RV:=[.ld (.ldn 5 (.t 6)),.mv (.t 7)]
theorem aOU:aO Tryz.prog true ⟨fun r k=>if r=16/\k=13 then .q else .own [],fun r=>[2,3,7,11,12,13,14,16,19,18].contains r⟩ Tryz.f31=some (WO,XQ):=by kernel_rfl
def qW:PC:=.seq (.seq (.gh (.reg [.q 52 (.fa 1 (.t 4)),.l 53 (.ld1 (.t 52)),.q 54 (.bin .lss true (.t 53) (.i 64)),.v 55 54,⟨some 56,(some (55,true)),.q (.mv (.t 9))⟩,⟨some 57,(some (55,true)),.q (.fa 1 (.t 4))⟩,⟨some 58,(some (55,true)),.l (.ld1 (.t 57))⟩,⟨some 59,(some (55,true)),.q (.bin .sub true (.t 58) (.i 1))⟩,⟨some 60,(some (55,true)),.q (.cvt .u64 (.t 59))⟩,⟨some 61,(some (55,true)),.q (.bin .shl true (.i 1) (.t 60))⟩,⟨some 62,(some (55,true)),.q (.neg false (.t 61))⟩,⟨some 63,(some (55,true)),.q (.bin .lss true (.t 56) (.t 62))⟩,⟨some 64,(some (55,true)),.q (.mv (.t 63))⟩,⟨some 65,(some (64,false)),.q (.mv (.t 9))⟩,⟨some 66,(some (64,false)),.q (.fa 1 (.t 4))⟩,⟨some 67,(some (64,false)),.l (.ld1 (.t 66))⟩,⟨some 68,(some (64,false)),.q (.bin .sub true (.t 67) (.i 1))⟩,⟨some 69,(some (64,false)),.q (.cvt .u64 (.t 68))⟩,⟨some 70,(some (64,false)),.q (.bin .shl true (.i 1) (.t 69))⟩,⟨some 71,(some (64,false)),.q (.bin .geq true (.t 65) (.t 70))⟩,⟨some 72,(some (55,true)),.pick (.t 64) (.k (.bool true)) (.t 71)⟩,.a 73 (.pick (.t 55) (.t 72) (.k (.bool false)))])) (.cond (.t 73) (.seq (.reg [.l 74 (.ldn 5 (.t 8)),.s (.st 5 (.t 6) (.t 74)),.q 7 (.mv (.i 4))]) .ret) .skip)) (.seq (.reg [.v 75 9,.q 76 (.fa 1 (.t 8)),.s (.st 1 (.t 76) (.t 75))]) (.seq (.reg [.l 77 (.ldn 5 (.t 8)),.s (.st 5 (.t 6) (.t 77)),.q 7 (.mv (.i 0))]) .ret))
@[go_sem ↓] theorem aMO:aM qW:=aN _
def nJ:PC:=.seq (.seq (.gh (.reg [.v 48 11,.q 49 (.bin .neq true (.t 48) (.i 0))])) (.cond (.t 49) (.seq (.reg [.l 50 (.ldn 5 (.t 8)),.v 51 11,.s (.st 5 (.t 6) (.t 50)),.v 7 51]) .ret) .skip)) (qW)
@[go_sem ↓] theorem aPB:aM nJ:=aN _
def lP:PC:=.seq (.seq (.gh (.reg [.q 91 (.fa 0 (.t 4)),.l 92 (.ld1 (.t 91)),.q 93 (.bin .eql true (.t 92) (.i 3)),.v 94 93,⟨some 95,(some (94,true)),.q (.mv (.t 13))⟩,⟨some 96,(some (94,true)),.q (.fa 1 (.t 4))⟩,⟨some 97,(some (94,true)),.l (.ld1 (.t 96))⟩,⟨some 98,(some (94,true)),.q (.cvt .u64 (.t 97))⟩,⟨some 99,(some (94,true)),.q (.bin .shl true (.k (.int .u64 1)) (.t 98))⟩,⟨some 100,(some (94,true)),.q (.bin .geq true (.t 95) (.t 99))⟩,.a 101 (.pick (.t 94) (.t 100) (.k (.bool false))),.v 102 101,⟨some 103,(some (102,false)),.q (.fa 0 (.t 4))⟩,⟨some 104,(some (102,false)),.l (.ld1 (.t 103))⟩,⟨some 105,(some (102,false)),.q (.bin .eql true (.t 104) (.i 7))⟩,⟨some 106,(some (102,false)),.q (.mv (.t 105))⟩,⟨some 107,(some (106,true)),.l (.ldn 3 (.t 3))⟩,⟨some 108,(some (106,true)),.q (.fa 2 (.t 4))⟩,⟨some 109,(some (106,true)),.l (.ld1 (.t 108))⟩,⟨some 110,(some (106,true)),.q (.mv (.t 13))⟩,⟨some 111,(some (106,true)),.cq 101 [(.t 107),(.t 109),(.t 110)]⟩,⟨some 112,(some (106,true)),.q (.not (.t 111))⟩,⟨some 113,(some (102,false)),.pick (.t 106) (.t 112) (.k (.bool false))⟩,.a 114 (.pick (.t 102) (.k (.bool true)) (.t 113))])) (.cond (.t 114) (.seq (.reg [.l 115 (.ldn 5 (.t 8)),.s (.st 5 (.t 6) (.t 115)),.q 7 (.mv (.i 4))]) .ret) .skip)) (.seq (.reg [.v 116 13,.q 117 (.cvt .i64 (.t 116)),.q 118 (.fa 1 (.t 8)),.s (.st 1 (.t 118) (.t 117))]) (.seq (.reg [.l 119 (.ldn 5 (.t 8)),.s (.st 5 (.t 6) (.t 119)),.q 7 (.mv (.i 0))]) .ret))
@[go_sem ↓] theorem aLK:aM lP:=aN _
def iI:PC:=.seq (.seq (.gh (.reg [.v 87 14,.q 88 (.bin .neq true (.t 87) (.i 0))])) (.cond (.t 88) (.seq (.reg [.l 89 (.ldn 5 (.t 8)),.v 90 14,.s (.st 5 (.t 6) (.t 89)),.v 7 90]) .ret) .skip)) (lP)
@[go_sem ↓] theorem aOE:aM iI:=aN _
def xQ:PC:=.seq (.gh (.reg [.l 139 (.ldn 3 (.t 3)),.q 140 (.fa 2 (.t 4)),.l 141 (.ld1 (.t 140)),.v 142 2,.a 143 (.cl 31 [(.t 139),(.t 141),(.t 142)] []),.q 144 (.ex (.t 143) 0),.q 145 (.ex (.t 143) 1),.s (.st 5 (.t 6) (.t 144)),.v 7 145])) .ret
@[go_sem ↓] theorem aOQ:aM xQ:=aN _
def gN:PC:=.seq (.seq (.gh (.reg [.q 18 (.fa 0 (.t 4)),.l 19 (.ld1 (.t 18))])) (.block 0 (.seq (.reg [.q 21 (.bin .eql true (.t 19) (.i 1)),.v 20 21]) (.cond (.t 20) (.seq (.seq (.reg [.v 22 2,.q 23 (.lnS (.t 22)),.q 24 (.bin .eql true (.t 23) (.i 0))]) (.cond (.t 24) (.seq (.reg [.l 25 (.ldn 5 (.t 8)),.s (.st 5 (.t 6) (.t 25)),.q 7 (.mv (.i 1))]) .ret) .skip)) (.seq (.seq (.reg [.v 26 2,.a 27 (.ix (.t 26) (.i 0)),.q 28 (.bin .gtr true (.t 27) (.k (.int .u8 1))),.v 29 28,⟨some 30,(some (29,false)),.q (.mv (.t 2))⟩,⟨some 31,(some (29,false)),.q (.lnS (.t 30))⟩,⟨some 32,(some (29,false)),.q (.bin .gtr true (.t 31) (.i 1))⟩,.a 33 (.pick (.t 29) (.k (.bool true)) (.t 32))]) (.cond (.t 33) (.seq (.reg [.l 34 (.ldn 5 (.t 8)),.s (.st 5 (.t 6) (.t 34)),.q 7 (.mv (.i 2))]) .ret) .skip)) (.seq (.reg [.v 35 2,.a 36 (.ix (.t 35) (.i 0)),.q 37 (.cvt .i64 (.t 36)),.q 38 (.fa 1 (.t 8)),.s (.st 1 (.t 38) (.t 37))]) (.seq (.reg [.l 39 (.ldn 5 (.t 8)),.s (.st 5 (.t 6) (.t 39)),.q 7 (.mv (.i 0))]) .ret)))) (.seq (.reg [.q 41 (.bin .eql true (.t 19) (.i 2)),.v 40 41]) (.cond (.t 40) (.seq (.reg [.v 43 2,.a 44 (.cl 100 [(.t 43),(.k (.bool true))] []),.v 42 44,.q 45 (.ex (.t 42) 0),.q 46 (.ex (.t 42) 1),.q 47 (.ex (.t 42) 2),.v 9 45,.v 10 46,.v 11 47]) (nJ)) (.seq (.seq (.reg [.q 79 (.bin .eql true (.t 19) (.i 3)),.v 78 79]) (.cond (.t 78) .skip (.reg [.q 80 (.bin .eql true (.t 19) (.i 7)),.v 78 80]))) (.cond (.t 78) (.seq (.reg [.v 82 2,.a 83 (.cl 100 [(.t 82),(.k (.bool false))] []),.v 81 83,.q 84 (.ex (.t 81) 0),.q 85 (.ex (.t 81) 1),.q 86 (.ex (.t 81) 2),.v 12 84,.v 13 85,.v 14 86]) (iI)) (.seq (.reg [.q 121 (.bin .eql true (.t 19) (.i 4)),.v 120 121]) (.cond (.t 120) (.seq (.seq (.reg [.v 122 2,.q 123 (.lnS (.t 122)),.q 124 (.fa 1 (.t 4)),.l 125 (.ld1 (.t 124)),.q 126 (.bin .gtr true (.t 123) (.t 125))]) (.cond (.t 126) (.seq (.reg [.l 127 (.ldn 5 (.t 8)),.s (.st 5 (.t 6) (.t 127)),.q 7 (.mv (.i 3))]) .ret) .skip)) (.seq (.reg [.v 128 2,.q 129 (.fa 2 (.t 8)),.s (.st 1 (.t 129) (.t 128))]) (.seq (.reg [.l 130 (.ldn 5 (.t 8)),.s (.st 5 (.t 6) (.t 130)),.q 7 (.mv (.i 0))]) .ret))) (.seq (.reg [.q 132 (.bin .eql true (.t 19) (.i 5)),.v 131 132]) (.cond (.t 131) (.seq (.reg [.l 133 (.ldn 3 (.t 3)),.l 134 (.ldn 4 (.t 4)),.v 135 2,.a 136 (.cl 102 [(.t 133),(.t 134),(.t 135)] []),.q 137 (.ex (.t 136) 0),.q 138 (.ex (.t 136) 1),.s (.st 5 (.t 6) (.t 137)),.v 7 138]) .ret) .skip)))))))))))) (xQ)
@[go_sem ↓] theorem aQ6:aM gN:=aN _
def ZP:PC:=.seq (.reg [.e 3 (.bx 25 (.t 0)),.e 4 (.bx 42 (.t 1)),.e 6 (.al (.agg cS) 29),.q 7 (.mv (.i 0))]) (.seq (.reg [.q 15 (.fa 0 (.t 4)),.l 16 (.ld1 (.t 15)),.q 17 (.bd [(.int .i64 0),(.int .i64 0),(.string (mk [])),(.slice none 0 0),(.slice none 0 0)] [(0,1,(.t 16))]),.e 8 (.al (.agg cS) 29),.s (.st 5 (.t 8) (.t 17))]) (gN))
def W0:List RV:=[.ld (.ldn 5 (.t 6)),.mv (.t 7)]
theorem aNZ:aO Tryz.prog true ⟨fun r k=>if r=23/\k=20 then .q else .own [],fun r=>[2,12,14,21,23,34].contains r⟩ Tryz.f56=some (ZP,W0):=by kernel_rfl
def lN:PC:=.gh (.reg [.q 78 (.fa 4 (.t 9)),.l 79 (.ld1 (.t 78)),.q 80 (.fa 4 (.t 3)),.l 81 (.ld1 (.t 80)),.v 82 11,.l 83 (.ia 6 (.t 81) (.t 82)),.l 84 (.ldn 6 (.t 83)),.e 85 (.bsl 76 6 [(.t 84)]),.e 86 (.ap 76 6 88 (.t 79) (.t 85)),.q 87 (.fa 4 (.t 9)),.s (.st 1 (.t 87) (.t 86))])
@[go_sem ↓] theorem aNV:aM lN:=aN _
def j4:PC:=.seq (.seq (.gh (.reg [.v 55 10,.q 56 (.not (.t 55)),.v 57 56,⟨some 58,(some (57,true)),.q (.mv (.t 8))⟩,.a 59 (.pick (.t 57) (.t 58) (.k (.bool false))),.v 60 59,⟨some 61,(some (60,true)),.q (.fa 4 (.t 3))⟩,⟨some 62,(some (60,true)),.l (.ld1 (.t 61))⟩,⟨some 63,(some (60,true)),.q (.mv (.t 11))⟩,⟨some 64,(some (60,true)),.l (.ia 6 (.t 62) (.t 63))⟩,⟨some 65,(some (60,true)),.q (.fa 0 (.t 64))⟩,⟨some 66,(some (60,true)),.l (.ld1 (.t 65))⟩,⟨some 67,(some (60,true)),.q (.mv (.t 1))⟩,⟨some 68,(some (60,true)),.q (.bin .eql true (.t 66) (.t 67))⟩,.a 69 (.pick (.t 60) (.t 68) (.k (.bool false)))])) (.cond (.t 69) (.seq (.reg [.q 70 (.fa 4 (.t 9)),.l 71 (.ld1 (.t 70)),.v 72 1,.l 73 (.ldn 5 (.t 5)),.q 74 (.bd [(.int .i64 0),(.int .i64 0),(.int .i64 0),(.string (mk [])),(.slice none 0 0),(.slice none 0 0)] [(0,1,(.t 72)),(1,5,(.t 73))]),.e 75 (.bsl 76 6 [(.t 74)]),.e 76 (.ap 76 6 88 (.t 71) (.t 75)),.q 77 (.fa 4 (.t 9)),.s (.st 1 (.t 77) (.t 76))]) (.seq (.reg [.q 10 (.mv (.k (.bool true)))]) (.exit 1))) .skip)) (lN)
@[go_sem ↓] theorem aNI:aM j4:=aN _
def rZ:PC:=.seq (.gh (.reg [.l 98 (.ldn 5 (.t 9)),.s (.st 5 (.t 6) (.t 98))])) .ret
@[go_sem ↓] theorem aLC:aM rZ:=aN _
def rS:PC:=.seq (.seq (.gh (.reg [.v 88 10,.q 89 (.not (.t 88))])) (.cond (.t 89) (.reg [.q 90 (.fa 4 (.t 9)),.l 91 (.ld1 (.t 90)),.v 92 1,.l 93 (.ldn 5 (.t 5)),.q 94 (.bd [(.int .i64 0),(.int .i64 0),(.int .i64 0),(.string (mk [])),(.slice none 0 0),(.slice none 0 0)] [(0,1,(.t 92)),(1,5,(.t 93))]),.e 95 (.bsl 76 6 [(.t 94)]),.e 96 (.ap 76 6 88 (.t 91) (.t 95)),.q 97 (.fa 4 (.t 9)),.s (.st 1 (.t 97) (.t 96))]) .skip)) (rZ)
@[go_sem ↓] theorem aPL:aM rS:=aN _
def DC:PC:=.seq (.gh (.reg [.l 22 (.ldn 5 (.t 3)),.e 9 (.al (.agg cS) 29),.s (.st 5 (.t 9) (.t 22))])) (.seq (.reg [.q 23 (.fa 4 (.t 9)),.s (.st 1 (.t 23) (.k (.slice none 0 0)))]) (.seq (.reg [.q 10 (.mv (.k (.bool false)))]) (.seq (.seq (.reg [.q 11 (.mv (.i 0))]) (.block 0 (.loop (.seq (.seq (.reg [.v 24 11,.q 25 (.fa 4 (.t 3)),.l 26 (.ld1 (.t 25)),.q 27 (.lnL (.t 26)),.q 28 (.bin .lss true (.t 24) (.t 27))]) (.cond (.t 28) .skip (.exit 0))) (.seq (.block 1 (.seq (.seq (.reg [.v 31 10,.q 32 (.not (.t 31)),.v 33 32,⟨some 34,(some (33,true)),.q (.mv (.t 8))⟩,⟨some 35,(some (33,true)),.q (.not (.t 34))⟩,.a 36 (.pick (.t 33) (.t 35) (.k (.bool false))),.v 37 36,⟨some 38,(some (37,true)),.q (.fa 4 (.t 3))⟩,⟨some 39,(some (37,true)),.l (.ld1 (.t 38))⟩,⟨some 40,(some (37,true)),.q (.mv (.t 11))⟩,⟨some 41,(some (37,true)),.l (.ia 6 (.t 39) (.t 40))⟩,⟨some 42,(some (37,true)),.q (.fa 0 (.t 41))⟩,⟨some 43,(some (37,true)),.l (.ld1 (.t 42))⟩,⟨some 44,(some (37,true)),.q (.mv (.t 1))⟩,⟨some 45,(some (37,true)),.q (.bin .gtr true (.t 43) (.t 44))⟩,.a 46 (.pick (.t 37) (.t 45) (.k (.bool false)))]) (.cond (.t 46) (.seq (.reg [.q 47 (.fa 4 (.t 9)),.l 48 (.ld1 (.t 47)),.v 49 1,.l 50 (.ldn 5 (.t 5)),.q 51 (.bd [(.int .i64 0),(.int .i64 0),(.int .i64 0),(.string (mk [])),(.slice none 0 0),(.slice none 0 0)] [(0,1,(.t 49)),(1,5,(.t 50))]),.e 52 (.bsl 76 6 [(.t 51)]),.e 53 (.ap 76 6 88 (.t 48) (.t 52)),.q 54 (.fa 4 (.t 9)),.s (.st 1 (.t 54) (.t 53))]) (.reg [.q 10 (.mv (.k (.bool true)))])) .skip)) (j4))) (.reg [.v 29 11,.q 30 (.bin .add true (.t 29) (.i 1)),.v 11 30])))))) (rS))))
@[go_sem ↓] theorem aP9:aM DC:=aN _
def VW:PC:=.seq (.reg [.e 3 (.bx 29 (.t 0)),.e 5 (.bx 29 (.t 2)),.e 6 (.al (.agg cS) 29)]) (.seq (.seq (.reg [.q 12 (.fa 0 (.t 3)),.l 13 (.ld1 (.t 12)),.q 14 (.bin .neq true (.t 13) (.i 6))]) (.cond (.t 14) (.seq (.reg [.l 15 (.ldn 5 (.t 3)),.s (.st 5 (.t 6) (.t 15))]) .ret) .skip)) (.seq (.reg [.l 17 (.ldn 5 (.t 3)),.v 18 1,.a 19 (.cl 50 [(.t 17),(.t 18)] []),.v 16 19,.q 20 (.ex (.t 16) 0),.q 21 (.ex (.t 16) 1),.e 7 (.al (.agg cS) 29),.s (.st 5 (.t 7) (.t 20)),.v 8 21]) (DC)))
def aAE:List RV:=[.ld (.ldn 5 (.t 6))]
theorem aNF:aO Tryz.prog true ⟨fun _ _=>.own [],fun r=>[4,13,17,19,16].contains r⟩ Tryz.f57=some (VW,aAE):=by kernel_rfl
def xF:PC:=.gh (.reg [.v 32 10,.v 4 32,.q 5 (.mv (.k (.int .u64 0))),.q 6 (.mv (.i 0))])
@[go_sem ↓] theorem aNH:aM xF:=aN _
def sI:PC:=.seq (.seq (.gh (.reg [.v 25 1])) (.cond (.t 25) (.seq (.reg [.v 27 0,.q 28 (.bd [(.string (mk [])),(.int .i64 0),(.int .i64 0)] [(0,1,(.t 27))]),.a 29 (.cl 140 [(.t 28)] []),.v 26 29,.q 30 (.ex (.t 26) 0),.q 31 (.ex (.t 26) 1),.e 9 (.al (.agg #[(.string (mk [])),(.int .i64 0),(.int .i64 0)]) 108),.s (.st 3 (.t 9) (.t 30)),.v 10 31]) (.seq (xF) .ret)) .skip)) (.seq (.reg [.v 33 8,.q 4 (.mv (.i 0)),.v 5 33,.q 6 (.mv (.i 0))]) .ret)
@[go_sem ↓] theorem aNK:aM sI:=aN _
def r9:PC:=.seq (.seq (.gh (.reg [.l 22 (.ldn 3 (.t 7)),.a 23 (.cq 66 [(.t 22)]),.q 24 (.bin .gtr true (.t 23) (.i 0))])) (.cond (.t 24) (.seq (.reg [.q 4 (.mv (.i 0)),.q 5 (.mv (.k (.int .u64 0))),.q 6 (.mv (.i 2))]) .ret) .skip)) (sI)
@[go_sem ↓] theorem aM5:aM r9:=aN _
def rJ:PC:=.seq (.seq (.gh (.reg [.q 17 (.fa 2 (.t 7)),.l 18 (.ld1 (.t 17)),.q 19 (.bin .neq true (.t 18) (.i 0))])) (.cond (.t 19) (.seq (.reg [.q 20 (.fa 2 (.t 7)),.l 21 (.ld1 (.t 20)),.q 4 (.mv (.i 0)),.q 5 (.mv (.k (.int .u64 0))),.v 6 21]) .ret) .skip)) (r9)
@[go_sem ↓] theorem aML:aM rJ:=aN _
def PE:PC:=.seq (.reg [.q 4 (.mv (.i 0)),.q 5 (.mv (.k (.int .u64 0))),.q 6 (.mv (.i 0))]) (.seq (.reg [.v 12 0,.q 13 (.bd [(.string (mk [])),(.int .i64 0),(.int .i64 0)] [(0,1,(.t 12))]),.a 14 (.cl 65 [(.t 13)] []),.v 11 14,.q 15 (.ex (.t 11) 0),.q 16 (.ex (.t 11) 1),.e 7 (.al (.agg #[(.string (mk [])),(.int .i64 0),(.int .i64 0)]) 108),.s (.st 3 (.t 7) (.t 15)),.v 8 16]) (rJ))
def SD:List RV:=[.mv (.t 4),.mv (.t 5),.mv (.t 6)]
theorem aKR:aO Tryz.prog true ⟨fun r k=>if r=4/\k=1 then .q else .own [],fun r=>[2,4,6,8].contains r⟩ Tryz.f100=some (PE,SD):=by kernel_rfl
def yT:PC:=.seq (.seq (.gh (.reg [.q 9 (.mv (.i 0))])) (.block 0 (.loop (.seq (.seq (.reg [.v 16 9,.q 17 (.fa 2 (.t 7)),.l 18 (.ld1 (.t 17)),.q 19 (.lnL (.t 18)),.q 20 (.bin .lss true (.t 16) (.t 19))]) (.cond (.t 20) .skip (.exit 0))) (.seq (.block 1 (.seq (.reg [.q 23 (.fa 2 (.t 7)),.l 24 (.ld1 (.t 23)),.v 25 9,.l 26 (.ia 1 (.t 24) (.t 25)),.l 27 (.ld1 (.t 26)),.q 28 (.cvt .u64 (.t 27)),.v 29 2,.q 30 (.bin .eql true (.t 28) (.t 29))]) (.cond (.t 30) (.seq (.reg [.q 6 (.mv (.k (.bool true)))]) .ret) .skip))) (.reg [.v 21 9,.q 22 (.bin .add true (.t 21) (.i 1)),.v 9 22])))))) (.seq (.reg [.q 6 (.mv (.k (.bool false)))]) .ret)
@[go_sem ↓] theorem aOR:aM yT:=aN _
def RT:PC:=.seq (.reg [.e 3 (.bx 25 (.t 0)),.q 6 (.mv (.k (.bool false)))]) (.seq (.reg [.l 11 (.ldn 3 (.t 3)),.v 12 1,.a 13 (.cl 127 [(.t 11),(.t 12)] []),.v 10 13,.q 14 (.ex (.t 10) 0),.q 15 (.ex (.t 10) 1),.e 7 (.al (.agg #[(.string (mk [])),(.slice none 0 0),(.slice none 0 0)]) 118),.s (.st 3 (.t 7) (.t 14)),.v 8 15]) (yT))
def RF:List RV:=[.mv (.t 6)]
theorem aEQ:aO Tryz.prog true ⟨fun _ _=>.own [],fun r=>[2].contains r⟩ Tryz.f101=some (RT,RF):=by kernel_rfl
def s7:PC:=.seq (.gh (.reg [.q 80 (.fa 3 (.t 8)),.l 81 (.ld1 (.t 80)),.l 82 (.ldn 5 (.t 14)),.e 83 (.bsl 29 5 [(.t 82)]),.e 84 (.ap 29 5 80 (.t 81) (.t 83)),.q 85 (.fa 3 (.t 8)),.s (.st 1 (.t 85) (.t 84))])) (.seq (.reg [.q 86 (.fa 1 (.t 12)),.l 87 (.ld1 (.t 86)),.v 88 13,.q 89 (.cvt .i64 (.t 88)),.q 90 (.bin .add true (.t 87) (.t 89)),.q 91 (.fa 1 (.t 12)),.s (.st 1 (.t 91) (.t 90))]) (.reg [.l 92 (.ldn 3 (.t 12)),.s (.st 3 (.t 9) (.t 92))]))
@[go_sem ↓] theorem aK3:aM s7:=aN _
def oT:PC:=.seq (.seq (.gh (.reg [.v 76 15,.q 77 (.bin .neq true (.t 76) (.i 0))])) (.cond (.t 77) (.seq (.reg [.l 78 (.ldn 5 (.t 8)),.v 79 15,.s (.st 5 (.t 6) (.t 78)),.v 7 79]) .ret) .skip)) (s7)
@[go_sem ↓] theorem aK6:aM oT:=aN _
def tX:PC:=.seq (.gh (.ord  [.q (.l 59 (.ldn 3 (.t 3))),.q (.q 60 (.fa 3 (.t 4))),.q (.l 61 (.ld1 (.t 60))),.q (.l 62 (.ia 4 (.t 61) (.i 0))),.q (.l 63 (.ldn 4 (.t 62))),.q (.v 64 2),.q (.q 65 (.fa 1 (.t 12))),.q (.l 66 (.ld1 (.t 65))),.q (.q 67 (.fa 1 (.t 12))),.q (.l 68 (.ld1 (.t 67))),.q (.v 69 13),.q (.q 70 (.cvt .i64 (.t 69))),.q (.q 71 (.bin .add true (.t 68) (.t 70))),.q (.q 72 (.ss (.t 64) (some (.t 66)) (some (.t 71)))),.m (.a 73 (.cl 56 [(.t 59),(.t 63),(.t 72)] [])),.q (.v 58 73),.q (.q 74 (.ex (.t 58) 0)),.q (.q 75 (.ex (.t 58) 1)),.m (.e 14 (.al (.agg cS) 29)),.rc (.v 58 73),.rc (.q 74 (.ex (.t 58) 0)),.rc (.q 75 (.ex (.t 58) 1)),.m (.s (.st 5 (.t 14) (.t 74))),.rc (.q 75 (.ex (.t 58) 1)),.m (.v 15 75)])) (oT)
@[go_sem ↓] theorem aK4:aM tX:=aN _
def oA:PC:=.seq (.seq (.gh (.reg [.v 52 13,.l 53 (.ldn 3 (.t 12)),.a 54 (.cq 66 [(.t 53)]),.q 55 (.cvt .u64 (.t 54)),.q 56 (.bin .gtr true (.t 52) (.t 55))])) (.cond (.t 56) (.seq (.reg [.l 57 (.ldn 5 (.t 8)),.s (.st 5 (.t 6) (.t 57)),.q 7 (.mv (.i 1))]) .ret) .skip)) (tX)
@[go_sem ↓] theorem aK5:aM oA:=aN _
def n9:PC:=.seq (.seq (.gh (.reg [.q 46 (.fa 2 (.t 12)),.l 47 (.ld1 (.t 46)),.q 48 (.bin .neq true (.t 47) (.i 0))])) (.cond (.t 48) (.seq (.ord  [.q (.l 49 (.ldn 5 (.t 8))),.q (.q 50 (.fa 2 (.t 12))),.q (.l 51 (.ld1 (.t 50))),.m (.s (.st 5 (.t 6) (.t 49))),.rc (.q 50 (.fa 2 (.t 12))),.rc (.l 51 (.ld1 (.t 50))),.m (.v 7 51)]) .ret) .skip)) (oA)
@[go_sem ↓] theorem aK1:aM n9:=aN _
def oP:PC:=.seq (.seq (.gh (.reg [.l 93 (.ldn 3 (.t 9)),.a 94 (.cq 66 [(.t 93)]),.q 95 (.bin .gtr true (.t 94) (.i 0))])) (.cond (.t 95) (.seq (.reg [.l 96 (.ldn 5 (.t 8)),.s (.st 5 (.t 6) (.t 96)),.q 7 (.mv (.i 2))]) .ret) .skip)) (.seq (.reg [.l 97 (.ldn 5 (.t 8)),.s (.st 5 (.t 6) (.t 97)),.q 7 (.mv (.i 0))]) .ret)
@[go_sem ↓] theorem aK0:aM oP:=aN _
def qO:PC:=.seq (.seq (.gh (.reg [.v 29 10,.q 30 (.fa 1 (.t 4)),.l 31 (.ld1 (.t 30)),.q 32 (.cvt .u64 (.t 31)),.q 33 (.bin .gtr true (.t 29) (.t 32))])) (.cond (.t 33) (.seq (.reg [.l 34 (.ldn 5 (.t 8)),.s (.st 5 (.t 6) (.t 34)),.q 7 (.mv (.i 3))]) .ret) .skip)) (.seq (.seq (.reg [.q 11 (.mv (.i 0))]) (.block 0 (.loop (.seq (.seq (.reg [.v 35 11,.v 36 10,.q 37 (.cvt .i64 (.t 36)),.q 38 (.bin .lss true (.t 35) (.t 37))]) (.cond (.t 38) .skip (.exit 0))) (.seq (.block 1 (.seq (.reg [.l 42 (.ldn 3 (.t 9)),.a 43 (.cl 65 [(.t 42)] []),.v 41 43,.q 44 (.ex (.t 41) 0),.q 45 (.ex (.t 41) 1),.e 12 (.al (.agg #[(.string (mk [])),(.int .i64 0),(.int .i64 0)]) 108),.s (.st 3 (.t 12) (.t 44)),.v 13 45]) (n9))) (.reg [.v 39 11,.q 40 (.bin .add true (.t 39) (.i 1)),.v 11 40])))))) (oP))
@[go_sem ↓] theorem aOC:aM qO:=aN _
def rL:PC:=.seq (.seq (.gh (.reg [.q 23 (.fa 2 (.t 9)),.l 24 (.ld1 (.t 23)),.q 25 (.bin .neq true (.t 24) (.i 0))])) (.cond (.t 25) (.seq (.ord  [.q (.l 26 (.ldn 5 (.t 8))),.q (.q 27 (.fa 2 (.t 9))),.q (.l 28 (.ld1 (.t 27))),.m (.s (.st 5 (.t 6) (.t 26))),.rc (.q 27 (.fa 2 (.t 9))),.rc (.l 28 (.ld1 (.t 27))),.m (.v 7 28)]) .ret) .skip)) (qO)
@[go_sem ↓] theorem aNO:aM rL:=aN _
def QP:PC:=.seq (.reg [.e 3 (.bx 25 (.t 0)),.e 4 (.bx 42 (.t 1)),.e 6 (.al (.agg cS) 29),.q 7 (.mv (.i 0))]) (.seq (.reg [.q 16 (.bd [(.int .i64 0),(.int .i64 0),(.string (mk [])),(.slice none 0 0),(.slice none 0 0)] [(0,1,(.i 5))]),.e 8 (.al (.agg cS) 29),.s (.st 5 (.t 8) (.t 16))]) (.seq (.reg [.v 18 2,.q 19 (.bd [(.string (mk [])),(.int .i64 0),(.int .i64 0)] [(0,1,(.t 18))]),.a 20 (.cl 65 [(.t 19)] []),.v 17 20,.q 21 (.ex (.t 17) 0),.q 22 (.ex (.t 17) 1),.e 9 (.al (.agg #[(.string (mk [])),(.int .i64 0),(.int .i64 0)]) 108),.s (.st 3 (.t 9) (.t 21)),.v 10 22]) (rL)))
def PP:List RV:=[.ld (.ldn 5 (.t 6)),.mv (.t 7)]
theorem aF4:aO Tryz.prog true ⟨fun r k=>if r=13/\k=2 then .q else if r=21/\k=1 then .q else .own [],fun r=>[3,5,11,13,15,16,18,21].contains r⟩ Tryz.f102=some (QP,PP):=by kernel_rfl
def Y5:W.Spec:=fun av H K=>∃(x:List UInt8) (a:Nat),av=[.va (.gs (eV x a 0))]/\H=[]/\a<=x.length/\x.length<=1000000/\K (.tu [.gs (eV x (a+(vr (x.drop a)).2.1) (vr (x.drop a)).2.2),iA .i64 (fD (vr (x.drop a)).1)]) []
theorem aBD {x:List UInt8} {a:Nat} {K:S->Hp->Prop} (h:a<=x.length) (hx:x.length<=1000000) (hK:K (.tu [.gs (eV x (a+(vr (x.drop a)).2.1) (vr (x.drop a)).2.2),iA .i64 (fD (vr (x.drop a)).1)]) []):Y5 [.va (.gs (eV x a 0))] [] K:=⟨x,a,rfl,rfl,h,hx,hK⟩
theorem aDX (l:List UInt8):(vr l).1<18446744073709551616:=by
 rcases fL l with ⟨_,h,_⟩|⟨_,_,_,_,_,h⟩
 · rw[h];decide
 · exact h
theorem QL:Meets Tryz.prog 140 Y5:=by
 refine aF Tryz.func140 aGW 1 (by rw[Tryz.ntmps140];decide) (aC kJ (aB _)) (fun av H K h=>by obtain ⟨_,_,rfl,_⟩:=h;rfl) ?_
 rintro av H K ⟨x,a,rfl,rfl,ha,hx,hK⟩
 have fin:∀(n k:Nat) (e:Int) (R:Hp),vr (x.drop a)=(n,k,e)->W.Fin 0 K (.tu [.gs (eV x (a+k) e),iA .i64 (fD n)]) R:=fun n k e R h=>by
  rw[h] at hK;exact .z ((by simpa[go_sem,eV] using hK))
 clear hK
 have hlt:=aDX (x.drop a)
 simp(maxSteps:=9^6)-dsimp only[go_sem,PN,RW]
 refine m5 ha hx ?_
 simp(maxSteps:=9^6)-dsimp only[go_sem]
 refine aA rfl (.done ?_)
 generalize vr (x.drop a)=z at *
 obtain ⟨n,k,e⟩:=z
 simp only at fin hlt ⊢
 have ht:(n:Int).tmod 2=((n % 2:Nat):Int):=rfl
 have hq:(n:Int).tdiv 2=((n / 2:Nat):Int):=rfl
 have hw:IntKind.i64.wrap ((n / 2:Nat):Int)=((n / 2:Nat):Int):=lX (by omega)
 have fin:=fin n k e
 unfold fD at fin
 cases c1:((n % 2:Nat):Int)==1 with
 |true=>
  have g1:n % 2=1:=by have:=eq_of_beq c1;omega
  rw[if_pos g1] at fin
  simp(maxSteps:=9^6)-dsimp only[go_sem,qQ,ht,hq,hw,c1]
  and_intros
  all_goals first|omega|decide|exact fin _ rfl
 |false=>
  have g1:¬ n % 2=1:=by have:=ne_of_beq_false c1;omega
  rw[if_neg g1] at fin
  simp(maxSteps:=9^6)-dsimp only[go_sem,qQ,ht,hq,hw,c1]
  and_intros
  all_goals first|omega|decide|exact fin _ rfl
def oW (b:List UInt8):Nat×Int:=bif (vr b).2.2 != 0 then (0,(vr b).2.2) else bif decide ((vr b).2.1<b.length) then (0,2) else ((vr b).1,0)
def WD:W.Spec:=fun av H K=>∃(b:List UInt8) (z:Bool),av=[tS (mk b),bS z]/\H=[]/\b.length<=1000000/\K (.tu [iA .i64 (bif z then fD (oW b).1 else 0),uA (bif z then 0 else (oW b).1),iA .i64 (oW b).2]) []
theorem DM {b:List UInt8} {z:Bool} {K:S->Hp->Prop} (h:b.length<=1000000) (hK:K (.tu [iA .i64 (bif z then fD (oW b).1 else 0),uA (bif z then 0 else (oW b).1),iA .i64 (oW b).2]) []):WD [tS (mk b),bS z] [] K:=⟨b,z,rfl,rfl,h,hK⟩
theorem S8:Meets Tryz.prog 100 WD:=by
 refine aF Tryz.func100 aKR 2 (by rw[Tryz.ntmps100];decide) (aC kJ (aG JH (aC QL (aB _)))) (fun av H K h=>by obtain ⟨_,_,rfl,_⟩:=h;rfl) ?_
 rintro av H K ⟨b,z,rfl,rfl,hb,hK⟩
 have fin:∀(n:Nat) (e:Int) (R:Hp),oW b=(n,e)->W.Fin 0 K (.tu [iA .i64 (bif z then fD n else 0),uA (bif z then 0 else n),iA .i64 e]) R:=fun n e R h=>by
  rw[h] at hK;exact .z ((by simpa[go_sem] using hK))
 clear hK
 unfold oW at fin
 have h1:=fL b
 have hru:=@m5 b 0
 have hri:=@aBD b 0
 rw[List.drop_zero] at hru hri
 simp only[Nat.zero_add] at hru hri
 simp(maxSteps:=9^6)-dsimp only[go_sem,PE,SD]
 refine hru (Nat.zero_le _) hb ?_
 simp(maxSteps:=9^6)-dsimp only[go_sem]
 refine aA rfl (.done ?_)
 generalize vr b=y at *
 obtain ⟨n,k,e⟩:=y
 simp only at fin h1 hru hri ⊢
 have u0:fD 0=0:=rfl
 cases c1:e != 0 with
 |true=>
  rw[c1,cond_true] at fin
  simp(maxSteps:=9^6)-dsimp only[go_sem,rJ,c1]
  have:=fin 0 e
  rw[u0] at this
  cases z<;>exact this _ rfl
 |false=>
 rw[c1,cond_false] at fin
 obtain rfl:=cU c1
 have hk:k<=b.length:=by
  rcases h1 with ⟨h,_⟩|⟨_,_,_,h,_⟩
  · exact absurd rfl h
  · exact h
 simp(maxSteps:=9^6)-dsimp only[go_sem,rJ,c1]
 refine aA rfl (.done ?_)
 have hrd:rM (eV b k 0):=qS hk hb
 have hd:decide ((0:Int)<(b.length:Int)-(k:Int))=decide (k<b.length):=by rw[Bool.eq_iff_iff];simp only[decide_eq_true_eq];omega
 cases c2:decide (k<b.length) with
 |true=>
  rw[c2,cond_true] at fin
  simp(maxSteps:=9^6)-dsimp only[go_sem,r9,hrd,hd,c2]
  have:=fin 0 2
  rw[u0] at this
  cases z<;>exact this _ rfl
 |false=>
 rw[c2,cond_false] at fin
 simp(maxSteps:=9^6)-dsimp only[go_sem,r9,hrd,hd,c2]
 refine aA rfl (.done ?_)
 cases z with
 |false=>
  simp(maxSteps:=9^6)-dsimp only[go_sem,sI]
  exact fin n 0 _ rfl
 |true=>
  simp(maxSteps:=9^6)-dsimp only[go_sem,sI]
  refine hri (Nat.zero_le _) hb ?_
  simp(maxSteps:=9^6)-dsimp only[go_sem]
  refine aA rfl (.done ?_)
  simp(maxSteps:=9^6)-dsimp only[go_sem,xF]
  exact fin n 0 _ rfl
def FQ:List S->Prop:=fun av=>match av with
 |[.va (.gs r),.va (.c1 (.vl (.string _))),.va (.c1 (.vl (.int .u64 _)))]=>gK r
 |_=>False
theorem rF {av:List S} (h:FQ av):∃(s:Sc) (nm:ByteArray) (n:Int),av=[.va (.gs (aD s)),tS nm,iS .u64 n]/\s.fit:=by
 unfold FQ at h
 split at h
 · obtain ⟨s,rfl,hs⟩:=h;exact ⟨s,_,_,rfl,hs⟩
 · exact h.elim
def JF (s:Sc) (nm:ByteArray) (n:Int):Bool:=((d8 s.es nm).getD default).vs.any fun x=>IntKind.u64.wrap x==n
noncomputable def YB:List S->A:=fun av=>match av with
 |[.va (.gs r),.va (.c1 (.vl (.string nm))),.va (.c1 (.vl (.int .u64 n)))]=>.c1 (.vl (.bool (JF (C.sc r) nm n)))
 |_=>.gs []
noncomputable def ezFn:Fun:=⟨FQ,YB,fun av h=>by obtain ⟨_,_,_,rfl,_⟩:=rF h;trivial⟩
attribute [go_sem] ezFn FQ YB
theorem S9 {l:List Int} {i:Nat} {x n:Int} (h:l[i]? = some x) (h0:(l.take i).any (fun x=>IntKind.u64.wrap x==n)=false):(l.take (i+1)).any (fun x=>IntKind.u64.wrap x==n)=(IntKind.u64.wrap x==n):=by
 rw[dB h,List.any_append,h0,Bool.false_or];simp
theorem KC:Meets Tryz.prog 101 ezFn.sp:=by
 refine aF Tryz.func101 aEQ 3 (by rw[Tryz.ntmps101];decide) (aC ID (aB _)) (fun av H K h=>by obtain ⟨_,_,_,rfl,_⟩:=rF h.1.1;rfl) ?_
 rintro av H K ⟨⟨h,rfl⟩,hK⟩
 obtain ⟨s,nm,n,rfl,hs⟩:=rF h
 have fin:∀(b:Bool) (R:Hp),JF s nm n=b->W.Fin 0 K (bS b) R:=fun b R h=>by
  have hK:K (bS (JF (C.sc (aD s)) nm n)) []:=hK
  rw[dF,h] at hK;exact .z ((by simpa[go_sem] using hK))
 clear hK h
 unfold JF at fin
 have heo:=aB8 hs (.mk 7 0 nm [])
 rw[show enOf s (.mk 7 0 nm [])=(d8 s.es nm).getD default from rfl] at heo
 simp(maxSteps:=9^6)-dsimp only[go_sem,aD,RT,RF]
 refine m9 hs ?_
 generalize (d8 s.es nm).getD default=e at *
 simp(maxSteps:=9^6)-dsimp only[go_sem,aZ]
 refine aA rfl (.done ?_)
 simp(maxSteps:=9^6)-dsimp only[go_sem,yT]
 refine aL (α:=Nat) (fun i=>[(2,iS .u64 n),(7,.va (.c1 (.pt 1 0))),(9,iS .i64 i)])
  (fun _=>[.cells [.vl (.int .i64 s.ver),.fz (s.es.map aZ),.fz (s.ss.map aH)] 25,.cells [.vl (.string e.nm),.fz (e.ns.map bF),.fz (e.vs.map cK)] 118])
  (fun i=>i<=e.vs.length/\(e.vs.take i).any (fun x=>IntKind.u64.wrap x==n)=false) (fun i=>e.vs.length-i) 0 2 ⟨Nat.zero_le _,rfl⟩ ?_ ?_ ?_
 · simp -dsimp only[go_sem]<;>simp
 · simp -dsimp only[go_sem]<;>simp
 rintro i ⟨hi,ha⟩
 have hlv:=heo.lv
 rcases bB i e.vs.length with hlt|hge
 · have hg:decide ((i:Int)<(e.vs.length:Int))=true:=by simp;omega
   have hx:e.vs[i]? = some e.vs[i]:=aU hlt
   have q2:=aT (row:=cK) hx
   have hnx:=S9 (n:=n) hx ha
   generalize e.vs[i]=x at *
   cases c1:IntKind.u64.wrap x==n with
   |true=>
    have hall:e.vs.any (fun x=>IntKind.u64.wrap x==n)=true:=List.any_eq_true.2 ⟨x,bY hx,c1⟩
    simp(maxSteps:=9^6)-dsimp only[go_sem,hg,↓q2,c1]
    exact ⟨⟨by omega,by omega⟩,fin _ _ hall⟩
   |false=>
    simp(maxSteps:=9^6)-dsimp only[go_sem,hg,↓q2,c1]
    refine ⟨⟨by omega,by omega⟩,⟨by omega,by omega⟩,aE (i+1) 2 ⟨by omega,by rw[hnx];exact c1⟩ (by omega) ?_ ?_⟩
    · simp -dsimp only[go_sem]<;>simp
    · simp -dsimp only[go_sem]<;>simp
 · have hg:decide ((i:Int)<(e.vs.length:Int))=false:=by simp;omega
   rw[List.take_of_length_le hge] at ha
   simp(maxSteps:=9^6)-dsimp only[go_sem,hg]
   exact fin _ _ ha
def pZ (k:Int) (x:Vl) (there:Bool):List (Int×Vl)->List (Int×Vl)
 |[]=>[(k,x)]
 |y::f=>bif !there&&decide (k<y.1) then (k,x)::y::f else bif there&&y.1==k then (k,x)::f else y::pZ k x there f
theorem aB0 (k:Int) (x:Vl) (b:Bool):pZ k x b []=[(k,x)]:=rfl
theorem sJ (k:Int) (x:Vl) (b:Bool) (y:Int×Vl) (f:List (Int×Vl)):pZ k x b (y::f)=bif !b&&decide (k<y.1) then (k,x)::y::f else bif b&&y.1==k then (k,x)::f else y::pZ k x b f:=rfl
def HA:W.Spec:=fun av H K=>∃(v:Vl) (k:Int) (x:Vl),av=[.va (.gs (aP v)),iS .i64 k,.va (.gs (aP x))]/\H=[]/\VlOk v/\v.k=6/\VlOk x/\v.f.length<=1000000/\K (.va (.gs (aP (.mk v.k v.n v.s v.l (pZ k x (bR v.f k).isSome v.f))))) []
theorem aGZ {v:Vl} {k:Int} {x:Vl} {K:S->Hp->Prop} (h:VlOk v) (h6:v.k=6) (hx:VlOk x) (hl:v.f.length<=1000000) (hK:K (.va (.gs (aP (.mk v.k v.n v.s v.l (pZ k x (bR v.f k).isSome v.f))))) []) :
 HA [.va (.gs [.vl (.int .i64 v.k),.vl (.int .i64 v.n),.vl (.string v.s),.fz (v.l.map aP),.fz (v.f.map bD)]),iS .i64 k,.va (.gs [.vl (.int .i64 x.k),.vl (.int .i64 x.n),.vl (.string x.s),.fz (x.l.map aP),.fz (x.f.map bD)])] [] K:=⟨v,k,x,by rw[aJ,aJ],rfl,h,h6,hx,hl,hK⟩
theorem aD8:Meets Tryz.prog 57 HA:=by
 refine aF Tryz.func57 aNF 3 (by rw[Tryz.ntmps57];decide) (aC MY (aB _)) (fun av H K h=>by obtain ⟨_,_,_,rfl,_⟩:=h;rfl) ?_
 rintro av H K ⟨v,k,x,rfl,rfl,hv,h6,hx,hl,hK⟩
 have fin:∀(F:List (Int×Vl)) (R:Hp),pZ k x (bR v.f k).isSome v.f=F->W.Fin 0 K (.va (.gs [.vl (.int .i64 v.k),.vl (.int .i64 v.n),.vl (.string v.s),.fz (v.l.map aP),.fz (F.map bD)])) R:=fun F R h=>by
  rw[h,aJ] at hK;exact .z ((by simpa[go_sem,Vl.k,Vl.n,Vl.s,Vl.l,Vl.f] using hK))
 clear hK
 have e6:(v.k != 6)=false:=by rw[h6];rfl
 simp(maxSteps:=9^6)-dsimp only[go_sem,aJ v,aJ x,VW,aAE,e6]
 refine HG hv h6 ?_
 generalize ((bR v.f k).map (·.2)).getD default=w at *
 generalize (bR v.f k).isSome=there at *
 simp(maxSteps:=9^6)-dsimp only[go_sem,aJ w]
 refine aA rfl (.done ?_)
 simp(maxSteps:=9^6)-dsimp only[go_sem,DC]
 refine cM (α:=Nat×Bool×List (Int×Vl)) (fun z=>[(1,iS .i64 k),(3,.va (.c1 (.pt 0 0))),(5,.va (.c1 (.pt 1 0))),(6,.va (.c1 (.pt 2 0))),(8,bS there),(9,.va (.c1 (.pt 4 0))),(10,bS z.2.1),(11,iS .i64 z.1)])
  (fun z=>[.cells [.vl (.int .i64 v.k),.vl (.int .i64 v.n),.vl (.string v.s),.fz (v.l.map aP),.fz (v.f.map bD)] 29,.cells [.vl (.int .i64 x.k),.vl (.int .i64 x.n),.vl (.string x.s),.fz (x.l.map aP),.fz (x.f.map bD)] 29,.cells [.vl (.int .i64 0),.vl (.int .i64 0),.vl (.string (mk [])),.vl (.slice none 0 0),.vl (.slice none 0 0)] 29,
    .cells [.vl (.int .i64 w.k),.vl (.int .i64 w.n),.vl (.string w.s),.fz (w.l.map aP),.fz (w.f.map bD)] 29,.cells [.vl (.int .i64 v.k),.vl (.int .i64 v.n),.vl (.string v.s),.fz (v.l.map aP),.sl 5 z.2.2.length] 29,.row (z.2.2.map bD) 76 6])
  (fun z=>z.1<=v.f.length/\z.2.2.length<=2*z.1+1/\z.2.2++(bif z.2.1 then v.f.drop z.1 else pZ k x there (v.f.drop z.1))=pZ k x there v.f) (fun z=>v.f.length-z.1) (.nilc 4 4 76 6 _ _ rfl rfl (jD (0,false,[]) 6 ⟨Nat.zero_le _,Nat.zero_le _,rfl⟩ ?_ ?_)) ?_
 · simp -dsimp only[go_sem]<;>simp
 · simp -dsimp only[go_sem]<;>simp
 rintro ⟨i,done,acc⟩ ⟨hi,hla,ho⟩
 simp only at hi hla ho ⊢
 rcases bB i v.f.length with hlt|hge
 · have hg:decide ((i:Int)<(v.f.length:Int))=true:=by simp;omega
   have hy:v.f[i]? = some v.f[i]:=aU hlt
   have q2:=aT (row:=bD) hy
   have hdr:v.f.drop i=v.f[i]::v.f.drop (i+1):=List.drop_eq_getElem_cons hlt
   rw[hdr] at ho
   generalize v.f[i]=y at *
   cases done with
   |true=>
    rw[cond_true] at ho
    simp(maxSteps:=9^6)-dsimp only[go_sem,hg,Bool.not_true]
    refine aA rfl (.done ?_)
    simp(maxSteps:=9^6)-dsimp only[go_sem,j4,Bool.not_true]
    refine aA rfl (.done ?_)
    simp(maxSteps:=9^6)-dsimp only[go_sem,lN,↓q2,cH y]
    refine ⟨⟨by omega,by omega⟩,by omega,⟨by omega,by omega⟩,aE (i+1,true,acc++[y]) 6 ⟨by simp only;omega,by simp only[List.length_append,List.length_singleton];omega,by simp only;rw[cond_true,List.append_assoc];exact ho⟩ (by simp only;omega) ?_ ?_⟩
    · simp -dsimp only[go_sem]<;>simp
    · simp -dsimp only[go_sem]<;>simp[cH]
   |false=>
    rw[cond_false,sJ] at ho
    cases there with
    |false=>
     rw[Bool.not_false,Bool.true_and,Bool.false_and,cond_false] at ho
     cases c1:decide (k<y.1) with
     |true=>
      rw[c1,cond_true] at ho
      simp(maxSteps:=9^6)-dsimp only[go_sem,hg,↓q2,cH y,c1,Bool.not_false,Bool.not_true]
      refine ⟨⟨by omega,by omega⟩,by omega,aA rfl (.done ?_)⟩
      simp(maxSteps:=9^6)-dsimp only[go_sem,j4,↓q2,cH y,c1,Bool.not_true,Bool.not_false]
      refine aA rfl (.done ?_)
      simp(maxSteps:=9^6)-dsimp only[go_sem,lN,↓q2,cH y]
      refine ⟨⟨by omega,by omega⟩,by omega,⟨by omega,by omega⟩,aE (i+1,true,acc++[(k,x)]++[y]) 6 ⟨by simp only;omega,by simp only[List.length_append,List.length_singleton];omega,by simp only;rw[cond_true,List.append_assoc,List.append_assoc];exact ho⟩ (by simp only;omega) ?_ ?_⟩
      · simp -dsimp only[go_sem]<;>simp
      · simp -dsimp only[go_sem]<;>simp[cH]
     |false=>
      rw[c1,cond_false] at ho
      simp(maxSteps:=9^6)-dsimp only[go_sem,hg,↓q2,cH y,c1,Bool.not_false]
      refine ⟨⟨by omega,by omega⟩,aA rfl (.done ?_)⟩
      simp(maxSteps:=9^6)-dsimp only[go_sem,j4,↓q2,cH y,c1,Bool.not_true,Bool.not_false]
      refine aA rfl (.done ?_)
      simp(maxSteps:=9^6)-dsimp only[go_sem,lN,↓q2,cH y]
      refine ⟨⟨by omega,by omega⟩,by omega,⟨by omega,by omega⟩,aE (i+1,false,acc++[y]) 6 ⟨by simp only;omega,by simp only[List.length_append,List.length_singleton];omega,by simp only;rw[cond_false,List.append_assoc];exact ho⟩ (by simp only;omega) ?_ ?_⟩
      · simp -dsimp only[go_sem]<;>simp
      · simp -dsimp only[go_sem]<;>simp[cH]
    |true=>
     rw[Bool.not_true,Bool.false_and,cond_false,Bool.true_and] at ho
     cases c1:y.1==k with
     |true=>
      rw[c1,cond_true] at ho
      simp(maxSteps:=9^6)-dsimp only[go_sem,hg,↓q2,cH y,c1,Bool.not_false,Bool.not_true]
      refine aA rfl (.done ?_)
      simp(maxSteps:=9^6)-dsimp only[go_sem,j4,↓q2,cH y,c1,Bool.not_true,Bool.not_false]
      refine ⟨⟨by omega,by omega⟩,by omega,⟨by omega,by omega⟩,aE (i+1,true,acc++[(k,x)]) 6 ⟨by simp only;omega,by simp only[List.length_append,List.length_singleton];omega,by simp only;rw[cond_true,List.append_assoc];exact ho⟩ (by simp only;omega) ?_ ?_⟩
      · simp -dsimp only[go_sem]<;>simp
      · simp -dsimp only[go_sem]<;>simp[cH]
     |false=>
      rw[c1,cond_false] at ho
      simp(maxSteps:=9^6)-dsimp only[go_sem,hg,↓q2,cH y,c1,Bool.not_false,Bool.not_true]
      refine aA rfl (.done ?_)
      simp(maxSteps:=9^6)-dsimp only[go_sem,j4,↓q2,cH y,c1,Bool.not_true,Bool.not_false]
      refine ⟨⟨by omega,by omega⟩,aA rfl (.done ?_)⟩
      simp(maxSteps:=9^6)-dsimp only[go_sem,lN,↓q2,cH y]
      refine ⟨⟨by omega,by omega⟩,by omega,⟨by omega,by omega⟩,aE (i+1,false,acc++[y]) 6 ⟨by simp only;omega,by simp only[List.length_append,List.length_singleton];omega,by simp only;rw[cond_false,List.append_assoc];exact ho⟩ (by simp only;omega) ?_ ?_⟩
      · simp -dsimp only[go_sem]<;>simp
      · simp -dsimp only[go_sem]<;>simp[cH]
 · have hg:decide ((i:Int)<(v.f.length:Int))=false:=by simp;omega
   have hdn:v.f.drop i=[]:=List.drop_eq_nil_iff.2 hge
   rw[hdn] at ho
   simp(maxSteps:=9^6)-dsimp only[go_sem,hg]
   refine aA rfl (.done ?_)
   cases done with
   |true=>
    rw[cond_true,List.append_nil] at ho
    simp(maxSteps:=9^6)-dsimp only[go_sem,rS,Bool.not_true]
    refine aA rfl (.done ?_)
    simp(maxSteps:=9^6)-dsimp only[go_sem,rZ]
    refine .pub 5 _ _ _ rfl ?_
    simp -dsimp only[go_sem,b5,C.pub]
    exact fin acc _ ho.symm
   |false=>
    rw[cond_false,aB0] at ho
    simp(maxSteps:=9^6)-dsimp only[go_sem,rS,Bool.not_false]
    refine ⟨by omega,?_⟩
    refine aA rfl (.done ?_)
    simp(maxSteps:=9^6)-dsimp only[go_sem,rZ]
    refine .pub 5 _ _ _ rfl ?_
    simp -dsimp only[go_sem,b5,C.pub]
    have:=fin (acc++[(k,x)])
    rw[List.map_append,List.map_cons,List.map_nil,cH] at this
    exact this _ ho.symm
theorem aBW {L:List (Int×Vl)} {k j:Int} {x:Vl} (h:j≠k):bR (L++[(k,x)]) j=bR L j:=by
 unfold bR
 rw[List.find?_append]
 cases L.find? (fun y=>decide (y.1=j)) with
 |some y=>rfl
 |none=>simp[Ne.symm h]
theorem MI {s:Sc} {L:List (Int×Vl)} {k:Int} {x:Vl} {f:Fl} (h:f.num≠k):eC s (L++[(k,x)]) f=eC s L f:=by
 unfold eC;rw[aBW h]
theorem LR {s:Sc} {L:List (Int×Vl)} {k:Int} {x:Vl}:∀{fs:List Fl},(∀f∈fs,f.num≠k)->cF s fs (L++[(k,x)])=cF s fs L
 |[],_=>rfl
 |f::fs,h=>by
  have ih:=LR (s:=s) (L:=L) (k:=k) (x:=x) (fs:=fs) fun g hg=>h g (List.mem_cons_of_mem _ hg)
  unfold cF at ih ⊢
  rw[List.flatMap_cons,List.flatMap_cons,ih,MI (h f (List.mem_cons_self ..))]
theorem xX (s:Sc) (L:List (Int×Vl)) (f:Fl) (fs:List Fl):cF s (f::fs) L=eC s L f++cF s fs L:=by unfold cF;rw[List.flatMap_cons]
theorem aCU (s:Sc) (L:List (Int×Vl)) (f:Fl):eC s L f=[]\/∃v,eC s L f=[(f.num,v)]:=by
 unfold eC
 cases (bR L f.num).isSome with
 |true=>exact .inr ⟨_,rfl⟩
 |false=>cases f.opt with
  |true=>exact .inl rfl
  |false=>exact .inr ⟨_,rfl⟩
theorem aGT {s:Sc} {L:List (Int×Vl)} {fs:List Fl} {k:Int} (h:∀f∈fs,k<f.num):∀x∈cF s fs L,k<x.1:=fun x hx=>by
 unfold cF at hx
 obtain ⟨f,hf,hx⟩:=List.mem_flatMap.1 hx
 have:=h f hf
 rw[DT hx];exact this
theorem aAI {s:Sc} {L:List (Int×Vl)} {k:Int} {x:Vl} (hL:∀y∈L,y.1<k):∀{fs:List Fl},fs.Pairwise (fun f g=>f.num<g.num)->(∃f∈fs,f.num=k)->pZ k x (bR (cF s fs L) k).isSome (cF s fs L)=cF s fs (L++[(k,x)])
 |[],_,h=>by obtain ⟨f,hf,_⟩:=h;cases hf
 |f::fs,hp,h=>by
  obtain ⟨p1,p2⟩:=List.pairwise_cons.1 hp
  rw[xX,xX]
  by_cases hk:f.num=k
  · have hgt:=aGT (s:=s) (L:=L) (k:=k) fun g hg=>by have:=p1 g hg;omega
    have hrest:cF s fs (L++[(k,x)])=cF s fs L:=LR fun g hg=>by have:=p1 g hg;omega
    have hn:bR L k=none:=nL fun y hy=>by have:=hL y hy;omega
    have hnr:bR (cF s fs L) k=none:=nL fun y hy=>by have:=hgt y hy;omega
    have e1:eC s (L++[(k,x)]) f=[(k,x)]:=by
     have:bR (L++[(k,x)]) k=some (k,x):=by
      unfold bR at hn ⊢
      rw[List.find?_append,hn];simp
     unfold eC
     rw[hk,this];rfl
    rw[hrest,e1]
    cases ho:f.opt with
    |true=>
     have e2:eC s L f=[]:=by unfold eC;rw[hk,hn,ho];rfl
     rw[e2,List.nil_append,hnr]
     cases hr:cF s fs L with
     |nil=>rfl
     |cons y r=>
      have hy:=hgt y (by rw[hr];exact List.mem_cons_self ..)
      show pZ k x false (y::r)=_
      rw[sJ,decide_eq_true hy];rfl
    |false=>
     have e2:eC s L f=[(k,zF s 23 f.ty)]:=by unfold eC;rw[hk,hn,ho];rfl
     rw[e2,List.singleton_append,iU,if_pos rfl]
     show pZ k x true ((k,zF s 23 f.ty)::cF s fs L)=_
     rw[sJ]
     simp
  · have hin:∃g∈fs,g.num=k:=by
     obtain ⟨g,hg,he⟩:=h
     rcases List.mem_cons.1 hg with rfl|hg
     · exact absurd he hk
     · exact ⟨g,hg,he⟩
    have hlt:f.num<k:=by
     obtain ⟨g,hg,he⟩:=hin
     have:=p1 g hg
     omega
    have ih:=aAI (s:=s) (x:=x) hL p2 hin
    rw[MI hk]
    rcases aCU s L f with e|⟨v,e⟩
    · rw[e,List.nil_append,List.nil_append];exact ih
    · rw[e,List.singleton_append,List.singleton_append,iU,if_neg hk,<-ih,sJ]
      have c1:decide (k<(f.num,v).1)=false:=decide_eq_false (by show ¬ k<f.num;omega)
      have c2:((f.num,v).1==k)=false:=by show (f.num==k)=false;simpa using hk
      rw[c1,c2,Bool.and_false,Bool.and_false];rfl
theorem C9 {s:Sc}:∀{fs:List Fl} {n:Nat},(∀f∈fs,zF s n f.ty=zF s 23 f.ty)->zE s n fs=cF s fs []
 |[],_,_=>rfl
 |f::fs,n,h=>by
  have ih:=C9 (s:=s) (fs:=fs) (n:=n) fun g hg=>h g (List.mem_cons_of_mem _ hg)
  have hf:=h f (List.mem_cons_self ..)
  rw[xX,<-ih]
  unfold zE eC
  cases ho:f.opt with
  |true=>rw[List.filter_cons_of_neg (by simp[ho])];rfl
  |false=>rw[List.filter_cons_of_pos (by simp[ho]),List.map_cons,hf];rfl
theorem YU {R:List UInt8->Vl×Int}:∀(n:Nat) (b:List UInt8),(bZ R n b).2=0->(bZ R n b).1.1.length=n
 |0,b,_=>rfl
 |n+1,b,h=>by
  rw[j7] at h ⊢
  cases c1:(bL b).2.2 != 0 with
  |true=>rw[c1,cond_true] at h;exact absurd h (eL c1)
  |false=>
  rw[c1,cond_false] at h
  rw[cond_false]
  cases c2:(R (bL b).1).2 != 0 with
  |true=>rw[c2,cond_true] at h;exact absurd h (eL c2)
  |false=>
  rw[c2,cond_false] at h
  rw[cond_false]
  cases c3:(bZ R n (bL b).2.1).2 != 0 with
  |true=>rw[c3,cond_true] at h;exact absurd h (eL c3)
  |false=>
   rw[cond_false]
   show (_::(bZ R n (bL b).2.1).1.1).length=n+1
   rw[List.length_cons,YU n _ (cU c3)]
theorem SX {R:List UInt8->Vl×Int} (b:List UInt8):bZ R 0 b=(([],b),0):=rfl
theorem aCR {s:Sc} (hs:s.fit) (hd:Dg s) {M:Nat} {t:Ty} {b:List UInt8} (ht:TyOk t) (hv:valF s.ss s.es t=true) (hM:fK s t<M) (h:(aV s M t b).2=0) :
 (b==bO s 8 t (zF s 23 t))=(dA (aV s M t b).1 (zF s 23 t)&&(t.k != 6||b==[])):=by
 have h6d:(t.k==6)=true->dD s.ss t.n<=22:=fun h6=>by have:=(fX hd hv h6).2.1;omega
 obtain ⟨z1,z2⟩:=OY hd 22 t hv h6d
 have z3:=JZ (zF s 23 t)
 have z4:zl s t<=6:=by
  unfold zl
  cases h6:t.k==6 with
  |true=>exact (fX hd hv h6).2.1
  |false=>
   cases t.k==5 with
   |true=>show (1:Int)<=6;decide
   |false=>show (0:Int)<=6;decide
 have z2:cX (zF s 23 t)<=zl s t:=z2
 have z5:(zF s 23 t).h<=8:=by omega
 have zo:=oC hs 23 t ht
 have hdz:=FL hs hd M 8 t (zF s 23 t) ht zo z1 z5 (Nat.le_refl _) hM
 have hct6:(t.k==6)=true->bO s 8 t (zF s 23 t)=[]:=fun h6=>by
  have hst:=fX hd hv h6
  have hp:=uM (hd.ni.stOf t)
  have hz:zF s 23 t=.mk 6 0 (mk []) [] (cF s (stOf s t).fs []):=by
   rw[<-C9 (n:=22) fun f hf=>l6 hd 12 22 23 f.ty (by have:=hst.2.2 f hf;omega) (by decide) (by decide),fR,hv,h6];rfl
  have hk:t.k=6:=eq_of_beq h6
  rw[hz,dL,hk]
  show dT (bO s 7) s (stOf s t).fs (cF s (stOf s t).fs [])=[]
  unfold dT
  rw[List.flatMap_eq_nil_iff]
  intro g hg
  rw[mA]
  unfold kX
  rw[zK hp hg]
  unfold eC
  cases ho:g.opt with
  |true=>rfl
  |false=>
   show (bif false||(true&&dA (zF s 23 g.ty) (zF s 23 g.ty)) then ([]:List UInt8) else _)=[]
   rw[nH];rfl
 cases he:dA (aV s M t b).1 (zF s 23 t) with
 |false=>
  rw[Bool.false_and]
  cases hc:b==bO s 8 t (zF s 23 t) with
  |false=>rfl
  |true=>
   have hb:b=bO s 8 t (zF s 23 t):=eq_of_beq hc
   rw[<-hb] at hdz
   rw[hdz,nH] at he
   cases he
 |true=>
  rw[Bool.true_and]
  have hx:=p7.1 he
  cases h6:t.k==6 with
  |true=>rw[hct6 h6];simp[eq_of_beq h6]
  |false=>
   have hne:(t.k != 6)=true:=by rw[bne,h6];rfl
   rw[hne,Bool.true_or]
   suffices hb:b=bO s 8 t (zF s 23 t) by rw[<-hb];simp
   have hz:zF s 23 t=.mk t.k 0 (mk []) [] []:=by rw[fR,hv,h6];rfl
   obtain ⟨M,rfl⟩:∃k,M=k+1:=⟨M-1,by have:=eE s t;omega⟩
   rw[hz] at hx ⊢
   rw[dL]
   rw[j5] at h hx
   have f0:eI 0=[0]:=(gO (n:=0) (by decide)).trans iN.1
   have num:(kZ s t b).2=0->(kZ s t b).1=.mk t.k 0 (mk []) [] []->b=[0]:=fun h hx=>by
    unfold kZ at h hx
    rcases fL b with ⟨q1,_⟩|⟨q0,q1,q2,q3,q4,q5⟩
    · rw[show ((vr b).2.2 != 0)=true by simpa using q1] at h
      exact absurd h q1
    · rw[q0,show ((0:Int) != 0)=false from rfl,cond_false] at h hx
      cases c2:decide ((vr b).2.1<b.length) with
      |true=>rw[c2] at h;cases h
      |false=>
      rw[c2,cond_false] at h hx
      cases c3:!(eX s t (eK t.k (vr b).1)) with
      |true=>rw[c3] at h;cases h
      |false=>
       rw[c3,cond_false] at hx
       have hn:eK t.k (vr b).1=0:=by
        have:=congrArg Vl.n hx
        exact this
       have hn0:(vr b).1=0:=by
        unfold eK at hn
        cases c:t.k==2 with
        |true=>
         rw[c,cond_true] at hn
         have:=(Y1 q5).symm
         rw[hn] at this
         exact this
        |false=>rw[c,cond_false] at hn;omega
       have c2':=of_decide_eq_false c2
       rw[List.take_of_length_le (by omega),hn0,iN.1] at q4
       exact q4
   rcases pT hv with hk|hk|hk|hk|hk|hk|hk
   · have hk':t.k=1:=eq_of_beq hk
     rw[hk'] at h hx ⊢
     have h:(l7 b).2=0:=h
     have hx:(l7 b).1=.mk 1 0 (mk []) [] []:=hx
     show b=eI 0
     rw[f0]
     unfold l7 at h hx
     cases b with
     |nil=>cases h
     |cons c r=>
      have e0:((c::r)==([]:List UInt8))=false:=rfl
      rw[e0,cond_false] at h hx
      cases c1:decide (1<((c::r).headD 0).toNat)||decide (1<(c::r).length) with
      |true=>rw[c1] at h;cases h
      |false=>
       rw[c1,cond_false] at hx
       rw[Bool.or_eq_false_iff] at c1
       have hr:=of_decide_eq_false c1.2
       have hn:(((c::r).headD 0).toNat:Int)=0:=congrArg Vl.n hx
       have hc:c.toNat=0:=by have:(c.toNat:Int)=0:=hn;omega
       have hr0:r=[]:=by
        cases r with
        |nil=>rfl
        |cons d r=>rw[List.length_cons,List.length_cons] at hr;omega
       rw[hr0,show c=0 from UInt8.toNat_inj.1 (by rw[hc];rfl)]
   · have hk':t.k=2:=eq_of_beq hk
     have key:=num
     rw[hk'] at h hx key ⊢
     show b=vi (iF 0)
     rw[show vi (iF 0)=[0] from iN.1]
     exact key h hx
   · have hk':t.k=3:=eq_of_beq hk
     have key:=num
     rw[hk'] at h hx key ⊢
     show b=eI 0
     rw[f0]
     exact key h hx
   · have hk':t.k=4:=eq_of_beq hk
     rw[hk'] at h hx ⊢
     have h:(wU t b).2=0:=h
     have hx:(wU t b).1=.mk 4 0 (mk []) [] []:=hx
     show b=bl (mk [])
     unfold wU at h hx
     cases c1:decide (t.s<(b.length:Int)) with
     |true=>rw[c1] at h;cases h
     |false=>
      rw[c1,cond_false] at hx
      have:mk b=mk []:=congrArg Vl.s hx
      rw[<-this,iH]
   · have hk':t.k=5:=eq_of_beq hk
     rw[hk'] at h hx ⊢
     have h:(eW (aV s M (t.e.headD default)) t.s b).2=0:=h
     have hx:(eW (aV s M (t.e.headD default)) t.s b).1=.mk 5 0 (mk []) [] []:=hx
     show b=eI 0++[]
     rw[f0]
     unfold eW at h hx
     rcases sA b with ⟨q1,_⟩|⟨q0,q1,q2⟩
     · rw[show ((a7 b).2.2 != 0)=true by simpa using q1] at h
       exact absurd h q1
     · rw[q0,show ((0:Int) != 0)=false from rfl,cond_false] at h hx
       cases c1:decide (t.s<((a7 b).1:Int)) with
       |true=>rw[c1] at h;cases h
       |false=>
       rw[c1,cond_false] at h hx
       cases c2:(bZ (aV s M (t.e.headD default)) (a7 b).1 (a7 b).2.1).2 != 0 with
       |true=>rw[c2,cond_true] at h;exact absurd h (eL c2)
       |false=>
       rw[c2,cond_false] at h hx
       cases c3:!((bZ (aV s M (t.e.headD default)) (a7 b).1 (a7 b).2.1).1.2==[]) with
       |true=>rw[c3] at h;cases h
       |false=>
        rw[c3,cond_false] at hx
        have hl:(bZ (aV s M (t.e.headD default)) (a7 b).1 (a7 b).2.1).1.1=[]:=congrArg Vl.l hx
        have hn:=YU _ _ (cU c2)
        rw[hl] at hn
        have hn:(a7 b).1=0:=hn.symm
        rw[hn,SX] at c3
        have hr:(a7 b).2.1=[]:=by simpa using c3
        rw[hn,hr,iN.1] at q1
        exact q1
   · rw[hk] at h6;cases h6
   · have hk':t.k=7:=eq_of_beq hk
     have key:=num
     rw[hk'] at h hx key ⊢
     show b=eI 0
     rw[f0]
     exact key h hx
def aJ1:W.Spec:=fun av H K=>∃b:List UInt8,av=[tS (mk b)]/\H=[]/\b.length<=9223372036854775807/\K (.tu [.gs (aP (l7 b).1),iA .i64 (l7 b).2]) []
theorem aKN {b:List UInt8} {K:S->Hp->Prop} (h:b.length<=9223372036854775807) (hK:K (.tu [.gs (aP (l7 b).1),iA .i64 (l7 b).2]) []):aJ1 [tS (mk b)] [] K:=⟨b,rfl,rfl,h,hK⟩
theorem KF:Meets Tryz.prog 97 aJ1:=by
 refine aF Tryz.func97 aU2 1 (by rw[Tryz.ntmps97];decide) (aB _) (fun av H K h=>by obtain ⟨_,rfl,_⟩:=h;rfl) ?_
 rintro av H K ⟨b,rfl,rfl,hb,hK⟩
 have fin:∀(v:Vl) (e:Int) (R:Hp),l7 b=(v,e)->W.Fin 0 K (.tu [.gs (aP v),iA .i64 e]) R:=fun v e R h=>by
  rw[h] at hK;exact .z ((by rw[aJ] at hK ⊢;simpa[go_sem] using hK))
 clear hK
 unfold l7 at fin
 cases b with
 |nil=>
  have e0:(([]:List UInt8)==[])=true:=rfl
  simp(maxSteps:=9^6)-dsimp only[go_sem,UW,TA,e0]
  exact fin v0 1 _ rfl
 |cons c r=>
  have e0:(c::r==[])=false:=rfl
  rw[e0,cond_false,List.headD_cons,List.length_cons] at fin
  have e1:decide ((1:Int)<(c.toNat:Int))=decide (1<c.toNat):=by rw[Bool.eq_iff_iff];simp;omega
  have e2:decide ((1:Int)<((r.length+1:Nat):Int))=decide (1<r.length+1):=by rw[Bool.eq_iff_iff];simp;omega
  have e3:IntKind.i64.wrap (c.toNat:Int)=(c.toNat:Int):=tY ⟨by omega,by have:=c.toNat_lt;omega⟩
  have z0:(0:Int)<((r.length+1:Nat):Int):=by omega
  have z1:(c::r)[0]? = some c:=rfl
  have z2:(0:Int)<=0:=by decide
  cases c1:decide (1<c.toNat)<;>cases c2:decide (1<r.length+1)<;>rw[c1,c2] at fin <;>
  · simp(maxSteps:=9^6)-dsimp only[go_sem,UW,TA,e0,e1,e2,c1,c2,z0,z1,z2,aI,forall_eq',Bool.false_or,Bool.true_or,Bool.or_self]
    try simp only[e3]
    first
     |exact fin v0 2 _ rfl
     |exact fin (.mk 1 (c.toNat:Int) (mk []) [] []) 0 _ rfl
def GB:List S->Prop:=fun av=>match av with
 |[.va (.gs r),.va (.c1 (.vl (.string _))),.va (.c1 (.vl (.int .i64 _)))]=>gK r
 |_=>False
theorem sO {av:List S} (h:GB av):∃(s:Sc) (nm:ByteArray) (n:Int),av=[.va (.gs (aD s)),tS nm,iS .i64 n]/\s.fit:=by
 unfold GB at h
 split at h
 · obtain ⟨s,rfl,hs⟩:=h;exact ⟨s,_,_,rfl,hs⟩
 · exact h.elim
noncomputable def WE:List S->A:=fun av=>match av with
 |[.va (.gs r),.va (.c1 (.vl (.string nm))),.va (.c1 (.vl (.int .i64 n)))]=>bA (((d8 (C.sc r).es nm).getD default).vs.any fun x=>x==n)
 |_=>.gs []
noncomputable def n3Fn:Fun:=⟨GB,WE,fun av h=>by obtain ⟨_,_,_,rfl,_⟩:=sO h;trivial⟩
theorem TZ:∀av H K,n3Fn.sp av H K->av.length=3:=fun av H K h=>by obtain ⟨_,_,_,rfl,_⟩:=sO h.1.1;rfl
attribute [go_sem] n3Fn GB WE
theorem PR:Meets Tryz.prog 139 n3Fn.sp:=by
 refine aF Tryz.func139 aMM 3 (by rw[Tryz.ntmps139];decide) (aC IZ (aB _)) TZ ?_
 rintro av H K ⟨⟨h,rfl⟩,hK⟩
 obtain ⟨s,nm,n,rfl,hs⟩:=sO h
 have hK:K (bS (((d8 (C.sc (aD s)).es nm).getD default).vs.any fun x=>x==n)) []:=hK
 rw[dF] at hK
 clear h
 have heo:((d8 s.es nm).getD default).vs.length<=1000000000:=by
  cases hf:d8 s.es nm with
  |none=>exact Nat.zero_le _
  |some e=>exact (hs.en e (DW hf).1).2
 simp(maxSteps:=9^6)-dsimp only[go_sem,aD,Z7,WR]
 refine m9 hs ?_
 generalize (d8 s.es nm).getD default=e at *
 simp(maxSteps:=9^6)-dsimp only[go_sem,aZ]
 refine aA rfl (.done ?_)
 have fin:∀(b:Bool) (R:Hp),(e.vs.any fun x=>x==n)=b->W.Fin 0 K (bS b) R:=fun b R h=>by
  rw[h] at hK;exact .z ((by simpa[go_sem] using hK))
 simp(maxSteps:=9^6)-dsimp only[go_sem,BU]
 refine aL (α:=Nat) (fun i=>[(2,iS .i64 n),(18,.va (.c1 (.fz (e.vs.map cK)))),(19,iS .i64 e.vs.length),(20,iS .i64 i)]) (fun _=>[])
  (fun i=>i<=e.vs.length/\(e.vs.drop i).any (fun x=>x==n)=e.vs.any fun x=>x==n) (fun i=>e.vs.length-i) 0 0 ⟨Nat.zero_le _,rfl⟩ ?_ ?_ ?_
 · simp -dsimp only[go_sem]<;>simp
 · simp -dsimp only[go_sem]<;>simp
 rintro i ⟨hi,ho⟩
 rcases bB i e.vs.length with hlt|hge
 · have hg:decide ((i:Int)<(e.vs.length:Int))=true:=by simp;omega
   have hx:e.vs[i]? = some e.vs[i]:=aU hlt
   have q2:=aT (row:=cK) hx
   rw[List.drop_eq_getElem_cons hlt,List.any_cons] at ho
   generalize e.vs[i]=y at *
   cases hc:y==n with
   |true=>
    rw[hc,Bool.true_or] at ho
    simp(maxSteps:=9^6)-dsimp only[go_sem,hg,↓q2,hc]
    exact ⟨by omega,fin _ _ ho.symm⟩
   |false=>
    rw[hc,Bool.false_or] at ho
    simp(maxSteps:=9^6)-dsimp only[go_sem,hg,↓q2,hc]
    refine ⟨by omega,by omega,aE (i+1) 0 ⟨by omega,ho⟩ (by omega) ?_ ?_⟩
    · simp -dsimp only[go_sem]<;>simp
    · simp -dsimp only[go_sem]<;>simp
 · have hg:decide ((i:Int)<(e.vs.length:Int))=false:=by simp;omega
   have:e.vs.drop i=[]:=List.drop_eq_nil_iff.2 (by omega)
   rw[this] at ho
   simp(maxSteps:=9^6)-dsimp only[go_sem,hg]
   exact fin _ _ ho.symm
def aEZ:W.Spec:=fun av H K=>∃(s:Sc) (t:Ty) (b:List UInt8),av=[.va (.gs (aD s)),.va (.gs (aQ t)),tS (mk b)]/\H=[]/\Dg s/\s.fit/\TyOk t/\valF s.ss s.es t=true/\(t.k==2||(t.k==3||t.k==7))=true/\b.length<=9223372036854775807/\K (.tu [.gs (aP (kZ s t b).1),iA .i64 (kZ s t b).2]) []
theorem aFK {s:Sc} {t:Ty} {b:List UInt8} {K:S->Hp->Prop} (hd:Dg s) (hs:s.fit) (ht:TyOk t) (hv:valF s.ss s.es t=true) (hk:(t.k==2||(t.k==3||t.k==7))=true) (hb:b.length<=9223372036854775807)
 (hK:K (.tu [.gs (aP (kZ s t b).1),iA .i64 (kZ s t b).2]) []) :
 aEZ [.va (.gs [.vl (.int .i64 s.ver),.fz (s.es.map aZ),.fz (s.ss.map aH)]),.va (.gs [.vl (.int .i64 t.k),.vl (.int .i64 t.s),.vl (.string t.n),.fz (t.e.map aQ)]),tS (mk b)] [] K:=⟨s,t,b,by rw[aR];rfl,rfl,hd,hs,ht,hv,hk,hb,hK⟩
theorem aVP (n:Nat):IntKind.u64.wrap ((BitVec.ofInt IntKind.u64.bits (n:Int) &&& BitVec.ofInt IntKind.u64.bits 4294967295).toNat:Int)=((n % 4294967296:Nat):Int):=by
 have hb:IntKind.u64.bits=64:=rfl
 have e:(BitVec.ofInt 64 (n:Int) &&& BitVec.ofInt 64 4294967295).toNat=n % 4294967296:=by
  rw[BitVec.toNat_and,BitVec.ofInt_natCast,BitVec.toNat_ofNat,show (BitVec.ofInt 64 4294967295).toNat=2 ^ 32-1 from rfl,Nat.and_two_pow_sub_one_eq_mod]
  omega
 rw[hb,e,jO (by omega)]
noncomputable def wL:cW:=[(133,.s OE),(138,.s F1),(134,.s N6),(135,.s F3),(136,.s F0),(139,.f n3Fn)]
theorem aED:sp wL 133=OE:=rfl
theorem aGC:sp wL 138=F1:=rfl
theorem aKE:sp wL 134=N6:=rfl
theorem QV:sp wL 135=F3:=rfl
theorem aIK:sp wL 136=F0:=rfl
theorem PG:nZ wL 139=some n3Fn:=rfl
theorem FD:Meets Tryz.prog 98 aEZ:=by
 refine aF (Γ:=wL) Tryz.func98 aVL 3 (by rw[Tryz.ntmps98];decide) (aC AY (aC aN2 (aC HU (aC aJW (aC VN (aG PR (aB _))))))) (fun av H K h=>by obtain ⟨_,_,_,rfl,_⟩:=h;rfl) ?_
 rintro av H K ⟨s,t,b,rfl,rfl,hd,hs,ht,hv,hk,hb,hK⟩
 have fin:∀(v:Vl) (e:Int) (R:Hp),kZ s t b=(v,e)->W.Fin 0 K (.tu [.gs (aP v),iA .i64 e]) R:=fun v e R h=>by
  rw[h] at hK;exact .z ((by rw[aJ] at hK ⊢;simpa[go_sem] using hK))
 clear hK
 unfold kZ at fin
 have hvr:=fL b
 have hnr:(vr b).2.2=0->eX s t (eK t.k (vr b).1)=true->bT (eK t.k (vr b).1)/\((t.k==2)=false->eK t.k (vr b).1=(vr b).1/\(vr b).1<4294967296):=fun _=>NM hd hv hk (uV b)
 have hlt:=uV b
 have tail:∀(n:Int) (ok:Bool),((vr b).2.2=0->(ok=eX s t (eK t.k (vr b).1)/\(ok=true->n=eK t.k (vr b).1)))->
  vc wL 0 pc98_13.ungh (iJ [(4,.va (.c1 (.pt 1 0))),(6,.va (.c1 (.pt 2 0))),(8,.va (.c1 (.pt 3 0))),(9,iS .i64 n),(10,bS ok)])
   [.cells [.vl (.int .i64 s.ver),.fz (s.es.map aZ),.fz (s.ss.map aH)] 25,.cells [.vl (.int .i64 t.k),.vl (.int .i64 t.s),.vl (.string t.n),.fz (t.e.map aQ)] 42,.cells [.vl (.int .i64 0),.vl (.int .i64 0),.vl (.string (mk [])),.vl (.slice none 0 0),.vl (.slice none 0 0)] 29,iM b (vr b).2.1 (vr b).2.2]
   (fun e fr' H'=>match e with
     |.e j=>if j=0 then vc wL 0 pS fr' H' (qU 0 tI K) else qU 0 tI K (.e j) fr' H'
     |e=>match e with
      |.n=>vc wL 0 pS fr' H' (qU 0 tI K)
      |e=>qU 0 tI K e fr' H'):=by
  intro n ok hnk
  simp(maxSteps:=9^6)-dsimp only[go_sem,pc98_13,tI,QV,eF]
  refine B5 ?_
  cases c1:(vr b).2.2 != 0 with
  |true=>
   rw[c1,cond_true] at fin
   simp(maxSteps:=9^6)-dsimp only[go_sem,QV,eF,c1]
   refine B5 ?_
   simp(maxSteps:=9^6)-dsimp only[go_sem,eF]
   exact fin v0 _ _ rfl
  |false=>
   rw[c1,cond_false] at fin
   obtain ⟨h0,hle⟩:(vr b).2.2=0/\(vr b).2.1<=b.length:=by
    rcases hvr with ⟨h,_⟩|⟨a,_,_,d,_⟩
    · exact absurd (cU c1) h
    · exact ⟨a,d⟩
   obtain ⟨hok,hn⟩:=hnk h0
   simp(maxSteps:=9^6)-dsimp only[go_sem,eF,c1]
   refine aA rfl (.done ?_)
   simp(maxSteps:=9^6)-dsimp only[go_sem,CC,aIK,eF]
   refine M0 hle hb ?_
   have e1:decide ((0:Int)<(b.length:Int)-((vr b).2.1:Int))=decide ((vr b).2.1<b.length):=by rw[Bool.eq_iff_iff,decide_eq_true_iff,decide_eq_true_iff];omega
   cases c2:decide ((vr b).2.1<b.length) with
   |true=>
    rw[c2,cond_true] at fin
    simp(maxSteps:=9^6)-dsimp only[go_sem,eF,e1,c2]
    exact fin v0 _ _ rfl
   |false=>
    rw[c2,cond_false] at fin
    simp(maxSteps:=9^6)-dsimp only[go_sem,eF,e1,c2]
    refine aA rfl (.done ?_)
    rw[<-hok] at fin
    cases ok with
    |false=>
     simp(maxSteps:=9^6)-dsimp only[go_sem,uZ,Bool.not_false]
     exact fin v0 _ _ rfl
    |true=>
     rw[hn rfl]
     simp(maxSteps:=9^6)-dsimp only[go_sem,uZ,Bool.not_true]
     refine aA rfl (.done ?_)
     simp(maxSteps:=9^6)-dsimp only[go_sem,pS,tI]
     exact fin (.mk t.k (eK t.k (vr b).1) (mk []) [] []) 0 _ rfl
 simp(maxSteps:=9^6)-dsimp only[go_sem,aD,aR t,aGI,tI,aED]
 refine SA ?_
 simp(maxSteps:=9^6)-dsimp only[go_sem,eF]
 refine aA rfl (.done ?_)
 simp(maxSteps:=9^6)-dsimp only[go_sem,HF]
 refine aA rfl (.done ?_)
 simp(maxSteps:=9^6)-dsimp only[go_sem,II]
 refine aA rfl (.done ?_)
 cases c2:t.k==2 with
 |true=>
  simp(maxSteps:=9^6)-dsimp only[go_sem,zJ,c2,aGC]
  refine aCV hb ?_
  simp(maxSteps:=9^6)-dsimp only[go_sem,eF]
  refine aA rfl (.done ?_)
  have hnu:eK t.k (vr b).1=fD (vr b).1:=by unfold eK;rw[c2,cond_true]
  have hrg:∀n:Int,eX s t n=(t.s==64||(decide (-(2 ^ (t.s.toNat-1):Int)<=n)&&decide (n<(2 ^ (t.s.toNat-1):Int)))):=fun n=>by
   unfold eX;rw[bG c2 (b:=1) (by decide),c2];rfl
  generalize hN:fD (vr b).1=n at *
  cases h64:t.s==64 with
  |true=>
   simp(maxSteps:=9^6)-dsimp only[go_sem,zQ,h64,Bool.false_and]
   refine m7 4 (tail n true fun h0=>⟨by rw[hrg,h64];rfl,fun _=>hnu.symm⟩) ?_ ?_
   · simp -dsimp only[go_sem,jB]<;>simp
   · simp -dsimp only[go_sem,eF]<;>simp[eF]
  |false=>
   obtain ⟨b1,b2,e1,e2⟩:8<=t.s/\t.s<=32/\IntKind.i64.wrap (-1*2 ^ min (t.s-1).toNat 64)=-(2 ^ (t.s.toNat-1):Int)/\IntKind.i64.wrap (1*2 ^ min (t.s-1).toNat 64)=(2 ^ (t.s.toNat-1):Int):=by
    rcases aG8 hv c2 with hz|hz|hz|hz
    · rw[hz];decide
    · rw[hz];decide
    · rw[hz];decide
    · rw[hz] at h64;simp at h64
   have f1:(0<=t.s-1)=True:=eq_true (by omega)
   have f2:(-9223372036854775808<=t.s-1)=True:=eq_true (by omega)
   have f3:(t.s-1<=9223372036854775807)=True:=eq_true (by omega)
   have hrg':=hrg n
   rw[h64,Bool.false_or] at hrg'
   generalize (2 ^ (t.s.toNat-1):Int)=hi at *
   cases h4:decide (-hi<=n)<;>cases h5:decide (n<hi) <;>
   · rw[h4,h5] at hrg'
     simp(maxSteps:=9^6)-dsimp only[go_sem,zQ,h64,h4,h5,f1,f2,f3,e1,e2,Bool.and_self,Bool.and_true,Bool.and_false,Bool.true_and,Bool.false_and]
     rw[<-hnu] at hrg'
     refine m7 4 (tail n _ fun h0=>⟨hrg'.symm,fun _=>hnu.symm⟩) ?_ ?_
     · simp -dsimp only[go_sem,jB]<;>simp
     · simp -dsimp only[go_sem,eF]<;>simp[eF]
 |false=>
  simp(maxSteps:=9^6)-dsimp only[go_sem,zJ,c2,aKE]
  refine I5 hb ?_
  simp(maxSteps:=9^6)-dsimp only[go_sem,eF]
  refine aA rfl (.done ?_)
  simp(maxSteps:=9^6)-dsimp only[go_sem,G8]
  refine aA rfl (.done ?_)
  simp(maxSteps:=9^6)-dsimp only[go_sem,IA,aVP]
  refine aA rfl (.done ?_)
  generalize hU:(vr b).1=U at *
  have hnu:eK t.k U=U:=by unfold eK;rw[c2,cond_false]
  have hw:IntKind.i64.wrap ((U % 4294967296:Nat):Int)=((U % 4294967296:Nat):Int):=tY ⟨by omega,by omega⟩
  have e0:decide ((U:Int)<4294967296)=decide (U<4294967296):=by rw[Bool.eq_iff_iff,decide_eq_true_iff,decide_eq_true_iff];omega
  rw[hnu] at hnr
  have hbig:(vr b).2.2=0->decide (U<4294967296)=false->eX s t U=false:=fun h0 h1=>by
   cases h:eX s t U with
   |false=>rfl
   |true=>have:=((hnr h0 h).2 c2).2;have:=of_decide_eq_false h1;omega
  cases c3:t.k==3 with
  |true=>
   obtain ⟨b1,b2,e1⟩:8<=t.s/\t.s<=32/\IntKind.i64.wrap (1*2 ^ min t.s.toNat 64)=(2 ^ t.s.toNat:Int):=by
    rcases S3 hv c3 with hz|hz|hz<;>rw[hz]<;>decide
   have f1:(0<=t.s)=True:=eq_true (by omega)
   have hrg:=YG (s:=s) (n:=(U:Int)) c3
   rw[decide_eq_true (show (0:Int)<=(U:Int) by omega),Bool.true_and] at hrg
   generalize (2 ^ t.s.toNat:Int)=hi at *
   cases h4:decide (U<4294967296) with
   |true=>
    have hm:U % 4294967296=U:=Nat.mod_eq_of_lt (of_decide_eq_true h4)
    rw[hm] at hw ⊢
    cases h5:decide ((U:Int)<hi) <;>
    · rw[h5] at hrg
      simp(maxSteps:=9^6)-dsimp only[go_sem,m3,c3,hw,e0,h4]
      refine aA rfl (.done ?_)
      simp(maxSteps:=9^6)-dsimp only[go_sem,vH,f1,e1,h5]
      have hx:=hrg
      rw[<-hnu] at hx
      refine m7 4 (tail U _ fun h0=>⟨hx.symm,fun _=>hnu.symm⟩) ?_ ?_
      · simp -dsimp only[go_sem,jB]<;>simp
      · simp -dsimp only[go_sem,eF]<;>simp[eF,hU]
   |false=>
    simp(maxSteps:=9^6)-dsimp only[go_sem,m3,c3,hw,e0,h4]
    refine aA rfl (.done ?_)
    simp(maxSteps:=9^6)-dsimp only[go_sem,vH,f1,e1]
    refine m7 4 (tail ((U % 4294967296:Nat):Int) false fun h0=>⟨by rw[hnu];exact (hbig h0 h4).symm,fun h=>(by cases h)⟩) ?_ ?_
    · simp -dsimp only[go_sem,jB]<;>simp
    · simp -dsimp only[go_sem,eF]<;>simp[eF,hU]
  |false=>
   have c7:(t.k==7)=true:=by rw[c2,c3] at hk;simpa using hk
   have hrg:=XF (s:=s) (n:=(U:Int)) c7
   have k6:=dQ hs
   have k7:=gV s
   have heo:(d8 s.es t.n).getD default=enOf s t:=rfl
   cases h4:decide (U<4294967296) with
   |true=>
    have hm:U % 4294967296=U:=Nat.mod_eq_of_lt (of_decide_eq_true h4)
    rw[hm] at hw ⊢
    simp(maxSteps:=9^6)-dsimp only[go_sem,m3,c3,hw,e0,h4]
    refine aA rfl (.done ?_)
    simp(maxSteps:=9^6)-dsimp only[go_sem,u6,PG,k6,k7,heo]
    have hx:eX s t (eK t.k U)=(enOf s t).vs.any (fun x=>x==(U:Int)):=by rw[hnu];exact hrg
    refine m7 4 (tail U _ fun h0=>⟨hx.symm,fun _=>hnu.symm⟩) ?_ ?_
    · simp -dsimp only[go_sem,jB]<;>simp
    · simp -dsimp only[go_sem,eF]<;>simp[eF,hU]
   |false=>
    simp(maxSteps:=9^6)-dsimp only[go_sem,m3,c3,hw,e0,h4]
    refine aA rfl (.done ?_)
    simp(maxSteps:=9^6)-dsimp only[go_sem,u6,PG,k6,k7,heo]
    refine m7 4 (tail ((U % 4294967296:Nat):Int) false fun h0=>⟨by rw[hnu];exact (hbig h0 h4).symm,fun h=>(by cases h)⟩) ?_ ?_
    · simp -dsimp only[go_sem,jB]<;>simp
    · simp -dsimp only[go_sem,eF]<;>simp[eF,hU]
def CV (N:Nat):W.Spec:=fun av H K=>∃(s:Sc) (t:Ty) (b:List UInt8),av=[.va (.gs (aD s)),.va (.gs (aQ t)),tS (mk b)]/\H=[]/\Dg s/\s.fit/\TyOk t/\valF s.ss s.es t=true/\fK s t<N/\b.length<=1000000000/\K (.tu [.gs (aP (aV s N t b).1),iA .i64 (aV s N t b).2]) []
theorem RH {N:Nat} {s:Sc} {t:Ty} {b:List UInt8} {K:S->Hp->Prop} (hd:Dg s) (hs:s.fit) (ht:TyOk t) (hv:valF s.ss s.es t=true) (hf:fK s t<N) (hb:b.length<=1000000000)
 (hK:K (.tu [.gs [.vl (.int .i64 (aV s N t b).1.k),.vl (.int .i64 (aV s N t b).1.n),.vl (.string (aV s N t b).1.s),.fz ((aV s N t b).1.l.map aP),.fz ((aV s N t b).1.f.map bD)],iA .i64 (aV s N t b).2]) []) :
 CV N [.va (.gs [.vl (.int .i64 s.ver),.fz (s.es.map aZ),.fz (s.ss.map aH)]),.va (.gs [.vl (.int .i64 t.k),.vl (.int .i64 t.s),.vl (.string t.n),.fz (t.e.map aQ)]),tS (mk b)] [] K:=⟨s,t,b,by rw[aR];rfl,rfl,hd,hs,ht,hv,hf,hb,by rw[aJ];exact hK⟩
def oF (acc:List Vl) (q:(List Vl×List UInt8)×Int):(List Vl×List UInt8)×Int:=bif q.2 != 0 then (([],[]),q.2) else ((acc++q.1.1,q.1.2),0)
theorem O9 (a b:List Vl) (q:(List Vl×List UInt8)×Int):oF a (oF b q)=oF (a++b) q:=by
 unfold oF
 cases hq:q.2 != 0 with
 |true=>simp only[cond_true,hq]
 |false=>simp only[cond_false];rw[show ((0:Int) != 0)=false from rfl,cond_false,List.append_assoc]
theorem qN (a:List Vl) {e:Int} (h:(e != 0)=true) (x:List Vl×List UInt8):oF a (x,e)=(([],[]),e):=by unfold oF;rw[h];rfl
theorem aOG {R:List UInt8->Vl×Int}:∀(n:Nat) (b:List UInt8),(bZ R n b).2≠0->(bZ R n b).1=([],[])
 |0,_,h=>absurd rfl h
 |n+1,b,h=>by
  rw[j7] at h ⊢
  cases c1:(bL b).2.2 != 0 with
  |true=>rfl
  |false=>
  rw[c1,cond_false] at h
  rw[cond_false]
  cases c2:(R (bL b).1).2 != 0 with
  |true=>rfl
  |false=>
  rw[c2,cond_false] at h
  rw[cond_false]
  cases c:(bZ R n (bL b).2.1).2 != 0 with
  |true=>rfl
  |false=>rw[c] at h;exact absurd rfl h
theorem H9 (R:List UInt8->Vl×Int) (n:Nat) (b:List UInt8):bZ R (n+1) b=bif (bL b).2.2 != 0 then (([],[]),(bL b).2.2) else bif (R (bL b).1).2 != 0 then (([],[]),(R (bL b).1).2) else oF [(R (bL b).1).1] (bZ R n (bL b).2.1):=by
 rw[j7];rfl
theorem KV {R:List UInt8->Vl×Int} (n:Nat) (b:List UInt8):oF [] (bZ R n b)=bZ R n b:=by
 have h:=aOG (R:=R) n b
 unfold oF
 generalize bZ R n b=q at *
 obtain ⟨⟨x,y⟩,e⟩:=q
 cases hq:e != 0 with
 |true=>
  have h2:(x,y)=([],[]):=h (eL hq)
  rw[cond_true,h2]
 |false=>
  have:=cU hq
  subst this;rfl
def aHA (N:Nat):W.Spec:=fun av H K=>∃(s:Sc) (t:Ty) (b:List UInt8),av=[.va (.gs (aD s)),.va (.gs (aQ t)),tS (mk b)]/\H=[]/\Dg s/\s.fit/\TyOk t/\valF s.ss s.es t=true/\(t.k==5)=true/\fK s t<N+1/\b.length<=1000000000/\
 K (.tu [.gs (aP (eW (aV s N (t.e.headD default)) t.s b).1),iA .i64 (eW (aV s N (t.e.headD default)) t.s b).2]) []
theorem aKU {N:Nat} {s:Sc} {t:Ty} {b:List UInt8} {K:S->Hp->Prop} (hd:Dg s) (hs:s.fit) (ht:TyOk t) (hv:valF s.ss s.es t=true) (h5:(t.k==5)=true) (hf:fK s t<N+1) (hb:b.length<=1000000000)
 (hK:K (.tu [.gs (aP (eW (aV s N (t.e.headD default)) t.s b).1),iA .i64 (eW (aV s N (t.e.headD default)) t.s b).2]) []) :
 aHA N [.va (.gs [.vl (.int .i64 s.ver),.fz (s.es.map aZ),.fz (s.ss.map aH)]),.va (.gs [.vl (.int .i64 t.k),.vl (.int .i64 t.s),.vl (.string t.n),.fz (t.e.map aQ)]),tS (mk b)] [] K:=⟨s,t,b,by rw[aR];rfl,rfl,hd,hs,ht,hv,h5,hf,hb,hK⟩
theorem KE {N:Nat} (hD:Meets Tryz.prog 55 (CV N)):Meets Tryz.prog 99 (aHA N):=by
 refine aF Tryz.func99 aU8 3 (by rw[Tryz.ntmps99];decide) (aC xH (aC PV (aC hD (aB _)))) (fun av H K h=>by obtain ⟨_,_,_,rfl,_⟩:=h;rfl) ?_
 rintro av H K ⟨s,t,b,rfl,rfl,hd,hs,ht,hv,h5,hf,hb,hK⟩
 obtain ⟨u,he,hu⟩:=rV hv h5
 have hto:=ht.e u (by rw[he];exact List.mem_singleton.2 rfl)
 have hfd:=qB (s:=s) h5 he
 have h32:=(kH hv).2 h5
 have h45:=NP hv (.inr h5)
 rw[he] at hK
 have fin:∀(v:Vl) (e:Int) (R:Hp),eW (aV s N u) t.s b=(v,e)->W.Fin 0 K (.tu [.gs (aP v),iA .i64 e]) R:=fun v e R h=>by
  have hK:K (.tu [.gs (aP (eW (aV s N u) t.s b).1),iA .i64 (eW (aV s N u) t.s b).2]) []:=hK
  rw[h] at hK;exact .z ((by rw[aJ] at hK ⊢;simpa[go_sem] using hK))
 have fin2:∀(l:List Vl),eW (aV s N u) t.s b=(.mk 5 0 (mk []) l [],0)->K (.tu [.gs (aP (.mk 5 0 (mk []) l [])),iA .i64 0]) []:=fun l h=>by
  have hK:K (.tu [.gs (aP (eW (aV s N u) t.s b).1),iA .i64 (eW (aV s N u) t.s b).2]) []:=hK
  rw[h] at hK;exact hK
 clear hK
 unfold eW at fin fin2
 have hcl:=t7 b
 have hcn:=ZB b
 simp(maxSteps:=9^6)-dsimp only[go_sem,aD,aR t,aKQ,aHM]
 refine BC (by omega) ?_
 generalize a7 b=z at *
 obtain ⟨n,r,e⟩:=z
 simp only at fin fin2 hcl hcn ⊢
 simp(maxSteps:=9^6)-dsimp only[go_sem]
 refine aA rfl (.done ?_)
 cases c1:e != 0 with
 |true=>
  rw[c1,cond_true] at fin
  simp(maxSteps:=9^6)-dsimp only[go_sem,zU,c1]
  exact fin v0 _ _ rfl
 |false=>
 rw[c1,cond_false] at fin fin2
 simp(maxSteps:=9^6)-dsimp only[go_sem,zU,c1]
 refine aA rfl (.done ?_)
 have hw:IntKind.u64.wrap t.s=t.s:=by
  have:=jO (n:=t.s.toNat) (by omega)
  rwa [Int.toNat_of_nonneg (by omega)] at this
 cases c2:decide (t.s<(n:Int)) with
 |true=>
  rw[c2,cond_true] at fin
  simp(maxSteps:=9^6)-dsimp only[go_sem,zZ,hw,c2]
  exact fin v0 _ _ rfl
 |false=>
 rw[c2,cond_false] at fin fin2
 have c2':=of_decide_eq_false c2
 simp(maxSteps:=9^6)-dsimp only[go_sem,zZ,hw,c2]
 refine aA rfl (.done ?_)
 simp(maxSteps:=9^6)-dsimp only[go_sem,G3]
 refine aA rfl (.done ?_)
 simp(maxSteps:=9^6)-dsimp only[go_sem,JD]
 refine cM (α:=Nat×List UInt8×List Vl) (fun z=>[(2,tS (mk z.2.1)),(3,.va (.c1 (.pt 0 0))),(4,.va (.c1 (.pt 1 0))),(6,.va (.c1 (.pt 2 0))),(10,.va (.c1 (.pt 3 0))),(32,iS .u64 n),(33,iS .u64 z.1)])
  (fun z=>[.cells [.vl (.int .i64 s.ver),.fz (s.es.map aZ),.fz (s.ss.map aH)] 25,.cells [.vl (.int .i64 t.k),.vl (.int .i64 t.s),.vl (.string t.n),.fz (t.e.map aQ)] 42,.cells [.vl (.int .i64 0),.vl (.int .i64 0),.vl (.string (mk [])),.vl (.slice none 0 0),.vl (.slice none 0 0)] 29,
    .cells [.vl (.int .i64 5),.vl (.int .i64 0),.vl (.string (mk [])),.sl 4 z.2.2.length,.vl (.slice none 0 0)] 29,.row (z.2.2.map aP) 29 5])
  (fun z=>z.1<=n/\z.2.2.length=z.1/\z.2.1.length<=b.length/\oF z.2.2 (bZ (aV s N u) (n-z.1) z.2.1)=bZ (aV s N u) n r) (fun z=>n-z.1)
  (.nilc 3 3 29 5 [.vl (.int .i64 5),.vl (.int .i64 0),.vl (.string (mk [])),.vl (.slice none 0 0),.vl (.slice none 0 0)] 29 rfl rfl (jD (0,r,[]) 5 ⟨Nat.zero_le _,rfl,hcl.1,by rw[Nat.sub_zero];exact KV _ _⟩ ?_ ?_)) ?_
 · simp -dsimp only[go_sem]<;>simp
 · simp -dsimp only[go_sem]<;>simp
 rintro ⟨i,x,acc⟩ ⟨hi,hal,hxl,ho⟩
 simp only at hi hal hxl ho ⊢
 rcases bB i n with hlt|hge
 · have hg:decide ((i:Int)<(n:Int))=true:=by simp;omega
   obtain ⟨m,hm⟩:∃m,n-i=m+1:=⟨n-i-1,by omega⟩
   have hm':m=n-(i+1):=by omega
   rw[hm,H9] at ho
   have htl:=HV x
   simp(maxSteps:=9^6)-dsimp only[go_sem,hg]
   refine aA rfl (.done ?_)
   simp(maxSteps:=9^6)-dsimp only[go_sem,I7]
   refine LV (by omega) ?_
   generalize bL x=z at *
   obtain ⟨c,q,e2⟩:=z
   simp only at ho htl ⊢
   simp(maxSteps:=9^6)-dsimp only[go_sem]
   refine aA rfl (.done ?_)
   cases d1:e2 != 0 with
   |true=>
    rw[d1,cond_true,qN acc d1] at ho
    rw[<-ho] at fin
    simp only[d1,cond_true] at fin
    simp(maxSteps:=9^6)-dsimp only[go_sem,wF,d1]
    exact fin v0 _ _ rfl
   |false=>
    rw[d1,cond_false] at ho
    simp(maxSteps:=9^6)-dsimp only[go_sem,wF,d1]
    refine aA rfl (.done ?_)
    have z0:(0:Int)<((1:Nat):Int):=by decide
    have z1:(0:Int)<=0:=by decide
    have hvo:=m6 hs hd N u c hto hu (by omega)
    simp(maxSteps:=9^6)-dsimp only[go_sem,C6,he,aR u,forall_eq',z0,z1,List.length_cons,List.length_nil,List.take_succ_cons,List.take_zero]
    refine RH hd hs hto hu (by omega) (by omega) ?_
    generalize aV s N u c=w at *
    obtain ⟨y,e3⟩:=w
    simp only at ho hvo ⊢
    simp(maxSteps:=9^6)-dsimp only[go_sem]
    refine aA rfl (.done ?_)
    cases d2:e3 != 0 with
    |true=>
     rw[d2,cond_true,qN acc d2] at ho
     rw[<-ho] at fin
     simp only[d2,cond_true] at fin
     simp(maxSteps:=9^6)-dsimp only[go_sem,vY,d2]
     exact fin v0 _ _ rfl
    |false=>
     rw[d2,cond_false,O9,hm'] at ho
     simp(maxSteps:=9^6)-dsimp only[go_sem,vY,d2]
     refine aA rfl (.done ?_)
     simp(maxSteps:=9^6)-dsimp only[go_sem,BK,List.take_succ_cons,List.take_zero,List.length_cons,List.length_nil]
     refine ⟨by omega,by omega,aE (i+1,q,acc++[y]) 5 ⟨by simp only;omega,by simp only[List.length_append,List.length_singleton];omega,by simp only;omega,ho⟩ (by simp only;omega) ?_ ?_⟩
     · simp -dsimp only[go_sem]<;>simp
     · simp -dsimp only[go_sem,he,aR u]<;>simp[he,aR u,aJ y]
 · have hg:decide ((i:Int)<(n:Int))=false:=by simp;omega
   obtain rfl:i=n:=by omega
   rw[Nat.sub_self] at ho
   have ho:((acc++[],x),(0:Int))=bZ (aV s N u) i r:=ho
   rw[List.append_nil] at ho
   rw[<-ho] at fin fin2
   simp only[bne_self_eq_false,cond_false] at fin fin2
   simp(maxSteps:=9^6)-dsimp only[go_sem,hg]
   refine aA rfl (.done ?_)
   cases d1:x==[] with
   |false=>
    rw[d1] at fin
    simp(maxSteps:=9^6)-dsimp only[go_sem,wA,d1,Bool.not_false]
    exact fin v0 _ _ rfl
   |true=>
    rw[d1] at fin2
    simp(maxSteps:=9^6)-dsimp only[go_sem,wA,d1,Bool.not_true]
    refine .pub 4 _ _ _ rfl (.sel [] (by simp) (by simp[b5]) rfl (.done ?_))
    have:=fin2 acc rfl
    rw[aJ] at this
    simp -dsimp only[go_sem,b5]
    simpa[Vl.k,Vl.n,Vl.s,Vl.l,Vl.f,hal] using this
def rX (N:Nat):W.Spec:=fun av H K=>∃(s:Sc) (t:Ty) (b:List UInt8),av=[.va (.gs (aD s)),.va (.gs (aQ t)),tS (mk b)]/\H=[]/\Dg s/\s.fit/\TyOk t/\TySm t/\valF s.ss s.es t=true/\fK s t<N/\b.length<=2000/\∀w:Vl,((aV s N t b).2=0->w=(aV s N t b).1)->K (.tu [.gs (aP w),iA .i64 (aV s N t b).2]) []
theorem K4 {N:Nat} {s:Sc} {t:Ty} {b:List UInt8} {K:S->Hp->Prop} (hd:Dg s) (hs:s.fit) (ht:TyOk t) (hm:TySm t) (hv:valF s.ss s.es t=true) (hf:fK s t<N) (hb:b.length<=2000)
 (hK:∀w:Vl,((aV s N t b).2=0->w=(aV s N t b).1)->K (.tu [.gs [.vl (.int .i64 w.k),.vl (.int .i64 w.n),.vl (.string w.s),.fz (w.l.map aP),.fz (w.f.map bD)],iA .i64 (aV s N t b).2]) []) :
 rX N [.va (.gs [.vl (.int .i64 s.ver),.fz (s.es.map aZ),.fz (s.ss.map aH)]),.va (.gs [.vl (.int .i64 t.k),.vl (.int .i64 t.s),.vl (.string t.n),.fz (t.e.map aQ)]),tS (mk b)] [] K:=⟨s,t,b,by rw[aR];rfl,rfl,hd,hs,ht,hm,hv,hf,hb,fun w h=>by rw[aJ];exact hK w h⟩
def NY (N:Nat):W.Spec:=fun av H K=>∃(s:Sc) (t:Ty) (b:List UInt8),av=[.va (.gs (aD s)),.va (.gs (aQ t)),tS (mk b)]/\H=[]/\Dg s/\s.fit/\TyOk t/\TySm t/\valF s.ss s.es t=true/\(t.k==5)=true/\fK s t<N+1/\b.length<=2000/\
 ∀w:Vl,((eW (aV s N (t.e.headD default)) t.s b).2=0->w=(eW (aV s N (t.e.headD default)) t.s b).1)->K (.tu [.gs (aP w),iA .i64 (eW (aV s N (t.e.headD default)) t.s b).2]) []
theorem aC5 {N:Nat} {s:Sc} {t:Ty} {b:List UInt8} {K:S->Hp->Prop} (hd:Dg s) (hs:s.fit) (ht:TyOk t) (hm:TySm t) (hv:valF s.ss s.es t=true) (h5:(t.k==5)=true) (hf:fK s t<N+1) (hb:b.length<=2000)
 (hK:∀w:Vl,((eW (aV s N (t.e.headD default)) t.s b).2=0->w=(eW (aV s N (t.e.headD default)) t.s b).1)->K (.tu [.gs [.vl (.int .i64 w.k),.vl (.int .i64 w.n),.vl (.string w.s),.fz (w.l.map aP),.fz (w.f.map bD)],iA .i64 (eW (aV s N (t.e.headD default)) t.s b).2]) []) :
 NY N [.va (.gs [.vl (.int .i64 s.ver),.fz (s.es.map aZ),.fz (s.ss.map aH)]),.va (.gs [.vl (.int .i64 t.k),.vl (.int .i64 t.s),.vl (.string t.n),.fz (t.e.map aQ)]),tS (mk b)] [] K:=⟨s,t,b,by rw[aR];rfl,rfl,hd,hs,ht,hm,hv,h5,hf,hb,fun w h=>by rw[aJ];exact hK w h⟩
theorem TySm.e9 {t:Ty} (h:TySm t):∀u∈t.e,TySm u:=by cases h;assumption
theorem aMF {b:List UInt8} {a:Nat}:bL (b.drop a)=bif (vr (b.drop a)).2.2 != 0 then ([],[],(vr (b.drop a)).2.2) else bif decide (b.length-(a+(vr (b.drop a)).2.1)<(vr (b.drop a)).1) then ([],[],1) else ((b.drop (a+(vr (b.drop a)).2.1)).take (vr (b.drop a)).1,b.drop (a+(vr (b.drop a)).2.1+(vr (b.drop a)).1),0):=by
 unfold bL a7
 generalize vr (b.drop a)=z
 obtain ⟨n,k,e⟩:=z
 simp only
 cases c1:e != 0 with
 |true=>simp only[cond_true,c1]
 |false=>simp only[cond_false,show ((0:Int) != 0)=false from rfl,List.drop_drop,List.length_drop]
theorem aFW {N:Nat} (hD:Meets Tryz.prog 56 (rX N)):Meets Tryz.prog 102 (NY N):=by
 refine aF Tryz.func102 aF4 3 (by rw[Tryz.ntmps102];decide) (aC kJ (aG JH (aC hD (aB _)))) (fun av H K h=>by obtain ⟨_,_,_,rfl,_⟩:=h;rfl) ?_
 rintro av H K ⟨s,t,b,rfl,rfl,hd,hs,ht,htm,hv,h5,hf,hb,hK⟩
 obtain ⟨u,he,hu⟩:=rV hv h5
 have hto:=ht.e u (by rw[he];exact List.mem_singleton.2 rfl)
 have htu:=htm.e9 u (by rw[he];exact List.mem_singleton.2 rfl)
 have hfd:=qB (s:=s) h5 he
 have h32:=(kH hv).2 h5
 have h45:=NP hv (.inr h5)
 rw[he] at hK
 have fin:∀(w:Vl) (q:Vl×Int) (R:Hp),eW (aV s N u) t.s b=q->(q.2=0->w=q.1)->W.Fin 0 K (.tu [.gs [.vl (.int .i64 w.k),.vl (.int .i64 w.n),.vl (.string w.s),.fz (w.l.map aP),.fz (w.f.map bD)],iA .i64 q.2]) R:=fun w q R h hw=>by
  have hK:((eW (aV s N u) t.s b).2=0->w=(eW (aV s N u) t.s b).1)->K (.tu [.gs (aP w),iA .i64 (eW (aV s N u) t.s b).2]) []:=hK w
  rw[h] at hK
  have hK:=hK hw
  exact .z ((by rw[aJ] at hK;simpa[go_sem] using hK))
 clear hK
 unfold eW a7 at fin
 have h1:=fL b
 have hru:=@m5 b 0
 rw[List.drop_zero] at hru
 simp only[Nat.zero_add] at hru
 simp(maxSteps:=9^6)-dsimp only[go_sem,aD,aR t,QP,PP]
 refine hru (Nat.zero_le _) (by omega) ?_
 generalize vr b=y at *
 obtain ⟨n,k,e⟩:=y
 simp only at fin h1 hru ⊢
 simp(maxSteps:=9^6)-dsimp only[go_sem]
 refine aA rfl (.done ?_)
 cases c1:e != 0 with
 |true=>
  rw[c1] at fin
  simp only[cond_true,c1] at fin
  simp(maxSteps:=9^6)-dsimp only[go_sem,rL,c1]
  exact fin (.mk 5 0 (mk []) [] []) _ _ rfl fun h=>absurd h (eL c1)
 |false=>
 obtain rfl:=cU c1
 simp only[show ((0:Int) != 0)=false from rfl,cond_false] at fin
 obtain ⟨hk,hn⟩:k<=b.length/\n<18446744073709551616:=by
  rcases h1 with ⟨h,_⟩|⟨_,_,_,h,_,h2⟩
  · exact absurd rfl h
  · exact ⟨h,h2⟩
 simp(maxSteps:=9^6)-dsimp only[go_sem,rL,c1]
 refine aA rfl (.done ?_)
 have hw:IntKind.u64.wrap t.s=t.s:=F4 (by omega) (by omega)
 cases c2:decide (t.s<(n:Int)) with
 |true=>
  rw[c2,cond_true] at fin
  simp(maxSteps:=9^6)-dsimp only[go_sem,qO,hw,c2]
  exact fin (.mk 5 0 (mk []) [] []) _ _ rfl fun h=>by cases h
 |false=>
 rw[c2,cond_false] at fin
 have c2':=of_decide_eq_false c2
 have hni:IntKind.i64.wrap (n:Int)=(n:Int):=lX (by omega)
 simp(maxSteps:=9^6)-dsimp only[go_sem,qO,hw,c2]
 refine cM (α:=Nat×Nat×List Vl) (fun z=>[(2,tS (mk b)),(3,.va (.c1 (.pt 0 0))),(4,.va (.c1 (.pt 1 0))),(6,.va (.c1 (.pt 2 0))),(8,.va (.c1 (.pt 3 0))),(9,.va (.c1 (.pt 4 0))),(10,iS .u64 n),(11,iS .i64 z.1)])
  (fun z=>[.cells [.vl (.int .i64 s.ver),.fz (s.es.map aZ),.fz (s.ss.map aH)] 25,.cells [.vl (.int .i64 t.k),.vl (.int .i64 t.s),.vl (.string t.n),.fz (t.e.map aQ)] 42,.cells [.vl (.int .i64 0),.vl (.int .i64 0),.vl (.string (mk [])),.vl (.slice none 0 0),.vl (.slice none 0 0)] 29,
    .cells [.vl (.int .i64 5),.vl (.int .i64 0),.vl (.string (mk [])),.sl 5 z.2.2.length,.vl (.slice none 0 0)] 29,.cells (eV b z.2.1 0) 108,.row (z.2.2.map aP) 29 5])
  (fun z=>z.1<=n/\z.2.2.length=z.1/\z.2.1<=b.length/\oF z.2.2 (bZ (aV s N u) (n-z.1) (b.drop z.2.1))=bZ (aV s N u) n (b.drop k)) (fun z=>n-z.1)
  (.nilc 3 3 29 5 [.vl (.int .i64 5),.vl (.int .i64 0),.vl (.string (mk [])),.vl (.slice none 0 0),.vl (.slice none 0 0)] 29 rfl rfl (jD (0,k,[]) 6 ⟨Nat.zero_le _,rfl,hk,by rw[Nat.sub_zero];exact KV _ _⟩ ?_ ?_)) ?_
 · simp -dsimp only[go_sem]<;>simp
 · simp -dsimp only[go_sem]<;>simp
 rintro ⟨i,a,acc⟩ ⟨hi,hal,ha,ho⟩
 simp only at hi hal ha ho ⊢
 rcases bB i n with hlt|hge
 · have hg:decide ((i:Int)<(n:Int))=true:=by simp;omega
   obtain ⟨m,hm⟩:∃m,n-i=m+1:=⟨n-i-1,by omega⟩
   have hm':m=n-(i+1):=by omega
   rw[hm,H9,aMF] at ho
   have h2:=fL (b.drop a)
   simp(maxSteps:=9^6)-dsimp only[go_sem,hni,hg]
   refine m5 ha (by omega) ?_
   generalize vr (b.drop a)=z at *
   obtain ⟨n2,k2,e2⟩:=z
   simp only at ho h2 ⊢
   simp(maxSteps:=9^6)-dsimp only[go_sem]
   refine aA rfl (.done ?_)
   cases d1:e2 != 0 with
   |true=>
    rw[d1] at ho
    simp only[cond_true,d1] at ho
    rw[qN acc d1] at ho
    simp(maxSteps:=9^6)-dsimp only[go_sem,n9,d1]
    rw[<-ho] at fin
    simp only[d1,cond_true] at fin
    refine .pub 5 _ _ _ rfl ?_
    simp -dsimp only[go_sem,b5,C.pub]
    exact fin (.mk 5 0 (mk []) acc []) _ _ rfl fun h=>absurd h (eL d1)
   |false=>
   obtain rfl:=cU d1
   have hk2:a+k2<=b.length:=by
    rcases h2 with ⟨h,_⟩|⟨_,_,_,h,_⟩
    · exact absurd rfl h
    · rw[List.length_drop] at h;omega
   simp only[show ((0:Int) != 0)=false from rfl,cond_false] at ho
   simp(maxSteps:=9^6)-dsimp only[go_sem,n9,d1]
   refine aA rfl (.done ?_)
   have hrd:rM (eV b (a+k2) 0):=qS hk2 (by omega)
   have hu6:IntKind.u64.wrap ((b.length:Int)-((a+k2:Nat):Int))=((b.length-(a+k2):Nat):Int):=by rw[show (b.length:Int)-((a+k2:Nat):Int)=((b.length-(a+k2):Nat):Int) by omega];exact jO (by omega)
   have hd6:decide (((b.length-(a+k2):Nat):Int)<(n2:Int))=decide (b.length-(a+k2)<n2):=by rw[Bool.eq_iff_iff];simp only[decide_eq_true_eq];omega
   cases d2:decide (b.length-(a+k2)<n2) with
   |true=>
    have e1:((1:Int) != 0)=true:=rfl
    rw[d2] at ho
    simp only[cond_true,e1] at ho
    rw[qN acc e1] at ho
    rw[<-ho] at fin
    simp only[e1,cond_true] at fin
    simp(maxSteps:=9^6)-dsimp only[go_sem,oA,hrd,hu6,hd6,d2]
    refine .pub 5 _ _ _ rfl ?_
    simp -dsimp only[go_sem,b5,C.pub]
    exact fin (.mk 5 0 (mk []) acc []) _ _ rfl fun h=>by cases h
   |false=>
   have d2':=of_decide_eq_false d2
   rw[d2] at ho
   simp only[show ((0:Int) != 0)=false from rfl,cond_false] at ho
   simp(maxSteps:=9^6)-dsimp only[go_sem,oA,hrd,hu6,hd6,d2]
   refine aA rfl (.done ?_)
   have hw2:IntKind.i64.wrap (n2:Int)=(n2:Int):=lX (by omega)
   have es:((a+k2:Nat):Int)+(n2:Int)=((a+k2+n2:Nat):Int):=by omega
   have hsl:List.drop (a+k2) (List.take (a+k2+n2) b)=List.take n2 (List.drop (a+k2) b):=by rw[List.drop_take];congr 1;omega
   have z0:(0:Int)<((1:Nat):Int):=by decide
   have z1:(0:Int)<=0:=by decide
   simp(maxSteps:=9^6)-dsimp only[go_sem,tX,he,aR u,forall_eq',z0,z1,List.length_cons,List.length_nil,List.take_succ_cons,List.take_zero,hw2,es,Int.toNat_natCast,hsl]
   refine ⟨⟨by omega,by omega⟩,⟨by omega,by omega,by omega⟩,K4 hd hs hto htu hu (by omega) (by rw[List.length_take,List.length_drop];omega) fun w hw=>?_⟩
   generalize hq:aV s N u (List.take n2 (List.drop (a+k2) b))=q at *
   obtain ⟨y,e3⟩:=q
   simp only at ho hw ⊢
   simp(maxSteps:=9^6)-dsimp only[go_sem]
   refine aA rfl (.done ?_)
   cases d3:e3 != 0 with
   |true=>
    rw[d3,cond_true,qN acc d3] at ho
    rw[<-ho] at fin
    simp only[d3,cond_true] at fin
    simp(maxSteps:=9^6)-dsimp only[go_sem,oT,d3]
    refine .pub 5 _ _ _ rfl ?_
    simp -dsimp only[go_sem,b5,C.pub]
    exact fin (.mk 5 0 (mk []) acc []) _ _ rfl fun h=>absurd h (eL d3)
   |false=>
    rw[d3,cond_false,O9,hm'] at ho
    obtain rfl:=hw (cU d3)
    simp(maxSteps:=9^6)-dsimp only[go_sem,oT,d3]
    refine aA rfl (.done ?_)
    simp(maxSteps:=9^6)-dsimp only[go_sem,s7,hw2,es]
    refine ⟨by omega,⟨by omega,by omega⟩,⟨by omega,by omega⟩,aE (i+1,a+k2+n2,acc++[w]) 6 ⟨by simp only;omega,by simp only[List.length_append,List.length_singleton];omega,by simp only;omega,ho⟩ (by simp only;omega) ?_ ?_⟩
    · simp -dsimp only[go_sem]<;>simp
    · simp -dsimp only[go_sem]<;>simp[aJ w,he,aR u]
 · have hg:decide ((i:Int)<(n:Int))=false:=by simp;omega
   obtain rfl:i=n:=by omega
   simp(maxSteps:=9^6)-dsimp only[go_sem,hni,hg]
   refine aA rfl (.done ?_)
   rw[Nat.sub_self] at ho
   have hod:oF acc (bZ (aV s N u) 0 (b.drop a))=((acc,b.drop a),0):=by
    show oF acc (([],b.drop a),0)=_
    unfold oF
    show ((acc++[],b.drop a),(0:Int))=_
    rw[List.append_nil]
   rw[hod] at ho
   rw[<-ho] at fin
   simp only[show ((0:Int) != 0)=false from rfl,cond_false] at fin
   have hrd:rM (eV b a 0):=qS ha (by omega)
   have hd6:decide ((0:Int)<(b.length:Int)-(a:Int))=!(b.drop a==[]):=by
    rw[Bool.eq_iff_iff];simp
   cases d4:!(b.drop a==[]) with
   |true=>
    rw[d4,cond_true] at fin
    simp(maxSteps:=9^6)-dsimp only[go_sem,oP,hrd,hd6,d4]
    refine .pub 5 _ _ _ rfl ?_
    simp -dsimp only[go_sem,b5,C.pub]
    exact fin (.mk 5 0 (mk []) acc []) _ _ rfl fun h=>by cases h
   |false=>
    rw[d4,cond_false] at fin
    simp(maxSteps:=9^6)-dsimp only[go_sem,oP,hrd,hd6,d4]
    refine .pub 5 _ _ _ rfl ?_
    simp -dsimp only[go_sem,b5,C.pub]
    exact fin (.mk 5 0 (mk []) acc []) _ _ rfl fun _=>rfl
def OC (N:Nat):W.Spec:=fun av H K=>∃(s:Sc) (nm:ByteArray) (b:List UInt8),av=[.va (.gs (aD s)),tS nm,tS (mk b)]/\H=[]/\Dg s/\s.fit/\nm.size<=9223372036854775807/\valF s.ss s.es (b9 nm)=true/\fK s (b9 nm)<N+1/\b.length<=2000/\
 ∀w:Vl,((fZ (aV s N) s (stOf s (b9 nm)).fs b).2=0->w=(fZ (aV s N) s (stOf s (b9 nm)).fs b).1)->K (.tu [.gs (aP w),iA .i64 (fZ (aV s N) s (stOf s (b9 nm)).fs b).2]) []
theorem MH {N:Nat} {s:Sc} {nm:ByteArray} {b:List UInt8} {K:S->Hp->Prop} (hd:Dg s) (hs:s.fit) (hn:nm.size<=9223372036854775807) (hv:valF s.ss s.es (b9 nm)=true) (hf:fK s (b9 nm)<N+1) (hb:b.length<=2000)
 (hK:∀w:Vl,((fZ (aV s N) s (stOf s (b9 nm)).fs b).2=0->w=(fZ (aV s N) s (stOf s (b9 nm)).fs b).1)->K (.tu [.gs [.vl (.int .i64 w.k),.vl (.int .i64 w.n),.vl (.string w.s),.fz (w.l.map aP),.fz (w.f.map bD)],iA .i64 (fZ (aV s N) s (stOf s (b9 nm)).fs b).2]) []) :
 OC N [.va (.gs [.vl (.int .i64 s.ver),.fz (s.es.map aZ),.fz (s.ss.map aH)]),tS nm,tS (mk b)] [] K:=⟨s,nm,b,rfl,rfl,hd,hs,hn,hv,hf,hb,fun w h=>by rw[aJ];exact hK w h⟩
theorem aEE {N:Nat} (hL:Meets Tryz.prog 102 (NY N)) (hS:Meets Tryz.prog 31 (OC N)):Meets Tryz.prog 56 (rX (N+1)):=by
 refine aF Tryz.func56 aNZ 3 (by rw[Tryz.ntmps56];decide) (aC S8 (aG KC (aC hL (aC hS (aB _))))) (fun av H K h=>by obtain ⟨_,_,_,rfl,_⟩:=h;rfl) ?_
 rintro av H K ⟨s,t,b,rfl,rfl,hd,hs,ht,htm,hv,hf,hb,hK⟩
 have fin:∀(w:Vl) (q:Vl×Int) (R:Hp),aV s (N+1) t b=q->(q.2=0->w=q.1)->W.Fin 0 K (.tu [.gs [.vl (.int .i64 w.k),.vl (.int .i64 w.n),.vl (.string w.s),.fz (w.l.map aP),.fz (w.f.map bD)],iA .i64 q.2]) R:=fun w q R h hw=>by
  have hK:=hK w
  rw[h] at hK
  have hK:=hK hw
  exact .z ((by rw[aJ] at hK;simpa[go_sem] using hK))
 clear hK
 have k6:=dQ hs
 have k7:=gV s
 rw[j5] at fin
 simp(maxSteps:=9^6)-dsimp only[go_sem,aD,aR t,ZP,W0]
 refine aA rfl (.done ?_)
 cases c1:t.k==1 with
 |true=>
  rw[c1,cond_true] at fin
  have hk1:t.k=1:=eq_of_beq c1
  cases b with
  |nil=>
   have g0:(((0:Nat):Int)==0)=true:=rfl
   simp(maxSteps:=9^6)-dsimp only[go_sem,gN,c1,List.length_nil,g0]
   exact fin (.mk t.k 0 (mk []) [] []) _ _ rfl fun h=>by cases h
  |cons c r=>
   have g0:(((r.length+1:Nat):Int)==0)=false:=by simp;omega
   have d1:decide ((1:Int)<(c.toNat:Int))=decide (1<c.toNat):=by rw[Bool.eq_iff_iff];simp;omega
   have d2:decide ((1:Int)<((r.length+1:Nat):Int))=decide (1<r.length+1):=by rw[Bool.eq_iff_iff];simp only[decide_eq_true_eq];omega
   have hwc:IntKind.i64.wrap (c.toNat:Int)=(c.toNat:Int):=lX (by have:=c.toNat_lt;omega)
   have hE:l7 (c::r)=bif decide (1<c.toNat)||decide (1<r.length+1) then (v0,2) else (.mk 1 c.toNat (mk []) [] [],0):=rfl
   cases q1:decide (1<c.toNat)<;>cases q2:decide (1<r.length+1)<;>rw[q1,q2] at hE <;>
   · simp(maxSteps:=9^6)-dsimp only[go_sem,gN,c1,List.length_cons,forall_eq',g0,d1,d2,q1,q2,Bool.or_true,Bool.or_self,hwc]
     first
      |exact ⟨⟨by omega,by omega⟩,fin (.mk t.k 0 (mk []) [] []) _ _ hE fun h=>by cases h⟩
      |exact ⟨⟨by omega,by omega⟩,⟨by omega,by omega⟩,fin (.mk t.k c.toNat (mk []) [] []) _ _ hE fun _=>by rw[hk1];rfl⟩
 |false=>
 rw[c1,cond_false] at fin
 cases c2:t.k==2 with
 |true=>
  have hk2:t.k=2:=eq_of_beq c2
  rw[c2,Bool.true_or,cond_true] at fin
  have hsz:=va2 hv c2
  have hnu:oW b=bif (vr b).2.2 != 0 then (0,(vr b).2.2) else bif decide ((vr b).2.1<b.length) then (0,2) else ((vr b).1,0):=rfl
  have hrg:∀n:Int,eX s t n=(t.s==64||(decide (-(2 ^ (t.s.toNat-1):Int)<=n)&&decide (n<(2 ^ (t.s.toNat-1):Int)))):=fun n=>by unfold eX;rw[c1,c2];rfl
  simp(maxSteps:=9^6)-dsimp only[go_sem,gN,c1,c2]
  refine DM (by omega) ?_
  simp(maxSteps:=9^6)-dsimp only[go_sem,cond_true]
  refine aA rfl (.done ?_)
  unfold kZ at fin
  have hnn:eK t.k (vr b).1=fD (vr b).1:=by unfold eK;rw[c2];rfl
  rw[hnn] at fin
  have hin:=PZ (uV b)
  cases e1:(vr b).2.2 != 0 with
  |true=>
   rw[e1,cond_true] at fin hnu
   rw[hnu]
   simp(maxSteps:=9^6)-dsimp only[go_sem,nJ,e1]
   exact fin (.mk t.k 0 (mk []) [] []) _ _ rfl fun h=>absurd h (eL e1)
  |false=>
  rw[e1,cond_false] at fin hnu
  cases e2:decide ((vr b).2.1<b.length) with
  |true=>
   rw[e2,cond_true] at fin hnu
   have e3:((2:Int) != 0)=true:=rfl
   rw[hnu]
   simp(maxSteps:=9^6)-dsimp only[go_sem,nJ,e3]
   exact fin (.mk t.k 0 (mk []) [] []) _ _ rfl fun h=>by cases h
  |false=>
  rw[e2,cond_false] at fin hnu
  have e3:((0:Int) != 0)=false:=rfl
  rw[hnu]
  generalize (vr b).1=n at *
  simp(maxSteps:=9^6)-dsimp only[go_sem,nJ,e3]
  refine aA rfl (.done ?_)
  have hrg:=hrg (fD n)
  cases c64:t.s==64 with
  |true=>
   have h64:decide (t.s<64)=false:=by rw[eq_of_beq c64];rfl
   rw[c64,Bool.true_or] at hrg
   rw[hrg,Bool.not_true,cond_false] at fin
   simp(maxSteps:=9^6)-dsimp only[go_sem,qW,h64,Bool.false_and]
   exact fin (.mk t.k (fD n) (mk []) [] []) _ _ rfl fun _=>rfl
  |false=>
   have hne:t.s≠64:=ne_of_beq_false c64
   have h64:decide (t.s<64)=true:=decide_eq_true (by omega)
   rw[c64,Bool.false_or] at hrg
   have w1:IntKind.i64.wrap (1*2 ^ min (IntKind.u64.wrap (t.s-1)).toNat 64)=(2:Int) ^ (t.s.toNat-1)/\IntKind.i64.wrap (0-(2:Int) ^ (t.s.toNat-1))=-(2:Int) ^ (t.s.toNat-1):=by
    rcases hsz with h|h|h|h
    · rw[h];decide
    · rw[h];decide
    · rw[h];decide
    · exact absurd h hne
   obtain ⟨w1,w2⟩:=w1
   generalize (2:Int) ^ (t.s.toNat-1)=P at *
   have f1:decide (-P<=fD n)=!decide (fD n < -P):=by rw[Bool.eq_iff_iff];simp
   have f2:decide (fD n<P)=!decide (P<=fD n):=by rw[Bool.eq_iff_iff];simp
   rw[f1,f2] at hrg
   cases d1:decide (fD n < -P)<;>cases d2:decide (P<=fD n)<;>rw[d1,d2] at hrg<;>rw[hrg] at fin <;>
   · simp(maxSteps:=9^6)-dsimp only[go_sem,qW,h64,w1,w2,d1,d2,Bool.true_and,Bool.false_and,Bool.not_true,Bool.not_false,Bool.or_true,Bool.or_false,Bool.true_or,Bool.false_or,Bool.or_self]
     and_intros
     all_goals first
      |omega
      |exact fin (.mk t.k 0 (mk []) [] []) _ _ rfl fun h=>by cases h
      |exact fin (.mk t.k (fD n) (mk []) [] []) _ _ rfl fun _=>rfl
      | (intros;omega)
 |false=>
 rw[c2,Bool.false_or] at fin
 cases c3:t.k==3||t.k==7 with
 |true=>
  rw[c3,cond_true] at fin
  have hnu:oW b=bif (vr b).2.2 != 0 then (0,(vr b).2.2) else bif decide ((vr b).2.1<b.length) then (0,2) else ((vr b).1,0):=rfl
  have hnn:eK t.k (vr b).1=((vr b).1:Int):=by unfold eK;rw[c2];rfl
  have hnr:=fun h=>NM hd hv (by rw[c2,c3];rfl) (uV b) h
  unfold kZ at fin
  rw[hnn] at fin hnr
  cases q3:t.k==3 with
  |true=>
   have hsz:=va3 hv q3
   have hrg:=YG (s:=s) (t:=t) (n:=((vr b).1:Int)) q3
   have h0:decide ((0:Int)<=((vr b).1:Int))=true:=decide_eq_true (Int.natCast_nonneg _)
   rw[h0,Bool.true_and] at hrg
   have w1:IntKind.u64.wrap (1*2 ^ min (IntKind.u64.wrap t.s).toNat 64)=(2:Int) ^ t.s.toNat:=by
    rcases hsz with h|h|h<;>rw[h]<;>decide
   simp(maxSteps:=9^6)-dsimp only[go_sem,gN,c1,c2,q3]
   refine DM (by omega) ?_
   simp(maxSteps:=9^6)-dsimp only[go_sem,cond_false]
   refine aA rfl (.done ?_)
   cases e1:(vr b).2.2 != 0 with
   |true=>
    rw[e1,cond_true] at fin hnu
    rw[hnu]
    simp(maxSteps:=9^6)-dsimp only[go_sem,iI,e1]
    exact fin (.mk t.k 0 (mk []) [] []) _ _ rfl fun h=>absurd h (eL e1)
   |false=>
   rw[e1,cond_false] at fin hnu
   cases e2:decide ((vr b).2.1<b.length) with
   |true=>
    rw[e2,cond_true] at fin hnu
    have e3:((2:Int) != 0)=true:=rfl
    rw[hnu]
    simp(maxSteps:=9^6)-dsimp only[go_sem,iI,e3]
    exact fin (.mk t.k 0 (mk []) [] []) _ _ rfl fun h=>by cases h
   |false=>
   rw[e2,cond_false] at fin hnu
   have e3:((0:Int) != 0)=false:=rfl
   rw[hnu]
   generalize (vr b).1=n at *
   simp(maxSteps:=9^6)-dsimp only[go_sem,iI,e3]
   refine aA rfl (.done ?_)
   generalize (2:Int) ^ t.s.toNat=P at *
   have f2:decide ((n:Int)<P)=!decide (P<=(n:Int)):=by rw[Bool.eq_iff_iff];simp
   rw[f2] at hrg
   cases d2:decide (P<=(n:Int)) with
   |true=>
    rw[d2] at hrg
    rw[hrg] at fin
    simp(maxSteps:=9^6)-dsimp only[go_sem,lP,q3,w1,d2,Bool.true_or]
    exact ⟨fun _=>k6,fin (.mk t.k 0 (mk []) [] []) _ _ rfl fun h=>by cases h⟩
   |false=>
    rw[d2] at hrg
    have hlt:=((hnr hrg).2 c2).2
    have hwn:IntKind.i64.wrap (n:Int)=(n:Int):=lX (by omega)
    rw[hrg] at fin
    have q7:(t.k==7)=false:=bG q3 (by decide)
    simp(maxSteps:=9^6)-dsimp only[go_sem,lP,q3,q7,w1,d2,hwn,Bool.or_self]
    exact fin (.mk t.k n (mk []) [] []) _ _ rfl fun _=>rfl
  |false=>
   have q7:(t.k==7)=true:=by rw[q3,Bool.false_or] at c3;exact c3
   have hrg:=XF (s:=s) (t:=t) (n:=((vr b).1:Int)) q7
   have hez:JF s t.n (((vr b).1:Nat):Int)=(enOf s t).vs.any (fun x=>x==((vr b).1:Int)):=by
    unfold JF
    rw[show (d8 s.es t.n).getD default=enOf s t from rfl]
    have hb:=(hd.ni.enOf t).n
    generalize (enOf s t).vs=l at *
    rw[Bool.eq_iff_iff,List.any_eq_true,List.any_eq_true]
    constructor <;>
    · rintro ⟨x,hx,he⟩
      have h1:=hb x hx
      have h2:IntKind.u64.wrap x=x:=F4 (by omega) (by omega)
      refine ⟨x,hx,?_⟩
      first
       | (rw[h2] at he;exact he)
       | (rw[h2];exact he)
   rw[<-hez] at hrg
   simp(maxSteps:=9^6)-dsimp only[go_sem,gN,c1,c2,q3,q7]
   refine DM (by omega) ?_
   simp(maxSteps:=9^6)-dsimp only[go_sem,cond_false]
   refine aA rfl (.done ?_)
   cases e1:(vr b).2.2 != 0 with
   |true=>
    rw[e1,cond_true] at fin hnu
    rw[hnu]
    simp(maxSteps:=9^6)-dsimp only[go_sem,iI,e1]
    exact fin (.mk t.k 0 (mk []) [] []) _ _ rfl fun h=>absurd h (eL e1)
   |false=>
   rw[e1,cond_false] at fin hnu
   cases e2:decide ((vr b).2.1<b.length) with
   |true=>
    rw[e2,cond_true] at fin hnu
    have e3:((2:Int) != 0)=true:=rfl
    rw[hnu]
    simp(maxSteps:=9^6)-dsimp only[go_sem,iI,e3]
    exact fin (.mk t.k 0 (mk []) [] []) _ _ rfl fun h=>by cases h
   |false=>
   rw[e2,cond_false] at fin hnu
   have e3:((0:Int) != 0)=false:=rfl
   rw[hnu]
   generalize (vr b).1=n at *
   simp(maxSteps:=9^6)-dsimp only[go_sem,iI,e3]
   refine aA rfl (.done ?_)
   cases d2:JF s t.n (n:Int) with
   |false=>
    rw[d2] at hrg
    rw[hrg] at fin
    simp(maxSteps:=9^6)-dsimp only[go_sem,lP,q3,q7,k6,k7,d2,Bool.false_or,Bool.not_false]
    exact fin (.mk t.k 0 (mk []) [] []) _ _ rfl fun h=>by cases h
   |true=>
    rw[d2] at hrg
    have hlt:=((hnr hrg).2 c2).2
    have hwn:IntKind.i64.wrap (n:Int)=(n:Int):=lX (by omega)
    rw[hrg] at fin
    simp(maxSteps:=9^6)-dsimp only[go_sem,lP,q3,q7,k6,k7,d2,hwn,Bool.false_or,Bool.not_true]
    exact fin (.mk t.k n (mk []) [] []) _ _ rfl fun _=>rfl
 |false=>
 have c3':=c3
 rw[Bool.or_eq_false_iff] at c3'
 rw[c3,cond_false] at fin
 cases c4:t.k==4 with
 |true=>
  rw[c4,cond_true] at fin
  have hk4:t.k=4:=eq_of_beq c4
  unfold wU at fin
  cases d1:decide (t.s<(b.length:Int)) with
  |true=>
   rw[d1,cond_true] at fin
   simp(maxSteps:=9^6)-dsimp only[go_sem,gN,c1,c2,c3'.1,c3'.2,c4,d1]
   exact fin (.mk t.k 0 (mk []) [] []) _ _ rfl fun h=>by cases h
  |false=>
   rw[d1,cond_false] at fin
   simp(maxSteps:=9^6)-dsimp only[go_sem,gN,c1,c2,c3'.1,c3'.2,c4,d1]
   exact fin (.mk t.k 0 (mk b) [] []) _ _ rfl fun _=>by rw[hk4]
 |false=>
 rw[c4,cond_false] at fin
 cases c5:t.k==5 with
 |true=>
  rw[c5,cond_true] at fin
  simp(maxSteps:=9^6)-dsimp only[go_sem,gN,c1,c2,c3'.1,c3'.2,c4,c5]
  refine aC5 hd hs ht htm hv c5 hf hb fun w hw=>?_
  simp(maxSteps:=9^6)-dsimp only[go_sem]
  exact fin w _ _ rfl hw
 |false=>
  rw[c5,cond_false] at fin
  have c6:(t.k==6)=true:=u2 hv c1 (by rw[c2,c3'.1,c3'.2];rfl) c4 c5
  obtain ⟨u,hu1,hu2,hu3,hu4⟩:=va6 hv c6
  have hnm:=(hs.ok.ss u hu3).nm
  have hha:cD s.ss t.n=true:=List.any_eq_true.2 ⟨u,hu3,decide_eq_true hu4⟩
  have htop:=AH hd hha
  simp(maxSteps:=9^6)-dsimp only[go_sem,gN,c1,c2,c3'.1,c3'.2,c4,c5]
  refine aA rfl (.done ?_)
  simp(maxSteps:=9^6)-dsimp only[go_sem,xQ]
  refine MH hd hs (by rw[<-hu4];exact hnm) htop.2 (by rw[jS rfl];rw[jS c6] at hf;exact hf) hb fun w hw=>?_
  simp(maxSteps:=9^6)-dsimp only[go_sem]
  exact fin w _ _ rfl hw
def aAD:PC:=.seq (.reg [.e 2 (.bx 29 (.t 0)),.e 3 (.bx 29 (.t 1)),.q 4 (.mv (.k (.bool false)))]) (.seq (.reg [.l 5 (.ldn 5 (.t 2)),.l 6 (.ldn 5 (.t 3)),.a 7 (.cl 32 [(.t 5),(.t 6)] []),.q 8 (.bin .eql true (.t 7) (.i 0)),.v 4 8]) .ret)
def WV:List RV:=[.mv (.t 4)]
theorem aM2:aO Tryz.prog true ⟨fun r k=>if r=1/\k=2 then .own [] else .own [],fun _=>false⟩ Tryz.f14=some (aAD,WV):=by kernel_rfl
def qT:PC:=.seq (.gh (.reg [.q 136 (.fa 4 (.t 2)),.l 137 (.ld1 (.t 136)),.q 138 (.lnL (.t 137)),.q 139 (.fa 4 (.t 3)),.l 140 (.ld1 (.t 139)),.q 141 (.lnL (.t 140)),.a 142 (.cq 58 [(.t 138),(.t 141)]),.v 4 142])) .ret
@[go_sem ↓] theorem aN6:aM qT:=aN _
def xM:PC:=.seq (.seq (.gh (.reg [.q 8 (.mv (.i 0))])) (.block 2 (.loop (.seq (.seq (.reg [.v 80 8,.q 81 (.fa 4 (.t 2)),.l 82 (.ld1 (.t 81)),.q 83 (.lnL (.t 82)),.q 84 (.bin .lss true (.t 80) (.t 83)),.v 85 84,⟨some 86,(some (85,true)),.q (.mv (.t 8))⟩,⟨some 87,(some (85,true)),.q (.fa 4 (.t 3))⟩,⟨some 88,(some (85,true)),.l (.ld1 (.t 87))⟩,⟨some 89,(some (85,true)),.q (.lnL (.t 88))⟩,⟨some 90,(some (85,true)),.q (.bin .lss true (.t 86) (.t 89))⟩,.a 91 (.pick (.t 85) (.t 90) (.k (.bool false)))]) (.cond (.t 91) .skip (.exit 2))) (.seq (.block 3 (.seq (.seq (.reg [.q 94 (.fa 4 (.t 2)),.l 95 (.ld1 (.t 94)),.v 96 8,.l 97 (.ia 6 (.t 95) (.t 96)),.q 98 (.fa 0 (.t 97)),.l 99 (.ld1 (.t 98)),.q 100 (.fa 4 (.t 3)),.l 101 (.ld1 (.t 100)),.v 102 8,.l 103 (.ia 6 (.t 101) (.t 102)),.q 104 (.fa 0 (.t 103)),.l 105 (.ld1 (.t 104)),.q 106 (.bin .neq true (.t 99) (.t 105))]) (.cond (.t 106) (.seq (.reg [.q 107 (.fa 4 (.t 2)),.l 108 (.ld1 (.t 107)),.v 109 8,.l 110 (.ia 6 (.t 108) (.t 109)),.q 111 (.fa 0 (.t 110)),.l 112 (.ld1 (.t 111)),.q 113 (.fa 4 (.t 3)),.l 114 (.ld1 (.t 113)),.v 115 8,.l 116 (.ia 6 (.t 114) (.t 115)),.q 117 (.fa 0 (.t 116)),.l 118 (.ld1 (.t 117)),.a 119 (.cq 58 [(.t 112),(.t 118)]),.v 4 119]) .ret) .skip)) (.seq (.reg [.q 120 (.fa 4 (.t 2)),.l 121 (.ld1 (.t 120)),.v 122 8,.l 123 (.ia 6 (.t 121) (.t 122)),.q 124 (.fa 1 (.t 123)),.l 125 (.ldn 5 (.t 124)),.q 126 (.fa 4 (.t 3)),.l 127 (.ld1 (.t 126)),.v 128 8,.l 129 (.ia 6 (.t 127) (.t 128)),.q 130 (.fa 1 (.t 129)),.l 131 (.ldn 5 (.t 130)),.a 132 (.cl 32 [(.t 125),(.t 131)] []),.v 9 132]) (.seq (.reg [.v 133 9,.q 134 (.bin .neq true (.t 133) (.i 0))]) (.cond (.t 134) (.seq (.reg [.v 135 9,.v 4 135]) .ret) .skip))))) (.reg [.v 92 8,.q 93 (.bin .add true (.t 92) (.i 1)),.v 8 93])))))) (qT)
@[go_sem ↓] theorem aM6:aM xM:=aN _
def n5:PC:=.seq (.seq (.gh (.reg [.q 66 (.fa 3 (.t 2)),.l 67 (.ld1 (.t 66)),.q 68 (.lnL (.t 67)),.q 69 (.fa 3 (.t 3)),.l 70 (.ld1 (.t 69)),.q 71 (.lnL (.t 70)),.q 72 (.bin .neq true (.t 68) (.t 71))])) (.cond (.t 72) (.seq (.reg [.q 73 (.fa 3 (.t 2)),.l 74 (.ld1 (.t 73)),.q 75 (.lnL (.t 74)),.q 76 (.fa 3 (.t 3)),.l 77 (.ld1 (.t 76)),.q 78 (.lnL (.t 77)),.a 79 (.cq 58 [(.t 75),(.t 78)]),.v 4 79]) .ret) .skip)) (xM)
@[go_sem ↓] theorem aNW:aM n5:=aN _
def x5:PC:=.seq (.seq (.gh (.reg [.q 6 (.mv (.i 0))])) (.block 0 (.loop (.seq (.seq (.reg [.v 38 6,.q 39 (.fa 3 (.t 2)),.l 40 (.ld1 (.t 39)),.q 41 (.lnL (.t 40)),.q 42 (.bin .lss true (.t 38) (.t 41)),.v 43 42,⟨some 44,(some (43,true)),.q (.mv (.t 6))⟩,⟨some 45,(some (43,true)),.q (.fa 3 (.t 3))⟩,⟨some 46,(some (43,true)),.l (.ld1 (.t 45))⟩,⟨some 47,(some (43,true)),.q (.lnL (.t 46))⟩,⟨some 48,(some (43,true)),.q (.bin .lss true (.t 44) (.t 47))⟩,.a 49 (.pick (.t 43) (.t 48) (.k (.bool false)))]) (.cond (.t 49) .skip (.exit 0))) (.seq (.block 1 (.seq (.reg [.q 52 (.fa 3 (.t 2)),.l 53 (.ld1 (.t 52)),.v 54 6,.l 55 (.ia 5 (.t 53) (.t 54)),.l 56 (.ldn 5 (.t 55)),.q 57 (.fa 3 (.t 3)),.l 58 (.ld1 (.t 57)),.v 59 6,.l 60 (.ia 5 (.t 58) (.t 59)),.l 61 (.ldn 5 (.t 60)),.a 62 (.cl 32 [(.t 56),(.t 61)] []),.v 7 62]) (.seq (.reg [.v 63 7,.q 64 (.bin .neq true (.t 63) (.i 0))]) (.cond (.t 64) (.seq (.reg [.v 65 7,.v 4 65]) .ret) .skip)))) (.reg [.v 50 6,.q 51 (.bin .add true (.t 50) (.i 1)),.v 6 51])))))) (n5)
@[go_sem ↓] theorem aOX:aM x5:=aN _
def vV:PC:=.seq (.seq (.gh (.reg [.q 30 (.fa 2 (.t 2)),.l 31 (.ld1 (.t 30)),.q 32 (.fa 2 (.t 3)),.l 33 (.ld1 (.t 32)),.a 34 (.cq 59 [(.t 31),(.t 33)]),.v 5 34])) (.seq (.reg [.v 35 5,.q 36 (.bin .neq true (.t 35) (.i 0))]) (.cond (.t 36) (.seq (.reg [.v 37 5,.v 4 37]) .ret) .skip))) (x5)
@[go_sem ↓] theorem aQO:aM vV:=aN _
def pD:PC:=.seq (.seq (.gh (.reg [.q 20 (.fa 1 (.t 2)),.l 21 (.ld1 (.t 20)),.q 22 (.fa 1 (.t 3)),.l 23 (.ld1 (.t 22)),.q 24 (.bin .lss true (.t 21) (.t 23))])) (.cond (.t 24) (.seq (.reg [.q 4 (.mv (.i (-1)))]) .ret) .skip)) (.seq (.seq (.reg [.q 25 (.fa 1 (.t 2)),.l 26 (.ld1 (.t 25)),.q 27 (.fa 1 (.t 3)),.l 28 (.ld1 (.t 27)),.q 29 (.bin .gtr true (.t 26) (.t 28))]) (.cond (.t 29) (.seq (.reg [.q 4 (.mv (.i 1))]) .ret) .skip)) (vV))
@[go_sem ↓] theorem aPQ:aM pD:=aN _
def OB:PC:=.seq (.reg [.e 2 (.bx 29 (.t 0)),.e 3 (.bx 29 (.t 1)),.q 4 (.mv (.i 0))]) (.seq (.seq (.reg [.q 10 (.fa 0 (.t 2)),.l 11 (.ld1 (.t 10)),.q 12 (.fa 0 (.t 3)),.l 13 (.ld1 (.t 12)),.q 14 (.bin .neq true (.t 11) (.t 13))]) (.cond (.t 14) (.seq (.reg [.q 15 (.fa 0 (.t 2)),.l 16 (.ld1 (.t 15)),.q 17 (.fa 0 (.t 3)),.l 18 (.ld1 (.t 17)),.a 19 (.cq 58 [(.t 16),(.t 18)]),.v 4 19]) .ret) .skip)) (pD))
def NA:List RV:=[.mv (.t 4)]
theorem aO2:aO Tryz.prog true ⟨fun r k=>if r=2/\k=4 then .q else if r=7/\k=4 then .q else if r=13/\k=10 then .own [] else if r=17/\k=6 then .q else if r=22/\k=12 then .q else if r=23/\k=12 then .own [] else if r=26/\k=6 then .q else .own [],fun r=>[3,7,10,16,18,26].contains r⟩ Tryz.f32=some (OB,NA):=by kernel_rfl
def FP:List S->Prop:=fun av=>match av with
 |[.va (.c1 (.vl (.string a))),.va (.c1 (.vl (.string b)))]=>a.size<=9223372036854775807/\b.size<=9223372036854775807
 |_=>False
theorem sL {av:List S} (h:FP av):∃a b:List UInt8,av=[tS (mk a),tS (mk b)]/\a.length<=9223372036854775807/\b.length<=9223372036854775807:=by
 unfold FP at h
 split at h
 · rename_i a b
   rw[dV,dV] at h
   exact ⟨bl a,bl b,by rw[gW,gW],h.1,h.2⟩
 · exact h.elim
def soFn:Fun:=⟨FP,OD,fun av h=>by obtain ⟨a,b,rfl,_⟩:=sL h;trivial⟩
theorem T6:∀av H K,soFn.sp av H K->av.length=2:=fun av H K h=>by obtain ⟨a,b,rfl,_⟩:=sL h.1.1;rfl
attribute [go_sem] soFn FP
theorem SC (x y:UInt8) (a b:List UInt8):Lib.compareBytes (x::a) (y::b)=if x<y then -1 else if y<x then 1 else Lib.compareBytes a b:=by rw[Lib.compareBytes]
theorem aG4 (x y:UInt8):decide ((x.toNat:Int)<(y.toNat:Int))=decide (x<y):=by
 rw[Bool.eq_iff_iff,decide_eq_true_iff,decide_eq_true_iff,UInt8.lt_iff_toNat_lt];omega
theorem aCT:Meets Tryz.prog 59 soFn.sp:=by
 refine aF Tryz.func59 aVK 2 (by rw[Tryz.ntmps59];decide) (aG XZ (aB _)) T6 ?_
 rintro av H K ⟨⟨h,rfl⟩,hK⟩
 obtain ⟨a,b,rfl,ha,hb⟩:=sL h
 have hK:K (iS .i64 (Lib.compareBytes a b)) []:=hK
 clear h
 have fin:∀(r:Int) (R:Hp),Lib.compareBytes a b=r->W.Fin 0 K (iS .i64 r) R:=fun r R h=>by
  rw[h] at hK;exact .z ((by simpa[go_sem] using hK))
 clear hK
 simp(maxSteps:=9^6)-dsimp only[go_sem,aEV,aER]
 refine aL (α:=Nat) (fun i=>[(0,tS (mk a)),(1,tS (mk b)),(5,iS .i64 i)]) (fun _=>[])
  (fun i=>i<=a.length/\i<=b.length/\Lib.compareBytes (a.drop i) (b.drop i)=Lib.compareBytes a b) (fun i=>a.length-i) 0 0 ⟨Nat.zero_le _,Nat.zero_le _,rfl⟩ ?_ ?_ ?_
 · simp -dsimp only[go_sem]<;>simp
 · simp -dsimp only[go_sem]<;>simp
 rintro i ⟨hi,hib,ho⟩
 rcases bB i a.length with hlt|hge
 · have hg:decide ((i:Int)<(a.length:Int))=true:=by simp;omega
   obtain ⟨x,hx⟩:∃c,a[i]? = some c:=⟨_,aU hlt⟩
   have hdx:a.drop i=x::a.drop (i+1):=by
    obtain ⟨h,rfl⟩:=bJ.1 hx
    exact List.drop_eq_getElem_cons h
   rcases bB i b.length with hlt2|hge2
   · have hg2:decide ((i:Int)<(b.length:Int))=true:=by simp;omega
     obtain ⟨y,hy⟩:∃c,b[i]? = some c:=⟨_,aU hlt2⟩
     have hdy:b.drop i=y::b.drop (i+1):=by
      obtain ⟨h,rfl⟩:=bJ.1 hy
      exact List.drop_eq_getElem_cons h
     rw[hdx,hdy,SC] at ho
     simp(maxSteps:=9^6)-dsimp only[go_sem,hg,hg2,hx,hy,aI,forall_eq',aG4]
     refine ⟨by omega,by omega,fun h1=>fin _ _ ?_,fun h1=>⟨by omega,by omega,fun h2=>fin _ _ ?_,fun h2=>?_⟩⟩
     · rw[<-ho,if_pos (of_decide_eq_true h1)]
     · rw[<-ho,if_neg (of_decide_eq_false h1),if_pos (of_decide_eq_true h2)]
     · rw[if_neg (of_decide_eq_false h1),if_neg (of_decide_eq_false h2)] at ho
       refine ⟨by omega,aE (i+1) 0 ⟨by omega,by omega,ho⟩ (by omega) ?_ ?_⟩
       · simp -dsimp only[go_sem]<;>simp
       · simp -dsimp only[go_sem]<;>simp
   · have hg2:decide ((i:Int)<(b.length:Int))=false:=by simp;omega
     have hdy:b.drop i=[]:=List.drop_eq_nil_iff.2 hge2
     rw[hdx,hdy,Lib.compareBytes] at ho
     simp(maxSteps:=9^6)-dsimp only[go_sem,hg,hg2]
     exact fin _ _ (by rw[<-ho];unfold mG;rw[decide_eq_false (by omega),decide_eq_true (by omega)];rfl)
 · have hg:decide ((i:Int)<(a.length:Int))=false:=by simp;omega
   have hdx:a.drop i=[]:=List.drop_eq_nil_iff.2 hge
   rw[hdx] at ho
   simp(maxSteps:=9^6)-dsimp only[go_sem,hg]
   refine fin _ _ ?_
   rw[<-ho]
   unfold mG
   rcases bB i b.length with hlt2|hge2
   · obtain ⟨y,hy⟩:∃c,b[i]? = some c:=⟨_,aU hlt2⟩
     have hdy:b.drop i=y::b.drop (i+1):=by
      obtain ⟨h,rfl⟩:=bJ.1 hy
      exact List.drop_eq_getElem_cons h
     rw[hdy,Lib.compareBytes,decide_eq_true (by omega)];rfl
   · have hdy:b.drop i=[]:=List.drop_eq_nil_iff.2 hge2
     rw[hdy,Lib.compareBytes,decide_eq_false (by omega),decide_eq_false (by omega)];rfl
theorem EM:∀N,Meets Tryz.prog 32 (DS N)
 |0=>⟨by kernel_rfl,by rintro xs vs E ro w K _ _ _ ⟨a,_,_,_,_,_,h,_⟩;have:=a.h_pos;omega⟩
 |N+1=>by
  refine aF Tryz.func32 aO2 2 (by rw[Tryz.ntmps32];decide) (aC (EM N) (aG XZ (aG aCT (aB _)))) (fun av H K h=>by obtain ⟨_,_,rfl,_⟩:=h;rfl) ?_
  rintro av H K ⟨a,b,rfl,rfl,ha,hb,hh,hK⟩
  have hE:=P3 a b
  have fin:∀(r:Int) (R:Hp),(r==0)=dA a b->W.Fin 0 K (iS .i64 r) R:=fun r R h=>.z ((by simpa[go_sem] using hK r h))
  clear hK
  have hs1:=nX a.k b.k
  have hs3:=G9 (bl a.s) (bl b.s)
  have hs5:=nX (a.l.length:Int) (b.l.length:Int)
  have hla:=ha.ll
  have hlb:=hb.ll
  have hfa:=ha.lf
  have hfb:=hb.lf
  have hsa:(a.s.size<=9223372036854775807)=True:=eq_true ha.s
  have hsb:(b.s.size<=9223372036854775807)=True:=eq_true hb.s
  cases c1:a.k==b.k with
  |false=>
   have c1':(a.k != b.k)=true:=by rw[bne,c1];rfl
   rw[c1] at hs1 hE
   simp(maxSteps:=9^6)-dsimp only[go_sem,aJ a,aJ b,OB,NA,c1']
   exact fin _ _ (by rw[hs1,hE];rfl)
  |true=>
  have c1':(a.k != b.k)=false:=by rw[bne,c1];rfl
  rw[c1,Bool.true_and] at hE
  simp(maxSteps:=9^6)-dsimp only[go_sem,aJ a,aJ b,OB,NA,c1']
  refine aA rfl (.done ?_)
  cases c2:decide (a.n<b.n) with
  |true=>
   have c2':=of_decide_eq_true c2
   rw[show (a.n==b.n)=false by simp;omega] at hE
   simp(maxSteps:=9^6)-dsimp only[go_sem,pD,c2]
   exact fin _ _ (by rw[hE];rfl)
  |false=>
  cases c3:decide (b.n<a.n) with
  |true=>
   have c3':=of_decide_eq_true c3
   rw[show (a.n==b.n)=false by simp;omega] at hE
   simp(maxSteps:=9^6)-dsimp only[go_sem,pD,c2,c3]
   exact fin _ _ (by rw[hE];rfl)
  |false=>
  have c2':=of_decide_eq_false c2
  have c3':=of_decide_eq_false c3
  rw[show (a.n==b.n)=true by simp;omega,Bool.true_and] at hE
  simp(maxSteps:=9^6)-dsimp only[go_sem,pD,c2,c3]
  refine aA rfl (.done ?_)
  cases c4:Lib.compareBytes (bl a.s) (bl b.s)==0 with
  |false=>
   have c4':(Lib.compareBytes (bl a.s) (bl b.s) != 0)=true:=by rw[bne,c4];rfl
   rw[c4] at hs3
   rw[<-hs3] at hE
   simp(maxSteps:=9^6)-dsimp only[go_sem,vV,hsa,hsb,c4']
   exact fin _ _ (by rw[hE,c4];rfl)
  |true=>
  have c4':(Lib.compareBytes (bl a.s) (bl b.s) != 0)=false:=by rw[bne,c4];rfl
  rw[c4] at hs3
  rw[<-hs3,Bool.true_and] at hE
  simp(maxSteps:=9^6)-dsimp only[go_sem,vV,hsa,hsb,c4']
  refine aA rfl (.done ?_)
  simp(maxSteps:=9^6)-dsimp only[go_sem,x5]
  refine aL (α:=Nat) (fun i=>[(2,.va (.c1 (.pt 0 0))),(3,.va (.c1 (.pt 1 0))),(6,iS .i64 i)]) (fun _=>[.cells (bP a) 29,.cells (bP b) 29])
   (fun i=>i<=a.l.length/\i<=b.l.length/\gS (a.l.drop i) (b.l.drop i)=gS a.l b.l) (fun i=>a.l.length-i) 0 2 ⟨Nat.zero_le _,Nat.zero_le _,rfl⟩ ?_ ?_ ?_
  · simp -dsimp only[go_sem]<;>simp
  · simp -dsimp only[go_sem,bP]<;>simp
  rintro i ⟨hi,hib,ho⟩
  have more:∀(x y:Vl),a.l[i]? = some x->b.l[i]? = some y->gS (a.l.drop i) (b.l.drop i)=(dA x y&&gS (a.l.drop (i+1)) (b.l.drop (i+1))):=fun x y hx hy=>by
   obtain ⟨h1,rfl⟩:=bJ.1 hx
   obtain ⟨h2,rfl⟩:=bJ.1 hy
   rw[List.drop_eq_getElem_cons h1,List.drop_eq_getElem_cons h2,JE]
  rcases bB i a.l.length with hlt|hge
  · rcases bB i b.l.length with hlt2|hge2
    · have hg:decide ((i:Int)<(a.l.length:Int))=true:=by simp;omega
      have hg2:decide ((i:Int)<(b.l.length:Int))=true:=by simp;omega
      have hx:a.l[i]? = some a.l[i]:=aU hlt
      have hy:b.l[i]? = some b.l[i]:=aU hlt2
      have q1:=m0 hx
      have q2:=m0 hy
      have hxm:=List.getElem_mem hlt
      have hym:=List.getElem_mem hlt2
      rw[more _ _ hx hy] at ho
      have hxh:=Vl.h_l hxm
      have hxo:=ha.l _ hxm
      have hyo:=hb.l _ hym
      generalize a.l[i]=x at *
      generalize b.l[i]=y at *
      simp(maxSteps:=9^6)-dsimp only[go_sem,bP,hg,hg2,↓q1,↓q2]
      refine ⟨by omega,by omega,pL hxo hyo (by omega) fun r hr=>?_⟩
      rw[<-hr] at ho
      simp(maxSteps:=9^6)-dsimp only[go_sem]
      refine ⟨fun h1=>fin r _ ?_,fun h1=>?_⟩
      · have h2:(r==0)=false:=by simpa using h1
        rw[h2,Bool.false_and] at ho
        rw[h2,hE,<-ho];rfl
      · have h2:(r==0)=true:=by simpa using h1
        rw[h2,Bool.true_and] at ho
        refine ⟨by omega,aE (i+1) 2 ⟨by omega,by omega,ho⟩ (by omega) ?_ ?_⟩
        · simp -dsimp only[go_sem]<;>simp
        · simp -dsimp only[go_sem,bP]<;>simp[bP]
    · have hg:decide ((i:Int)<(a.l.length:Int))=true:=by simp;omega
      have hg2:decide ((i:Int)<(b.l.length:Int))=false:=by simp;omega
      have hne:((a.l.length:Int) != (b.l.length:Int))=true:=by simp;omega
      rw[List.drop_eq_nil_iff.2 hge2,List.drop_eq_getElem_cons hlt,gS] at ho
      simp(maxSteps:=9^6)-dsimp only[go_sem,bP,hg,hg2]
      refine aA rfl (.done ?_)
      simp(maxSteps:=9^6)-dsimp only[go_sem,n5,hne]
      refine fin _ _ ?_
      rw[hs5,hE,<-ho]
      simp;omega
  · have hg:decide ((i:Int)<(a.l.length:Int))=false:=by simp;omega
    obtain rfl:i=a.l.length:=by omega
    rw[List.drop_length] at ho
    simp(maxSteps:=9^6)-dsimp only[go_sem,bP,hg]
    refine aA rfl (.done ?_)
    rcases bB a.l.length b.l.length with hlt2|hge2
    · have hne:((a.l.length:Int) != (b.l.length:Int))=true:=by simp;omega
      rw[List.drop_eq_getElem_cons hlt2,gS] at ho
      simp(maxSteps:=9^6)-dsimp only[go_sem,n5,hne]
      refine fin _ _ ?_
      rw[hs5,hE,<-ho]
      simp;omega
    · have hle:a.l.length=b.l.length:=by omega
      have hne:((a.l.length:Int) != (b.l.length:Int))=false:=by simp;omega
      rw[List.drop_eq_nil_iff.2 hge2,gS] at ho
      rw[<-ho,Bool.true_and] at hE
      simp(maxSteps:=9^6)-dsimp only[go_sem,n5,hne]
      refine aA rfl (.done ?_)
      simp(maxSteps:=9^6)-dsimp only[go_sem,xM]
      clear ho more hi hib hge hg hs5 hne hle hge2
      have hs6:=nX (a.f.length:Int) (b.f.length:Int)
      refine aL (α:=Nat) (fun i=>[(2,.va (.c1 (.pt 0 0))),(3,.va (.c1 (.pt 1 0))),(8,iS .i64 i)]) (fun _=>[.cells (bP a) 29,.cells (bP b) 29])
       (fun i=>i<=a.f.length/\i<=b.f.length/\gH (a.f.drop i) (b.f.drop i)=gH a.f b.f) (fun i=>a.f.length-i) 0 2 ⟨Nat.zero_le _,Nat.zero_le _,rfl⟩ ?_ ?_ ?_
      · simp -dsimp only[go_sem]<;>simp
      · simp -dsimp only[go_sem,bP]<;>simp[bP]
      rintro i ⟨hi,hib,ho⟩
      rcases bB i a.f.length with hlt|hge
      · rcases bB i b.f.length with hlt2|hge2
        · have hg:decide ((i:Int)<(a.f.length:Int))=true:=by simp;omega
          have hg2:decide ((i:Int)<(b.f.length:Int))=true:=by simp;omega
          have hx:a.f[i]? = some a.f[i]:=aU hlt
          have hy:b.f[i]? = some b.f[i]:=aU hlt2
          have q1:=kO hx
          have q2:=kO hy
          have hxm:=List.getElem_mem hlt
          have hym:=List.getElem_mem hlt2
          rw[List.drop_eq_getElem_cons hlt,List.drop_eq_getElem_cons hlt2,JQ] at ho
          have hxh:=Vl.h_f hxm
          have hxo:=ha.f _ hxm
          have hyo:=hb.f _ hym
          generalize a.f[i]=x at *
          generalize b.f[i]=y at *
          have hs7:=nX x.1 y.1
          cases c7:x.1==y.1 with
          |false=>
           have c7':(x.1 != y.1)=true:=by rw[bne,c7];rfl
           rw[c7,Bool.false_and] at ho
           rw[c7] at hs7
           simp(maxSteps:=9^6)-dsimp only[go_sem,bP,hg,hg2,↓q1,↓q2,c7']
           refine ⟨by omega,by omega,by omega,by omega,fin _ _ (by rw[hs7,hE,<-ho])⟩
          |true=>
           have c7':(x.1 != y.1)=false:=by rw[bne,c7];rfl
           rw[c7,Bool.true_and] at ho
           simp(maxSteps:=9^6)-dsimp only[go_sem,bP,hg,hg2,↓q1,↓q2,c7',List.take_succ_cons,List.take_zero,List.length_cons,List.length_nil]
           refine ⟨by omega,by omega,by omega,by omega,pL hxo hyo (by omega) fun r hr=>?_⟩
           rw[<-hr] at ho
           simp(maxSteps:=9^6)-dsimp only[go_sem]
           refine ⟨fun h1=>fin r _ ?_,fun h1=>?_⟩
           · have h2:(r==0)=false:=by simpa using h1
             rw[h2,Bool.false_and] at ho
             rw[h2,hE,<-ho]
           · have h2:(r==0)=true:=by simpa using h1
             rw[h2,Bool.true_and] at ho
             refine ⟨by omega,aE (i+1) 2 ⟨by omega,by omega,ho⟩ (by omega) ?_ ?_⟩
             · simp -dsimp only[go_sem]<;>simp
             · simp -dsimp only[go_sem,bP]<;>simp[bP]
        · have hg:decide ((i:Int)<(a.f.length:Int))=true:=by simp;omega
          have hg2:decide ((i:Int)<(b.f.length:Int))=false:=by simp;omega
          have he:∀x:Int×Vl,gH (x::a.f.drop (i+1)) []=false:=fun x=>by obtain ⟨j,x⟩:=x;rw[gH]
          rw[List.drop_eq_nil_iff.2 hge2,List.drop_eq_getElem_cons hlt,he] at ho
          simp(maxSteps:=9^6)-dsimp only[go_sem,bP,hg,hg2]
          refine aA rfl (.done ?_)
          simp(maxSteps:=9^6)-dsimp only[go_sem,qT]
          refine fin _ _ ?_
          rw[hs6,hE,<-ho]
          simp;omega
      · have hg:decide ((i:Int)<(a.f.length:Int))=false:=by simp;omega
        obtain rfl:i=a.f.length:=by omega
        rw[List.drop_length] at ho
        simp(maxSteps:=9^6)-dsimp only[go_sem,bP,hg]
        refine aA rfl (.done ?_)
        simp(maxSteps:=9^6)-dsimp only[go_sem,qT]
        refine fin _ _ ?_
        rw[hs6,hE,<-ho]
        rcases bB a.f.length b.f.length with hlt2|hge2
        · have he:∀x:Int×Vl,gH [] (x::b.f.drop (a.f.length+1))=false:=fun x=>by obtain ⟨j,x⟩:=x;rw[gH]
          rw[List.drop_eq_getElem_cons hlt2,he]
          simp;omega
        · rw[List.drop_eq_nil_iff.2 hge2,gH]
          simp;omega
theorem SZ (N:Nat):Meets Tryz.prog 14 (fun av H K=>∃a b:Vl,av=[.va (.gs (aP a)),.va (.gs (aP b))]/\H=[]/\VlOk a/\VlOk b/\a.h<=N/\K (bS (dA a b)) []):=by
 refine aF Tryz.func14 aM2 2 (by rw[Tryz.ntmps14];decide) (aC (EM N) (aB _)) (fun av H K h=>by obtain ⟨_,_,rfl,_⟩:=h;rfl) ?_
 rintro av H K ⟨a,b,rfl,rfl,ha,hb,hh,hK⟩
 simp(maxSteps:=9^6)-dsimp only[go_sem,aJ a,aJ b,aAD,WV]
 refine pL ha hb hh fun r hr=>?_
 simp(maxSteps:=9^6)-dsimp only[go_sem]
 exact .z ((by rw[hr];simpa[go_sem] using hK))
theorem CZ:Meets Tryz.prog 14 eqFn2.sp:=dW (0:Nat) SZ fun av H K h=>by
 obtain ⟨⟨h,e⟩,hK⟩:=h
 obtain ⟨a,b,rfl,ha,hb⟩:=qY h
 have hK:K (bS (dA (C.vv (aP a)) (C.vv (aP b)))) []:=hK
 rw[iR,iR] at hK
 exact ⟨a.h,a,b,rfl,e,ha,hb,Nat.le_refl _,hK⟩
def vG:PC:=.seq (.gh (.reg [.v 10 5,.q 11 (.bin .neq true (.t 10) (.i 0))])) (.cond (.t 11) (.seq (.reg [.v 12 5,.v 4 12]) .ret) .skip)
@[go_sem ↓] theorem aQK:aM vG:=aN _
def uR:PC:=.seq (.gh (.reg [.v 19 7,.q 20 (.not (.t 19))])) (.cond (.t 20) (.seq (.reg [.q 4 (.mv (.i 6))]) .ret) .skip)
@[go_sem ↓] theorem aQ3:aM uR:=aN _
def DE:PC:=.seq (.seq (.gh (.reg [.l 14 (.ldn 3 (.t 2)),.v 15 1,.a 16 (.cl 17 [(.t 14),(.t 15)] []),.v 13 16,.q 17 (.ex (.t 13) 0),.q 18 (.ex (.t 13) 1),.e 6 (.al (.agg #[(.string (mk [])),(.slice none 0 0)]) 48),.s (.st 2 (.t 6) (.t 17)),.v 7 18])) (uR)) (.seq (.reg [.q 4 (.mv (.i 0))]) .ret)
@[go_sem ↓] theorem aRN:aM DE:=aN _
def XO:PC:=.seq (.reg [.e 2 (.bx 25 (.t 0)),.q 4 (.mv (.i 0))]) (.seq (.seq (.reg [.l 8 (.ldn 3 (.t 2)),.a 9 (.cq 49 [(.t 8)]),.v 5 9]) (vG)) (DE))
def aAH:List RV:=[.mv (.t 4)]
theorem aPE:aO Tryz.prog true ⟨fun r k=>if r=1/\k=1 then .q else .own [],fun r=>[2,4,5].contains r⟩ Tryz.f27=some (XO,aAH):=by kernel_rfl
def wG:PC:=.gh (.reg [.v 54 9,.q 55 (.fa 0 (.t 11)),.l 56 (.ld1 (.t 55)),.q 57 (.cvt .u64 (.t 56)),.a 58 (.cq 36 [(.t 57)]),.q 59 (.bin .add true (.t 54) (.t 58)),.l 60 (.ldn 3 (.t 3)),.q 61 (.fa 2 (.t 11)),.l 62 (.ldn 4 (.t 61)),.l 63 (.ldn 5 (.t 12)),.a 64 (.cq 52 [(.t 60),(.t 62),(.t 63)]),.a 65 (.cq 37 [(.t 64)]),.q 66 (.bin .add true (.t 59) (.t 65)),.v 9 66])
@[go_sem ↓] theorem aQ7:aM wG:=aN _
def p6:PC:=.seq (.seq (.gh (.ord  [.q (.v 39 13),.q (.q 40 (.not (.t 39))),.q (.v 41 40),.q ⟨some 42,(some (41,false)),.q (.fa 6 (.t 11))⟩,.q ⟨some 43,(some (41,false)),.l (.ld1 (.t 42))⟩,.q ⟨some 44,(some (41,false)),.q (.not (.t 43))⟩,.q ⟨some 45,(some (41,false)),.q (.mv (.t 44))⟩,.q ⟨some 46,(some (45,true)),.l (.ldn 5 (.t 12))⟩,.q ⟨some 47,(some (45,true)),.l (.ldn 3 (.t 3))⟩,.q ⟨some 48,(some (45,true)),.q (.fa 2 (.t 11))⟩,.q ⟨some 49,(some (45,true)),.l (.ldn 4 (.t 48))⟩,.m ⟨some 50,(some (45,true)),.cl 51 [(.t 47),(.t 49)] []⟩,.rc ⟨some 46,(some (45,true)),.l (.ldn 5 (.t 12))⟩,.m ⟨some 51,(some (45,true)),.cq 14 [(.t 46),(.t 50)]⟩,.q ⟨some 52,(some (41,false)),.pick (.t 45) (.t 51) (.k (.bool false))⟩,.q (.a 53 (.pick (.t 41) (.k (.bool true)) (.t 52)))])) (.cond (.t 53) (.exit 1) .skip)) (wG)
@[go_sem ↓] theorem aRA:aM p6:=aN _
def DH:PC:=.seq (.gh (.reg [.l 33 (.ldn 5 (.t 5)),.q 34 (.fa 0 (.t 11)),.l 35 (.ld1 (.t 34)),.a 36 (.cl 50 [(.t 33),(.t 35)] []),.v 32 36,.q 37 (.ex (.t 32) 0),.q 38 (.ex (.t 32) 1),.e 12 (.al (.agg cS) 29),.s (.st 5 (.t 12) (.t 37)),.v 13 38])) (p6)
@[go_sem ↓] theorem aQF:aM DH:=aN _
def WJ:PC:=.seq (.reg [.e 3 (.bx 25 (.t 0)),.e 5 (.bx 29 (.t 2)),.q 6 (.mv (.k (.string (mk []))))]) (.seq (.reg [.l 15 (.ldn 3 (.t 3)),.v 16 1,.a 17 (.cl 17 [(.t 15),(.t 16)] []),.v 14 17,.q 18 (.ex (.t 14) 0),.q 19 (.ex (.t 14) 1),.e 7 (.al (.agg #[(.string (mk [])),(.slice none 0 0)]) 48),.s (.st 2 (.t 7) (.t 18)),.v 8 19]) (.seq (.reg [.q 9 (.mv (.k (.string (mk []))))]) (.seq (.seq (.reg [.q 10 (.mv (.i 0))]) (.block 0 (.loop (.seq (.seq (.reg [.v 20 10,.q 21 (.fa 1 (.t 7)),.l 22 (.ld1 (.t 21)),.q 23 (.lnL (.t 22)),.q 24 (.bin .lss true (.t 20) (.t 23))]) (.cond (.t 24) .skip (.exit 0))) (.seq (.block 1 (.seq (.reg [.q 27 (.fa 1 (.t 7)),.l 28 (.ld1 (.t 27)),.v 29 10,.l 30 (.ia 7 (.t 28) (.t 29)),.l 31 (.ldn 7 (.t 30)),.e 11 (.al (.agg #[(.int .i64 0),(.string (mk [])),(.int .i64 0),(.int .i64 0),(.string (mk [])),(.slice none 0 0),(.bool false)]) 52),.s (.st 7 (.t 11) (.t 31))]) (DH))) (.reg [.v 25 10,.q 26 (.bin .add true (.t 25) (.i 1)),.v 10 26])))))) (.seq (.reg [.v 67 9,.v 6 67]) .ret))))
def aAF:List RV:=[.mv (.t 6)]
theorem aNY:aO Tryz.prog true ⟨fun r k=>if r=8/\k=12 then .q else if r=9/\k=4 then .q else if r=9/\k=10 then .q else if r=9/\k=11 then .q else .own [],fun r=>[7,8,9].contains r⟩ Tryz.f28=some (WJ,aAF):=by kernel_rfl
def yM:PC:=.gh (.reg [.v 48 7,.l 49 (.ldn 3 (.t 3)),.q 50 (.fa 3 (.t 4)),.l 51 (.ld1 (.t 50)),.l 52 (.ia 4 (.t 51) (.i 0)),.l 53 (.ldn 4 (.t 52)),.q 54 (.fa 3 (.t 5)),.l 55 (.ld1 (.t 54)),.v 56 8,.l 57 (.ia 5 (.t 55) (.t 56)),.l 58 (.ldn 5 (.t 57)),.a 59 (.cq 52 [(.t 49),(.t 53),(.t 58)]),.a 60 (.cq 37 [(.t 59)]),.q 61 (.bin .add true (.t 48) (.t 60)),.v 7 61])
@[go_sem ↓] theorem aN0:aM yM:=aN _
def xR:PC:=.seq (.gh (.reg [.v 62 7,.v 6 62])) .ret
@[go_sem ↓] theorem aM4:aM xR:=aN _
def xW:PC:=.seq (.gh (.reg [.q 36 (.fa 3 (.t 5)),.l 37 (.ld1 (.t 36)),.q 38 (.lnL (.t 37)),.q 39 (.cvt .u64 (.t 38)),.a 40 (.cq 36 [(.t 39)]),.v 7 40])) (.seq (.seq (.reg [.q 8 (.mv (.i 0))]) (.block 1 (.loop (.seq (.seq (.reg [.v 41 8,.q 42 (.fa 3 (.t 5)),.l 43 (.ld1 (.t 42)),.q 44 (.lnL (.t 43)),.q 45 (.bin .lss true (.t 41) (.t 44))]) (.cond (.t 45) .skip (.exit 1))) (.seq (.block 2 (yM)) (.reg [.v 46 8,.q 47 (.bin .add true (.t 46) (.i 1)),.v 8 47])))))) (xR))
@[go_sem ↓] theorem aLW:aM xW:=aN _
def hO:PC:=.seq (.gh (.reg [.q 12 (.bin .eql true (.t 10) (.i 1)),.v 11 12])) (.cond (.t 11) (.seq (.reg [.q 13 (.fa 1 (.t 5)),.l 14 (.ld1 (.t 13)),.q 15 (.cvt .u8 (.t 14)),.e 16 (.bsl 5 1 [(.t 15)]),.q 17 (.b2s (.t 16)),.v 6 17]) .ret) (.seq (.reg [.q 19 (.bin .eql true (.t 10) (.i 2)),.v 18 19]) (.cond (.t 18) (.seq (.reg [.q 20 (.fa 1 (.t 5)),.l 21 (.ld1 (.t 20)),.a 22 (.cq 93 [(.t 21)]),.v 6 22]) .ret) (.seq (.seq (.reg [.q 24 (.bin .eql true (.t 10) (.i 3)),.v 23 24]) (.cond (.t 23) .skip (.reg [.q 25 (.bin .eql true (.t 10) (.i 7)),.v 23 25]))) (.cond (.t 23) (.seq (.reg [.q 26 (.fa 1 (.t 5)),.l 27 (.ld1 (.t 26)),.q 28 (.cvt .u64 (.t 27)),.a 29 (.cq 36 [(.t 28)]),.v 6 29]) .ret) (.seq (.reg [.q 31 (.bin .eql true (.t 10) (.i 4)),.v 30 31]) (.cond (.t 30) (.seq (.reg [.q 32 (.fa 2 (.t 5)),.l 33 (.ld1 (.t 32)),.v 6 33]) .ret) (.seq (.reg [.q 35 (.bin .eql true (.t 10) (.i 5)),.v 34 35]) (.cond (.t 34) (xW) .skip)))))))))
@[go_sem ↓] theorem aRX:aM hO:=aN _
def xY:PC:=.seq (.gh (.reg [.l 63 (.ldn 3 (.t 3)),.q 64 (.fa 2 (.t 4)),.l 65 (.ld1 (.t 64)),.l 66 (.ldn 5 (.t 5)),.a 67 (.cq 28 [(.t 63),(.t 65),(.t 66)]),.v 6 67])) .ret
@[go_sem ↓] theorem aM0:aM xY:=aN _
def XL:PC:=.seq (.reg [.e 3 (.bx 25 (.t 0)),.e 4 (.bx 42 (.t 1)),.e 5 (.bx 29 (.t 2)),.q 6 (.mv (.k (.string (mk []))))]) (.seq (.seq (.reg [.q 9 (.fa 0 (.t 4)),.l 10 (.ld1 (.t 9))]) (.block 0 (hO))) (xY))
def Z9:List RV:=[.mv (.t 6)]
theorem aNG:aO Tryz.prog true ⟨fun r k=>if r=5/\k=2 then .q else if r=8/\k=3 then .q else if r=12/\k=4 then .q else if r=16/\k=11 then .q else if r=16/\k=12 then .q else if r=18/\k=4 then .q else .own [],fun r=>[2,12,17,18,16].contains r⟩ Tryz.f52=some (XL,Z9):=by kernel_rfl
theorem MV:Meets Tryz.prog 37 (OX fun l=>.string (mk (mP l))).sp:=by
 refine aF Tryz.func37 aUO 1 (by rw[Tryz.ntmps37];decide) (aG zP (aB _)) GV ?_
 rintro av H K ⟨⟨h,rfl⟩,hK⟩
 obtain ⟨s,rfl,hs⟩:=mX h
 have hK:K (tS (mk (eI (bl s).length++bl s))) []:=hK
 have hl:=hT (bl s).length
 simp(maxSteps:=9^6)-dsimp only[go_sem,aD2,aJ4,iL,iT,d9]
 exact ⟨by omega,.done hK⟩
def FO (P:Sc->ByteArray->Vl->Prop):List S->Prop:=fun av=>match av with
 |[.va (.gs r),.va (.c1 (.vl (.string nm))),.va (.gs p)]=>gK r/\o9 p/\P (C.sc r) nm (C.vv p)
 |_=>False
theorem rK {P:Sc->ByteArray->Vl->Prop} {av:List S} (h:FO P av):∃s nm v,av=[.va (.gs (aD s)),tS nm,.va (.gs (aP v))]/\s.fit/\VlOk v/\P s nm v:=by
 unfold FO at h
 split at h
 · obtain ⟨⟨s,rfl,hs⟩,⟨v,rfl,hv⟩,h⟩:=h
   rw[dF,iR] at h
   exact ⟨s,_,v,rfl,hs,hv,h⟩
 · exact h.elim
noncomputable def Y9 (f:Sc->ByteArray->Vl->Value):List S->A:=fun av=>match av with
 |[.va (.gs r),.va (.c1 (.vl (.string nm))),.va (.gs p)]=>.c1 (.vl (f (C.sc r) nm (C.vv p)))
 |_=>.gs []
noncomputable def HI (P:Sc->ByteArray->Vl->Prop) (f:Sc->ByteArray->Vl->Value):Fun:=⟨FO P,Y9 f,fun av h=>by obtain ⟨_,_,_,rfl,_⟩:=rK h;trivial⟩
theorem U3 {P:Sc->ByteArray->Vl->Prop} {f:Sc->ByteArray->Vl->Value}:∀av H K,(HI P f).sp av H K->av.length=3:=fun av H K h=>by obtain ⟨_,_,_,rfl,_⟩:=rK h.1.1;rfl
attribute [go_sem] HI FO Y9
theorem aBR {P:Sc->ByteArray->Vl->Prop} {f:Sc->ByteArray->Vl->Value} {av:List S} {H:Hp} {K:S->Hp->Prop} (h:(HI P f).sp av H K) :
 ∃s nm v,av=[.va (.gs (aD s)),tS nm,.va (.gs (aP v))]/\H=[]/\s.fit/\VlOk v/\P s nm v/\K (.va (.c1 (.vl (f s nm v)))) []:=by
 obtain ⟨⟨h,rfl⟩,hK⟩:=h
 obtain ⟨s,nm,v,rfl,hs,hv,hp⟩:=rK h
 have:(HI P f).val [.va (.gs (aD s)),tS nm,.va (.gs (aP v))]=.c1 (.vl (f s nm v)):=by simp -dsimp only[go_sem]
 rw[this] at hK
 exact ⟨s,nm,v,rfl,rfl,hs,hv,hp,hK⟩
noncomputable def aJ6 (N:Nat):Fun:=HI (fun s nm v=>EsP N s (stOf s (b9 nm)) v) fun s nm v=>.string (mk (dT (bO s N) s (stOf s (b9 nm)).fs v.f))
theorem U4 {N:Nat} (hE:Meets Tryz.prog 52 (j8 N).sp):Meets Tryz.prog 28 (aJ6 N).sp:=by
 refine aF Tryz.func28 aNY 3 (by rw[Tryz.ntmps28];decide) (aC nG (aC MY (aC PF (aG CZ (aG zP (aG hE (aG MV (aB _)))))))) U3 ?_
 intro av H K h
 obtain ⟨s,nm,v,rfl,rfl,hs,hv,⟨hd,hN,hh,t,hto,h6,htu,h0⟩,hK⟩:=aBR h
 clear h
 have hlen:=MK hd hN h6 h0 hh
 have hc:=i6 h0
 obtain ⟨_,_,_,_,hck⟩:=hc.st h6
 have hkk:v.k=6:=by rw[hc.kk];exact eq_of_beq h6
 have hnst:=hd.ni.stOf t
 have hul:=hnst.l
 have hfd:=fX hd hc.va h6
 have hfl:∀g∈(stOf s t).fs,kT (stOf s t) g.num=g:=fun g hg=>kF hd hg
 have huo:=eZ hs t
 have hum:=xD hs t
 rw[htu] at hlen hck hnst hfl hul hfd huo hum
 have k6:=dQ hs
 have k7:=gV s
 simp(maxSteps:=9^6)-dsimp only[go_sem,aD,aJ v,WJ,aAF]
 refine fU hs ?_
 rw[show (fS s.ss nm).getD default=stOf s (b9 nm) from rfl]
 generalize stOf s (b9 nm)=u at *
 simp(maxSteps:=9^6)-dsimp only[go_sem,aH]
 refine aL (α:=Nat) (fun i=>[(3,.va (.c1 (.pt 0 0))),(5,.va (.c1 (.pt 1 0))),(7,.va (.c1 (.pt 2 0))),(9,tS (mk (dT (bO s N) s (u.fs.take i) v.f))),(10,iS .i64 i)])
  (fun _=>[.cells [.vl (.int .i64 s.ver),.fz (s.es.map aZ),.fz (s.ss.map aH)] 25,.cells [.vl (.int .i64 v.k),.vl (.int .i64 v.n),.vl (.string v.s),.fz (v.l.map aP),.fz (v.f.map bD)] 29,.cells [.vl (.string u.nm),.fz (u.fs.map aS)] 48])
  (fun i=>i<=u.fs.length) (fun i=>u.fs.length-i) 0 3 (Nat.zero_le _) ?_ ?_ ?_
 · simp -dsimp only[go_sem]<;>simp[dT]
 · simp -dsimp only[go_sem]<;>simp
 intro i hi
 rcases bB i u.fs.length with hlt|hge
 · have hg:decide ((i:Int)<(u.fs.length:Int))=true:=by simp;omega
   have hx:u.fs[i]? = some u.fs[i]:=aU hlt
   have q2:=aT (row:=aS) hx
   have hgm:=List.getElem_mem hlt
   have hgo:=(huo.fs _ hgm).ty
   have hgs:=hum _ hgm
   have hgd:=hfd.2.2 _ hgm
   have hnx:=HY (R:=bO s N) (s:=s) (F:=v.f) hx
   have hl1:=JT (bO s N) s u.fs v.f (i+1)
   have hgf:=hfl _ hgm
   generalize u.fs[i]=g at *
   have hz:zF s 12 g.ty=zF s 23 g.ty:=l6 hd 12 12 23 g.ty (by omega) (by decide) (by decide)
   rw[hnx] at hl1
   rw[mA] at hnx hl1
   unfold kX at hnx hl1
   simp(maxSteps:=9^6)-dsimp only[go_sem,hg,↓q2,aS]
   refine ⟨⟨by omega,by omega⟩,?_⟩
   refine aA rfl (.done ?_)
   simp(maxSteps:=9^6)-dsimp only[go_sem,DH]
   refine HG hv hkk ?_
   cases hvf:bR v.f g.num with
   |none=>
    rw[hvf] at hnx
    have hnx:dT (bO s N) s (u.fs.take (i+1)) v.f=dT (bO s N) s (u.fs.take i) v.f:=by rw[hnx];exact List.append_nil _
    simp(maxSteps:=9^6)-dsimp only[go_sem,Option.map_none,Option.getD_none,Option.isSome_none,vW]
    refine aA rfl (.done ?_)
    simp(maxSteps:=9^6)-dsimp only[go_sem,p6,Bool.false_and,Bool.not_false,Bool.not_true,Bool.true_or]
    refine ⟨⟨by omega,by omega⟩,aE (i+1) 3 (by omega) (by omega) ?_ ?_⟩
    · simp -dsimp only[go_sem,hnx]<;>simp
    · simp -dsimp only[go_sem]<;>simp
   |some x=>
    obtain ⟨hxm,hxe⟩:=nA hvf
    have hxo:=hv.f x hxm
    have hxc:=hck x hxm
    rw[hxe,hgf] at hxc
    have hxh:=hh x hxm
    rw[hvf] at hnx hl1
    simp only[Option.isSome_some,Bool.not_true,Bool.false_or,Option.map_some,Option.getD_some] at hnx hl1 ⊢
    have k1:=cY hxo
    have k2:=gD x.2
    have k4:=gL hgo
    have k5:=lM g.ty
    have k8:A1 N s g.ty x.2=True:=eq_true ⟨hd,hN,hxh,hxc⟩
    have hvl:=hT g.num
    have k9:=fT hd N g.ty x.2 hxh hxc
    have k10:=jP hN
    have k11:=lK (bO s N g.ty x.2)
    have k12:((bO s N g.ty x.2).length<=9223372036854775797)=True:=eq_true (by omega)
    simp(maxSteps:=9^6)-dsimp only[go_sem,aJ x.2]
    refine aA rfl (.done ?_)
    cases ho:g.opt with
    |true=>
     simp(maxSteps:=9^6)-dsimp only[go_sem,p6,Bool.true_and,Bool.false_and,Bool.not_false,Bool.not_true,Bool.or_false,Bool.false_or]
     rw[ho] at hnx hl1
     simp only[Bool.not_true,Bool.false_and,cond_false,List.length_append] at hnx hl1
     refine aA rfl (.done ?_)
     simp(maxSteps:=9^6)-dsimp only[go_sem,wG,j8,iL,iT,d9,k1,k2,k4,k5,k6,k7,k8,k12,List.take_succ_cons,List.take_zero,List.length_cons,List.length_nil]
     refine ⟨by omega,by omega,by omega,aE (i+1) 3 (by omega) (by omega) ?_ ?_⟩
     · simp -dsimp only[go_sem,hnx,k2,k5,k7,d9]<;>simp
     · simp -dsimp only[go_sem]<;>simp
    |false=>
     rw[ho] at hnx hl1
     simp only[Bool.not_false,Bool.true_and] at hnx hl1
     simp(maxSteps:=9^6)-dsimp only[go_sem,p6,Bool.true_and,Bool.false_and,Bool.not_false,Bool.not_true,Bool.or_false,Bool.false_or]
     refine CU hs hgo hgs ?_
     rw[hz]
     have hzo:=oC hs 23 g.ty hgo
     generalize zF s 23 g.ty=z at *
     have kz1:=cY hzo
     have kz2:=gD z
     cases he:dA x.2 z with
     |true=>
      rw[he,cond_true,List.append_nil] at hnx
      simp(maxSteps:=9^6)-dsimp only[go_sem,aJ z,k1,k2,kz1,kz2,he,List.take_succ_cons,List.take_zero,List.length_cons,List.length_nil]
      refine ⟨⟨by omega,by omega⟩,aE (i+1) 3 (by omega) (by omega) ?_ ?_⟩
      · simp -dsimp only[go_sem,hnx]<;>simp
      · simp -dsimp only[go_sem]<;>simp
     |false=>
      rw[he] at hnx hl1
      simp only[cond_false,List.length_append] at hnx hl1
      simp(maxSteps:=9^6)-dsimp only[go_sem,aJ z,k1,k2,kz1,kz2,he,List.take_succ_cons,List.take_zero,List.length_cons,List.length_nil]
      refine aA rfl (.done ?_)
      simp(maxSteps:=9^6)-dsimp only[go_sem,wG,j8,iL,iT,d9,k1,k2,k4,k5,k6,k7,k8,k12,List.take_succ_cons,List.take_zero,List.length_cons,List.length_nil]
      refine ⟨by omega,by omega,by omega,aE (i+1) 3 (by omega) (by omega) ?_ ?_⟩
      · simp -dsimp only[go_sem,hnx,k2,k5,k7,d9]<;>simp
      · simp -dsimp only[go_sem]<;>simp
 · have hg:decide ((i:Int)<(u.fs.length:Int))=false:=by simp;omega
   rw[List.take_of_length_le hge] at *
   simp(maxSteps:=9^6)-dsimp only[go_sem,hg]
   refine .z (?_)
   simp -dsimp only[go_sem]
   exact hK
theorem tW:∀N,Meets Tryz.prog 52 (j8 N).sp
 |0=>⟨by kernel_rfl,by rintro xs vs E ro w K _ _ _ h;obtain ⟨_,_,v,_,_,_,_,_,h,_⟩:=fV h;have:=v.h_pos;have h2:=h.2.2.1;omega⟩
 |N+1=>by
  refine aF Tryz.func52 aNG 3 (by rw[Tryz.ntmps52];decide) (aG aOM (aG zP (aG (tW N) (aG MV (aG (U4 (tW N)) (aB _)))))) iV ?_
  intro av H K h
  obtain ⟨s,t,v,rfl,rfl,hs,ht,hv,⟨hd,hN,hh,h0⟩,hK⟩:=fV h
  clear h
  have fin:∀(x:List UInt8) (R:Hp),bO s (N+1) t v=x->W.Fin 0 K (tS (mk x)) R:=fun x R h=>by
   rw[h] at hK;exact .z ((by simpa[go_sem] using hK))
  clear hK
  have hc:=i6 h0
  have hvn:=hv.n
  have k1:=cY hv
  have k2:=gD v
  have k6:=dQ hs
  have k7:=gV s
  rw[dL] at fin
  simp(maxSteps:=9^6)-dsimp only[go_sem,aD,aR t,aJ v,XL,Z9]
  refine aA rfl (.done ?_)
  cases c1:t.k==1 with
  |true=>
   rw[c1,Bool.true_or,cond_true] at fin
   obtain ⟨_,_,_,e4⟩:=hc.nu (bG c1 (by decide)) (bG c1 (by decide)) (bG c1 (by decide))
   have e6:v.n=0\/v.n=1:=by unfold eX at e4;rw[c1] at e4;simpa using e4
   have f0:eI 0=[0]:=(gO (n:=0) (by decide)).trans iN.1
   have f1:eI 1=[1]:=(gO (n:=1) (by decide)).trans iN.2
   rcases e6 with e6|e6
   · rw[e6] at fin ⊢
     have w0:IntKind.u8.wrap 0=0:=by decide
     simp(maxSteps:=9^6)-dsimp only[go_sem,hO,c1,w0]
     exact ⟨rfl,fin [0] _ f0⟩
   · rw[e6] at fin ⊢
     have w0:IntKind.u8.wrap 1=1:=by decide
     simp(maxSteps:=9^6)-dsimp only[go_sem,hO,c1,w0]
     exact ⟨rfl,fin [1] _ f1⟩
  |false=>
  rw[c1,Bool.false_or] at fin
  cases c2:t.k==2 with
  |true=>
   have c37:(t.k==3||t.k==7)=false:=by rw[bG c2 (b:=3) (by decide),bG c2 (b:=7) (by decide)];rfl
   rw[c37,c2,cond_false,cond_true] at fin
   simp(maxSteps:=9^6)-dsimp only[go_sem,hO,c1,c2,hvn]
   exact fin _ _ rfl
  |false=>
  rw[c2,cond_false] at fin
  cases c3:t.k==3||t.k==7 with
  |true=>
   rw[c3,cond_true] at fin
   cases q3:t.k==3 with
   |true=>
    simp(maxSteps:=9^6)-dsimp only[go_sem,hO,c1,c2,q3,iL,iT,d9]
    exact fin _ _ rfl
   |false=>
    have q7:(t.k==7)=true:=by rw[q3,Bool.false_or] at c3;exact c3
    simp(maxSteps:=9^6)-dsimp only[go_sem,hO,c1,c2,q3,q7,iL,iT,d9]
    exact fin _ _ rfl
  |false=>
  have c3':=c3
  rw[Bool.or_eq_false_iff] at c3'
  rw[c3,cond_false] at fin
  cases c4:t.k==4 with
  |true=>
   rw[c4,cond_true] at fin
   simp(maxSteps:=9^6)-dsimp only[go_sem,hO,c1,c2,c3'.1,c3'.2,c4]
   have:=fin (bl v.s)
   rw[gW] at this
   exact this _ rfl
  |false=>
  rw[c4,cond_false] at fin
  cases c5:t.k==5 with
  |true=>
   rw[c5,cond_true] at fin
   obtain ⟨u,he,hu⟩:=rV hc.va c5
   have hto:=ht.e u (by rw[he];exact List.mem_singleton.2 rfl)
   obtain ⟨_,_,_,e4,e5⟩:=hc.ls c5
   have h32:=(kH hc.va).2 c5
   rw[he] at fin e5
   simp only[List.headD_cons] at fin e5
   have hxs:∀x∈v.l,x.h<=N/\cT s u x=0:=fun x hx=>⟨by have:=Vl.h_l hx;omega,e5 x hx⟩
   have hlen:=LD hd (N:=N) (by omega) hxs (by omega)
   have hvl:=hT v.l.length
   simp(maxSteps:=9^6)-dsimp only[go_sem,hO,c1,c2,c3'.1,c3'.2,c4,c5]
   refine aA rfl (.done ?_)
   simp(maxSteps:=9^6)-dsimp only[go_sem,xW,iL,iT,d9]
   refine aL (α:=Nat) (fun i=>[(3,.va (.c1 (.pt 0 0))),(4,.va (.c1 (.pt 1 0))),(5,.va (.c1 (.pt 2 0))),(7,tS (mk (eI v.l.length++jI (bO s N) u (v.l.take i)))),(8,iS .i64 i)])
    (fun _=>[.cells [.vl (.int .i64 s.ver),.fz (s.es.map aZ),.fz (s.ss.map aH)] 25,.cells [.vl (.int .i64 t.k),.vl (.int .i64 t.s),.vl (.string t.n),.fz (t.e.map aQ)] 42,.cells [.vl (.int .i64 v.k),.vl (.int .i64 v.n),.vl (.string v.s),.fz (v.l.map aP),.fz (v.f.map bD)] 29])
    (fun i=>i<=v.l.length) (fun i=>v.l.length-i) 0 3 (Nat.zero_le _) ?_ ?_ ?_
   · simp -dsimp only[go_sem]<;>simp[jI]
   · simp -dsimp only[go_sem]<;>simp
   intro i hi
   have hlt1:=JC (bO s N) u v.l i
   rcases bB i v.l.length with hlt|hge
   · have hg:decide ((i:Int)<(v.l.length:Int))=true:=by simp;omega
     have hx:v.l[i]? = some v.l[i]:=aU hlt
     have q1:=m0 hx
     have hxm:=List.getElem_mem hlt
     have hxo:=hv.l _ hxm
     have hxp:=hxs _ hxm
     have hnx:=G5 (R:=bO s N) (t:=u) hx
     generalize v.l[i]=x at *
     have k1':=cY hxo
     have k2':=gD x
     have k4:=gL hto
     have k5:=lM u
     have k8:A1 N s u x=True:=eq_true ⟨hd,by omega,hxp.1,hxp.2⟩
     have k9:=fT hd N u x hxp.1 hxp.2
     have k10:=jP (N:=N) (by omega)
     have k11:=lK (bO s N u x)
     have k12:((bO s N u x).length<=9223372036854775797)=True:=eq_true (by omega)
     have z0:(0:Int)<((1:Nat):Int):=by decide
     have z1:(0:Int)<=0:=by decide
     simp(maxSteps:=9^6)-dsimp only[go_sem,hg,↓q1]
     refine aA rfl (.done ?_)
     simp(maxSteps:=9^6)-dsimp only[go_sem,yM,↓q1,aJ x,he,aR u,j8,k1',k2',k4,k5,k6,k7,k8,k12,forall_eq',z0,z1,List.length_cons,List.length_nil,List.take_succ_cons,List.take_zero,List.map_cons,List.map_nil]
     refine ⟨⟨by omega,by omega⟩,by omega,⟨by omega,by omega⟩,aE (i+1) 3 (by omega) (by omega) ?_ ?_⟩
     · simp -dsimp only[go_sem,hnx,k2',k5,k7]<;>simp
     · simp -dsimp only[go_sem,he,List.map_cons,List.map_nil,aR u]<;>simp
   · have hg:decide ((i:Int)<(v.l.length:Int))=false:=by simp;omega
     rw[List.take_of_length_le hge] at *
     simp(maxSteps:=9^6)-dsimp only[go_sem,hg]
     refine aA rfl (.done ?_)
     simp(maxSteps:=9^6)-dsimp only[go_sem,xR]
     exact fin _ _ rfl
  |false=>
   rw[c5,cond_false] at fin
   have c6:(t.k==6)=true:=u2 hc.va c1 (by rw[c2,c3'.1,c3'.2];rfl) c4 c5
   have k8:EsP N s (stOf s (b9 t.n)) v=True:=eq_true ⟨hd,by omega,fun x hx=>by have:=Vl.h_f hx;omega,t,ht,c6,rfl,h0⟩
   simp(maxSteps:=9^6)-dsimp only[go_sem,hO,c1,c2,c3'.1,c3'.2,c4,c5]
   refine aA rfl (.done ?_)
   simp(maxSteps:=9^6)-dsimp only[go_sem,xY,aJ6,k1,k2,k6,k7,k8]
   exact fin _ _ rfl
theorem SM:Meets Tryz.prog 27 (UY gK C.sc (fun s n=>iA .i64 (qI s n).2) (fun _ _=>trivial)).sp:=by
 refine aF Tryz.func27 aPE 2 (by rw[Tryz.ntmps27];decide) (aG aDJ (aC nG (aB _))) SL ?_
 rintro av H K ⟨⟨h,rfl⟩,hK⟩
 obtain ⟨_,nm,rfl,s,rfl,hs⟩:=rT h
 have fin:∀(e:Int) (R:Hp),(qI s nm).2=e->W.Fin 0 K (iS .i64 e) R:=fun e R h=>by
  have hK:K (iS .i64 (qI (C.sc (aD s)) nm).2) []:=hK
  rw[dF,h] at hK;exact .z ((by simpa[go_sem] using hK))
 clear hK
 unfold qI at fin
 have k6:=dQ hs
 have k7:=gV s
 simp(maxSteps:=9^6)-dsimp only[go_sem,aD,XO,aAH,k6,k7]
 refine aA rfl (.done ?_)
 cases c1:bI s != 0 with
 |true=>
  rw[c1,cond_true] at fin
  simp(maxSteps:=9^6)-dsimp only[go_sem,vG,c1]
  exact fin _ _ rfl
 |false=>
 rw[c1,cond_false] at fin
 simp(maxSteps:=9^6)-dsimp only[go_sem,vG,c1]
 refine aA rfl (.done ?_)
 simp(maxSteps:=9^6)-dsimp only[go_sem,DE]
 refine fU hs ?_
 rw[show (fS s.ss nm).getD default=stOf s (b9 nm) from rfl]
 generalize stOf s (b9 nm)=u at *
 simp(maxSteps:=9^6)-dsimp only[go_sem,aH]
 refine aA rfl (.done ?_)
 cases c2:cD s.ss nm with
 |false=>
  rw[c2,Bool.not_false,cond_true] at fin
  simp(maxSteps:=9^6)-dsimp only[go_sem,uR,Bool.not_false]
  exact fin _ _ rfl
 |true=>
  rw[c2,Bool.not_true,cond_false] at fin
  simp(maxSteps:=9^6)-dsimp only[go_sem,uR,Bool.not_true]
  exact fin _ _ rfl
noncomputable def E0 (N:Nat):cW:=[(17,.s uQ),(51,.s y9),(35,.s OQ),(18,.s sE),(56,.s (rX N)),(52,.f (j8 8)),(57,.s HA)]
theorem aIZ (N:Nat):sp (E0 N) 17=uQ:=rfl
theorem PO (N:Nat):sp (E0 N) 51=y9:=rfl
theorem aE7 (N:Nat):sp (E0 N) 35=OQ:=rfl
theorem aFH (N:Nat):sp (E0 N) 18=sE:=rfl
theorem aI9 (N:Nat):sp (E0 N) 56=rX N:=rfl
theorem O2 (N:Nat):nZ (E0 N) 52=some (j8 8):=rfl
theorem QU (N:Nat):sp (E0 N) 57=HA:=rfl
theorem aOH {s:Sc} {nm:ByteArray} {K:S->Hp->Prop} (h1:s.fit) (h2:nm.size<=9223372036854775807) (hK:K (.va (.gs (aP (zF s 12 (b9 nm))))) []):y9 [.va (.gs [.vl (.int .i64 s.ver),.fz (s.es.map aZ),.fz (s.ss.map aH)]),.va (.gs [.vl (.int .i64 6),.vl (.int .i64 0),.vl (.string nm),.fz []])] [] K:=
 CU (t:=b9 nm) h1 (RY h2) (.mk (Nat.zero_le _) fun t h=>by cases h) hK
theorem RR (a b:List UInt8):(mk a==mk b)=(a==b):=by
 rw[Bool.eq_iff_iff]
 show (Array.isEqv _ _ _)=true ↔ _
 simp[Array.isEqv_eq_decide]
 constructor
 · rintro ⟨h,hh⟩;exact List.ext_getElem h fun i h1 h2=>hh i h1
 · rintro rfl;exact ⟨rfl,fun _ _=>rfl⟩
theorem KM {F:List (Int×Vl)} {k:Int} {x:Vl} {K:S->Hp->Prop} (h:VlOk (.mk 6 0 (mk []) [] F)) (hx:VlOk x) (hl:F.length<=1000000) (hK:K (.va (.gs [.vl (.int .i64 6),.vl (.int .i64 0),.vl (.string (mk [])),.fz [],.fz ((pZ k x (bR F k).isSome F).map bD)])) []) :
 HA [.va (.gs [.vl (.int .i64 6),.vl (.int .i64 0),.vl (.string (mk [])),.fz [],.fz (F.map bD)]),iS .i64 k,.va (.gs [.vl (.int .i64 x.k),.vl (.int .i64 x.n),.vl (.string x.s),.fz (x.l.map aP),.fz (x.f.map bD)])] [] K:=
 aGZ (v:=.mk 6 0 (mk []) [] F) h rfl hx hl (by rw[aJ];exact hK)
theorem aWC {s:Sc} (hd:Dg s) {t:Ty} (hv:valF s.ss s.es t=true):A1 8 s t (zF s 23 t):=by
 have h6d:(t.k==6)=true->dD s.ss t.n<=22:=fun h6=>by have:=(fX hd hv h6).2.1;omega
 obtain ⟨z1,z2⟩:=OY hd 22 t hv h6d
 have z3:=JZ (zF s 23 t)
 have z4:zl s t<=6:=by
  unfold zl
  cases h6:t.k==6 with
  |true=>exact (fX hd hv h6).2.1
  |false=>
   cases t.k==5 with
   |true=>show (1:Int)<=6;decide
   |false=>show (0:Int)<=6;decide
 have z2:cX (zF s 23 t)<=zl s t:=z2
 exact ⟨hd,Nat.le_refl _,by omega,z1⟩
theorem aJJ {s:Sc} (hs:s.fit) {u:St} (huo:u.ok) (hul:u.fs.length<=16) {L:List (Int×Vl)} (hL:∀y∈L,bT y.1/\VlOk y.2):VlOk (.mk 6 0 (mk []) [] (cF s u.fs L)):=by
 have hm:=C2 (P:=fun k v=>bT k/\VlOk v) (s:=s) (fs:=u.fs) (L:=L) hL fun f hf=>⟨(huo.fs f hf).num,oC hs 23 f.ty (huo.fs f hf).ty⟩
 have hl:=uU s u.fs L
 exact .mk ⟨by decide,by decide⟩ ⟨by decide,by decide⟩ (by decide) (by decide) (by omega) (fun v h=>by cases h) (fun x hx=>(hm x hx).1) (fun x hx=>(hm x hx).2)
theorem wY {N:Nat} (hN:N<=8) (hD:Meets Tryz.prog 56 (rX N)):Meets Tryz.prog 31 (OC N):=by
 refine aF (Γ:=E0 N) Tryz.func31 aOU 3 (by rw[Tryz.ntmps31];decide) (aC nG (aC PF (aC aNM (aC RS (aC hD (aG (tW 8) (aC aD8 (aB _)))))))) (fun av H K h=>by obtain ⟨_,_,_,rfl,_⟩:=h;rfl) ?_
 rintro av H K ⟨s,nm,b,rfl,rfl,hd,hs,hnm,hv,hf,hb,hK⟩
 have hst:=fX hd hv rfl
 have hfdn:=jS (s:=s) (t:=b9 nm) rfl
 have huo:=eZ hs (b9 nm)
 have hum:=xD hs (b9 nm)
 have hnst:=hd.ni.stOf (b9 nm)
 have hp:=uM hnst
 have hz0:zF s 12 (b9 nm)=.mk 6 0 (mk []) [] (cF s (stOf s (b9 nm)).fs []):=by
  rw[<-C9 (n:=11) fun f hf=>l6 hd 11 11 23 f.ty (by have:=hst.2.2 f hf;omega) (by decide) (by decide),fR,hv];rfl
 have fin:∀(L:List (Int×Vl)) (q:Vl×Int) (R:Hp),fZ (aV s N) s (stOf s (b9 nm)).fs b=q->(q.2=0->.mk 6 0 (mk []) [] (cF s (stOf s (b9 nm)).fs L)=q.1)->W.Fin 0 K (.tu [.gs [.vl (.int .i64 6),.vl (.int .i64 0),.vl (.string (mk [])),.fz [],.fz ((cF s (stOf s (b9 nm)).fs L).map bD)],iA .i64 q.2]) R:=fun L q R h hw=>by
  have hK:=hK (.mk 6 0 (mk []) [] (cF s (stOf s (b9 nm)).fs L))
  rw[h] at hK
  have hK:=hK hw
  exact .z ((by rw[aJ] at hK;simpa[go_sem,Vl.k,Vl.n,Vl.s,Vl.l,Vl.f] using hK))
 clear hK
 unfold fZ at fin
 simp(maxSteps:=9^6)-dsimp only[go_sem,aD,WO,XQ,aIZ]
 refine fU hs ?_
 rw[show (fS s.ss nm).getD default=stOf s (b9 nm) from rfl]
 have hval:∀f∈(stOf s (b9 nm)).fs,valF s.ss s.es f.ty=true:=hnst.v
 generalize stOf s (b9 nm)=u at *
 simp(maxSteps:=9^6)-dsimp only[go_sem,aH]
 refine aA rfl (.done ?_)
 simp(maxSteps:=9^6)-dsimp only[go_sem,B3,PO]
 refine aOH hs hnm ?_
 rw[hz0,aJ]
 simp(maxSteps:=9^6)-dsimp only[go_sem,Vl.k,Vl.n,Vl.s,Vl.l,Vl.f,List.map_nil]
 refine aA rfl (.done ?_)
 simp(maxSteps:=9^6)-dsimp only[go_sem,BB]
 refine aL (α:=Nat×Nat×Int×List (Int×Vl)) (fun z=>[(2,tS (mk b)),(3,.va (.c1 (.pt 0 0))),(6,.va (.c1 (.pt 1 0))),(8,.va (.c1 (.pt 2 0))),(10,.va (.c1 (.pt 3 0))),(11,iS .i64 z.2.2.1),(12,iS .i64 z.2.1)])
  (fun z=>[.cells [.vl (.int .i64 s.ver),.fz (s.es.map aZ),.fz (s.ss.map aH)] 25,.cells [.vl (.int .i64 0),.vl (.int .i64 0),.vl (.string (mk [])),.vl (.slice none 0 0),.vl (.slice none 0 0)] 29,.cells [.vl (.string u.nm),.fz (u.fs.map aS)] 48,
    .cells [.vl (.int .i64 6),.vl (.int .i64 0),.vl (.string (mk [])),.fz [],.fz ((cF s u.fs z.2.2.2).map bD)] 29])
  (fun z=>z.2.1<=b.length/\b.length-z.2.1<=z.1/\(∀y∈z.2.2.2,y.1<=z.2.2.1/\bT y.1/\VlOk y.2)/\mH z.2.2.2 (cQ (aV s N) s u.fs z.1 z.2.2.1 (b.drop z.2.1))=cQ (aV s N) s u.fs b.length 0 b) (fun z=>z.1) (b.length,0,0,[]) 4 ⟨Nat.zero_le _,Nat.sub_le _ _,(fun y h=>by cases h),LA (OI _ _ _)⟩ ?_ ?_ ?_
 · simp -dsimp only[go_sem]<;>simp
 · simp -dsimp only[go_sem]<;>simp
 rintro ⟨g,a,last,L⟩ ⟨ha,hg,hL,ho⟩
 simp only at ha hg hL ho ⊢
 rcases bB a b.length with hax|hax
 · have g1:decide ((a:Int)<(b.length:Int))=true:=by simp;omega
   have hbn:b.drop a≠[]:=fun h=>by have:=congrArg List.length h;rw[List.length_drop] at this;simp at this;omega
   obtain ⟨g,rfl⟩:∃k,g=k+1:=⟨g-1,by omega⟩
   rw[lH hbn] at ho
   have hfl:=y2 (b.drop a) last
   have hnx:=aMX (last:=last) ha
   have hok:=OL (b.drop a) last
   simp(maxSteps:=9^6)-dsimp only[go_sem,g1,aE7]
   refine aJC ha (by omega) ?_
   generalize sT b a last=y at *
   generalize bC (b.drop a) last=z at *
   obtain ⟨⟨c,n⟩,r,e⟩:=z
   simp only at ho hfl hnx hok
   cases c1:e != 0 with
   |true=>
    rw[c1,cond_true] at hnx
    rw[c1,cond_true,m1 L c1] at ho
    rw[<-ho] at fin
    simp only[c1,cond_true] at fin
    subst hnx
    simp(maxSteps:=9^6)-dsimp only[go_sem]
    refine aA rfl (.done ?_)
    simp(maxSteps:=9^6)-dsimp only[go_sem,wE,c1]
    exact fin L _ _ rfl fun h=>absurd h (eL c1)
   |false=>
   rw[c1,cond_false] at hnx ho
   subst hnx
   have hlt:=hfl.2.2 (cU c1)
   obtain rfl:=cU c1
   rw[List.length_drop] at hlt
   have hlc:last<c/\n.length<=b.length:=by
    refine ⟨?_,by have:=hfl.1;rw[List.length_drop] at this;omega⟩
    rcases hok with h|⟨_,h,_⟩
    · exact absurd rfl h
    · exact h
   have hdr:b.drop (b.length-r.length)=r:=by
    rcases hok with h|⟨_,_,_,_,h⟩
    · exact absurd rfl h
    · have h2:b=b.take a++(vi c.toNat++(vi n.length++n))++r:=by rw[List.append_assoc,<-h,List.take_append_drop]
      have h3:b.length-r.length=(b.take a++(vi c.toNat++(vi n.length++n))).length:=by have:=congrArg List.length h2;rw[List.length_append] at this;omega
      rw[h3]
      exact (congrArg (List.drop (b.take a++(vi c.toNat++(vi n.length++n))).length) h2).trans List.drop_left
   have e00:((0:Int) != 0)=false:=rfl
   simp(maxSteps:=9^6)-dsimp only[go_sem]
   refine aA rfl (.done ?_)
   simp(maxSteps:=9^6)-dsimp only[go_sem,wE,e00]
   refine aA rfl (.done ?_)
   simp(maxSteps:=9^6)-dsimp only[go_sem,xI,aFH]
   refine u4 huo hum ?_
   cases hff:fF u.fs c with
   |none=>
    rw[hff] at ho
    simp only[Option.isSome_none,Bool.not_false,cond_true] at ho
    simp(maxSteps:=9^6)-dsimp only[go_sem,Option.getD_none,Option.isSome_none,pK]
    refine aA rfl (.done ?_)
    simp(maxSteps:=9^6)-dsimp only[go_sem,rB,Bool.not_false]
    refine aE (g,b.length-r.length,c,L) 4 ⟨by simp only;omega,by simp only;omega,fun y hy=>⟨by have:=(hL y hy).1;simp only;omega,(hL y hy).2⟩,by simp only;rw[hdr];exact ho⟩ (by simp only;omega) ?_ ?_
    · simp -dsimp only[go_sem]<;>simp
    · simp -dsimp only[go_sem]<;>simp
   |some f=>
   obtain ⟨hfm,hfn⟩:=vB hff
   have hfo:=(huo.fs f hfm).ty
   have hfs:=hum f hfm
   have hfv:=hval f hfm
   have hfd:=hst.2.2 f hfm
   rw[hff] at ho
   simp only[Option.isSome_some,Bool.not_true,cond_false,Option.getD_some] at ho
   simp(maxSteps:=9^6)-dsimp only[go_sem,Option.getD_some,Option.isSome_some,aS]
   refine aA rfl (.done ?_)
   simp(maxSteps:=9^6)-dsimp only[go_sem,rB,Bool.not_true]
   refine aA rfl (.done ?_)
   simp(maxSteps:=9^6)-dsimp only[go_sem,yC,aI9]
   refine K4 hd hs hfo hfs hfv (by omega) (by omega) fun w hw=>?_
   simp(maxSteps:=9^6)-dsimp only[go_sem]
   refine aA rfl (.done ?_)
   have hder:pI (aV s N) s f n=bif (aV s N f.ty n).2 != 0 then (aV s N f.ty n).2 else bif !f.opt&&(dA (aV s N f.ty n).1 (zF s 23 f.ty)&&(f.ty.k != 6||n==[])) then 2 else 0:=rfl
   cases d1:(aV s N f.ty n).2 != 0 with
   |true=>
    rw[d1,cond_true] at hder
    rw[hder,d1,cond_true,m1 L d1] at ho
    rw[<-ho] at fin
    simp only[d1,cond_true] at fin
    simp(maxSteps:=9^6)-dsimp only[go_sem,rH,d1]
    exact fin L (v0,_) _ rfl fun h=>absurd h (eL d1)
   |false=>
   have d0:=cU d1
   have hcz:=aCR hs hd hfo hfv (M:=N) (by omega) d0
   have hwv:=hw d0
   have hwo:VlOk w:=by rw[hwv];exact m6 hs hd N f.ty n hfo hfv (by omega)
   rw[d1,cond_false,<-hcz] at hder
   rw[<-hwv] at ho
   simp(maxSteps:=9^6)-dsimp only[go_sem,rH,d1]
   refine aA rfl (.done ?_)
   have hvo:=aJJ hs huo hnst.l fun y hy=>(hL y hy).2
   have hfl16:=uU s u.fs L
   have hl16:=hnst.l
   have hlt':∀y∈L,y.1<c:=fun y hy=>by have:=(hL y hy).1;omega
   have hwr:=aAI (s:=s) (L:=L) (k:=c) (x:=w) hlt' hp ⟨f,hfm,hfn⟩
   have hL':∀y∈L++[(c,w)],y.1<=c/\bT y.1/\VlOk y.2:=fun y hy=>by
    rcases List.mem_append.1 hy with hy|hy
    · exact ⟨by have:=hlt' y hy;omega,(hL y hy).2⟩
    · obtain rfl:=List.mem_singleton.1 hy
      exact ⟨Int.le_refl _,by rw[<-hfn];exact (huo.fs f hfm).num,hwo⟩
   have hok2:pI (aV s N) s f n=0->mH (L++[(c,w)]) (cQ (aV s N) s u.fs g c (b.drop (b.length-r.length)))=cQ (aV s N) s u.fs b.length 0 b:=fun h=>by
    rw[h,e00,cond_false,RN,<-hdr] at ho
    rw[hdr] at ho ⊢
    exact ho
   cases hop:f.opt with
   |true=>
    rw[hop,Bool.not_true,Bool.false_and,cond_false] at hder
    have ho2:=hok2 hder
    simp(maxSteps:=9^6)-dsimp only[go_sem,sC,oS,hop,Bool.not_true,Bool.true_and,Bool.false_and]
    refine aA rfl (.done ?_)
    simp(maxSteps:=9^6)-dsimp only[go_sem,rI,QU]
    refine KM hvo hwo (by omega) ?_
    rw[hwr]
    simp(maxSteps:=9^6)-dsimp only[go_sem]
    refine aE (g,b.length-r.length,c,L++[(c,w)]) 4 ⟨by simp only;omega,by simp only;omega,hL',ho2⟩ (by simp only;omega) ?_ ?_
    · simp -dsimp only[go_sem]<;>simp
    · simp -dsimp only[go_sem]<;>simp
   |false=>
    rw[hop,Bool.not_false,Bool.true_and] at hder
    have hz12:zF s 12 f.ty=zF s 23 f.ty:=l6 hd 12 12 23 f.ty (by omega) (by decide) (by decide)
    have hec:=aWC hd hfv
    have hzo:=oC hs 23 f.ty hfo
    simp(maxSteps:=9^6)-dsimp only[go_sem,sC,hop,Bool.not_false,Bool.true_and,PO]
    refine CU hs hfo hfs ?_
    rw[hz12]
    generalize zF s 23 f.ty=z at *
    have k1:=cY hzo
    have k2:=gD z
    have k4:=gL hfo
    have k5:=lM f.ty
    have k6:=dQ hs
    have k7:=gV s
    have k8:A1 8 s f.ty z=True:=eq_true hec
    cases hq:n==bO s 8 f.ty z with
    |true=>
     rw[hq,cond_true] at hder
     rw[hder] at ho
     have e2:((2:Int) != 0)=true:=rfl
     rw[e2,cond_true,m1 L e2] at ho
     rw[<-ho] at fin
     simp only[e2,cond_true] at fin
     simp(maxSteps:=9^6)-dsimp only[go_sem,aJ z,oS,O2,j8,k1,k2,k4,k5,k6,k7,k8,RR,hq,Bool.true_and]
     exact fin L (v0,_) _ rfl fun h=>by cases h
    |false=>
     rw[hq,cond_false] at hder
     have ho2:=hok2 hder
     simp(maxSteps:=9^6)-dsimp only[go_sem,aJ z,oS,O2,j8,k1,k2,k4,k5,k6,k7,k8,RR,hq,Bool.true_and]
     refine aA rfl (.done ?_)
     simp(maxSteps:=9^6)-dsimp only[go_sem,rI,QU]
     refine KM hvo hwo (by omega) ?_
     rw[hwr]
     simp(maxSteps:=9^6)-dsimp only[go_sem]
     refine aE (g,b.length-r.length,c,L++[(c,w)]) 4 ⟨by simp only;omega,by simp only;omega,hL',ho2⟩ (by simp only;omega) ?_ ?_
     · simp -dsimp only[go_sem]<;>simp
     · simp -dsimp only[go_sem]<;>simp
 · have g1:decide ((a:Int)<(b.length:Int))=false:=by simp;omega
   have hbn:b.drop a=[]:=List.drop_eq_nil_iff.2 hax
   rw[hbn,pN,QA,List.append_nil] at ho
   rw[<-ho] at fin
   simp only[show ((0:Int) != 0)=false from rfl,cond_false] at fin
   simp(maxSteps:=9^6)-dsimp only[go_sem,g1]
   refine aA rfl (.done ?_)
   simp(maxSteps:=9^6)-dsimp only[go_sem,yL]
   exact fin L _ _ rfl fun _=>rfl
def mN (L:List (Int×Vl)):List Value:=L.map fun y=>.int .i64 y.1
def n6 (L:List (Int×Vl)):List A:=L.map fun y=>.gs (aP y.2)
theorem PJ (k:Int):∀(L:List (Int×Vl)),fN (mN L) (n6 L) (.int .i64 k)=(bR L k).map fun y=>.gs (aP y.2)
 |[]=>rfl
 |y::L=>by
  have ih:=PJ k L
  unfold fN at ih ⊢
  show ((hZ (.int .i64 y.1::mN L) (.int .i64 k)).bind fun i=>(A.gs (aP y.2)::n6 L)[i]?)=_
  rw[hZ,iU]
  show ((bif k==y.1 then some 0 else (hZ (mN L) (.int .i64 k)).map (· + 1)).bind fun i=>(A.gs (aP y.2)::n6 L)[i]?)=_
  by_cases h:y.1=k
  · rw[if_pos h,show (k==y.1)=true by simp[h]];rfl
  · rw[if_neg h,show (k==y.1)=false by simp;omega,cond_false,<-ih]
    cases hZ (mN L) (.int .i64 k)<;>rfl
theorem RX {L:List (Int×Vl)} {k:Int} (h:∀x∈L,x.1<k):hZ (mN L) (.int .i64 k)=none:=by
 induction L with
 |nil=>rfl
 |cons y L ih=>
  show hZ (.int .i64 y.1::mN L) (.int .i64 k)=none
  rw[hZ]
  show (bif k==y.1 then some 0 else (hZ (mN L) (.int .i64 k)).map (· + 1))=none
  have:=h y (List.mem_cons_self ..)
  rw[show (k==y.1)=false by simp;omega,cond_false,ih fun x hx=>h x (List.mem_cons_of_mem _ hx)];rfl
theorem aCK {L:List (Int×Vl)} {k:Int} (h:∀x∈L,x.1<k) (v:Vl):iE (mN L) (.int .i64 k)=mN (L++[(k,v)]):=by
 unfold iE
 rw[RX h]
 unfold mN
 rw[List.map_append];rfl
theorem aDF {L:List (Int×Vl)} {k:Int} (h:∀x∈L,x.1<k) (v:Vl):jA (mN L) (n6 L) (.int .i64 k) (.gs (aP v))=n6 (L++[(k,v)]):=by
 unfold jA
 rw[RX h]
 unfold n6
 rw[List.map_append];rfl
theorem aDK {s:Sc} {t:Ty} {z:Vl} {K:S->Hp->Prop} (h1:s.fit) (h2:TyOk t) (hz:z=zF s 23 t) (hK:K (.va (.gs [.vl (.int .i64 z.k),.vl (.int .i64 z.n),.vl (.string z.s),.fz (z.l.map aP),.fz (z.f.map bD)])) []) :
 IM [.va (.gs [.vl (.int .i64 s.ver),.fz (s.es.map aZ),.fz (s.ss.map aH)]),.va (.gs [.vl (.int .i64 t.k),.vl (.int .i64 t.s),.vl (.string t.n),.fz (t.e.map aQ)])] [] K:=by
 subst hz
 exact BM h1 h2 (by rw[aJ];exact hK)
theorem aCZ (f:Nat->Option Nat) (v:Vl):(aP v).map (C.ren f)=aP v:=by rw[aJ];rfl
theorem kA (f:Nat->Option Nat) (L:List (Int×Vl)):(n6 L).map (A.ren f)=n6 L:=by
 unfold n6
 rw[List.map_map]
 refine List.map_congr_left fun y _=>?_
 show A.gs ((aP y.2).map (C.ren f))=_
 rw[aCZ]
theorem TP {s:Sc} {fs:List Fl} {L:List (Int×Vl)} {i:Nat} {f:Fl} (h:fs[i]? = some f):cF s (fs.take (i+1)) L=cF s (fs.take i) L++eC s L f:=by
 unfold cF;rw[dB h,List.flatMap_append];simp
structure DsP (N:Nat) (s:Sc) (u:St):Prop where
 d:Dg s
 f:s.fit
 t:∃t:Ty,stOf s t=u
 n:∀f∈u.fs,fK s f.ty<N
def X8 (N:Nat):W.Spec:=fun av H K=>∃(s:Sc) (u:St) (b:List UInt8),av=[.va (.gs (aD s)),.va (.gs (aH u)),tS (mk b)]/\H=[]/\DsP N s u/\b.length<=1000000000/\K (.tu [.gs (aP (fZ (aV s N) s u.fs b).1),iA .i64 (fZ (aV s N) s u.fs b).2]) []
theorem KR {N:Nat} {s:Sc} {u:St} {b:List UInt8} {K:S->Hp->Prop} (hp:DsP N s u) (hb:b.length<=1000000000) (hK:K (.tu [.gs (aP (fZ (aV s N) s u.fs b).1),iA .i64 (fZ (aV s N) s u.fs b).2]) []) :
 X8 N [.va (.gs [.vl (.int .i64 s.ver),.fz (s.es.map aZ),.fz (s.ss.map aH)]),.va (.gs [.vl (.string u.nm),.fz (u.fs.map aS)]),tS (mk b)] [] K:=⟨s,u,b,rfl,rfl,hp,hb,hK⟩
noncomputable def MA (N:Nat):cW:=[(53,.s FY),(54,.s sE),(55,.s (CV N)),(45,.s IM),(44,.f eqFn2)]
theorem aIA (N:Nat):sp (MA N) 53=FY:=rfl
theorem aGO (N:Nat):sp (MA N) 54=sE:=rfl
theorem aHW (N:Nat):sp (MA N) 55=CV N:=rfl
theorem PH (N:Nat):sp (MA N) 45=IM:=rfl
theorem A4 (N:Nat):nZ (MA N) 44=some eqFn2:=rfl
abbrev zvC:List C:=[.vl (.int .i64 0),.vl (.int .i64 0),.vl (.string (mk [])),.vl (.slice none 0 0),.vl (.slice none 0 0)]
theorem sX {N:Nat} (hD:Meets Tryz.prog 55 (CV N)):Meets Tryz.prog 30 (X8 N):=by
 refine aF (Γ:=MA N) Tryz.func30 aSI 3 (by rw[Tryz.ntmps30];decide) (aC aCB (aC s8 (aC hD (aC X2 (aG KS (aB _)))))) (fun av H K h=>by obtain ⟨_,_,_,rfl,_⟩:=h;rfl) ?_
 rintro av H K ⟨s,u,b,rfl,rfl,⟨hd,hs,⟨t,htu⟩,hfd⟩,hb,hK⟩
 have hnst:=hd.ni.stOf t
 have huo:=eZ hs t
 rw[htu] at hnst huo
 have hus:∀f∈u.fs,TySm f.ty:=by
  rw[<-htu]
  unfold stOf
  cases hf:fS s.ss t.n with
  |none=>exact fun f hf=>(List.not_mem_nil hf).elim
  |some w=>exact (hs.sm w (f5 hf).1).2
 have hul:=hnst.l
 have fin:∀(v:Vl) (e:Int) (R:Hp),fZ (aV s N) s u.fs b=(v,e)->W.Fin 0 K (.tu [.gs (aP v),iA .i64 e]) R:=fun v e R h=>by
  rw[h] at hK;exact .z ((by rw[aJ] at hK ⊢;simpa[go_sem] using hK))
 have fin2:∀(l:List (Int×Vl)),fZ (aV s N) s u.fs b=(.mk 6 0 (mk []) [] l,0)->K (.tu [.gs (aP (.mk 6 0 (mk []) [] l)),iA .i64 0]) []:=fun l h=>by rw[h] at hK;exact hK
 clear hK
 unfold fZ at fin fin2
 simp(maxSteps:=9^6)-dsimp only[go_sem,aD,aH,aHR,aD7]
 refine aL (α:=Nat×Int×List UInt8×List (Int×Vl)) (fun z=>[(2,tS (mk z.2.2.1)),(3,.va (.c1 (.pt 0 0))),(4,.va (.c1 (.pt 1 0))),(6,.va (.c1 (.pt 2 0))),(8,.va (.c1 (.mp 3))),(9,iS .i64 z.2.1)])
  (fun z=>[.cells [.vl (.int .i64 s.ver),.fz (s.es.map aZ),.fz (s.ss.map aH)] 25,.cells [.vl (.string u.nm),.fz (u.fs.map aS)] 48,.cells zvC 29,.map (.int .i64) (mN z.2.2.2) (n6 z.2.2.2)])
  (fun z=>z.2.2.1.length<=z.1/\z.2.2.1.length<=b.length/\(∀x∈z.2.2.2,x.1<=z.2.1/\VlOk x.2)/\mH z.2.2.2 (cQ (aV s N) s u.fs z.1 z.2.1 z.2.2.1)=cQ (aV s N) s u.fs b.length 0 b) (fun z=>z.1) (b.length,0,b,[]) 4
  ⟨Nat.le_refl _,Nat.le_refl _,fun x h=>(by cases h),LA (OI _ _ _)⟩ ?_ ?_ ?_
 · simp -dsimp only[go_sem]<;>simp
 · simp -dsimp only[go_sem]<;>simp[mN,n6]
 rintro ⟨g,last,x,acc⟩ ⟨hg,hl,ha,ho⟩
 simp only at hg hl ha ho ⊢
 by_cases hb0:x=[]
 · subst hb0
   have e0:(([]:List UInt8)==[])=true:=rfl
   rw[pN,QA,List.append_nil] at ho
   rw[<-ho] at fin2
   have fin2:=fin2 (cF s u.fs acc) rfl
   simp(maxSteps:=9^6)-dsimp only[go_sem,e0,Bool.not_true]
   refine aA rfl (.done ?_)
   simp(maxSteps:=9^6)-dsimp only[go_sem,B8]
   refine aA rfl (.done ?_)
   simp(maxSteps:=9^6)-dsimp only[go_sem,DR]
   clear ho hg hl e0
   refine cM (α:=Nat) (fun i=>[(3,.va (.c1 (.pt 0 0))),(6,.va (.c1 (.pt 2 0))),(8,.va (.c1 (.mp 3))),(16,.va (.c1 (.pt 4 0))),(92,.va (.c1 (.fz (u.fs.map aS)))),(93,iS .i64 u.fs.length),(94,iS .i64 i)])
    (fun i=>[.cells [.vl (.int .i64 s.ver),.fz (s.es.map aZ),.fz (s.ss.map aH)] 25,.cells [.vl (.string u.nm),.fz (u.fs.map aS)] 48,.cells zvC 29,.map (.int .i64) (mN acc) (n6 acc),
      .cells [.vl (.int .i64 6),.vl (.int .i64 0),.vl (.string (mk [])),.vl (.slice none 0 0),.sl 5 (cF s (u.fs.take i) acc).length] 29,.row ((cF s (u.fs.take i) acc).map bD) 76 6])
    (fun i=>i<=u.fs.length) (fun i=>u.fs.length-i) (.nilc 4 4 76 6 _ _ rfl rfl (jD 0 6 (Nat.zero_le _) ?_ ?_)) ?_
   · simp -dsimp only[go_sem]<;>simp
   · simp -dsimp only[go_sem]<;>simp[cF,kA]
   intro i hi
   have hli:=Nat.le_trans (uU s (u.fs.take i) acc) (List.length_take_le i u.fs)
   rcases bB i u.fs.length with hlt|hge
   · have hg:decide ((i:Int)<(u.fs.length:Int))=true:=by simp;omega
     have hx:u.fs[i]? = some u.fs[i]:=aU hlt
     have q2:=aT (row:=aS) hx
     have hfo:=(huo.fs _ (List.getElem_mem hlt)).ty
     have hnx:=TP (s:=s) (L:=acc) hx
     generalize u.fs[i]=f at *
     unfold eC at hnx
     have hmi:=PJ f.num acc
     simp(maxSteps:=9^6)-dsimp only[go_sem,hg,↓q2,aS]
     refine ⟨by omega,aA rfl (.done ?_)⟩
     cases hv:bR acc f.num with
     |some y=>
      rw[hv] at hmi hnx
      have hmi:fN (mN acc) (n6 acc) (.int .i64 f.num)=some (.gs [.vl (.int .i64 y.2.k),.vl (.int .i64 y.2.n),.vl (.string y.2.s),.fz (y.2.l.map aP),.fz (y.2.f.map bD)]):=by rw[hmi,<-aJ];rfl
      have hnx:cF s (u.fs.take (i+1)) acc=cF s (u.fs.take i) acc++[(f.num,y.2)]:=hnx
      simp(maxSteps:=9^6)-dsimp only[go_sem,wI,hmi,Z5]
      refine aA rfl (.done ?_)
      simp(maxSteps:=9^6)-dsimp only[go_sem,qL,Bool.not_true,Bool.false_and]
      refine aA rfl (.done ?_)
      simp(maxSteps:=9^6)-dsimp only[go_sem,uY,Bool.not_true]
      refine aA rfl (.done ?_)
      simp(maxSteps:=9^6)-dsimp only[go_sem,wC,List.take_succ_cons,List.take_zero,List.length_cons,List.length_nil]
      refine ⟨by omega,by omega,aE (i+1) 6 (by omega) (by omega) ?_ ?_⟩
      · simp -dsimp only[go_sem]<;>simp
      · simp -dsimp only[go_sem,hnx]<;>simp[kA,cH]
     |none=>
      rw[hv] at hmi hnx
      have hmi:fN (mN acc) (n6 acc) (.int .i64 f.num)=none:=hmi
      have hnx:cF s (u.fs.take (i+1)) acc=cF s (u.fs.take i) acc++(bif f.opt then [] else [(f.num,zF s 23 f.ty)]):=hnx
      simp(maxSteps:=9^6)-dsimp only[go_sem,wI,hmi,Z5]
      refine aA rfl (.done ?_)
      cases hopt:f.opt with
      |true=>
       rw[hopt,cond_true,List.append_nil] at hnx
       simp(maxSteps:=9^6)-dsimp only[go_sem,qL,Bool.not_false,Bool.true_and,hopt]
       refine ⟨by omega,aE (i+1) 6 (by omega) (by omega) ?_ ?_⟩
       · simp -dsimp only[go_sem]<;>simp
       · simp -dsimp only[go_sem,hnx]<;>simp[kA]
      |false=>
       rw[hopt,cond_false] at hnx
       simp(maxSteps:=9^6)-dsimp only[go_sem,qL,Bool.not_false,Bool.true_and,hopt]
       refine aA rfl (.done ?_)
       simp(maxSteps:=9^6)-dsimp only[go_sem,uY,Bool.not_false]
       refine aA rfl (.done ?_)
       simp(maxSteps:=9^6)-dsimp only[go_sem,CL,PH,List.take_succ_cons,List.take_zero,List.drop_succ_cons,List.drop_zero,List.length_cons,List.length_nil]
       refine BM hs hfo ?_
       generalize zF s 23 f.ty=w at *
       simp(maxSteps:=9^6)-dsimp only[go_sem,aJ w]
       refine aA rfl (.done ?_)
       simp(maxSteps:=9^6)-dsimp only[go_sem,wC,List.take_succ_cons,List.take_zero,List.length_cons,List.length_nil]
       refine ⟨by omega,by omega,aE (i+1) 6 (by omega) (by omega) ?_ ?_⟩
       · simp -dsimp only[go_sem]<;>simp
       · simp -dsimp only[go_sem,hnx]<;>simp[kA,cH]
   · have hg:decide ((i:Int)<(u.fs.length:Int))=false:=by simp;omega
     rw[List.take_of_length_le hge] at *
     simp(maxSteps:=9^6)-dsimp only[go_sem,hg]
     refine .pub 5 _ _ _ rfl (.sel [] (by simp) (by simp[b5]) rfl (.done ?_))
     rw[aJ] at fin2
     simp -dsimp only[go_sem,b5]
     simpa[Vl.k,Vl.n,Vl.s,Vl.l,Vl.f] using fin2
 · have e0:(x==[])=false:=by simpa using hb0
   obtain ⟨g,rfl⟩:∃k,g=k+1:=⟨g-1,by have:=List.length_pos_iff.2 hb0;omega⟩
   rw[lH hb0] at ho
   have hfl:=y2 x last
   have hfo:=OL x last
   simp(maxSteps:=9^6)-dsimp only[go_sem,e0,Bool.not_false]
   refine aA rfl (.done ?_)
   simp(maxSteps:=9^6)-dsimp only[go_sem,J0,aIA]
   refine aDB (by omega) ?_
   generalize bC x last=z at *
   obtain ⟨⟨a,c⟩,r,e⟩:=z
   simp only at ho hfl hfo ⊢
   simp(maxSteps:=9^6)-dsimp only[go_sem]
   refine aA rfl (.done ?_)
   cases c1:e != 0 with
   |true=>
    rw[c1,cond_true,m1 acc c1] at ho
    rw[<-ho] at fin
    simp only[c1,cond_true] at fin
    simp(maxSteps:=9^6)-dsimp only[go_sem,AG,c1]
    exact fin v0 _ _ rfl
   |false=>
   rw[c1,cond_false] at ho
   have hlt:=hfl.2.2 (cU c1)
   obtain ⟨ha1,ha2,ha3⟩:last<a/\0<=a/\a<=2147483647:=by
    rcases hfo with h|⟨_,h1,h2,h3,_⟩
    · exact absurd (cU c1) h
    · exact ⟨h1,h2,h3⟩
   simp(maxSteps:=9^6)-dsimp only[go_sem,AG,c1]
   refine aA rfl (.done ?_)
   simp(maxSteps:=9^6)-dsimp only[go_sem,HH]
   refine aA rfl (.done ?_)
   simp(maxSteps:=9^6)-dsimp only[go_sem,J5,aGO]
   refine u4 (t:=u) huo hus ?_
   cases hf:fF u.fs a with
   |none=>
    rw[hf] at ho
    simp only[Option.isSome_none,Bool.not_false,cond_true] at ho
    simp(maxSteps:=9^6)-dsimp only[go_sem,Option.getD_none,Option.isSome_none,pK]
    refine aA rfl (.done ?_)
    simp(maxSteps:=9^6)-dsimp only[go_sem,y1,Bool.not_false]
    refine aE (g,a,r,acc) 4 ⟨by simp only;omega,by simp only;omega,fun y hy=>⟨by have:=(ha y hy).1;simp only;omega,(ha y hy).2⟩,ho⟩ (by simp only;omega) ?_ ?_
    · simp -dsimp only[go_sem]<;>simp
    · simp -dsimp only[go_sem]<;>simp[kA]
   |some f=>
    obtain ⟨hfm,hfe⟩:=vB hf
    have hfo:=(huo.fs f hfm).ty
    have hfv:=hnst.v f hfm
    have hfN:=hfd f hfm
    have hvo:=m6 hs hd N f.ty c hfo hfv (by omega)
    have hnew:∀y∈acc,y.1<a:=fun y hy=>by have:=(ha y hy).1;omega
    rw[hf] at ho
    simp only[Option.isSome_some,Bool.not_true,cond_false,Option.getD_some] at ho
    unfold pI at ho
    simp(maxSteps:=9^6)-dsimp only[go_sem,Option.getD_some,Option.isSome_some,aS]
    refine aA rfl (.done ?_)
    simp(maxSteps:=9^6)-dsimp only[go_sem,y1,Bool.not_true]
    refine aA rfl (.done ?_)
    simp(maxSteps:=9^6)-dsimp only[go_sem,CQ,aHW]
    refine RH hd hs hfo hfv hfN (by omega) ?_
    generalize aV s N f.ty c=w at *
    obtain ⟨v,e2⟩:=w
    simp only at ho hvo ⊢
    simp(maxSteps:=9^6)-dsimp only[go_sem]
    refine aA rfl (.done ?_)
    cases d1:e2 != 0 with
    |true=>
     have d0:(e2==0)=false:=by simpa using eL d1
     rw[d1,cond_true,d1,cond_true,m1 acc d1] at ho
     rw[<-ho] at fin
     simp only[d1,cond_true] at fin
     simp(maxSteps:=9^6)-dsimp only[go_sem,qM,j6,d0,Bool.false_and]
     refine aA rfl (.done ?_)
     simp(maxSteps:=9^6)-dsimp only[go_sem,kB,d1]
     exact fin v0 _ _ rfl
    |false=>
     have d0:=cU d1
     subst d0
     have e00:((0:Int)==0)=true:=rfl
     have e20:((2:Int) != 0)=true:=rfl
     rw[d1,cond_false] at ho
     have hpk:=aCK hnew v
     have hpv:=aDF hnew v
     rw[aJ v] at hpv
     have bad:(!f.opt&&(dA v (zF s 23 f.ty)&&(f.ty.k != 6||c==[])))=true->∀R:Hp,W.Fin 0 K (.tu [.gs (aP v0),iA .i64 2]) R:=fun h R=>by
      rw[h,cond_true,e20,cond_true,m1 acc e20] at ho
      rw[<-ho] at fin
      exact fin v0 2 R rfl
     have good:(!f.opt&&(dA v (zF s 23 f.ty)&&(f.ty.k != 6||c==[])))=false->mH (acc++[(a,v)]) (cQ (aV s N) s u.fs g a r)=cQ (aV s N) s u.fs b.length 0 b:=fun h=>by
      rw[h,cond_false,d1,cond_false,RN] at ho
      exact ho
     have hacc:∀y∈acc++[(a,v)],y.1<=a/\VlOk y.2:=fun y hy=>by
      rcases List.mem_append.1 hy with hy|hy
      · exact ⟨by have:=hnew y hy;omega,(ha y hy).2⟩
      · obtain rfl:=List.mem_singleton.1 hy;exact ⟨Int.le_refl _,hvo⟩
     clear ho fin fin2
     cases hopt:f.opt with
     |true=>
      rw[hopt] at good
      have good:=good rfl
      simp(maxSteps:=9^6)-dsimp only[go_sem,qM,j6,e00,hopt,Bool.not_true,Bool.true_and,Bool.false_and]
      refine aA rfl (.done ?_)
      simp(maxSteps:=9^6)-dsimp only[go_sem,kB,d1]
      refine aA rfl (.done ?_)
      simp(maxSteps:=9^6)-dsimp only[go_sem,p9,hpk,hpv]
      refine aE (g,a,r,acc++[(a,v)]) 4 ⟨by simp only;omega,by simp only;omega,hacc,good⟩ (by simp only;omega) ?_ ?_
      · simp -dsimp only[go_sem]<;>simp
      · simp -dsimp only[go_sem]<;>simp[kA]
     |false=>
      rw[hopt] at good bad
      simp only[Bool.not_false,Bool.true_and] at good bad
      have hzo:=oC hs 23 f.ty hfo
      obtain ⟨z,hz⟩:∃z,z=zF s 23 f.ty:=⟨_,rfl⟩
      rw[<-hz] at good bad hzo
      simp(maxSteps:=9^6)-dsimp only[go_sem,qM,e00,hopt,Bool.not_false,Bool.not_true,Bool.true_and,Bool.false_and,PH]
      refine aDK hs hfo hz ?_
      clear hz
      have k1:=cY hvo
      have k2:=gD v
      have kz1:=cY hzo
      have kz2:=gD z
      cases heq:dA v z with
      |false=>
       rw[heq] at good
       have good:=good rfl
       simp(maxSteps:=9^6)-dsimp only[go_sem,j6,A4,k1,k2,kz1,kz2,heq,Bool.true_and,Bool.false_and]
       refine aA rfl (.done ?_)
       simp(maxSteps:=9^6)-dsimp only[go_sem,kB,d1]
       refine aA rfl (.done ?_)
       simp(maxSteps:=9^6)-dsimp only[go_sem,p9,hpk,hpv]
       refine aE (g,a,r,acc++[(a,v)]) 4 ⟨by simp only;omega,by simp only;omega,hacc,good⟩ (by simp only;omega) ?_ ?_
       · simp -dsimp only[go_sem]<;>simp
       · simp -dsimp only[go_sem]<;>simp[kA]
      |true=>
       rw[heq] at good bad
       simp only[Bool.true_and] at good bad
       cases h6:f.ty.k != 6 with
       |true=>
        rw[h6] at bad
        have bad:=bad rfl
        simp(maxSteps:=9^6)-dsimp only[go_sem,j6,A4,k1,k2,kz1,kz2,heq,h6,Bool.true_and,Bool.true_or]
        refine aA rfl (.done ?_)
        simp(maxSteps:=9^6)-dsimp only[go_sem,kB,e20]
        exact bad _
       |false=>
        rw[h6] at good bad
        simp only[Bool.false_or] at good bad
        cases hc:c==[] with
        |true=>
         have bad:=bad hc
         simp(maxSteps:=9^6)-dsimp only[go_sem,j6,A4,k1,k2,kz1,kz2,heq,h6,hc,Bool.true_and,Bool.false_or]
         refine aA rfl (.done ?_)
         simp(maxSteps:=9^6)-dsimp only[go_sem,kB,e20]
         exact bad _
        |false=>
         have good:=good hc
         simp(maxSteps:=9^6)-dsimp only[go_sem,j6,A4,k1,k2,kz1,kz2,heq,h6,hc,Bool.true_and,Bool.false_or]
         refine aA rfl (.done ?_)
         simp(maxSteps:=9^6)-dsimp only[go_sem,kB,d1]
         refine aA rfl (.done ?_)
         simp(maxSteps:=9^6)-dsimp only[go_sem,p9,hpk,hpv]
         refine aE (g,a,r,acc++[(a,v)]) 4 ⟨by simp only;omega,by simp only;omega,hacc,good⟩ (by simp only;omega) ?_ ?_
         · simp -dsimp only[go_sem]<;>simp
         · simp -dsimp only[go_sem]<;>simp[kA]
theorem xJ:∀N,Meets Tryz.prog 55 (CV N)
 |0=>⟨by kernel_rfl,by rintro xs vs E ro w K _ _ _ ⟨s,t,_,_,_,_,_,_,_,h,_⟩;have:=eE s t;omega⟩
 |N+1=>by
  refine aF Tryz.func55 aVX 3 (by rw[Tryz.ntmps55];decide) (aC KF (aC FD (aC (KE (xJ N)) (aC lL (aC (sX (xJ N)) (aB _)))))) (fun av H K h=>by obtain ⟨_,_,_,rfl,_⟩:=h;rfl) ?_
  rintro av H K ⟨s,t,b,rfl,rfl,hd,hs,ht,hv,hf,hb,hK⟩
  have fin:∀(v:Vl) (e:Int) (R:Hp),aV s (N+1) t b=(v,e)->W.Fin 0 K (.tu [.gs [.vl (.int .i64 v.k),.vl (.int .i64 v.n),.vl (.string v.s),.fz (v.l.map aP),.fz (v.f.map bD)],iA .i64 e]) R:=fun v e R h=>by
   rw[h] at hK;exact .z ((by rw[aJ] at hK;simpa[go_sem] using hK))
  clear hK
  rw[j5] at fin
  simp(maxSteps:=9^6)-dsimp only[go_sem,aD,aR t,aJN,aEL]
  refine aA rfl (.done ?_)
  cases c1:t.k==1 with
  |true=>
   rw[c1,cond_true] at fin
   simp(maxSteps:=9^6)-dsimp only[go_sem,mB,c1]
   refine aKN (by omega) ?_
   generalize l7 b=w at *
   obtain ⟨v,e⟩:=w
   simp(maxSteps:=9^6)-dsimp only[go_sem,aJ v]
   exact fin _ _ _ rfl
  |false=>
  rw[c1,cond_false] at fin
  cases c2:t.k==2||(t.k==3||t.k==7) with
  |true=>
   rw[c2,cond_true] at fin
   have go:∀b2 b3 b7:Bool,(t.k==2)=b2->(t.k==3)=b3->(t.k==7)=b7->(b2||(b3||b7))=true:=fun b2 b3 b7 h1 h3 h7=>by rw[<-h1,<-h3,<-h7];exact c2
   cases q2:t.k==2<;>cases q3:t.k==3<;>cases q7:t.k==7<;>first
    |exact absurd (go _ _ _ q2 q3 q7) (by decide)
    | (simp(maxSteps:=9^6)-dsimp only[go_sem,mB,c1,q2,q3,q7]
       refine aFK hd hs ht hv c2 (by omega) ?_
       generalize kZ s t b=w at *
       obtain ⟨v,e⟩:=w
       simp(maxSteps:=9^6)-dsimp only[go_sem,aJ v]
       exact fin _ _ _ rfl)
  |false=>
  have c2':=c2
  rw[Bool.or_eq_false_iff,Bool.or_eq_false_iff] at c2'
  rw[c2,cond_false] at fin
  cases c4:t.k==4 with
  |true=>
   rw[c4,cond_true] at fin
   unfold wU at fin
   cases d:decide (t.s<(b.length:Int)) with
   |true=>
    rw[d,cond_true] at fin
    simp(maxSteps:=9^6)-dsimp only[go_sem,mB,c1,c2'.1,c2'.2.1,c2'.2.2,c4,d]
    exact fin v0 _ _ rfl
   |false=>
    rw[d,cond_false] at fin
    simp(maxSteps:=9^6)-dsimp only[go_sem,mB,c1,c2'.1,c2'.2.1,c2'.2.2,c4,d]
    exact fin (.mk 4 0 (mk b) [] []) _ _ rfl
  |false=>
  rw[c4,cond_false] at fin
  cases c5:t.k==5 with
  |true=>
   rw[c5,cond_true] at fin
   simp(maxSteps:=9^6)-dsimp only[go_sem,mB,c1,c2'.1,c2'.2.1,c2'.2.2,c4,c5]
   refine aKU hd hs ht hv c5 hf hb ?_
   generalize eW (aV s N (t.e.headD default)) t.s b=w at *
   obtain ⟨v,e⟩:=w
   simp(maxSteps:=9^6)-dsimp only[go_sem,aJ v]
   exact fin _ _ _ rfl
  |false=>
   rw[c5,cond_false] at fin
   have c6:=u2 hv c1 c2 c4 c5
   have hst:=fX hd hv c6
   have hfd:=jS (s:=s) c6
   have hp:DsP N s (stOf s t):=⟨hd,hs,⟨t,rfl⟩,fun f hf=>by have:=hst.2.2 f hf;omega⟩
   simp(maxSteps:=9^6)-dsimp only[go_sem,mB,c1,c2'.1,c2'.2.1,c2'.2.2,c4,c5]
   refine aA rfl (.done ?_)
   simp(maxSteps:=9^6)-dsimp only[go_sem,CR]
   refine fU hs ?_
   rw[show (fS s.ss t.n).getD default=stOf s t from rfl]
   generalize stOf s t=u at *
   simp(maxSteps:=9^6)-dsimp only[go_sem,aH]
   refine aA rfl (.done ?_)
   simp(maxSteps:=9^6)-dsimp only[go_sem,DQ]
   refine KR hp hb ?_
   generalize fZ (aV s N) s u.fs b=w at *
   obtain ⟨v,e⟩:=w
   simp(maxSteps:=9^6)-dsimp only[go_sem,aJ v]
   exact fin _ _ _ rfl
def IK:W.Spec:=fun av H K=>∃(s:Sc) (nm:ByteArray) (b:List UInt8),av=[.va (.gs (aD s)),tS nm,tS (mk b)]/\H=[]/\s.fit/\b.length<=9223372036854775807/\K (.tu [.gs (aP (dJ s nm b).1),iA .i64 (dJ s nm b).2]) []
theorem P6 {s:Sc} {nm:ByteArray} {b:List UInt8} {K:S->Hp->Prop} (h1:s.fit) (h2:b.length<=9223372036854775807)
 (hK:K (.tu [.gs [.vl (.int .i64 (dJ s nm b).1.k),.vl (.int .i64 (dJ s nm b).1.n),.vl (.string (dJ s nm b).1.s),.fz ((dJ s nm b).1.l.map aP),.fz ((dJ s nm b).1.f.map bD)],iA .i64 (dJ s nm b).2]) []) :
 IK [.va (.gs [.vl (.int .i64 s.ver),.fz (s.es.map aZ),.fz (s.ss.map aH)]),tS nm,tS (mk b)] [] K:=⟨s,nm,b,rfl,rfl,h1,h2,by rw[aJ];exact hK⟩
theorem MM:Meets Tryz.prog 12 IK:=by
 refine aF Tryz.func12 aV9 3 (by rw[Tryz.ntmps12];decide) (aC MD (aC (sX (xJ 8)) (aB _))) (fun av H K h=>by obtain ⟨_,_,_,rfl,_⟩:=h;rfl) ?_
 rintro av H K ⟨s,nm,b,rfl,rfl,hs,hb,hK⟩
 have fin:∀(v:Vl) (e:Int) (R:Hp),dJ s nm b=(v,e)->W.Fin 0 K (.tu [.gs [.vl (.int .i64 v.k),.vl (.int .i64 v.n),.vl (.string v.s),.fz (v.l.map aP),.fz (v.f.map bD)],iA .i64 e]) R:=fun v e R h=>by
  rw[h] at hK;exact .z ((by rw[aJ] at hK;simpa[go_sem] using hK))
 clear hK
 unfold dJ at fin
 simp(maxSteps:=9^6)-dsimp only[go_sem,aD,aJM,aG0]
 refine RG hs ?_
 have hch:qI s nm=bif bI s != 0 then (default,bI s) else bif !(cD s.ss nm) then (default,6) else (stOf s (b9 nm),0):=rfl
 cases c1:bI s != 0 with
 |true=>
  rw[c1,cond_true] at fin hch
  rw[hch]
  simp(maxSteps:=9^6)-dsimp only[go_sem,sF]
  refine aA rfl (.done ?_)
  simp(maxSteps:=9^6)-dsimp only[go_sem,qF,c1]
  exact fin v0 _ _ rfl
 |false=>
 have hd:=zB hs (cU c1)
 rw[c1,cond_false] at fin hch
 cases c2:cD s.ss nm with
 |false=>
  rw[c2,Bool.not_false,cond_true] at fin hch
  rw[hch]
  simp(maxSteps:=9^6)-dsimp only[go_sem,sF]
  refine aA rfl (.done ?_)
  have g:((6:Int) != 0)=true:=rfl
  simp(maxSteps:=9^6)-dsimp only[go_sem,qF,g]
  exact fin v0 _ _ rfl
 |true=>
 rw[c2,Bool.not_true,cond_false] at fin hch
 rw[hch]
 obtain ⟨hfd,hv⟩:=AH hd c2
 have hst:=fX hd hv rfl
 have hp:DsP 8 s (stOf s (b9 nm)):=⟨hd,hs,⟨b9 nm,rfl⟩,fun f hf=>by have:=hst.2.2 f hf;have:=hst.2.1;omega⟩
 cases c3:decide (2000<(b.length:Int)) with
 |true=>
  rw[c3,cond_true] at fin
  generalize stOf s (b9 nm)=w at *
  simp(maxSteps:=9^6)-dsimp only[go_sem,aH]
  refine aA rfl (.done ?_)
  simp(maxSteps:=9^6)-dsimp only[go_sem,qF,bne_self_eq_false,c3]
  exact fin v0 _ _ rfl
 |false=>
  rw[c3,cond_false] at fin
  have hb2:=of_decide_eq_false c3
  generalize stOf s (b9 nm)=w at *
  simp(maxSteps:=9^6)-dsimp only[go_sem,aH]
  refine aA rfl (.done ?_)
  simp(maxSteps:=9^6)-dsimp only[go_sem,qF,bne_self_eq_false,c3]
  refine aA rfl (.done ?_)
  simp(maxSteps:=9^6)-dsimp only[go_sem,HR]
  refine KR hp (by omega) ?_
  generalize fZ (aV s 8) s w.fs b=z at *
  obtain ⟨v,e⟩:=z
  simp(maxSteps:=9^6)-dsimp only[go_sem,aJ v]
  exact fin _ _ _ rfl
end Go.Proofs.YthpbnmebjocbeaaGreat
