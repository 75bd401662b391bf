/- Lemmas and walks for the proof. -/
import Derived.Test.YtblfcdllimkbhaaGreatCd
import Derived.Test.YtblfcdllimkbhaaGreatProg
set_option maxRecDepth 100000
set_option maxHeartbeats 8000000
open Nat renaming zero_le→aP,le_refl→bE,le_trans→dM,add_sub_cancel→UH,pow_le_pow_right→DE,mul_le_mul_right→gD
open List renaming drop_eq_getElem_cons→cG,drop_length→dT,headD_cons→y9,getElem?_cons_zero→oS,mem_of_find?_eq_some→fJ,all_cons→DD,all_nil→JV,length_map→cE,getElem_mem→eM,take_succ_cons→eG,take_zero→eH,length_cons→bP,mem_filter→JR,any_eq_true→iY,drop_eq_nil_iff→iD,length_nil→dZ,foldl_cons→sI,mem_iff_getElem?→eN,mem_cons→bU,eq_nil_of_length_eq_zero→iB,pairwise_cons→gU,find?_cons→nQ,mem_cons_self→eI,mem_cons_of_mem→eD,flatMap_cons→iZ,length_append→bW,find?_some→qM,append_assoc→gV,mem_append→cL,mem_singleton→dS,mem_flatMap→s3,find?_eq_none→DB,flatMap_def→aD2,map_congr_left→vU,nil_append→jT,foldl_append→zI,append_nil→fI,length_eq_one_iff→lZ,append_eq_nil_iff→zD,flatMap_eq_nil_iff→UJ,map_eq_nil_iff→aC6,flatMap_nil→vX
open Option renaming getD_none→oT,isSome_none→nS,isSome_some→lG,isSome_iff_exists→oW,bind_none→aD3,bind_some→nR
open Bool renaming false_and→bL,true_and→bF,true_or→cR,false_or→bK,or_eq_false_iff→cY,not_eq_false'→nP,not_true→bN,eq_iff_iff→fH,or_true→oU,or_false→oV,not_false→bV,and_false→dF,and_eq_true→bI,or_eq_true→fB
open Int renaming pow_succ→aD0,le_refl→iC,lt_trans→aD1,toNat_of_nonneg→s0
namespace Go.Proofs.YtblfcdllimkbhaaGreat
open Go.W
theorem U6 {a b:Int×Vl} (h:bG a=bG b):a=b:=by
 obtain ⟨i,x⟩:=a
 obtain ⟨j,y⟩:=b
 obtain ⟨h1,h2⟩:=List.cons.inj h
 have e:i=j:=by simpa using h1
 have e2:x=y:=D2 h2
 rw[e,e2]
instance:Inhabited (Int×Vl):=⟨(0,default)⟩
noncomputable def C.ve:=xP bG
@[go_sem] theorem bD2 (v:Int×Vl):C.ve (bG v)=v:=mZ U6 v
@[go_sem] theorem aU0 (l:List (Int×Vl)):(l.map bG).map C.ve=l:=rM U6 l
def PV (r:List C):Prop:=∃u:St,r=aD u/\u.ok/\∀f∈u.fs,TySm f.ty
def aRO (rs:List (List C)):Prop:=∃l:List (Int×Vl),rs=l.map bG/\l.length*88<=140737488355328/\∀x∈l,cB x.1/\VlOk x.2
theorem aNU {v:Vl} (h:VlOk v):aRO (v.f.map bG):=⟨v.f,rfl,h.lf,fun x hx=>⟨h.fn x hx,h.f x hx⟩⟩
theorem R5 {s:Sc} (hs:s.fit) (n:ByteArray):PV (aD ((fS s.ss n).getD default)):=by
 refine ⟨_,rfl,?_⟩
 cases hf:fS s.ss n with
 |none=>exact ⟨St.ok_default,fun f hf=>(List.not_mem_nil hf).elim⟩
 |some w=>exact ⟨hs.ok.ss w (fQ hf).1,(hs.sm w (fQ hf).1).2⟩
def H0:List S->Prop:=fun av=>match av with
 |[.va (.gs r),.va (.c1 (.fz rs))]=>PV r/\aRO rs
 |_=>False
theorem xI {av:List S} (h:H0 av):∃(u:St) (l:List (Int×Vl)),av=[.va (.gs (aD u)),.va (.c1 (.fz (l.map bG)))]/\u.ok/\(∀f∈u.fs,TySm f.ty)/\l.length*88<=140737488355328/\∀x∈l,cB x.1/\VlOk x.2:=by
 unfold H0 at h
 split at h
 · obtain ⟨⟨u,rfl,h1,h2⟩,⟨l,rfl,h3,h4⟩⟩:=h;exact ⟨u,l,rfl,h1,h2,h3,h4⟩
 · exact h.elim
noncomputable def aCP:List S->A:=fun av=>match av with
 |[.va (.gs r),.va (.c1 (.fz rs))]=>bA (eY (C.st r).fs (rs.map C.ve))
 |_=>.gs []
noncomputable def ftFn1:Fun:=⟨H0,aCP,fun av h=>by obtain ⟨_,_,rfl,_⟩:=xI h;trivial⟩
theorem ZV:∀av H K,ftFn1.sp av H K->av.length=2:=fun av H K h=>by obtain ⟨_,_,rfl,_⟩:=xI h.1.1;rfl
attribute [go_sem] ftFn1 H0 aCP
def FO (l:List (Int×Vl)):Nat->Option Int
 |0=>none
 |j+1=>(l[j]?).map (·.1)
theorem aBX {l:List (Int×Vl)} {n:Int} {x:Int×Vl} (h:l[n.toNat]? = some x) (p:List C->Prop):(∀r,(l.map bG)[n.toNat]? = some r->p r)=p [.vl (.int .i64 x.1),.vl (.int .i64 x.2.k),.vl (.int .i64 x.2.n),.vl (.string x.2.s),.fz (x.2.l.map aW),.fz (x.2.f.map bG)]:=by
 rw[<-l9];exact xZ (row:=bG) h p
theorem aTT:Meets Tryz.prog 139 ftFn1.sp:=by
 refine aF Tryz.func139 a0O 2 (by rw[Tryz.ntmps139];decide) (aE sL (aE ZI (aB _))) ZV ?_
 rintro av H K ⟨⟨h,rfl⟩,hK⟩
 obtain ⟨u,l,rfl,hu,hus,hl,hlo⟩:=xI h
 replace hK:K (bS (eY u.fs l)) []:=by
  have:ftFn1.val [.va (.gs (aD u)),.va (.c1 (.fz (l.map bG)))]=bA (eY u.fs l):=by simp -dsimp only[go_sem]
  rw[this] at hK;exact hK
 clear h
 have fin:∀(b:Bool) (R:Hp),eY u.fs l=b->W.Fin 0 K (bS b) R:=fun b R h=>by
  rw[h] at hK;exact .z ((by simpa[go_sem] using hK))
 clear hK
 have hfl:=hu.len
 generalize hR:u.fs.all (fun f=>f.opt||qX l f.num)=R2
 have hF:eY u.fs l=(ftA u.fs none l&&R2):=by rw[<-hR];rfl
 rw[hF] at fin
 generalize hR0:(ftA u.fs none l&&R2)=R0 at fin
 clear hF
 simp(maxSteps:=9^6)-dsimp only[go_sem,aD,aMQ,aJH]
 refine aO (α:=Nat) (fun i=>[(1,.va (.c1 (.fz (l.map bG)))),(2,.va (.c1 (.pt 0 0))),(11,.va (.c1 (.fz (l.map bG)))),(12,iS .i64 l.length),(13,iS .i64 i)]) (fun _=>[.cells (aD u) 50])
  (fun i=>i<=l.length/\(ftA u.fs (FO l i) (l.drop i)&&R2)=R0) (fun i=>l.length-i) 0 1 ⟨aP _,hR0⟩ ?_ ?_ ?_
 · simp -dsimp only[go_sem]<;>simp
 · simp -dsimp only[go_sem,aD]<;>simp
 rintro i ⟨hi,ho⟩
 rcases bB i l.length with hlt|hge
 · have hg:decide ((i:Int)<(l.length:Int))=true:=by simp;omega
   obtain ⟨x,hx⟩:∃t,l[i]? = some t:=⟨_,aX hlt⟩
   have q1:=kZ hx
   have hdr:l.drop i=x::l.drop (i+1):=by
    obtain ⟨h,rfl⟩:=bT.1 hx
    exact cG h
   have hpv:FO l (i+1)=some x.1:=by rw[FO,hx];rfl
   rw[hdr,zY,<-hpv] at ho
   simp(maxSteps:=9^6)-dsimp only[go_sem,hg,↓q1,aD]
   refine ⟨by omega,aH rfl (.done ?_)⟩
   simp(maxSteps:=9^6)-dsimp only[go_sem,KD]
   refine nA (t:=u) hu hus ?_
   cases hf:fF u.fs x.1 with
   |none=>
    rw[hf] at ho
    simp(maxSteps:=9^6)-dsimp only[go_sem,lH,oT,nS]
    refine aH rfl (.done ?_)
    simp(maxSteps:=9^6)-dsimp only[go_sem,uK,bL]
    exact fin _ _ ho.symm
   |some g=>
    rw[hf,lG,bF] at ho
    simp(maxSteps:=9^6)-dsimp only[go_sem,aN,Option.getD_some,lG]
    refine aH rfl (.done ?_)
    cases hz:decide ((0:Int)<(i:Int)) with
    |false=>
     obtain rfl:i=0:=by have:=gL hz;omega
     simp(maxSteps:=9^6)-dsimp only[go_sem,uK,hz]
     refine ⟨by omega,aC (0+1) 1 ⟨by omega,ho⟩ (by omega) ?_ ?_⟩
     · simp -dsimp only[go_sem]<;>simp
     · simp -dsimp only[go_sem,aD]<;>simp[aD]
    |true=>
     have hz':=iO hz
     obtain ⟨y,hy⟩:∃t,l[i-1]? = some t:=⟨_,aX (by omega)⟩
     have hti:((i:Int)-1).toNat=i-1:=by omega
     have q2:=fun p=>aBX (n:=(i:Int)-1) (x:=y) (by rw[hti];exact hy) p
     have hpi:FO l i=some y.1:=by
      match i,hz',hy with
      |j+1,_,hy=>rw[FO];rw[show j+1-1=j by omega] at hy;rw[hy];rfl
     rw[hpi,ltO] at ho
     have f1:(0<=(i:Int)-1)=True:=eq_true (by omega)
     have f2:((i:Int)-1<(l.length:Int))=True:=eq_true (by omega)
     cases hc:decide (x.1<=y.1) with
     |true=>
      have:decide (y.1<x.1)=false:=by have:=iO hc;simp;omega
      rw[this] at ho
      simp(maxSteps:=9^6)-dsimp only[go_sem,uK,hz,↓q2,hc,f1,f2]
      exact ⟨by omega,fin _ _ ho.symm⟩
     |false=>
      have:decide (y.1<x.1)=true:=by have:=gL hc;simp;omega
      rw[this,bF] at ho
      simp(maxSteps:=9^6)-dsimp only[go_sem,uK,hz,↓q2,hc,f1,f2]
      refine ⟨by omega,by omega,aC (i+1) 1 ⟨by omega,ho⟩ (by omega) ?_ ?_⟩
      · simp -dsimp only[go_sem]<;>simp
      · simp -dsimp only[go_sem,aD]<;>simp[aD]
 · have hg:decide ((i:Int)<(l.length:Int))=false:=by simp;omega
   obtain rfl:i=l.length:=by omega
   rw[dT,VD,bF] at ho
   simp(maxSteps:=9^6)-dsimp only[go_sem,hg,aD]
   refine aH rfl (.done ?_)
   simp(maxSteps:=9^6)-dsimp only[go_sem,LP]
   clear hi hge hg hR0
   rw[<-hR] at ho
   clear hR
   refine aO (α:=Nat) (fun i=>[(1,.va (.c1 (.fz (l.map bG)))),(2,.va (.c1 (.pt 0 0))),(44,.va (.c1 (.fz (u.fs.map aN)))),(45,iS .i64 u.fs.length),(46,iS .i64 i)]) (fun _=>[.cells (aD u) 50])
    (fun i=>i<=u.fs.length/\(u.fs.drop i).all (fun f=>f.opt||qX l f.num)=R0) (fun i=>u.fs.length-i) 0 1 ⟨aP _,ho⟩ ?_ ?_ ?_
   · simp -dsimp only[go_sem]<;>simp
   · simp -dsimp only[go_sem,aD]<;>simp
   clear ho
   rintro i ⟨hi,ho⟩
   rcases bB i u.fs.length with hlt|hge
   · have hg:decide ((i:Int)<(u.fs.length:Int))=true:=by simp;omega
     obtain ⟨f,hx⟩:∃t,u.fs[i]? = some t:=⟨_,aX hlt⟩
     have q1:=aS (row:=aN) hx
     rw[u7 hx] at ho
     simp(maxSteps:=9^6)-dsimp only[go_sem,hg,↓q1,aD,aN]
     refine ⟨by omega,aH rfl (.done ?_)⟩
     cases hop:f.opt with
     |true=>
      rw[hop,cR,bF] at ho
      simp(maxSteps:=9^6)-dsimp only[go_sem,z7]
      refine ⟨by omega,aC (i+1) 1 ⟨by omega,ho⟩ (by omega) ?_ ?_⟩
      · simp -dsimp only[go_sem]<;>simp
      · simp -dsimp only[go_sem,aD]<;>simp[aD]
     |false=>
      rw[hop,bK] at ho
      have cu:=fun K h=>aVE (l:=l) (f:=f) (K:=K) (by omega) h
      rw[aN,hop] at cu
      simp(maxSteps:=9^6)-dsimp only[go_sem,z7]
      refine cu _ ?_
      cases hc:qX l f.num with
      |false=>
       rw[hc,bL] at ho
       simp(maxSteps:=9^6)-dsimp only[go_sem]
       exact fin _ _ ho.symm
      |true=>
       rw[hc,bF] at ho
       simp(maxSteps:=9^6)-dsimp only[go_sem]
       refine ⟨by omega,aC (i+1) 1 ⟨by omega,ho⟩ (by omega) ?_ ?_⟩
       · simp -dsimp only[go_sem]<;>simp
       · simp -dsimp only[go_sem,aD]<;>simp[aD]
   · have hg:decide ((i:Int)<(u.fs.length:Int))=false:=by simp;omega
     obtain rfl:i=u.fs.length:=by omega
     rw[xO] at ho
     simp(maxSteps:=9^6)-dsimp only[go_sem,hg,aD]
     exact fin _ _ ho.symm
abbrev ckI (s:Sc) (t:Ty) (v:Vl):Value:=.int .i64 (gB s t v)
abbrev FS (N:Nat):Sc->Ty->Vl->Prop:=fun _ _ v=>v.h<=N
def XH (s:Sc) (t:Ty) (v:Vl):Int:=bif v.n != 0||!(bl v.s==[])||decide (0<(v.f.length:Int)) then 13 else bif decide (t.s<(v.l.length:Int)) then 3 else qU s (t.e.headD default) v.l
def X5 (s:Sc) (t:Ty) (v:Vl):Int:=bif v.n != 0||!(bl v.s==[])||decide (0<(v.l.length:Int))||!(eY ((fS s.ss t.n).getD default).fs v.f) then 13 else qT s ((fS s.ss t.n).getD default).fs v.f
theorem iL {t:Ty} (h:TyOk t):dG [.vl (.int .i64 t.k),.vl (.int .i64 t.s),.vl (.string t.n),.fz (t.e.map aK)]:=by rw[<-aY];exact bM h
theorem n7 (t:Ty):C.ty [.vl (.int .i64 t.k),.vl (.int .i64 t.s),.vl (.string t.n),.fz (t.e.map aK)]=t:=by rw[<-aY,eF]
theorem fZ {s:Sc} (h:s.fit):kF [.vl (.int .i64 s.ver),.fz (s.es.map aV),.fz (s.ss.map aD)]:=cN h
theorem kL (s:Sc):C.sc [.vl (.int .i64 s.ver),.fz (s.es.map aV),.fz (s.ss.map aD)]=s:=cT s
theorem GU {ss:List St} {es:List En} {t:Ty} (h:valF ss es t=true) (k:(t.k==5)=true):∃u,t.e=[u]/\valF ss es u=true:=by
 cases t with
 |mk k0 s n e=>
  obtain rfl:k0=5:=by have k:(k0==5)=true:=k;simpa using k
  exact G3 h
theorem aVM (N:Nat) (hc:Meets Tryz.prog 48 (kK (FS N) ckI).sp):Meets Tryz.prog 89 (kK (fun s t v=>valF s.ss s.es t=true/\(t.k==5)=true/\v.h<=N+1) fun s t v=>.int .i64 (XH s t v)).sp:=by
 refine aF Tryz.func89 a6A 3 (by rw[Tryz.ntmps89];decide) (aG hc (aB _)) jM ?_
 intro av H K h
 obtain ⟨s,t,v,rfl,rfl,hs,ht,hv,⟨hp,hk,hh⟩,hK⟩:=gQ h
 clear h
 have fin:∀(z:Int) (R:Hp),XH s t v=z->W.Fin 0 K (iS .i64 z) R:=fun z R h=>by
  rw[h] at hK;exact .z ((by simpa[go_sem] using hK))
 clear hK
 unfold XH at fin
 obtain ⟨u,he,hu⟩:=GU hp hk
 have huo:TyOk u:=ht.e u (by rw[he];simp)
 have hll:=hv.ll
 rw[he] at fin
 simp only[y9] at fin
 cases h0:(v.n != 0||!(bl v.s==[])||decide (0<(v.f.length:Int))) with
 |true=>
  rw[h0] at fin
  cases h1:v.n != 0<;>cases h2:bl v.s==[]<;>cases h3:decide (0<(v.f.length:Int)) <;>
  first
   | (exfalso;rw[h1,h2,h3] at h0;exact absurd h0 (by decide))
   | (simp(maxSteps:=9^6)-dsimp only[go_sem,aA,aY t,aJ v,Y0,XM,h1,h2,h3]
      exact fin _ _ rfl)
 |false=>
 rw[h0] at fin
 obtain ⟨h1,h2,h3⟩:(v.n != 0)=false/\(bl v.s==[])=true/\decide (0<(v.f.length:Int))=false:=by
  simp only[cY,nP] at h0;exact ⟨h0.1.1,h0.1.2,h0.2⟩
 cases h4:decide (t.s<(v.l.length:Int)) with
 |true=>
  rw[h4] at fin
  simp(maxSteps:=9^6)-dsimp only[go_sem,aA,aY t,aJ v,Y0,XM,h1,h2,h3,h4]
  exact fin _ _ rfl
 |false=>
 rw[h4] at fin
 simp only[aI] at fin
 simp(maxSteps:=9^6)-dsimp only[go_sem,aA,aY t,aJ v,Y0,XM,h1,h2,h3,h4]
 refine aO (α:=Nat) (fun i=>[(3,.va (.c1 (.pt 0 0))),(4,.va (.c1 (.pt 1 0))),(5,.va (.c1 (.pt 2 0))),(33,.va (.c1 (.fz (v.l.map aW)))),(34,iS .i64 v.l.length),(35,iS .i64 i)]) (fun _=>[.cells (aA s) 98,.cells [.vl (.int .i64 t.k),.vl (.int .i64 t.s),.vl (.string t.n),.fz (t.e.map aK)] 45,.cells (bO v) 29])
  (fun i=>i<=v.l.length/\qU s u (v.l.drop i)=qU s u v.l) (fun i=>v.l.length-i) 0 3 ⟨aP _,rfl⟩ ?_ ?_ ?_
 · simp -dsimp only[go_sem]<;>simp
 · simp -dsimp only[go_sem,bO,aA]<;>simp
 rintro i ⟨hi,ho⟩
 rcases bB i v.l.length with hlt|hge
 · have hg:decide ((i:Int)<(v.l.length:Int))=true:=by simp;omega
   obtain ⟨x,hx⟩:∃t,v.l[i]? = some t:=⟨_,aX hlt⟩
   have q1:=sC hx
   have hxm:=cC hx
   have k1:=dE (hv.l x hxm)
   have k2:=fV x
   have k3:x.h<=N:=by have:=Vl.h_l hxm;omega
   have hdr:v.l.drop i=x::v.l.drop (i+1):=by
    obtain ⟨h,rfl⟩:=bT.1 hx
    exact cG h
   have k4:=iL huo
   have k5:=n7 u
   have k6:=fZ hs
   have k7:=kL s
   rw[hdr,qU] at ho
   rw[he]
   cases h5:gB s u x != 0 with
   |true=>
    rw[h5,aQ] at ho
    simp(maxSteps:=9^6)-dsimp only[go_sem,hg,↓q1,bO,aA,aY u,k1,k2,k3,k4,k5,k6,k7,h5,oS,aM,forall_eq']
    exact ⟨by omega,by omega,fin _ _ ho.symm⟩
   |false=>
    rw[h5,aI] at ho
    simp(maxSteps:=9^6)-dsimp only[go_sem,hg,↓q1,bO,aA,aY u,k1,k2,k3,k4,k5,k6,k7,h5,oS,aM,forall_eq']
    refine ⟨by omega,by omega,by omega,aC (i+1) 3 ⟨by omega,ho⟩ (by omega) ?_ ?_⟩
    · simp -dsimp only[go_sem]<;>simp
    · simp -dsimp only[go_sem,bO,aA]<;>simp[aY u]
 · have hg:decide ((i:Int)<(v.l.length:Int))=false:=by simp;omega
   obtain rfl:i=v.l.length:=by omega
   rw[dT,qU] at ho
   simp(maxSteps:=9^6)-dsimp only[go_sem,hg,bO,aA]
   exact fin _ _ ho.symm
theorem QY:TyOk default:=.mk (by unfold cB;decide) (by unfold cB;decide) (by decide) (by decide) (fun _ h=>by cases h)
theorem aWV {fs:List Fl} {u:St} (hu:u.ok) (e:fs=u.fs) (k:Int):TyOk ((fF fs k).getD default).ty:=by
 subst e
 cases hf:fF u.fs k with
 |none=>exact QY
 |some g=>exact (hu.fs g (fJ hf)).ty
theorem aBP (N:Nat) (hc:Meets Tryz.prog 48 (kK (FS N) ckI).sp):Meets Tryz.prog 90 (kK (fun _ _ v=>v.h<=N+1) fun s t v=>.int .i64 (X5 s t v)).sp:=by
 refine aF Tryz.func90 a8X 3 (by rw[Tryz.ntmps90];decide) (aG hc (aE jJ (aG aTT (aE sL (aB _))))) jM ?_
 intro av H K h
 obtain ⟨s,t,v,rfl,rfl,hs,ht,hv,hh,hK⟩:=gQ h
 clear h
 have fin:∀(z:Int) (R:Hp),X5 s t v=z->W.Fin 0 K (iS .i64 z) R:=fun z R h=>by
  rw[h] at hK;exact .z ((by simpa[go_sem] using hK))
 clear hK
 unfold X5 at fin
 have hlf:=hv.lf
 have kS:=R5 hs t.n
 have kE:=aNU hv
 simp(maxSteps:=9^6)-dsimp only[go_sem,aA,aY t,aJ v,aSU,aR3]
 refine dJ (s:=s) hs ?_
 generalize (fS s.ss t.n).getD default=u at *
 obtain ⟨huo,hus⟩:u.ok/\∀f∈u.fs,TySm f.ty:=by
  obtain ⟨w,hw,h1,h2⟩:=kS
  obtain rfl:=EG hw
  exact ⟨h1,h2⟩
 have kd:=HY u
 have kv:=aU0 v.f
 rw[aD] at kS kd
 simp(maxSteps:=9^6)-dsimp only[go_sem,aD]
 refine aH rfl (.done ?_)
 cases h0:(v.n != 0||!(bl v.s==[])||decide (0<(v.l.length:Int))||!(eY u.fs v.f)) with
 |true=>
  rw[h0] at fin
  cases h1:v.n != 0<;>cases h2:bl v.s==[]<;>cases h3:decide (0<(v.l.length:Int))<;>cases h4:eY u.fs v.f <;>
  first
   | (exfalso;rw[h1,h2,h3,h4] at h0;exact absurd h0 (by decide))
   | (simp(maxSteps:=9^6)-dsimp only[go_sem,HK,h1,h2,h3,h4,kS,kE,kd]
      exact fin _ _ rfl)
 |false=>
 rw[h0] at fin
 simp only[aI] at fin
 obtain ⟨h1,h2,h3,h4⟩:(v.n != 0)=false/\(bl v.s==[])=true/\decide (0<(v.l.length:Int))=false/\eY u.fs v.f=true:=by
  simp only[cY,nP] at h0;exact ⟨h0.1.1.1,h0.1.1.2,h0.1.2,h0.2⟩
 simp(maxSteps:=9^6)-dsimp only[go_sem,HK,h1,h2,h3,h4,kS,kE,kd]
 refine aO (α:=Nat) (fun i=>[(3,.va (.c1 (.pt 0 0))),(4,.va (.c1 (.pt 1 0))),(5,.va (.c1 (.pt 2 0))),(7,.va (.c1 (.pt 3 0))),(44,.va (.c1 (.fz (v.f.map bG)))),(45,iS .i64 v.f.length),(46,iS .i64 i)]) (fun _=>[.cells (aA s) 98,.cells [.vl (.int .i64 t.k),.vl (.int .i64 t.s),.vl (.string t.n),.fz (t.e.map aK)] 45,.cells (bO v) 29,.cells (aD u) 50])
  (fun i=>i<=v.f.length/\qT s u.fs (v.f.drop i)=qT s u.fs v.f) (fun i=>v.f.length-i) 0 4 ⟨aP _,rfl⟩ ?_ ?_ ?_
 · simp -dsimp only[go_sem]<;>simp
 · simp -dsimp only[go_sem,bO,aA,aD]<;>simp
 rintro i ⟨hi,ho⟩
 rcases bB i v.f.length with hlt|hge
 · have hg:decide ((i:Int)<(v.f.length:Int))=true:=by simp;omega
   obtain ⟨x,hx⟩:∃t,v.f[i]? = some t:=⟨_,aX hlt⟩
   have q1:=kZ hx
   have hxm:=cC hx
   have k1:=dE (hv.f x hxm)
   have k2:=fV x.2
   have k3:x.2.h<=N:=by have:=Vl.h_f hxm;omega
   have hdr:v.f.drop i=x::v.f.drop (i+1):=by
    obtain ⟨h,rfl⟩:=bT.1 hx
    exact cG h
   have k6:=fZ hs
   have k7:=kL s
   rw[hdr,QK] at ho
   have hgo:=aWV huo rfl x.1
   simp(maxSteps:=9^6)-dsimp only[go_sem,hg,↓q1,bO,aA,aD]
   refine ⟨by omega,aH rfl (.done ?_)⟩
   simp(maxSteps:=9^6)-dsimp only[go_sem,SD]
   refine nA (t:=u) huo hus ?_
   generalize (fF u.fs x.1).getD default=g at *
   have k4:=iL hgo
   have k5:=n7 g.ty
   simp(maxSteps:=9^6)-dsimp only[go_sem,aN]
   refine aH rfl (.done ?_)
   simp(maxSteps:=9^6)-dsimp only[go_sem,SI,k1,k2,k3,k4,k5,k6,k7]
   refine aH rfl (.done ?_)
   cases h5:gB s g.ty x.2 != 0 with
   |true=>
    rw[h5,aQ] at ho
    simp(maxSteps:=9^6)-dsimp only[go_sem,HT,h5]
    exact fin _ _ ho.symm
   |false=>
    rw[h5,aI] at ho
    simp(maxSteps:=9^6)-dsimp only[go_sem,HT,h5]
    refine ⟨by omega,aC (i+1) 4 ⟨by omega,ho⟩ (by omega) ?_ ?_⟩
    · simp -dsimp only[go_sem]<;>simp
    · simp -dsimp only[go_sem,bO,aA,aD]<;>simp[bO,aA,aD]
 · have hg:decide ((i:Int)<(v.f.length:Int))=false:=by simp;omega
   obtain rfl:i=v.f.length:=by omega
   rw[dT,qT] at ho
   simp(maxSteps:=9^6)-dsimp only[go_sem,hg,bO,aA,aD]
   exact fin _ _ ho.symm
theorem M1:∀N,Meets Tryz.prog 48 (kK (FS N) ckI).sp
 |0=>⟨by kernel_rfl,by rintro xs vs E ro w K _ _ _ h;obtain ⟨_,_,v,_,_,_,_,_,h,_⟩:=gQ h;have:=v.h_pos;have h:v.h<=0:=h;omega⟩
 |N+1=>by
  refine aF Tryz.func48 bAG 3 (by rw[Tryz.ntmps48];decide) (aG FU (aG aGJ (aG aXY (aG (aVM N (M1 N)) (aG (aBP N (M1 N)) (aB _)))))) jM ?_
  intro av H K h
  obtain ⟨s,t,v,rfl,rfl,hs,ht,hv,hh,hK⟩:=gQ h
  clear h
  have hh:v.h<=N+1:=hh
  have fin:∀(z:Int) (R:Hp),gB s t v=z->W.Fin 0 K (iS .i64 z) R:=fun z R h=>by
   have hK:K (iS .i64 (gB s t v)) []:=hK
   rw[h] at hK;exact .z ((by simpa[go_sem] using hK))
  clear hK
  rw[ZR] at fin
  have k1:=dE hv
  have k2:=fV v
  have k4:=iL ht
  have k5:=n7 t
  have k6:=fZ hs
  have k7:=kL s
  cases h1:valF s.ss s.es t with
  |false=>
   rw[h1] at fin
   simp(maxSteps:=9^6)-dsimp only[go_sem,aA,aY t,aJ v,F9,HC,k4,k5,k6,k7,h1]
   exact fin _ _ rfl
  |true=>
  cases h2:v.k != t.k with
  |true=>
   rw[h1,h2] at fin
   simp(maxSteps:=9^6)-dsimp only[go_sem,aA,aY t,aJ v,F9,HC,k4,k5,k6,k7,h1,h2]
   exact fin _ _ rfl
  |false=>
  rw[h1,h2] at fin
  simp only[bN,Bool.or_self,aI] at fin
  cases h4:t.k==4 with
  |true=>
   rw[h4,aQ] at fin
   simp(maxSteps:=9^6)-dsimp only[go_sem,aA,aY t,aJ v,F9,HC,k1,k2,k4,k5,k6,k7,h1,h2,h4,DD,JV]
   exact fin _ _ rfl
  |false=>
  rw[h4,aI] at fin
  cases h5:t.k==5 with
  |true=>
   rw[h5,aQ] at fin
   simp(maxSteps:=9^6)-dsimp only[go_sem,aA,aY t,aJ v,F9,HC,k1,k2,k4,k5,k6,k7,h1,h2,h4,h5,hh,DD,JV]
   exact fin _ _ rfl
  |false=>
  rw[h5,aI] at fin
  cases h6:t.k==6 with
  |true=>
   rw[h6,aQ] at fin
   simp(maxSteps:=9^6)-dsimp only[go_sem,aA,aY t,aJ v,F9,HC,k1,k2,k4,k5,k6,k7,h1,h2,h4,h5,h6,hh,DD,JV]
   exact fin _ _ rfl
  |false=>
  rw[h6,aI] at fin
  simp(maxSteps:=9^6)-dsimp only[go_sem,aA,aY t,aJ v,F9,HC,k1,k2,k4,k5,k6,k7,h1,h2,h4,h5,h6,DD,JV]
  exact fin _ _ rfl
def lN (s:Sc) (t:Ty) (v:Vl):Int:=bif decide (6<B5 7 v) then 9 else gB s t v
theorem aOH:Meets Tryz.prog 48 (kK (fun _ _ _=>True) ckI).sp:=dB 0 M1 fun av H K h=>by
 obtain ⟨s,t,v,rfl,rfl,hs,ht,hv,_,hK⟩:=gQ h
 refine ⟨v.h,⟨⟨cN hs,bM ht,D4 hv,?_⟩,rfl⟩,?_⟩
 · show (C.vv (aW v)).h<=v.h;rw[jL];exact bE _
 · simpa -dsimp only[go_sem] using hK
theorem VM:Meets Tryz.prog 17 (kK (fun _ _ _=>True) fun s t v=>.int .i64 (lN s t v)).sp:=by
 refine aF Tryz.func17 a8B 3 (by rw[Tryz.ntmps17];decide) (aG (WZ 8) (aG aOH (aB _))) jM ?_
 intro av H K h
 obtain ⟨s,t,v,rfl,rfl,hs,ht,hv,_,hK⟩:=gQ h
 clear h
 have fin:∀(z:Int) (R:Hp),lN s t v=z->W.Fin 0 K (iS .i64 z) R:=fun z R h=>by
  rw[h] at hK;exact .z ((by simpa[go_sem] using hK))
 clear hK
 unfold lN at fin
 have k1:=dE hv
 have k2:=fV v
 have k4:=iL ht
 have k5:=n7 t
 have k6:=fZ hs
 have k7:=kL s
 have e8:((6:Int)=((8:Nat):Int)-2)=True:=by decide
 have e9:mU 8 v=B5 7 v:=rfl
 cases h1:decide (6<B5 7 v) with
 |true=>
  rw[h1] at fin
  simp(maxSteps:=9^6)-dsimp only[go_sem,aA,aY t,aJ v,aFL,aEU,k1,k2,e8,e9,h1]
  exact fin _ _ rfl
 |false=>
  rw[h1] at fin
  simp(maxSteps:=9^6)-dsimp only[go_sem,aA,aY t,aJ v,aFL,aEU,k1,k2,k4,k5,k6,k7,e8,e9,h1]
  exact fin _ _ rfl
structure Told (l:List UInt8) (p:Nat) (k:Int) (x:List UInt8) (n:Int) (z:Nat):Prop where
 zero:k=0->p=l.length/\x=[]/\n=0
 one:k≠0->∃c,l[p]? = some c/\p<z/\z<=l.length/\0<k/\k<=4/\32<c.toNat/\c.toNat≠35/\(c==34)=(k==3)/\(k==1)=dY c.toNat
def Got:R->ByteArray->Int->Int->Int->Int->Prop
 |.ok _ x n z,x',n',z',e',t'=>x'=mk x/\n'=n/\z'=z/\e'=0/\t'=0
 |.bad e t,_,_,_,e',t'=>e'=e/\t'=t
theorem Got.bad {r:R} {e t:Int} (h:r=.bad e t) {x:ByteArray} {n z:Int}:Got r x n z e t:=by subst h;exact ⟨rfl,rfl⟩
theorem Got.ok {r:R} {k:Int} {x:List UInt8} {n:Int} {z:Nat} (h:r=.ok k x n z):Got r (mk x) n z 0 0:=by subst h;exact ⟨rfl,rfl,rfl,rfl,rfl⟩
def XZ:PC:=.seq (.gh (.reg [.n 19 3 1,.n 20 3 2,.u 21 14 [gT,jS,(.k (.string (mk [84,111,112])))],.v 22 21,.Y 23 22 (.v 3),.Y 24 22 (.m 23),.Y 25 22 (.h .eql 24 1),.p 26 22 25,.v 27 26,.Y 28 27 (.v 3),.Y 29 27 (.l (.ia 3 g7 gZ)),.Y 30 27 (.n 3 29),.Y 31 27 (.q (.bd [(.int .i64 0),(.int .i64 0),(.string (mk []))] [(0,1,lR),(1,1,qK),(2,1,(.k (.string (mk [84,111,112]))))])),.Y 32 27 (.q (.eqT false [(0,.int .i64),(1,.int .i64),(2,.str)] oO pV)),.p 33 27 32,.v 0 33])) .ret
@[go_sem ↓] theorem bB3:a7 XZ:=a8 _
def YV:PC:=.seq (.gh (.reg [.n 16 3 2,.n 17 3 1,.j 18 13 [lC,mH,(.k (.string (mk [84,111,112])))],.v 3 18])) XZ
@[go_sem ↓] theorem bB0:a7 YV:=a8 _
def pc6:PC:=.S [.F 0] (.S [.q 4 (.bd [(.int .i64 0),(.int .i64 0),(.string (mk [])),(.slice none 0 0)] [(0,1,qK),(1,1,(.i 8))]),.q 5 (.bd [(.int .i64 0),(.string (mk [])),(.int .i64 0),(.int .i64 0),(.string (mk [])),(.slice none 0 0),(.bool false)] [(0,1,qK),(1,1,(.k (.string (mk [120])))),(2,4,(.t 4))]),.e 6 (.bsl 47 7 [kM]),.q 7 (.bd [(.string (mk [])),(.slice none 0 0)] [(0,1,(.k (.string (mk [84,111,112])))),(1,1,jZ)]),.e 8 (.bslx 50 2 [iX]),.q 9 (.bd [(.int .i64 0),(.slice none 0 0),(.slice none 0 0)] [(0,1,lR),(2,1,rS)]),.A 1 aQZ 25,.w 3 1 9] (.S [.q 10 (.bd [(.int .i64 0),(.int .i64 0),(.string (mk [])),(.slice none 0 0)] [(0,1,qK),(1,1,(.i 16))]),.q 11 (.bd [(.int .i64 0),(.string (mk [])),(.int .i64 0),(.int .i64 0),(.string (mk [])),(.slice none 0 0),(.bool false)] [(0,1,qK),(1,1,(.k (.string (mk [120])))),(2,4,jK)]),.e 12 (.bsl 47 7 [kJ]),.q 13 (.bd [(.string (mk [])),(.slice none 0 0)] [(0,1,(.k (.string (mk [84,111,112])))),(1,1,kB)]),.e 14 (.bslx 50 2 [kW]),.q 15 (.bd [(.int .i64 0),(.slice none 0 0),(.slice none 0 0)] [(0,1,qK),(2,1,oL)]),.A 2 aQZ 25,.w 3 2 15] YV))
def rs6:List RV:=[.mv (.t 0)]
theorem ok6:aU Tryz.prog true ⟨fun r k=>if r=1/\k=4 then .q else if r=2/\k=4 then .q else if r=4/\k=2 then .q else .own [],fun r=>[3,4].contains r⟩ Tryz.f6=some (pc6,rs6):=by kernel_rfl
def aL1:PC:=.S [.F 4] (.seq (.S [.c 5 0] (.block 0 (.loop (.seq (.S [.v 6 5,.v 7 0,.m 8 7,.k 9 .lss 6 8] (.C 9 .skip (.exit 0))) (.seq (.block 1 (.S [.v 12 0,.v 13 5,.x 14 1 12 13,.r 15 14,.v 16 1,.k 17 .eql 15 16] (.I 17 (.R [.T 4])))) (.reg [.v 10 5,.h 11 .add 10 1,.v 5 11])))))) (.R [.F 4]))
def aJ6:List RV:=[.mv (.t 4)]
theorem aZU:aU Tryz.prog true ⟨fun _ _=>.own [],fun _=>false⟩ Tryz.f104=some (aL1,aJ6):=by kernel_rfl
def aI6:PC:=.S [.z 3 181 1,.q 4 (.mv gH)] (.S [.q 5 (.mv gH)] (.S [.F 6] (.seq (.S [.c 7 0] (.block 0 (.loop (.seq (.S [.v 10 7,.v 11 0,.m 12 11,.k 13 .lss 10 12] (.C 13 .skip (.exit 0))) (.seq (.block 1 (.seq (.S [.v 16 0,.v 17 7,.x 18 3 16 17,.n 19 3 18,.n 20 3 3,.q 21 (.eqT false [(0,.int .i64),(1,.int .i64),(2,.str)] gT jS)] (.I 21 (.reg [.T 6]))) (.S [.v 22 0,.v 23 7,.x 24 3 22 23,.n 25 3 24,.A 8 #[(.int .i64 0),(.int .i64 0),(.string (mk []))] 181,.w 3 8 25] (.S [.f 26 2 8,.r 27 26,.f 28 2 3,.r 29 28,.k 30 .gtr 27 29,.v 31 30,.N 32 31 (.f 2 8),.N 33 31 (.r 32),.N 34 31 (.f 2 3),.N 35 31 (.r 34),.N 36 31 (.k .eql 33 35),.N 37 31 (.v 36),.Y 38 37 (.f 0 8),.Y 39 37 (.r 38),.Y 40 37 (.f 0 3),.Y 41 37 (.r 40),.Y 42 37 (.k .gtr 39 41),.Y 43 37 (.v 42),.N 44 43 (.f 0 8),.N 45 43 (.r 44),.N 46 43 (.f 0 3),.N 47 43 (.r 46),.N 48 43 (.k .eql 45 47),.N 49 43 (.v 48),.Y 50 49 (.f 1 8),.Y 51 49 (.r 50),.Y 52 49 (.f 1 3),.Y 53 49 (.r 52),.Y 54 49 (.k .gtr 51 53),.N 55 43 (.p 49 54),.Y 56 37 (.o 43 55),.N 57 31 (.p 37 56),.o 58 31 57,.v 9 58] (.seq (.S [.v 59 6,.t 60 59,.v 61 60,.Y 62 61 (.v 9),.p 63 61 62] (.I 63 (.S [.v 64 5,.n 65 3 3,.e 66 (.bsl 181 3 [wG]),.e 67 (.ap 181 3 32 (.t 64) (.t 66)),.v 5 67] (.reg [.T 6])))) (.reg [.v 68 5,.n 69 3 8,.e 70 (.bsl 181 3 [v6]),.e 71 (.ap 181 3 32 (.t 68) (.t 70)),.v 5 71])))))) (.reg [.v 14 7,.h 15 .add 14 1,.v 7 15])))))) (.seq (.S [.v 72 6,.t 73 72] (.I 73 (.reg [.v 74 5,.n 75 3 3,.e 76 (.bsl 181 3 [AB]),.e 77 (.ap 181 3 32 (.t 74) (.t 76)),.v 5 77]))) (.R [.v 78 5,.v 4 78])))))
def aH0:List RV:=[.mv (.t 4)]
theorem aYZ:aU Tryz.prog true ⟨fun _ _=>.own [],fun _=>false⟩ Tryz.f144=some (aI6,aH0):=by kernel_rfl
def jH:PC:=.seq (.gh (.reg [.v 74 9,.v 75 74,.Y 76 75 (.v 11),.p 77 75 76,.v 78 77,.Y 79 78 (.f 6 8),.Y 80 78 (.r 79),.Y 81 78 (.f 6 10),.Y 82 78 (.r 81),.Y 83 78 (.q (.eqB true (.t 80) (.t 82))),.p 84 78 83])) (.I 84 (.reg [.v 85 0,.v 86 7,.f 87 0 4,.r 88 87,.q 89 (.bd [(.int .i64 0),(.int .i64 0),(.string (mk []))] [(0,1,(.i 3)),(1,1,(.t 86)),(2,1,(.t 88))]),.j 90 144 [(.t 85),(.t 89)],.v 0 90]))
@[go_sem ↓] theorem aZR:a7 jH:=a8 _
def m8:PC:=.seq (.seq (.gh (.reg [.v 46 9,.v 47 46,.Y 48 47 (.v 11),.Y 49 47 (.q (.not r8)),.p 50 47 49,.v 51 50,.Y 52 51 (.f 6 8),.Y 53 51 (.r 52),.Y 54 51 (.q (.not tV)),.p 55 51 54,.v 56 55,.N 57 56 (.v 11),.N 58 56 (.v 57),.Y 59 58 (.v 9),.Y 60 58 (.q (.not rR)),.N 61 56 (.p 58 60),.N 62 56 (.v 61),.Y 63 62 (.f 6 10),.Y 64 62 (.r 63),.Y 65 62 (.q (.not (.t 64))),.N 66 56 (.p 62 65),.o 67 56 66])) (.I 67 (.reg [.v 68 0,.v 69 7,.f 70 0 4,.r 71 70,.q 72 (.bd [(.int .i64 0),(.int .i64 0),(.string (mk []))] [(0,1,qK),(1,1,v6),(2,1,(.t 71))]),.j 73 144 [(.t 68),AP],.v 0 73]))) jH
@[go_sem ↓] theorem a48:a7 m8:=a8 _
def qZ:PC:=.seq (.seq (.gh (.reg [.v 28 9,.v 29 28,.Y 30 29 (.v 11),.p 31 29 30,.v 32 31,.Y 33 32 (.f 2 8),.Y 34 32 (.n 4 33),.Y 35 32 (.f 2 10),.Y 36 32 (.n 4 35),.Y 37 32 (.cq 172 [rZ,kX]),.Y 38 32 (.q (.not mI)),.p 39 32 38])) (.I 39 (.reg [.v 40 0,.v 41 7,.f 42 0 4,.r 43 42,.q 44 (.bd [(.int .i64 0),(.int .i64 0),(.string (mk []))] [(0,1,lR),(1,1,nB),(2,1,mM)]),.j 45 144 [nL,m7],.v 0 45]))) m8
@[go_sem ↓] theorem a4S:a7 qZ:=a8 _
def LK:PC:=.seq (.gh (.reg [.n 23 2 5,.v 24 7,.j 25 105 [jP,kQ],.v 22 25,.y 26 22 0,.y 27 22 1,.A 10 #[(.int .i64 0),(.string (mk [])),(.int .i64 0),(.int .i64 0),(.string (mk [])),(.slice none 0 0),(.bool false)] 47,.w 7 10 26,.v 11 27])) qZ
@[go_sem ↓] theorem a3W:a7 LK:=a8 _
def aJK:PC:=.S [.z 4 50 1,.z 5 50 2,.q 6 (.mv gH)] (.seq (.S [.c 7 1] (.block 0 (.loop (.seq (.S [.v 12 7,.h 13 .leq 12 127] (.C 13 .skip (.exit 0))) (.seq (.block 1 (.S [.n 17 2 4,.v 18 7,.j 19 105 [mH,iV],.v 16 19,.y 20 16 0,.y 21 16 1,.A 8 #[(.int .i64 0),(.string (mk [])),(.int .i64 0),(.int .i64 0),(.string (mk [])),(.slice none 0 0),(.bool false)] 47,.w 7 8 20,.v 9 21] LK)) (.reg [.v 14 7,.h 15 .add 14 1,.v 7 15])))))) (.R [.v 91 0,.v 6 91]))
def aJZ:List RV:=[.mv (.t 6)]
theorem a2B:aU Tryz.prog true ⟨fun r k=>if r=6/\k=9 then .q else .own [],fun r=>[5,6,8,10].contains r⟩ Tryz.f145=some (aJK,aJZ):=by kernel_rfl
def aMN:PC:=.S [.z 2 70 0,.F 4] (.seq (.S [.c 5 0] (.block 0 (.loop (.seq (.S [.v 6 5,.f 7 2 2,.r 8 7,.m 9 8,.k 10 .lss 6 9] (.C 10 .skip (.exit 0))) (.seq (.block 1 (.S [.f 13 2 2,.r 14 13,.v 15 5,.x 16 1 14 15,.r 17 16,.v 18 1,.k 19 .eql 17 18] (.I 19 (.R [.T 4])))) (.reg [.v 11 5,.h 12 .add 11 1,.v 5 12])))))) (.R [.F 4]))
def aI0:List RV:=[.mv (.t 4)]
theorem a02:aU Tryz.prog true ⟨fun _ _=>.own [],fun _=>false⟩ Tryz.f146=some (aMN,aI0):=by kernel_rfl
def ZH:PC:=.S [.z 2 45 0,.z 3 45 1,.F 4] (.seq (.S [.n 5 4 2,.n 6 4 3,.u 7 187 [kM,jZ]] (.I 7 (.R [.T 4]))) (.seq (.S [.f 8 0 2,.r 9 8,.f 10 0 3,.r 11 10,.k 12 .neq 9 11,.v 13 12,.N 14 13 (.f 2 2),.N 15 13 (.r 14),.N 16 13 (.f 2 3),.N 17 13 (.r 16),.N 18 13 (.k .neq 15 17),.o 19 13 18,.v 20 19,.N 21 20 (.f 3 2),.N 22 20 (.r 21),.N 23 20 (.m 22),.N 24 20 (.f 3 3),.N 25 20 (.r 24),.N 26 20 (.m 25),.N 27 20 (.k .neq 23 26),.o 28 20 27] (.I 28 (.R [.F 4]))) (.seq (.S [.f 29 0 2,.r 30 29] (.block 0 (.seq (.S [.h 32 .eql 30 2,.v 31 32] (.C 31 .skip (.reg [.h 33 .eql 30 3,.v 31 33]))) (.C 31 (.R [.f 34 1 3,.r 35 34,.f 36 1 2,.r 37 36,.k 38 .gtr 35 37,.v 39 38,.Y 40 39 (.f 3 2),.Y 41 39 (.r 40),.Y 42 39 (.f 3 3),.Y 43 39 (.r 42),.Y 44 39 (.cq 188 [nB,mM]),.p 45 39 44,.v 4 45]) (.S [.h 47 .eql 30 4,.v 46 47] (.C 46 (.R [.f 48 1 3,.r 49 48,.f 50 1 2,.r 51 50,.k 52 .geq 49 51,.v 53 52,.Y 54 53 (.f 3 2),.Y 55 53 (.r 54),.Y 56 53 (.f 3 3),.Y 57 53 (.r 56),.Y 58 53 (.cq 188 [tN,A9]),.p 59 53 58,.v 4 59]) (.S [.h 61 .eql 30 5,.v 60 61] (.I 60 (.R [.f 62 1 3,.r 63 62,.f 64 1 2,.r 65 64,.k 66 .geq 63 65,.v 67 66,.Y 68 67 (.f 3 2),.Y 69 67 (.r 68),.Y 70 67 (.m 69),.Y 71 67 (.h .eql 70 1),.p 72 67 71,.v 73 72,.Y 74 73 (.f 3 2),.Y 75 73 (.r 74),.Y 76 73 (.l (.ia 4 AB gZ)),.Y 77 73 (.n 4 76),.Y 78 73 (.f 3 3),.Y 79 73 (.r 78),.Y 80 73 (.l (.ia 4 (.t 79) gZ)),.Y 81 73 (.n 4 80),.Y 82 73 (.cq 172 [(.t 77),(.t 81)]),.p 83 73 82,.v 4 83]))))))))) (.R [.F 4]))))
def YE:List RV:=[.mv (.t 4)]
theorem a2K:aU Tryz.prog true ⟨fun r k=>if r=1/\k=2 then .q else if r=8/\k=10 then .q else if r=10/\k=10 then .q else if r=12/\k=20 then .q else .own [],fun _=>false⟩ Tryz.f172=some (ZH,YE):=by kernel_rfl
def aKX:PC:=.S [.F 4] (.seq (.S [.c 5 0] (.block 0 (.loop (.seq (.S [.v 6 5,.v 7 0,.m 8 7,.k 9 .lss 6 8] (.C 9 .skip (.exit 0))) (.seq (.block 1 (.S [.v 12 0,.v 13 5,.x 14 4 12 13,.n 15 4 14,.v 16 1,.v 17 5,.x 18 4 16 17,.n 19 4 18,.u 20 187 [jR,gT],.t 21 20] (.I 21 (.R [.F 4])))) (.reg [.v 10 5,.h 11 .add 10 1,.v 5 11])))))) (.R [.T 4]))
def aKH:List RV:=[.mv (.t 4)]
theorem a1N:aU Tryz.prog true ⟨fun r k=>if r=4/\k=8 then .q else .own [],fun _=>false⟩ Tryz.f188=some (aKX,aKH):=by kernel_rfl
structure Ends (ts:List Tk):Prop where
 pos:0<ts.length
 le:ts.length<=4001
 last:∀(i:Nat) (t:Tk),ts[i]? = some t->(t.k=0 ↔ i+1=ts.length)
def fW (ts:List Tk) (n:Nat):Nat:=if n+1<ts.length then n+1 else n
def GK (k:Int) (w:List UInt8) (t:Tk):Bool:=t.k==k&&t.x==w
def aFJ (n:Nat):List UInt8:=(if h:n<10 then [] else aFJ (n / 10))++[(48+n % 10).toUInt8]
 termination_by n
 decreasing_by omega
def a6T (n:Int):List UInt8:=bif decide (n<0) then 45::aFJ n.natAbs else aFJ n.natAbs
def a7R (c:UInt8):List UInt8:=bif c==34||c==92 then [92,c] else [c]
def a6E (l:List UInt8):List UInt8:=34::l.flatMap a7R++[34]
def prB (c:UInt8):Bool:=decide (32<=c)&&decide (c<=126)
def okK (k:Int) (x:List UInt8) (n:Int):Bool:=
 bif k==1 then n==0&&eP x else bif k==2 then x==[] else bif k==3 then n==0&&(decide (x.length<=200)&&x.all prB) else bif k==4 then n==0&&(match x with|[c]=>HM c.toNat|_=>false) else false
structure Tx where
 k:Int
 x:List UInt8
 n:Int
 a:Int
structure TkFit (t:Tx):Prop where
 lo:-9223372036854775808<=t.n
 hi:t.n<=9223372036854775807
 len:t.x.length<=100000
structure Fs where
 bad:Bool
 off:Int
 n:Nat
instance:Inhabited Tk:=⟨⟨0,[],0,0⟩⟩
def mD (ts:List Tk) (n:Nat):Tk:=ts.getD n default
structure Tks (ts:List Tk):Prop where
 e:Ends ts
 n:∀t∈ts,cB t.n
 x:∀t∈ts,t.x.length<=4000
 a:∀t∈ts,t.a<=4000
def oM (ts:List Tk) (z:Fs):Fs:=bif z.bad then z else ⟨true,(mD ts z.n).a,z.n⟩
def qE (w:List UInt8) (ts:List Tk) (z:Fs):Bool:=!z.bad&&GK 4 w (mD ts z.n)
def EU (w:List UInt8) (ts:List Tk) (z:Fs):Fs:=bif qE w ts z then ⟨false,z.off,fW ts z.n⟩ else z
def kA (w:List UInt8) (ts:List Tk) (z:Fs):Fs:=bif qE w ts z then ⟨false,z.off,fW ts z.n⟩ else oM ts z
def tU (k:Int) (ts:List Tk) (z:Fs):Bool:=!z.bad&&(mD ts z.n).k==k
def aH2 (k:Int) (ts:List Tk) (z:Fs):Tk:=bif tU k ts z then mD ts z.n else default
def aJ5 (k:Int) (ts:List Tk) (z:Fs):Fs:=bif tU k ts z then ⟨false,z.off,fW ts z.n⟩ else oM ts z
theorem RE {ts:List Tk} {n:Nat} (h:n<ts.length):ts[n]? = some (mD ts n):=by simp[mD,List.getD_eq_getElem?_getD,aX h]
def aJ2:List UInt8:=[116,114,117,101]
def Z9:List UInt8:=[102,97,108,115,101]
def a1L (ts:List Tk) (z:Fs):Vl×Fs:=
 bif !z.bad&&GK 1 aJ2 (mD ts z.n) then (.mk 1 1 (mk []) [] [],⟨false,z.off,fW ts z.n⟩)
 else bif !z.bad&&GK 1 Z9 (mD ts z.n) then (.mk 1 0 (mk []) [] [],⟨false,z.off,fW ts z.n⟩)
 else (.mk 1 0 (mk []) [] [],oM ts z)
def a8I (k:Int) (ts:List Tk) (z:Fs):Vl×Fs:=(.mk k (aH2 2 ts z).n (mk []) [] [],aJ5 2 ts z)
def aZC (ts:List Tk) (z:Fs):Vl×Fs:=(.mk 4 0 (mk (aH2 3 ts z).x) [] [],aJ5 3 ts z)
def aFT (e:En) (ts:List Tk) (z:Fs):Int:=bif !z.bad&&(mD ts z.n).k==1 then yL e.ns (mk (mD ts z.n).x) 0 else -1
def a0P (e:En) (ts:List Tk) (z:Fs):Vl×Fs:=
 bif decide (aFT e ts z<0)||decide ((e.vs.length:Int)<=aFT e ts z) then (.mk 7 0 (mk []) [] [],oM ts z)
 else (.mk 7 (e.vs.getD (aFT e ts z).toNat 0) (mk []) [] [],⟨false,z.off,fW ts z.n⟩)
abbrev U3:Type:=Sc->List Tk->Ty->Fs->Vl×Fs
def J9 {α:Type} (one:α->Fs->α×Fs) (ts:List Tk):Nat->α->Fs->α×Fs
 |0,a,z=>(a,z)
 |f+1,a,z=>bif z.bad then (a,z) else bif qE [44] ts (one a z).2 then J9 one ts f (one a z).1 (EU [44] ts (one a z).2) else one a z
theorem aBF {α:Type} (one:α->Fs->α×Fs) (ts:List Tk) (f:Nat) (a:α) (z:Fs):J9 one ts (f+1) a z=bif z.bad then (a,z) else bif qE [44] ts (one a z).2 then J9 one ts f (one a z).1 (EU [44] ts (one a z).2) else one a z:=rfl
def X2 {α:Type} (one:α->Fs->α×Fs) (op sh:List UInt8) (ts:List Tk) (a:α) (z:Fs):α×Fs:=
 bif qE sh ts (kA op ts z) then (a,EU sh ts (kA op ts z))
 else ((J9 one ts (ts.length+1) a (kA op ts z)).1,kA sh ts (J9 one ts (ts.length+1) a (kA op ts z)).2)
theorem aV6 {ts:List Tk} {n:Nat} (h:n<ts.length):n<=fW ts n/\fW ts n<ts.length:=by
 unfold fW;split<;>omega
theorem aPK (ts:List Tk) (z:Fs):(oM ts z).n=z.n:=by unfold oM;cases z.bad<;>rfl
theorem U5 {w:List UInt8} {ts:List Tk} {z:Fs} (h:z.n<ts.length):z.n<=(kA w ts z).n/\(kA w ts z).n<ts.length:=by
 unfold kA
 cases qE w ts z
 · rw[aI,aPK];exact ⟨bE _,h⟩
 · exact aV6 h
def Onw {α:Type} (one:α->Fs->α×Fs) (ts:List Tk):Prop:=∀a z,z.n<ts.length->z.n<=(one a z).2.n/\(one a z).2.n<ts.length
def aUN (P:U3) (s:Sc) (ts:List Tk) (u:Ty):List Vl->Fs->List Vl×Fs:=fun l z=>(l++[(P s ts u z).1],(P s ts u z).2)
def a1O (P:U3) (s:Sc) (ts:List Tk) (u:Ty) (z:Fs):Vl×Fs:=(.mk 5 0 (mk []) (X2 (aUN P s ts u) [91] [93] ts [] z).1 [],(X2 (aUN P s ts u) [91] [93] ts [] z).2)
def aUS (n:List UInt8):List Fl->Nat->Int
 |[],_=>-1
 |x::l,i=>bif bl x.nm==n then (i:Int) else aUS n l (i+1)
abbrev Fst:Type:=Int×List (Int×Vl)
def D9 (ts:List Tk) (u:St) (z:Fs):Int:=aUS (mD ts z.n).x u.fs 0
def aTX (ts:List Tk) (u:St) (last:Int) (z:Fs):Bool:=(mD ts z.n).k != 1||decide (D9 ts u z<0)||decide ((u.fs.getD (D9 ts u z).toNat default).num<=last)
def aW5 (ts:List Tk) (z:Fs):Fs:=kA [61] ts ⟨z.bad,z.off,fW ts z.n⟩
def aVZ (P:U3) (s:Sc) (ts:List Tk) (u:St):Fst->Fs->Fst×Fs:=fun a z=>
 bif aTX ts u a.1 z then (a,oM ts z)
 else (((u.fs.getD (D9 ts u z).toNat default).num,a.2++[((u.fs.getD (D9 ts u z).toNat default).num,(P s ts (u.fs.getD (D9 ts u z).toNat default).ty (aW5 ts z)).1)]),(P s ts (u.fs.getD (D9 ts u z).toNat default).ty (aW5 ts z)).2)
def stOf (s:Sc) (t:Ty):St:=(fS s.ss t.n).getD default
def aPS (P:U3) (s:Sc) (ts:List Tk) (u:St) (z:Fs):Vl×Fs:=(.mk 6 0 (mk []) [] (X2 (aVZ P s ts u) [123] [125] ts (0,[]) z).1.2,(X2 (aVZ P s ts u) [123] [125] ts (0,[]) z).2)
theorem pQ {s:Sc} (hs:s.fit) (t:Ty):(stOf s t).ok:=by
 unfold stOf
 cases h:fS s.ss t.n with
 |none=>exact ⟨by decide,by decide,fun _ h=>(by cases h)⟩
 |some u=>exact hs.ok.ss u (fJ h)
def pP:Nat->U3
 |0=>fun _ _ _ z=>(default,z)
 |N+1=>fun s ts t z=>bif t.k==1 then a1L ts z else bif t.k==4 then aZC ts z else bif t.k==7 then a0P ((cO s.es t.n).getD default) ts z
  else bif t.k==5 then a1O (pP N) s ts (t.e.headD default) z else bif t.k==6 then aPS (pP N) s ts (stOf s t) z else a8I t.k ts z
def zF (s:Sc):Nat->Ty->Vl
 |0,_=>.mk 0 0 (mk []) [] []
 |n+1,t=>bif valF s.ss s.es t then (bif t.k==6 then .mk 6 0 (mk []) [] (((stOf s t).fs.filter fun f=>!f.opt).map fun f=>(f.num,zF s n f.ty)) else .mk t.k 0 (mk []) [] []) else .mk 0 0 (mk []) [] []
def zE (s:Sc) (n:Nat) (l:List Fl):List (Int×Vl):=(l.filter fun f=>!f.opt).map fun f=>(f.num,zF s n f.ty)
theorem mB (s:Sc) (n:Nat) (t:Ty):zF s (n+1) t=bif valF s.ss s.es t then (bif t.k==6 then .mk 6 0 (mk []) [] (zE s n (stOf s t).fs) else .mk t.k 0 (mk []) [] []) else .mk 0 0 (mk []) [] []:=rfl
theorem aPG {s:Sc} {n i:Nat} {l:List Fl} {f:Fl} (h:l[i]? = some f):zE s n (l.take (i+1))=bif f.opt then zE s n (l.take i) else zE s n (l.take i)++[(f.num,zF s n f.ty)]:=by
 unfold zE
 rw[List.take_add_one,h,List.filter_append,List.map_append]
 cases hf:f.opt<;>simp[hf]
theorem aCE (s:Sc) (n:Nat) (l:List Fl):(zE s n l).length<=l.length:=by
 unfold zE;rw[cE];exact List.length_filter_le _ _
theorem VQ {s:Sc} (hs:s.fit) (t:Ty):(stOf s t).fs.length<=1000000000:=by
 unfold stOf
 cases h:fS s.ss t.n with
 |none=>exact aP _
 |some u=>exact (hs.sm u (fJ h)).1
def aV9 (N:Nat):W.Spec:=fun av H K=>∃(s:Sc) (t:Ty) (n:Nat),av=[.va (.gs (aA s)),.va (.gs (aK t)),iS .i64 ((n:Int)-1)]/\H=[]/\s.fit/\TyOk t/\n<N/\N<=100/\K (.va (.gs (aW (zF s n t)))) []
theorem aA4 {N:Nat} {s:Sc} {t:Ty} {n:Nat} {K:S->Hp->Prop} (h1:s.fit) (h2:TyOk t) (h3:n<N) (h4:N<=100) (hK:K (.va (.gs (aW (zF s n t)))) []):aV9 N [.va (.gs [.vl (.int .i64 s.ver),.fz (s.es.map aV),.fz (s.ss.map aD)]),.va (.gs [.vl (.int .i64 t.k),.vl (.int .i64 t.s),.vl (.string t.n),.fz (t.e.map aK)]),iS .i64 ((n:Int)-1)] [] K:=⟨s,t,n,by rw[aY];rfl,rfl,h1,h2,h3,h4,hK⟩
theorem aAT:∀N,Meets Tryz.prog 109 (aV9 N)
 |0=>⟨by kernel_rfl,by rintro xs vs E ro w K _ _ _ ⟨_,_,n,_,_,_,_,h,_⟩;exact absurd h (Nat.not_lt_zero n)⟩
 |N+1=>by
  refine aF Tryz.func109 a1Z 3 (by rw[Tryz.ntmps109];decide) (aG FU (aE jJ (aE (aAT N) (aB _)))) (fun av H K h=>by obtain ⟨_,_,_,rfl,_⟩:=h;rfl) ?_
  rintro av H K ⟨s,t,n,rfl,rfl,hs,ht,hn,hN,hK⟩
  have k4:=iL ht
  have k5:=n7 t
  have k6:=fZ hs
  have k7:=kL s
  have fin:∀{v:Vl} (R:Hp),zF s n t=v->W.Fin 0 K (.va (.gs (aW v))) R:=fun {v} R h=>by
   rw[h] at hK;refine .z (?_)
   rw[aJ] at hK ⊢
   simpa[go_sem] using hK
  cases n with
  |zero=>
   have g:decide (((0:Nat):Int)-1<0)=true:=rfl
   simp(maxSteps:=9^6)-dsimp only[go_sem,aA,aY t,JH,JM,g,k4,k5,k6,k7]
   exact fin (v:=.mk 0 0 (mk []) [] []) _ rfl
  |succ n=>
   have g:decide (((n+1:Nat):Int)-1<0)=false:=by rw[qF];omega
   have g':((n+1:Nat):Int)-1=n:=by omega
   rw[g'] at g ⊢
   rw[mB] at fin
   cases h1:valF s.ss s.es t with
   |false=>
    rw[h1,aI] at fin
    simp(maxSteps:=9^6)-dsimp only[go_sem,aA,aY t,JH,JM,g,k4,k5,k6,k7,h1]
    exact fin _ rfl
   |true=>
   rw[h1,aQ] at fin
   cases h2:t.k==6 with
   |false=>
    have h2':(t.k != 6)=true:=by rw[bne,h2];rfl
    rw[h2,aI] at fin
    simp(maxSteps:=9^6)-dsimp only[go_sem,aA,aY t,JH,JM,g,k4,k5,k6,k7,h1,h2']
    exact fin _ rfl
   |true=>
   have h2':(t.k != 6)=false:=by rw[bne,h2];rfl
   rw[h2,aQ] at fin
   simp(maxSteps:=9^6)-dsimp only[go_sem,aA,aY t,JH,JM,g,k4,k5,k6,k7,h1,h2']
   refine dJ hs ?_
   rw[show (fS s.ss t.n).getD default=stOf s t from rfl]
   have hok:=pQ hs t
   have hsm:=VQ hs t
   have hz6:zF s (n+1) t=.mk 6 0 (mk []) [] (zE s n (stOf s t).fs):=by rw[mB,h1,h2];rfl
   rw[hz6,aJ] at hK
   clear hz6 fin
   generalize stOf s t=u at *
   simp(maxSteps:=9^6)-dsimp only[go_sem,aD]
   have hlen:=fun i=>dM (aCE s n (u.fs.take i)) (dM (List.length_take_le' i u.fs) hsm)
   refine dL (α:=Nat) (fun i=>[(2,iS .i64 n),(3,.va (.c1 (.pt 0 0))),(4,.va (.c1 (.pt 1 0))),(6,.va (.c1 (.pt 2 0))),(7,.va (.c1 (.pt 3 0))),(37,.va (.c1 (.fz (u.fs.map aN)))),(38,iS .i64 u.fs.length),(39,iS .i64 i)])
    (fun i=>[.cells [.vl (.int .i64 s.ver),.fz (s.es.map aV),.fz (s.ss.map aD)] 98,.cells [.vl (.int .i64 t.k),.vl (.int .i64 t.s),.vl (.string t.n),.fz (t.e.map aK)] 45,.cells [.vl (.int .i64 0),.vl (.int .i64 0),.vl (.string (mk [])),.vl (.slice none 0 0),.vl (.slice none 0 0)] 29,
      .cells [.vl (.int .i64 t.k),.vl (.int .i64 0),.vl (.string (mk [])),.vl (.slice none 0 0),.sl 5 (zE s n (u.fs.take i)).length] 29,.cells [.vl (.string u.nm),.fz (u.fs.map aN)] 50,.row ((zE s n (u.fs.take i)).map bG) 42 6])
    (fun i=>i<=u.fs.length) (fun i=>u.fs.length-i) (.nilc 3 4 42 6 _ _ rfl rfl (lA 0 6 (aP _) ?_ ?_)) ?_
   · simp -dsimp only[go_sem]<;>simp
   · simp -dsimp only[go_sem]<;>simp[zE]
   intro i hi
   have hli:=hlen i
   rcases bB i u.fs.length with hlt|hge
   · have hg:decide ((i:Int)<(u.fs.length:Int))=true:=by simp;omega
     have hx:u.fs[i]? = some u.fs[i]:=aX hlt
     have q2:=aS (row:=aN) hx
     have hfo:=(hok.fs _ (eM hlt)).ty
     generalize u.fs[i]=f at *
     have hz:=aPG (s:=s) (n:=n) hx
     cases ho:f.opt with
     |true=>
      rw[ho,aQ] at hz
      simp(maxSteps:=9^6)-dsimp only[go_sem,hg,↓q2,aN,ho,eG,eH,bP]
      refine ⟨by omega,by omega,aC (i+1) 6 (by omega) (by omega) ?_ ?_⟩
      · simp -dsimp only[go_sem]<;>simp
      · simp -dsimp only[go_sem,hz]<;>simp
     |false=>
      rw[ho,aI] at hz
      simp(maxSteps:=9^6)-dsimp only[go_sem,hg,↓q2,aN,ho,eG,eH,bP]
      refine ⟨⟨by omega,by omega⟩,⟨by omega,by omega⟩,aA4 hs hfo (by omega) (by omega) ?_⟩
      generalize zF s n f.ty=v at *
      simp(maxSteps:=9^6)-dsimp only[go_sem,aJ v]
      refine ⟨by omega,by omega,aC (i+1) 6 (by omega) (by omega) ?_ ?_⟩
      · simp -dsimp only[go_sem]<;>simp
      · simp -dsimp only[go_sem,hz]<;>simp[bG,aJ v]
   · have hg:decide ((i:Int)<(u.fs.length:Int))=false:=by simp;omega
     rw[List.take_of_length_le hge] at *
     have h6:t.k=6:=eq_of_beq h2
     simp(maxSteps:=9^6)-dsimp only[go_sem,hg,h6]
     refine .pub 5 _ _ _ rfl (.sel [] (by simp) (by simp[cS]) rfl (.done ?_))
     simp -dsimp only[go_sem,cS]
     exact hK
def SO:W.Spec:=fun av H K=>∃(s:Sc) (t:Ty),av=[.va (.gs (aA s)),.va (.gs (aK t))]/\H=[]/\s.fit/\TyOk t/\K (.va (.gs (aW (zF s 23 t)))) []
theorem KE {s:Sc} {t:Ty} {K:S->Hp->Prop} (h1:s.fit) (h2:TyOk t) (hK:K (.va (.gs (aW (zF s 23 t)))) []):SO [.va (.gs [.vl (.int .i64 s.ver),.fz (s.es.map aV),.fz (s.ss.map aD)]),.va (.gs [.vl (.int .i64 t.k),.vl (.int .i64 t.s),.vl (.string t.n),.fz (t.e.map aK)])] [] K:=⟨s,t,by rw[aY];rfl,rfl,h1,h2,hK⟩
theorem aKL:Meets Tryz.prog 64 SO:=by
 refine aF Tryz.func64 a6K 2 (by rw[Tryz.ntmps64];decide) (aE (aAT 24) (aB _)) (fun av H K h=>by obtain ⟨_,_,rfl,_⟩:=h;rfl) ?_
 rintro av H K ⟨s,t,rfl,rfl,hs,ht,hK⟩
 simp(maxSteps:=9^6)-dsimp only[go_sem,aA,aY t,aUB,aUG]
 refine aA4 (n:=23) hs ht (by decide) (by decide) ?_
 rw[aJ] at hK ⊢
 simp(maxSteps:=9^6)-dsimp only[go_sem]
 refine .z (?_)
 simp -dsimp only[go_sem]
 exact hK
theorem O6 {s:Sc} (hs:s.fit):∀(n:Nat) (t:Ty),TyOk t->VlOk (zF s n t)
 |0,t,ht=>.mk ⟨by decide,by decide⟩ ⟨by decide,by decide⟩ (by decide) (by simp) (by simp) (by simp) (by simp) (by simp)
 |n+1,t,ht=>by
  have hok:=pQ hs t
  have hsm:=VQ hs t
  rw[mB]
  cases valF s.ss s.es t with
  |false=>exact .mk ⟨by decide,by decide⟩ ⟨by decide,by decide⟩ (by decide) (by simp) (by simp) (by simp) (by simp) (by simp)
  |true=>
   cases t.k==6 with
   |false=>exact .mk ht.k ⟨by decide,by decide⟩ (by decide) (by simp) (by simp) (by simp) (by simp) (by simp)
   |true=>
    have hl:=aCE s n (stOf s t).fs
    have hm:∀x∈zE s n (stOf s t).fs,∃f∈(stOf s t).fs,x=(f.num,zF s n f.ty):=fun x hx=>by
     unfold zE at hx
     obtain ⟨f,hf,rfl⟩:=List.mem_map.1 hx
     exact ⟨f,(JR.1 hf).1,rfl⟩
    refine .mk ⟨by decide,by decide⟩ ⟨by decide,by decide⟩ (by decide) (by simp) (by omega) (by simp) (fun x hx=>?_) (fun x hx=>?_)
    · obtain ⟨f,hf,rfl⟩:=hm x hx;exact (hok.fs f hf).num
    · obtain ⟨f,hf,rfl⟩:=hm x hx;exact O6 hs n f.ty (hok.fs f hf).ty
def pmF (s:Sc) (t:Ty):Bool:=lN s t (zF s 23 t)==0
theorem YC {k n:Int} {s:ByteArray} (hk:cB k) (hn:cB n) (hs:s.size<=9223372036854775807):VlOk (.mk k n s [] []):=.mk hk hn hs (by simp) (by simp) (by simp) (by simp) (by simp)
def v0:Vl:=.mk 0 0 (mk []) [] []
def aSL (ts:List Tk) (z:Fs):Fs:=bif (mD ts z.n).k != 0 then oM ts z else z
def a8D (s:Sc) (t:Ty) (ts:List Tk) (r:Vl×Fs):Vl×Int×Int:=
 bif (aSL ts r.2).bad then (v0,2,(aSL ts r.2).off) else bif lN s t r.1 != 0 then (v0,lN s t r.1,0) else (r.1,0,0)
def YD (P:U3) (s:Sc) (t:Ty) (x:List UInt8):Vl×Int×Int:=
 bif !pmF s t then (v0,13,0) else bif (JO x).err != 0 then (v0,(JO x).err,(JO x).off) else a8D s t (JO x).toks (P s (JO x).toks t ⟨false,0,0⟩)
abbrev Frm:Type:=Sc->Ty->Vl->List UInt8×Bool
def tvB (n:Int):List UInt8:=bif n==1 then aJ2 else Z9
def tvT (x:List UInt8):List UInt8:=bif decide (x.length<=200)&&x.all prB then a6E x else []
def nmF (ns:List ByteArray) (n:Int):List Int->Nat->ByteArray
 |[],_=>mk []
 |m::l,i=>bif m==n&&decide ((i:Int)<(ns.length:Int)) then ns.getD i (mk []) else nmF ns n l (i+1)
def enOf (s:Sc) (t:Ty):En:=(cO s.es t.n).getD default
theorem aOR {s:Sc} (hs:s.fit) (t:Ty):(enOf s t).ok:=by
 unfold enOf
 cases h:cO s.es t.n with
 |none=>exact ⟨by decide,by decide,by decide,fun _ h=>(by cases h),fun _ h=>(by cases h)⟩
 |some e=>exact hs.ok.es e (fJ h)
def aF0:Bool->List (List UInt8)->List UInt8
 |_,[]=>[]
 |c,x::r=>(bif c then [44,32] else [])++x++aF0 true r
def a2L (F:Frm) (s:Sc) (u:Ty) (l:List Vl):List UInt8×Bool:=([91]++aF0 false (l.map fun x=>(F s u x).1)++[93],l.any fun x=>(F s u x).2)
def n8 (u:St) (n:Int):Fl:=(fF u.fs n).getD default
def itF (F:Frm) (s:Sc) (u:St) (x:Int×Vl):List UInt8:=bl (n8 u x.1).nm++[32,61,32]++(F s (n8 u x.1).ty x.2).1
def aOS (F:Frm) (s:Sc) (u:St) (l:List (Int×Vl)):List UInt8×Bool:=([123]++aF0 false (l.map (itF F s u))++[125],l.any fun x=>(F s (n8 u x.1).ty x.2).2)
theorem aN3 {u:St} (hu:u.ok) (n:Int):(n8 u n).ok:=by
 unfold n8
 cases h:fF u.fs n with
 |none=>exact ⟨⟨by decide,by decide⟩,by decide,.mk ⟨by decide,by decide⟩ ⟨by decide,by decide⟩ (by decide) (by decide) (fun _ h=>by cases h)⟩
 |some d=>exact hu.fs d (fJ h)
theorem aEY {s:Sc} (hs:s.fit) (t:Ty):∀f∈(stOf s t).fs,TySm f.ty:=by
 unfold stOf
 cases h:fS s.ss t.n with
 |none=>exact fun _ h=>(by cases h)
 |some u=>exact (hs.sm u (fJ h)).2
theorem RM {t:St} {k:Int} {K:S->Hp->Prop} (h:t.ok) (h2:∀f∈t.fs,TySm f.ty) (hK:K (.tu [.gs (aN (n8 t k)),bA (fF t.fs k).isSome]) []):wY [.va (.gs [.vl (.string t.nm),.fz (t.fs.map aN)]),iS .i64 k] [] K:=⟨t,k,rfl,rfl,h,h2,hK⟩
def fP:Nat->Frm
 |0=>fun _ _ _=>([],false)
 |N+1=>fun s t v=>bif t.k==1 then (tvB v.n,false) else bif t.k==4 then (tvT (bl v.s),tvT (bl v.s)==[]) else bif t.k==7 then (bl (nmF (enOf s t).ns v.n (enOf s t).vs 0),false)
  else bif t.k==5 then a2L (fP N) s (t.e.headD default) v.l else bif t.k==6 then aOS (fP N) s (stOf s t) v.f else (a6T v.n,false)
def a8U (F:Frm) (s:Sc) (t:Ty) (v:Vl):List UInt8:=bif lN s t v != 0 then [] else bif (F s t v).2||decide (4000<((F s t v).1.length:Int)) then [] else (F s t v).1
theorem SL:Meets Tryz.prog 100 zU:=by
 refine aF Tryz.func100 aZN 2 (by rw[Tryz.ntmps100];decide) (aB _) (fun av H K h=>by obtain ⟨_,_,rfl,_⟩:=h;rfl) ?_
 rintro av H K ⟨s,n,rfl,rfl,hs,hK⟩
 rw[<-oD] at hK
 have hl:=hs.ok.ls
 simp -dsimp only[go_sem,aA,aM6,aJG]
 refine aO (α:=Nat) (fun i=>[(1,tS n),(2,.va (.c1 (.pt 0 0))),(4,.va (.c1 (.pt 1 0))),(6,iS .i64 i)]) (fun _=>[.cells (aA s) 25,.cells [.vl (.string (mk [])),.vl (.slice none 0 0)] 50])
  (fun i=>i<=s.ss.length/\fS (s.ss.drop i) n=fS s.ss n) (fun i=>s.ss.length-i) 0 2 ⟨aP _,rfl⟩ ?_ ?_ ?_
 · simp[go_sem]
 · simp[go_sem,aA]
 rintro i ⟨hi,ho⟩
 rcases bB i s.ss.length with hlt|hge
 · have hg:decide ((i:Int)<(s.ss.length:Int))=true:=by simp;omega
   obtain ⟨t,hx⟩:∃e,s.ss[i]? = some e:=⟨_,aX hlt⟩
   have q2:=aS (row:=aD) hx
   rw[fS,kP hx] at ho
   cases hc:decide (t.nm=n) with
   |true=>
    rw[hc,aQ] at ho
    rw[<-ho] at hK
    simp(maxSteps:=9^6)-dsimp only[go_sem,hg,↓q2,aD,aA,cK,hc]
    refine ⟨by omega,by omega,.z ((by simpa[go_sem,aD] using hK))⟩
   |false=>
    rw[hc,aI] at ho
    simp(maxSteps:=9^6)-dsimp only[go_sem,hg,↓q2,aD,aA,cK,hc]
    refine ⟨by omega,by omega,aC (i+1) 2 ⟨by omega,ho⟩ (by omega) ?_ ?_⟩
    · simp[go_sem]
    · simp[go_sem,aA]
 · have hg:decide ((i:Int)<(s.ss.length:Int))=false:=by simp;omega
   obtain rfl:i=s.ss.length:=by omega
   rw[dT] at ho
   rw[<-ho] at hK
   simp -dsimp only[go_sem,hg,aA]
   exact .z ((by simpa[go_sem,fS,J8] using hK))
theorem aYJ:Meets Tryz.prog 143 IG:=by
 refine aF Tryz.func143 aZX 2 (by rw[Tryz.ntmps143];decide) (aB _) (fun av H K h=>by obtain ⟨_,_,rfl,_⟩:=h;rfl) ?_
 rintro av H K ⟨s,n,rfl,rfl,hs,hK⟩
 rw[<-EW] at hK
 have hl:=hs.ok.le
 simp -dsimp only[go_sem,aA,aIW,aJR]
 refine aO (α:=Nat) (fun i=>[(1,tS n),(2,.va (.c1 (.pt 0 0))),(4,.va (.c1 (.pt 1 0))),(6,iS .i64 i)]) (fun _=>[.cells (aA s) 25,.cells [.vl (.string (mk [])),.vl (.slice none 0 0),.vl (.slice none 0 0)] 70])
  (fun i=>i<=s.es.length/\cO (s.es.drop i) n=cO s.es n) (fun i=>s.es.length-i) 0 2 ⟨aP _,rfl⟩ ?_ ?_ ?_
 · simp[go_sem]
 · simp[go_sem,aA]
 rintro i ⟨hi,ho⟩
 rcases bB i s.es.length with hlt|hge
 · have hg:decide ((i:Int)<(s.es.length:Int))=true:=by simp;omega
   obtain ⟨t,hx⟩:∃e,s.es[i]? = some e:=⟨_,aX hlt⟩
   have q2:=aS (row:=aV) hx
   rw[cO,kP hx] at ho
   cases hc:decide (t.nm=n) with
   |true=>
    rw[hc,aQ] at ho
    rw[<-ho] at hK
    simp(maxSteps:=9^6)-dsimp only[go_sem,hg,↓q2,aV,aA,cK,hc]
    refine ⟨by omega,by omega,.z ((by simpa[go_sem,aV] using hK))⟩
   |false=>
    rw[hc,aI] at ho
    simp(maxSteps:=9^6)-dsimp only[go_sem,hg,↓q2,aV,aA,cK,hc]
    refine ⟨by omega,by omega,aC (i+1) 2 ⟨by omega,ho⟩ (by omega) ?_ ?_⟩
    · simp[go_sem]
    · simp[go_sem,aA]
 · have hg:decide ((i:Int)<(s.es.length:Int))=false:=by simp;omega
   obtain rfl:i=s.es.length:=by omega
   rw[dT] at ho
   rw[<-ho] at hK
   simp -dsimp only[go_sem,hg,aA]
   exact .z ((by simpa[go_sem,cO,MU] using hK))
theorem WC:Meets Tryz.prog 101 wY:=by
 refine aF Tryz.func101 aZI 2 (by rw[Tryz.ntmps101];decide) (aB _) (fun av H K h=>by obtain ⟨_,_,rfl,_⟩:=h;rfl) ?_
 rintro av H K ⟨s,n,rfl,rfl,hs,hsm,hK⟩
 have hl:=hs.len
 simp -dsimp only[go_sem,aD,aKF,aH7]
 refine aO (α:=Nat) (fun i=>[(1,iS .i64 n),(2,.va (.c1 (.pt 0 0))),(4,.va (.c1 (.pt 1 0))),(6,iS .i64 i)]) (fun _=>[.cells (aD s) 50,.cells [.vl (.int .i64 0),.vl (.string (mk [])),.vl (.int .i64 0),.vl (.int .i64 0),.vl (.string (mk [])),.vl (.slice none 0 0),.vl (.bool false)] 47])
  (fun i=>i<=s.fs.length/\fF (s.fs.drop i) n=fF s.fs n) (fun i=>s.fs.length-i) 0 2 ⟨aP _,rfl⟩ ?_ ?_ ?_
 · simp[go_sem]
 · simp[go_sem,aD]
 rintro i ⟨hi,ho⟩
 rcases bB i s.fs.length with hlt|hge
 · have hg:decide ((i:Int)<(s.fs.length:Int))=true:=by simp;omega
   obtain ⟨t,hx⟩:∃e,s.fs[i]? = some e:=⟨_,aX hlt⟩
   have q2:=aS (row:=aN) hx
   rw[fF,kP hx] at ho
   have hq:(t.num==n)=decide (t.num=n):=rfl
   cases hc:decide (t.num=n) with
   |true=>
    rw[hc,aQ] at ho
    rw[<-ho] at hK
    simp(maxSteps:=9^6)-dsimp only[go_sem,hg,↓q2,aN,aD,hq,hc]
    refine ⟨by omega,by omega,.z ((by simpa[go_sem,aN] using hK))⟩
   |false=>
    rw[hc,aI] at ho
    simp(maxSteps:=9^6)-dsimp only[go_sem,hg,↓q2,aN,aD,hq,hc]
    refine ⟨by omega,by omega,aC (i+1) 2 ⟨by omega,ho⟩ (by omega) ?_ ?_⟩
    · simp[go_sem]
    · simp[go_sem,aD]
 · have hg:decide ((i:Int)<(s.fs.length:Int))=false:=by simp;omega
   obtain rfl:i=s.fs.length:=by omega
   rw[dT] at ho
   rw[<-ho] at hK
   simp -dsimp only[go_sem,hg,aD]
   exact .z ((by simpa[go_sem,fF,lH] using hK))
def dH (l:List (Int×Vl)) (k:Int):Option (Int×Vl):=l.find? fun x=>decide (x.1=k)
def aEI:W.Spec:=fun av H K=>∃(v:Vl) (k:Int),av=[.va (.gs (aW v)),iS .i64 k]/\H=[]/\VlOk v/\v.k=6/\K (.tu [.gs (aW (((dH v.f k).map (·.2)).getD default)),bA (dH v.f k).isSome]) []
theorem aAO {v:Vl} {k:Int} {K:S->Hp->Prop} (h:VlOk v) (h6:v.k=6) (hK:K (.tu [.gs (aW (((dH v.f k).map (·.2)).getD default)),bA (dH v.f k).isSome]) []):aEI [.va (.gs [.vl (.int .i64 v.k),.vl (.int .i64 v.n),.vl (.string v.s),.fz (v.l.map aW),.fz (v.f.map bG)]),iS .i64 k] [] K:=⟨v,k,by rw[aJ],rfl,h,h6,hK⟩
theorem L3:aW default=[.vl (.int .i64 0),.vl (.int .i64 0),.vl (.string (mk [])),.fz [],.fz []]:=rfl
theorem aP1:Meets Tryz.prog 171 aEI:=by
 refine aF Tryz.func171 a0S 2 (by rw[Tryz.ntmps171];decide) (aB _) (fun av H K h=>by obtain ⟨_,_,rfl,_⟩:=h;rfl) ?_
 rintro av H K ⟨v,k,rfl,rfl,hv,h6,hK⟩
 have hl:=hv.lf
 simp -dsimp only[go_sem,aJ v,aM0,aKW]
 refine aO (α:=Nat) (fun i=>[(1,iS .i64 k),(2,.va (.c1 (.pt 0 0))),(4,.va (.c1 (.pt 1 0))),(6,iS .i64 i)]) (fun _=>[.cells [.vl (.int .i64 v.k),.vl (.int .i64 v.n),.vl (.string v.s),.fz (v.l.map aW),.fz (v.f.map bG)] 29,.cells [.vl (.int .i64 0),.vl (.int .i64 0),.vl (.string (mk [])),.vl (.slice none 0 0),.vl (.slice none 0 0)] 29])
  (fun i=>i<=v.f.length/\dH (v.f.drop i) k=dH v.f k) (fun i=>v.f.length-i) 0 2 ⟨aP _,rfl⟩ ?_ ?_ ?_
 · simp -dsimp only[go_sem]<;>simp
 · simp -dsimp only[go_sem]<;>simp
 rintro i ⟨hi,ho⟩
 rcases bB i v.f.length with hlt|hge
 · have hg:decide ((i:Int)<(v.f.length:Int))=true:=by simp;omega
   have g6:(v.k==6)=true:=by rw[h6];rfl
   obtain ⟨x,hx⟩:∃x,v.f[i]? = some x:=⟨_,aX hlt⟩
   have q2:=aS (row:=bG) hx
   rw[dH,kP hx] at ho
   obtain ⟨n,w⟩:=x
   cases hc:decide (n=k) with
   |true=>
    simp only[hc,aQ] at ho
    rw[<-ho] at hK
    have hc':(n==k)=true:=by simpa using hc
    simp(maxSteps:=9^6)-dsimp only[go_sem,hg,g6,↓q2,bG,aJ w,hc',eG,eH,bP]
    exact ⟨⟨by omega,by omega⟩,⟨by omega,by omega⟩,.z ((by simpa[go_sem,aJ w] using hK))⟩
   |false=>
    simp only[hc,aI] at ho
    have hc':(n==k)=false:=by simpa using hc
    simp(maxSteps:=9^6)-dsimp only[go_sem,hg,g6,↓q2,bG,aJ w,hc']
    refine ⟨⟨by omega,by omega⟩,⟨by omega,by omega⟩,aC (i+1) 2 ⟨by omega,ho⟩ (by omega) ?_ ?_⟩
    · simp -dsimp only[go_sem]<;>simp
    · simp -dsimp only[go_sem]<;>simp
 · have hg:decide ((i:Int)<(v.f.length:Int))=false:=by simp;omega
   obtain rfl:i=v.f.length:=by omega
   rw[dT] at ho
   rw[<-ho] at hK
   simp(maxSteps:=9^6)-dsimp only[go_sem,hg]
   exact .z ((by simpa[go_sem,dH,L3] using hK))
def MG:PC:=.seq (.gh (.reg [.n 80 2 7,.n 81 5 5,.u 82 142 [(.t 80),(.t 81)],.v 6 82])) .ret
@[go_sem ↓] theorem a4T:a7 MG:=a8 _
def pcN98_7:PC:=.seq (.gh (.reg [.n 74 3 3,.f 75 2 4,.r 76 75,.j 77 100 [(.t 74),(.t 76)],.v 73 77,.y 78 73 0,.y 79 73 1,.A 7 #[(.string (mk [])),(.slice none 0 0)] 50,.w 2 7 78,.v 8 79])) MG
@[go_sem ↓] theorem a4F:a7 pcN98_7:=a8 _
def KB:PC:=.seq (.seq (.gh (.reg [.f 70 0 5,.r 71 70,.h 72 .neq 71 6])) (.I 72 (.R [.T 6]))) pcN98_7
@[go_sem ↓] theorem a40:a7 KB:=a8 _
def pcN98_3:PC:=.seq (.seq (.gh (.reg [.f 52 0 5,.r 53 52,.h 54 .eql 53 4,.v 55 54,.N 56 55 (.f 0 5),.N 57 55 (.r 56),.N 58 55 (.h .eql 57 5),.o 59 55 58,.v 60 59,.N 61 60 (.f 0 5),.N 62 60 (.r 61),.N 63 60 (.h .eql 62 6),.o 64 60 63,.v 65 64,.Y 66 65 (.f 1 5),.Y 67 65 (.r 66),.Y 68 65 (.h .neq 67 0),.p 69 65 68])) (.I 69 (.R [.F 6]))) KB
@[go_sem ↓] theorem a5K:a7 pcN98_3:=a8 _
def JD:PC:=.S [.z 3 25 0,.z 4 45 1,.z 5 29 2,.F 6] (.seq (.S [.n 9 3 3,.n 10 4 4,.u 11 141 [iR,jK],.t 12 11,.v 13 12,.N 14 13 (.f 0 5),.N 15 13 (.r 14),.N 16 13 (.f 0 4),.N 17 13 (.r 16),.N 18 13 (.k .neq 15 17),.o 19 13 18,.v 20 19,.N 21 20 (.f 0 5),.N 22 20 (.r 21),.N 23 20 (.h .neq 22 4),.N 24 20 (.v 23),.Y 25 24 (.f 2 5),.Y 26 24 (.r 25),.Y 27 24 (.b .neq j7 d8),.N 28 20 (.p 24 27),.o 29 20 28,.v 30 29,.N 31 30 (.f 0 5),.N 32 30 (.r 31),.N 33 30 (.h .neq 32 5),.N 34 30 (.v 33),.Y 35 34 (.f 3 5),.Y 36 34 (.r 35),.Y 37 34 (.m 36),.Y 38 34 (.h .gtr 37 0),.N 39 30 (.p 34 38),.o 40 30 39,.v 41 40,.N 42 41 (.f 0 5),.N 43 41 (.r 42),.N 44 41 (.h .neq 43 6),.N 45 41 (.v 44),.Y 46 45 (.f 4 5),.Y 47 45 (.r 46),.Y 48 45 (.m 47),.Y 49 45 (.h .gtr 48 0),.N 50 41 (.p 45 49),.o 51 41 50] (.I 51 (.R [.F 6]))) pcN98_3)
def t8:List RV:=[.mv (.t 6)]
theorem a00:aU Tryz.prog true ⟨fun r k=>if r=1/\k=2 then .q else if r=8/\k=2 then .q else .own [],fun r=>[3,5,7,8].contains r⟩ Tryz.f98=some (JD,t8):=by kernel_rfl
def rA:PC:=.seq (.gh (.reg [.v 29 7,.t 30 29,.v 31 30,.N 32 31 (.v 5),.N 33 31 (.h .gtr 32 0),.N 34 31 (.v 33),.Y 35 34 (.f 4 3),.Y 36 34 (.r 35),.Y 37 34 (.v 5),.Y 38 34 (.x 6 36 37),.Y 39 34 (.f 0 38),.Y 40 34 (.r 39),.Y 41 34 (.f 4 3),.Y 42 34 (.r 41),.Y 43 34 (.v 5),.Y 44 34 (.h .sub 43 1),.Y 45 34 (.x 6 42 44),.Y 46 34 (.f 0 45),.Y 47 34 (.r 46),.Y 48 34 (.k .leq 40 47),.N 49 31 (.p 34 48),.o 50 31 49])) (.I 50 (.R [.F 4]))
@[go_sem ↓] theorem a0N:a7 rA:=a8 _
def sQ:PC:=.seq (.gh (.reg [.v 69 10,.t 70 69,.v 71 70,.Y 72 71 (.f 1 2),.Y 73 71 (.r 72),.Y 74 71 (.v 8),.Y 75 71 (.x 7 73 74),.Y 76 71 (.f 6 75),.Y 77 71 (.r 76),.Y 78 71 (.q (.not (.t 77))),.p 79 71 78])) (.I 79 (.R [.F 4]))
@[go_sem ↓] theorem aYU:a7 sQ:=a8 _
def aCI:PC:=.S [.z 2 50 0,.z 3 29 1,.F 4] (.seq (.S [.c 5 0] (.block 0 (.loop (.seq (.S [.v 11 5,.f 12 4 3,.r 13 12,.m 14 13,.k 15 .lss 11 14] (.C 15 .skip (.exit 0))) (.seq (.block 1 (.seq (.ord [.q (.n 19 2 2),.q (.f 20 4 3),.q (.r 21 20),.q (.v 22 5),.q (.x 23 6 21 22),.q (.f 24 0 23),.q (.r 25 24),.m (.j 26 101 [gT,kI]),.q (.v 18 26),.q (.y 27 18 0),.q (.y 28 18 1),.m (.A 6 #[(.int .i64 0),(.string (mk [])),(.int .i64 0),(.int .i64 0),(.string (mk [])),(.slice none 0 0),(.bool false)] 47),.rc (.v 18 26),.rc (.y 27 18 0),.rc (.y 28 18 1),.m (.w 7 6 27),.rc (.y 28 18 1),.m (.v 7 28)]) rA)) (.reg [.v 16 5,.h 17 .add 16 1,.v 5 17])))))) (.seq (.S [.c 8 0] (.block 2 (.loop (.seq (.S [.v 51 8,.f 52 1 2,.r 53 52,.m 54 53,.k 55 .lss 51 54] (.C 55 .skip (.exit 2))) (.seq (.block 3 (.seq (.ord [.q (.n 59 5 3),.q (.f 60 1 2),.q (.r 61 60),.q (.v 62 8),.q (.x 63 7 61 62),.q (.f 64 0 63),.q (.r 65 64),.m (.j 66 171 [rR,wG]),.q (.v 58 66),.q (.y 67 58 0),.q (.y 68 58 1),.m (.A 9 gO 29),.rc (.v 58 66),.rc (.y 67 58 0),.rc (.y 68 58 1),.m (.w 5 9 67),.rc (.y 68 58 1),.m (.v 10 68)]) sQ)) (.reg [.v 56 8,.h 57 .add 56 1,.v 8 57])))))) (.R [.T 4])))
def aCH:List RV:=[.mv (.t 4)]
theorem aRR:aU Tryz.prog true ⟨fun _ _=>.own [],fun r=>[5,11].contains r⟩ Tryz.f142=some (aCI,aCH):=by kernel_rfl
theorem UL:Meets Tryz.prog 141 r0Fn.sp:=by
 refine aF Tryz.func141 aYW 2 (by rw[Tryz.ntmps141];decide) (aG V9 (aB _)) (fun av H K h=>by obtain ⟨_,_,rfl,_⟩:=p9 h.1.1;rfl) ?_
 rintro av H K ⟨⟨h,rfl⟩,hK⟩
 obtain ⟨s,t,rfl,hs,ht⟩:=p9 h
 have k4:=iL ht
 have k5:=n7 t
 have k6:=fZ hs
 have k7:=kL s
 have e:r0Fn.val [.va (.gs (aA s)),.va (.gs (aK t))]=bA (valF s.ss s.es t):=by
  show bA (valF (C.sc (aA s)).ss (C.sc (aA s)).es (C.ty (aK t)))=_
  rw[cT,eF]
 rw[e] at hK
 simp(maxSteps:=9^6)-dsimp only[go_sem,aA,aY t,aK7,aK8,k4,k5,k6,k7]
 exact .z ((by simpa[go_sem] using hK))
def PI:List S->Prop:=fun av=>match av with
 |[.va (.gs r),.va (.gs q)]=>PV r/\qH q/\(C.vv q).k=6
 |_=>False
theorem AF {av:List S} (h:PI av):∃(u:St) (v:Vl),av=[.va (.gs (aD u)),.va (.gs (aW v))]/\u.ok/\(∀f∈u.fs,TySm f.ty)/\VlOk v/\v.k=6:=by
 unfold PI at h
 split at h
 · obtain ⟨⟨u,rfl,h1,h2⟩,⟨v,rfl,h3⟩,h4⟩:=h
   rw[jL] at h4
   exact ⟨u,v,rfl,h1,h2,h3,h4⟩
 · exact h.elim
noncomputable def aLO:List S->A:=fun av=>match av with
 |[.va (.gs r),.va (.gs q)]=>bA (eY (C.st r).fs (C.vv q).f)
 |_=>.gs []
noncomputable def s9Fn:Fun:=⟨PI,aLO,fun av h=>by obtain ⟨_,_,rfl,_⟩:=AF h;trivial⟩
attribute [go_sem] s9Fn PI aLO
theorem aPX (l:List (Int×Vl)) (k:Int):(dH l k).isSome=qX l k:=by
 unfold dH qX
 rw[fH,List.find?_isSome,iY]
 simp
theorem aE5 {α:Type} {l:List α} {i:Nat} {x:α} (h:l[i]? = some x) (p:α->Bool):(l.drop i).all p=(p x&&(l.drop (i+1)).all p):=by
 obtain ⟨h1,h2⟩:=bT.1 h
 subst h2
 rw[cG h1,DD]
theorem aFG:Meets Tryz.prog 142 s9Fn.sp:=by
 refine aF Tryz.func142 aRR 2 (by rw[Tryz.ntmps142];decide) (aE WC (aE aP1 (aB _))) (fun av H K h=>by obtain ⟨_,_,rfl,_⟩:=AF h.1.1;rfl) ?_
 rintro av H K ⟨⟨h,rfl⟩,hK⟩
 obtain ⟨u,v,rfl,hu,hus,hv,hk6⟩:=AF h
 replace hK:K (bS (eY u.fs v.f)) []:=by
  have:s9Fn.val [.va (.gs (aD u)),.va (.gs (aW v))]=bA (eY u.fs v.f):=by simp -dsimp only[go_sem]
  rw[this] at hK;exact hK
 clear h
 have fin:∀(b:Bool) (R:Hp),eY u.fs v.f=b->W.Fin 0 K (bS b) R:=fun b R h=>by
  rw[h] at hK;exact .z ((by simpa[go_sem] using hK))
 clear hK
 have hfl:=hu.len
 have hll:=hv.lf
 generalize hR:u.fs.all (fun f=>f.opt||qX v.f f.num)=R2
 have hF:eY u.fs v.f=(ftA u.fs none v.f&&R2):=by rw[<-hR];rfl
 rw[hF] at fin
 generalize hR0:(ftA u.fs none v.f&&R2)=R0 at fin
 clear hF
 simp(maxSteps:=9^6)-dsimp only[go_sem,aD,aJ v,aCI,aCH]
 refine aO (α:=Nat) (fun i=>[(2,.va (.c1 (.pt 0 0))),(3,.va (.c1 (.pt 1 0))),(5,iS .i64 i)]) (fun _=>[.cells [.vl (.string u.nm),.fz (u.fs.map aN)] 50,.cells [.vl (.int .i64 v.k),.vl (.int .i64 v.n),.vl (.string v.s),.fz (v.l.map aW),.fz (v.f.map bG)] 29])
  (fun i=>i<=v.f.length/\(ftA u.fs (FO v.f i) (v.f.drop i)&&R2)=R0) (fun i=>v.f.length-i) 0 2 ⟨aP _,hR0⟩ ?_ ?_ ?_
 · simp -dsimp only[go_sem]<;>simp
 · simp -dsimp only[go_sem]<;>simp
 rintro i ⟨hi,ho⟩
 rcases bB i v.f.length with hlt|hge
 · have hg:decide ((i:Int)<(v.f.length:Int))=true:=by simp;omega
   obtain ⟨x,hx⟩:∃t,v.f[i]? = some t:=⟨_,aX hlt⟩
   have q1:=kZ hx
   have hdr:v.f.drop i=x::v.f.drop (i+1):=by
    obtain ⟨h,rfl⟩:=bT.1 hx
    exact cG h
   have hpv:FO v.f (i+1)=some x.1:=by rw[FO,hx];rfl
   rw[hdr,zY,<-hpv] at ho
   simp(maxSteps:=9^6)-dsimp only[go_sem,hg,↓q1]
   refine ⟨by omega,RM hu hus ?_⟩
   cases hf:(fF u.fs x.1).isSome with
   |false=>
    rw[hf,bL,bL,bL] at ho
    simp(maxSteps:=9^6)-dsimp only[go_sem,aN]
    refine aH rfl (.done ?_)
    simp(maxSteps:=9^6)-dsimp only[go_sem,rA,bL]
    exact fin _ _ ho.symm
   |true=>
    rw[hf,bF] at ho
    simp(maxSteps:=9^6)-dsimp only[go_sem,aN]
    refine aH rfl (.done ?_)
    cases hz:decide ((0:Int)<(i:Int)) with
    |false=>
     obtain rfl:i=0:=by have:=gL hz;omega
     simp(maxSteps:=9^6)-dsimp only[go_sem,rA,hz]
     refine ⟨by omega,aC (0+1) 2 ⟨by omega,ho⟩ (by omega) ?_ ?_⟩
     · simp -dsimp only[go_sem]<;>simp
     · simp -dsimp only[go_sem]<;>simp
    |true=>
     have hz':=iO hz
     obtain ⟨y,hy⟩:∃t,v.f[i-1]? = some t:=⟨_,aX (by omega)⟩
     have hti:((i:Int)-1).toNat=i-1:=by omega
     have q2:=fun p=>aBX (n:=(i:Int)-1) (x:=y) (by rw[hti];exact hy) p
     have hpi:FO v.f i=some y.1:=by
      match i,hz',hy with
      |j+1,_,hy=>rw[FO];rw[show j+1-1=j by omega] at hy;rw[hy];rfl
     rw[hpi,ltO] at ho
     have f1:(0<=(i:Int)-1)=True:=eq_true (by omega)
     have f2:((i:Int)-1<(v.f.length:Int))=True:=eq_true (by omega)
     cases hc:decide (x.1<=y.1) with
     |true=>
      have:decide (y.1<x.1)=false:=by have:=iO hc;simp;omega
      rw[this] at ho
      simp(maxSteps:=9^6)-dsimp only[go_sem,rA,hz,↓q1,↓q2,hc,f1,f2]
      exact ⟨⟨by omega,by omega⟩,⟨by omega,by omega⟩,fin _ _ ho.symm⟩
     |false=>
      have:decide (y.1<x.1)=true:=by have:=gL hc;simp;omega
      rw[this,bF] at ho
      simp(maxSteps:=9^6)-dsimp only[go_sem,rA,hz,↓q1,↓q2,hc,f1,f2]
      refine ⟨⟨by omega,by omega⟩,⟨by omega,by omega⟩,⟨by omega,by omega⟩,aC (i+1) 2 ⟨by omega,ho⟩ (by omega) ?_ ?_⟩
      · simp -dsimp only[go_sem]<;>simp
      · simp -dsimp only[go_sem]<;>simp
 · have hg:decide ((i:Int)<(v.f.length:Int))=false:=by simp;omega
   obtain rfl:i=v.f.length:=by omega
   rw[dT,VD,bF] at ho
   simp(maxSteps:=9^6)-dsimp only[go_sem,hg]
   clear hi hge hg hR0
   rw[<-hR] at ho
   refine aO (α:=Nat) (fun i=>[(2,.va (.c1 (.pt 0 0))),(3,.va (.c1 (.pt 1 0))),(8,iS .i64 i)]) (fun _=>[.cells [.vl (.string u.nm),.fz (u.fs.map aN)] 50,.cells [.vl (.int .i64 v.k),.vl (.int .i64 v.n),.vl (.string v.s),.fz (v.l.map aW),.fz (v.f.map bG)] 29])
    (fun i=>i<=u.fs.length/\((u.fs.drop i).all fun f=>f.opt||qX v.f f.num)=R0) (fun i=>u.fs.length-i) 0 2 ⟨aP _,ho⟩ ?_ ?_ ?_
   · simp -dsimp only[go_sem]<;>simp
   · simp -dsimp only[go_sem]<;>simp
   clear ho
   rintro i ⟨hi,ho⟩
   rcases bB i u.fs.length with hlt|hge
   · have hg:decide ((i:Int)<(u.fs.length:Int))=true:=by simp;omega
     obtain ⟨f,hx⟩:∃t,u.fs[i]? = some t:=⟨_,aX hlt⟩
     have q1:=aS (row:=aN) hx
     rw[aE5 hx,<-aPX] at ho
     simp(maxSteps:=9^6)-dsimp only[go_sem,hg,↓q1,aN]
     refine ⟨by omega,aAO hv hk6 ?_⟩
     generalize ((dH v.f f.num).map (·.2)).getD default=w
     cases h1:(dH v.f f.num).isSome with
     |true=>
      rw[h1,oU,bF] at ho
      simp(maxSteps:=9^6)-dsimp only[go_sem,aJ w]
      refine aH rfl (.done ?_)
      simp(maxSteps:=9^6)-dsimp only[go_sem,sQ]
      refine ⟨by omega,aC (i+1) 2 ⟨by omega,ho⟩ (by omega) ?_ ?_⟩
      · simp -dsimp only[go_sem]<;>simp
      · simp -dsimp only[go_sem]<;>simp
     |false=>
      rw[h1,oV] at ho
      cases h2:f.opt with
      |true=>
       rw[h2,bF] at ho
       simp(maxSteps:=9^6)-dsimp only[go_sem,aJ w]
       refine aH rfl (.done ?_)
       simp(maxSteps:=9^6)-dsimp only[go_sem,sQ,↓q1,aN,h2]
       refine ⟨⟨by omega,by omega⟩,by omega,aC (i+1) 2 ⟨by omega,ho⟩ (by omega) ?_ ?_⟩
       · simp -dsimp only[go_sem]<;>simp
       · simp -dsimp only[go_sem]<;>simp
      |false=>
       rw[h2,bL] at ho
       simp(maxSteps:=9^6)-dsimp only[go_sem,aJ w]
       refine aH rfl (.done ?_)
       simp(maxSteps:=9^6)-dsimp only[go_sem,sQ,↓q1,aN,h2]
       exact ⟨⟨by omega,by omega⟩,fin _ _ ho.symm⟩
   · have hg:decide ((i:Int)<(u.fs.length:Int))=false:=by simp;omega
     obtain rfl:i=u.fs.length:=by omega
     rw[dT] at ho
     simp(maxSteps:=9^6)-dsimp only[go_sem,hg]
     exact fin _ _ ho.symm
def JY (v:Vl):Bool:=(v.k != 4&&!(bl v.s==[]))||(v.k != 5&&decide (0<(v.l.length:Int)))||(v.k != 6&&decide (0<(v.f.length:Int)))
def TP (v:Vl):Bool:=(v.k==4||v.k==5||v.k==6)&&v.n != 0
def mX (s:Sc) (t:Ty) (v:Vl):Bool:=bif !(valF s.ss s.es t)||v.k != t.k||JY v then false else bif TP v then false else bif v.k != 6 then true else eY (stOf s t).fs v.f
theorem aEX {s:Sc} (hs:s.fit) (t:Ty):PV (aD (stOf s t)):=R5 hs t.n
theorem aP4:Meets Tryz.prog 98 (kK (fun _ _ _=>True) fun s t v=>.bool (mX s t v)).sp:=by
 refine aF Tryz.func98 a00 3 (by rw[Tryz.ntmps98];decide) (aG UL (aE SL (aG aFG (aB _)))) jM ?_
 intro av H K h
 obtain ⟨s,t,v,rfl,rfl,hs,ht,hv,_,hK⟩:=gQ h
 clear h
 have fin:∀(b:Bool) (R:Hp),mX s t v=b->W.Fin 0 K (bS b) R:=fun b R h=>by
  rw[h] at hK;exact .z ((by simpa[go_sem] using hK))
 clear hK
 unfold mX at fin
 have k1:=dE hv
 have k2:=fV v
 have k4:=iL ht
 have k5:=n7 t
 have k6:=fZ hs
 have k7:=kL s
 have e:∀(a b:Bool),(a=true->b=true)->True:=fun _ _ _=>trivial
 clear e
 have tail7:(v.k==6)=true->(∀(b:Bool) (R:Hp),eY (stOf s t).fs v.f=b->W.Fin 0 K (bS b) R)->vc [(141,.f r0Fn),(100,.s zU),(142,.f s9Fn)] 0 pcN98_7.ungh
  (gY [(3,.va (.c1 (.pt 0 0))),(4,.va (.c1 (.pt 1 0))),(5,.va (.c1 (.pt 2 0)))]) [.cells [.vl (.int .i64 s.ver),.fz (s.es.map aV),.fz (s.ss.map aD)] 25,.cells [.vl (.int .i64 t.k),.vl (.int .i64 t.s),.vl (.string t.n),.fz (t.e.map aK)] 45,.cells [.vl (.int .i64 v.k),.vl (.int .i64 v.n),.vl (.string v.s),.fz (v.l.map aW),.fz (v.f.map bG)] 29] (pY 0 t8 K):=fun h6 fin=>by
  have hk6:v.k=6:=eq_of_beq h6
  have u1:=aEX hs t
  have u2:C.st (aD (stOf s t))=stOf s t:=HY _
  simp(maxSteps:=9^6)-dsimp only[go_sem,pcN98_7,t8]
  refine dJ hs ?_
  rw[show (fS s.ss t.n).getD default=stOf s t from rfl]
  generalize stOf s t=u at *
  unfold aD at u1 u2
  simp(maxSteps:=9^6)-dsimp only[go_sem,aD]
  refine aH rfl (.done ?_)
  simp(maxSteps:=9^6)-dsimp only[go_sem,MG,k1,k2,u1,u2]
  exact ⟨hk6,fin _ _ rfl⟩
 have tail3:(∀(b:Bool) (R:Hp),(bif TP v then false else bif v.k != 6 then true else eY (stOf s t).fs v.f)=b->W.Fin 0 K (bS b) R)->vc [(141,.f r0Fn),(100,.s zU),(142,.f s9Fn)] 0 pcN98_3.ungh
  (gY [(3,.va (.c1 (.pt 0 0))),(4,.va (.c1 (.pt 1 0))),(5,.va (.c1 (.pt 2 0)))]) [.cells [.vl (.int .i64 s.ver),.fz (s.es.map aV),.fz (s.ss.map aD)] 25,.cells [.vl (.int .i64 t.k),.vl (.int .i64 t.s),.vl (.string t.n),.fz (t.e.map aK)] 45,.cells [.vl (.int .i64 v.k),.vl (.int .i64 v.n),.vl (.string v.s),.fz (v.l.map aW),.fz (v.f.map bG)] 29] (pY 0 t8 K):=fun fin=>by
  unfold TP at fin
  cases b4:v.k==4<;>cases b5:v.k==5<;>cases b6:v.k==6<;>cases bn:v.n != 0<;>rw[b4,b5,b6,bn] at fin <;>
  · simp(maxSteps:=9^6)-dsimp only[go_sem,pcN98_3,t8,b4,b5,b6,bn]
    first
     |exact fin false _ rfl
     | (refine aH rfl (.done ?_)
        have c6:(v.k != 6)=!(v.k==6):=rfl
        rw[b6] at c6
        simp(maxSteps:=9^6)-dsimp only[go_sem,KB,c6,bV,bN]
        first
         |exact fin true _ (by rw[c6];rfl)
         | (refine bZ 3 (tail7 b6 fun b R h=>fin b R (by rw[c6];exact h)) ?_ ?_
            · simp -dsimp only[go_sem]<;>simp
            · simp -dsimp only[go_sem]<;>simp))
 cases h1:valF s.ss s.es t with
 |false=>
  rw[h1] at fin
  simp(maxSteps:=9^6)-dsimp only[go_sem,aA,aY t,aJ v,JD,t8,k4,k5,k6,k7,h1,bV]
  exact fin false _ rfl
 |true=>
 cases h2:v.k != t.k with
 |true=>
  rw[h1,h2] at fin
  simp(maxSteps:=9^6)-dsimp only[go_sem,aA,aY t,aJ v,JD,t8,k4,k5,k6,k7,h1,h2,bN]
  exact fin false _ rfl
 |false=>
 rw[h1,h2,bN,bK,bK] at fin
 have hA:∀b:Bool,JY v=b->((v.k != 4&&!(bl v.s==[]))||(v.k != 5&&decide (0<(v.l.length:Int)))||(v.k != 6&&decide (0<(v.f.length:Int))))=b:=fun b h=>h
 cases hA':JY v with
 |true=>
  have hA:=hA true hA'
  rw[hA'] at fin
  cases a1:v.k != 4<;>cases a2:bl v.s==[]<;>cases a3:v.k != 5<;>cases a4:decide (0<(v.l.length:Int))<;>cases a5:v.k != 6<;>cases a6:decide (0<(v.f.length:Int)) <;>
  first
   | (exfalso;rw[a1,a2,a3,a4,a5,a6] at hA;exact absurd hA (by decide))
   | (simp(maxSteps:=9^6)-dsimp only[go_sem,aA,aY t,aJ v,JD,t8,k4,k5,k6,k7,h1,h2,a1,a2,a3,a4,a5,a6,bN,bL]
      exact fin false _ rfl)
 |false=>
  have hA:=hA false hA'
  rw[hA',aI] at fin
  cases a1:v.k != 4<;>cases a2:bl v.s==[]<;>cases a3:v.k != 5<;>cases a4:decide (0<(v.l.length:Int))<;>cases a5:v.k != 6<;>cases a6:decide (0<(v.f.length:Int)) <;>
  first
   | (exfalso;rw[a1,a2,a3,a4,a5,a6] at hA;exact absurd hA (by decide))
   | (simp(maxSteps:=9^6)-dsimp only[go_sem,aA,aY t,aJ v,JD,t8,k4,k5,k6,k7,h1,h2,a1,a2,a3,a4,a5,a6,bN,bV,bF,dF]
      refine bZ 3 (tail3 fin) ?_ ?_
      · simp -dsimp only[go_sem]<;>simp
      · simp -dsimp only[go_sem]<;>simp)
def zO:PC:=.seq (.gh (.reg [.v 105 14,.h 106 .neq 105 0])) (.I 106 (.R [.v 107 14,.v 6 107]))
@[go_sem ↓] theorem aY8:a7 zO:=a8 _
def zX:PC:=.seq (.gh (.reg [.n 95 3 3,.f 96 2 12,.n 97 4 96,.f 98 4 5,.r 99 98,.v 100 11,.x 101 6 99 100,.f 102 1 101,.n 103 5 102,.u 104 57 [(.t 95),(.t 97),(.t 103)],.v 14 104])) zO
@[go_sem ↓] theorem aZG:a7 zX:=a8 _
def GS:PC:=.seq (.seq (.gh (.reg [.c 11 0])) (.block 2 (.loop (.seq (.S [.v 77 11,.f 78 4 5,.r 79 78,.m 80 79,.k 81 .lss 77 80] (.C 81 .skip (.exit 2))) (.seq (.block 3 (.seq (.ord [.q (.n 85 2 9),.q (.f 86 4 5),.q (.r 87 86),.q (.v 88 11),.q (.x 89 6 87 88),.q (.f 90 0 89),.q (.r 91 90),.m (.j 92 101 [(.t 85),(.t 91)]),.q (.v 84 92),.q (.y 93 84 0),.q (.y 94 84 1),.m (.A 12 #[(.int .i64 0),(.string (mk [])),(.int .i64 0),(.int .i64 0),(.string (mk [])),(.slice none 0 0),(.bool false)] 47),.rc (.v 84 92),.rc (.y 93 84 0),.rc (.y 94 84 1),.m (.w 7 12 93),.rc (.y 94 84 1),.m (.v 13 94)]) zX)) (.reg [.v 82 11,.h 83 .add 82 1,.v 11 83])))))) (.R [.c 6 0])
@[go_sem ↓] theorem aZE:a7 GS:=a8 _
def GT:PC:=.seq (.gh (.reg [.n 71 3 3,.f 72 2 4,.r 73 72,.j 74 100 [(.t 71),(.t 73)],.v 70 74,.y 75 70 0,.y 76 70 1,.A 9 #[(.string (mk [])),(.slice none 0 0)] 50,.w 2 9 75,.v 10 76])) GS
@[go_sem ↓] theorem aZ8:a7 GT:=a8 _
def pcM57_7:PC:=.seq (.seq (.gh (.reg [.c 7 0])) (.block 0 (.loop (.seq (.S [.v 49 7,.f 50 3 5,.r 51 50,.m 52 51,.k 53 .lss 49 52] (.C 53 .skip (.exit 0))) (.seq (.block 1 (.S [.n 56 3 3,.f 57 3 4,.r 58 57,.l 59 (.ia 4 (.t 58) gZ),.n 60 4 59,.f 61 3 5,.r 62 61,.v 63 7,.x 64 5 62 63,.n 65 5 64,.u 66 57 [rT,sA,wG],.v 8 66] (.S [.v 67 8,.h 68 .neq 67 0] (.I 68 (.R [.v 69 8,.v 6 69]))))) (.reg [.v 54 7,.h 55 .add 54 1,.v 7 55])))))) GT
@[go_sem ↓] theorem a5H:a7 pcM57_7:=a8 _
def EO:PC:=.seq (.seq (.gh (.reg [.f 25 0 4,.r 26 25,.h 27 .eql 26 4,.v 28 27,.Y 29 28 (.f 2 5),.Y 30 28 (.r 29),.Y 31 28 (.q (.lnS oO)),.Y 32 28 (.f 1 4),.Y 33 28 (.r 32),.Y 34 28 (.k .gtr 31 33),.p 35 28 34,.v 36 35,.N 37 36 (.f 0 4),.N 38 36 (.r 37),.N 39 36 (.h .eql 38 5),.N 40 36 (.v 39),.Y 41 40 (.f 3 5),.Y 42 40 (.r 41),.Y 43 40 (.m 42),.Y 44 40 (.f 1 4),.Y 45 40 (.r 44),.Y 46 40 (.k .gtr 43 45),.N 47 36 (.p 40 46),.o 48 36 47])) (.I 48 (.R [.c 6 3]))) pcM57_7
@[go_sem ↓] theorem a43:a7 EO:=a8 _
def EY:PC:=.seq (.seq (.gh (.reg [.n 20 3 3,.n 21 4 4,.n 22 5 5,.u 23 99 [jS,hJ,jO],.t 24 23])) (.I 24 (.R [.c 6 4]))) EO
@[go_sem ↓] theorem a5G:a7 EY:=a8 _
def YZ:PC:=.S [.z 3 25 0,.z 4 45 1,.z 5 29 2,.c 6 0] (.seq (.S [.n 15 3 3,.n 16 4 4,.n 17 5 5,.u 18 98 [jR,lC,mH],.t 19 18] (.I 19 (.R [.c 6 13]))) EY)
def H6:List RV:=[.mv (.t 6)]
theorem a01:aU Tryz.prog true ⟨fun r k=>if r=1/\k=3 then .q else if r=3/\k=3 then .q else if r=10/\k=10 then .q else if r=18/\k=9 then .q else .own [],fun r=>[3,5,7,13,14,18,19].contains r⟩ Tryz.f57=some (YZ,H6):=by kernel_rfl
def MQ:PC:=.seq (.gh (.reg [.f 28 1 5,.r 29 28,.h 30 .eql 29 0,.v 31 30,.N 32 31 (.f 1 5),.N 33 31 (.r 32),.N 34 31 (.h .eql 33 1),.o 35 31 34,.v 6 35])) .ret
@[go_sem ↓] theorem a5N:a7 MQ:=a8 _
def AL:PC:=.seq (.gh (.reg [.f 38 1 4,.r 39 38,.h 40 .eql 39 64,.v 41 40,.N 42 41 (.f 1 5),.N 43 41 (.r 42),.N 44 41 (.v 7),.N 45 41 (.b .sub gZ m7),.N 46 41 (.k .geq 43 45),.N 47 41 (.v 46),.Y 48 47 (.f 1 5),.Y 49 47 (.r 48),.Y 50 47 (.v 7),.Y 51 47 (.k .lss 49 50),.N 52 41 (.p 47 51),.o 53 41 52,.v 6 53])) .ret
@[go_sem ↓] theorem a1K:a7 AL:=a8 _
def GI:PC:=.seq (.gh (.reg [.f 56 1 5,.r 57 56,.h 58 .geq 57 0,.v 59 58,.Y 60 59 (.f 1 5),.Y 61 59 (.r 60),.Y 62 59 (.v 7),.Y 63 59 (.b .mul qK (.t 62)),.Y 64 59 (.k .lss 61 63),.p 65 59 64,.v 6 65])) .ret
@[go_sem ↓] theorem aZJ:a7 GI:=a8 _
def G7:PC:=.seq (.gh (.reg [.n 69 3 3,.f 70 2 4,.r 71 70,.j 72 143 [v6,(.t 71)],.v 68 72,.y 73 68 0,.y 74 68 1,.A 9 #[(.string (mk [])),(.slice none 0 0),(.slice none 0 0)] 70,.w 3 9 73,.v 10 74])) (.seq (.S [.c 11 0] (.block 3 (.loop (.seq (.S [.v 75 11,.f 76 2 9,.r 77 76,.m 78 77,.k 79 .lss 75 78] (.C 79 .skip (.exit 3))) (.seq (.block 4 (.S [.f 82 2 9,.r 83 82,.v 84 11,.x 85 1 83 84,.r 86 85,.f 87 1 5,.r 88 87,.k 89 .eql 86 88] (.I 89 (.R [.T 6])))) (.reg [.v 80 11,.h 81 .add 80 1,.v 11 81])))))) (.R [.F 6]))
@[go_sem ↓] theorem aY3:a7 G7:=a8 _
def pcM99_6:PC:=.seq (.seq (.gh (.reg [.f 24 0 4,.r 25 24])) (.block 2 (.S [.h 27 .eql 25 1,.v 26 27] (.C 26 MQ (.S [.h 37 .eql 25 2,.v 36 37] (.C 36 AL (.S [.h 55 .eql 25 3,.v 54 55] (.C 54 GI (.S [.h 67 .eql 25 7,.v 66 67] (.I 66 G7)))))))))) (.R [.T 6])
@[go_sem ↓] theorem a3B:a7 pcM99_6:=a8 _
def aLS:PC:=.S [.z 3 25 0,.z 4 45 1,.z 5 29 2,.F 6] (.S [.c 7 1] (.seq (.S [.c 8 1] (.block 0 (.loop (.seq (.S [.v 12 8,.f 13 1 4,.r 14 13,.k 15 .lss 12 14,.v 16 15,.Y 17 16 (.v 8),.Y 18 16 (.h .lss 17 63),.p 19 16 18] (.C 19 .skip (.exit 0))) (.seq (.block 1 (.reg [.v 22 7,.b 23 .mul qK jO,.v 7 23])) (.reg [.v 20 8,.h 21 .add 20 1,.v 8 21])))))) pcM99_6))
def v8:List RV:=[.mv (.t 6)]
theorem a2R:aU Tryz.prog true ⟨fun _ _=>.own [],fun r=>[6,8,10,12,14].contains r⟩ Tryz.f99=some (aLS,v8):=by kernel_rfl
def wB (i:Nat):Int:=2 ^ (i-1)
theorem W6 {i:Nat} (h:1<=i):2*wB i=wB (i+1):=by
 unfold wB
 obtain ⟨j,rfl⟩:∃j,i=j+1:=⟨i-1,by omega⟩
 rw[UH,UH,aD0,Int.mul_comm]
theorem YS {i:Nat} (h:i<=63):1<=wB i/\wB i<=4611686018427387904:=by
 unfold wB
 have h1:(2:Nat) ^ (i-1)<=2 ^ 62:=DE (by decide) (by omega)
 have h2:1<=(2:Nat) ^ (i-1):=Nat.one_le_two_pow
 have e:((2:Int) ^ (i-1))=(((2:Nat) ^ (i-1):Nat):Int):=by rw[Int.natCast_pow];rfl
 rw[e]
 have:(2:Nat) ^ 62=4611686018427387904:=by decide
 omega
theorem va2 {ss:List St} {es:List En} {t:Ty} (h:valF ss es t=true) (hk:(t.k==2)=true):t.s=8\/t.s=16\/t.s=32\/t.s=64:=by
 obtain ⟨k,s,n,e⟩:=t
 have hk:k=2:=eq_of_beq hk
 subst hk
 rw[valF] at h
 simp at h
 show s=8\/s=16\/s=32\/s=64
 omega
theorem va3 {ss:List St} {es:List En} {t:Ty} (h:valF ss es t=true) (hk:(t.k==3)=true):t.s=8\/t.s=16\/t.s=32:=by
 obtain ⟨k,s,n,e⟩:=t
 have hk:k=3:=eq_of_beq hk
 subst hk
 rw[valF] at h
 simp at h
 show s=8\/s=16\/s=32
 omega
def vP (s:Sc) (t:Ty) (n:Int):Bool:=
 bif t.k==1 then n==0||n==1
 else bif t.k==2 then t.s==64||(decide (-(2 ^ (t.s.toNat-1):Int)<=n)&&decide (n<(2 ^ (t.s.toNat-1):Int)))
 else bif t.k==3 then decide (0<=n)&&decide (n<(2 ^ t.s.toNat:Int))
 else bif t.k==7 then (enOf s t).vs.any fun x=>x==n else true
theorem aG9:Meets Tryz.prog 99 (kK (fun s t _=>valF s.ss s.es t=true) fun s t v=>.bool (vP s t v.n)).sp:=by
 refine aF Tryz.func99 a2R 3 (by rw[Tryz.ntmps99];decide) (aE aYJ (aB _)) jM ?_
 intro av H K h
 obtain ⟨s,t,v,rfl,rfl,hs,ht,hv,hp,hK⟩:=gQ h
 clear h
 have fin:∀(b:Bool) (R:Hp),vP s t v.n=b->W.Fin 0 K (bS b) R:=fun b R h=>by
  rw[h] at hK;exact .z ((by simpa[go_sem] using hK))
 clear hK
 unfold vP at fin
 have hts:=ht.s
 have hts1:=hts.1
 have hts2:=hts.2
 have he:=aOR hs t
 have tail:∀i:Nat,i<=63->(i=1\/(i:Int)<=t.s)->(t.s<=(i:Int)\/i=63)->vc [(143,.s IG)] 0 pcM99_6.ungh
  (gY [(3,.va (.c1 (.pt 0 0))),(4,.va (.c1 (.pt 1 0))),(5,.va (.c1 (.pt 2 0))),(7,iS .i64 (wB i))]) [.cells [.vl (.int .i64 s.ver),.fz (s.es.map aV),.fz (s.ss.map aD)] 25,.cells [.vl (.int .i64 t.k),.vl (.int .i64 t.s),.vl (.string t.n),.fz (t.e.map aK)] 45,.cells [.vl (.int .i64 v.k),.vl (.int .i64 v.n),.vl (.string v.s),.fz (v.l.map aW),.fz (v.f.map bG)] 29] (pY 0 v8 K):=fun i hi2 hi3 hi4=>by
  have hb:=YS hi2
  have hsz:2<=t.s->t.s<=63->wB i=2 ^ (t.s.toNat-1)/\2*wB i=2 ^ t.s.toNat:=fun h1 h2=>by
   have e:i=t.s.toNat:=by omega
   refine ⟨by rw[e];rfl,?_⟩
   rw[W6 (by omega),e];rfl
  cases h1:t.k==1 with
  |true=>
   rw[h1,aQ] at fin
   cases n0:v.n==0<;>cases n1:v.n==1<;>rw[n0,n1] at fin <;>
   · simp(maxSteps:=9^6)-dsimp only[go_sem,pcM99_6,v8,h1]
     refine aH rfl (.done ?_)
     simp(maxSteps:=9^6)-dsimp only[go_sem,MQ,n0,n1]
     exact fin _ _ rfl
  |false=>
  cases h2:t.k==2 with
  |true=>
   rw[h1,h2,aI,aQ] at fin
   simp(maxSteps:=9^6)-dsimp only[go_sem,pcM99_6,v8,h1,h2]
   refine aH rfl (.done ?_)
   have hs:=va2 hp h2
   cases c64:t.s==64 with
   |true=>
    rw[c64,cR] at fin
    simp(maxSteps:=9^6)-dsimp only[go_sem,AL,c64]
    exact fin _ _ rfl
   |false=>
    have hne:t.s≠64:=by simpa using c64
    rw[c64,bK,<-(hsz (by omega) (by omega)).1] at fin
    generalize wB i=hh at *
    cases d1:decide (0-hh<=v.n)<;>cases d2:decide (v.n<hh) <;>
    · have d1':decide (-hh<=v.n)=decide (0-hh<=v.n):=by rw[Int.zero_sub]
      rw[d1',d1,d2] at fin
      simp(maxSteps:=9^6)-dsimp only[go_sem,AL,c64,d1,d2]
      exact ⟨⟨by omega,by omega⟩,fin _ _ rfl⟩
  |false=>
  cases h3:t.k==3 with
  |true=>
   rw[h1,h2,h3,aI,aI,aQ] at fin
   simp(maxSteps:=9^6)-dsimp only[go_sem,pcM99_6,v8,h1,h2,h3]
   refine aH rfl (.done ?_)
   have hs:=va3 hp h3
   have hb3:2*wB i<=4294967296:=by rw[(hsz (by omega) (by omega)).2];rcases hs with h|h|h<;>rw[h]<;>decide
   rw[<-(hsz (by omega) (by omega)).2] at fin
   generalize wB i=hh at *
   cases d1:decide (0<=v.n)<;>cases d2:decide (v.n<2*hh)<;>rw[d1,d2] at fin <;>
   · simp(maxSteps:=9^6)-dsimp only[go_sem,GI,d1,d2]
     first
      |exact fin _ _ rfl
      |exact ⟨⟨by omega,by omega⟩,fin _ _ rfl⟩
  |false=>
  cases h7:t.k==7 with
  |false=>
   rw[h1,h2,h3,h7,aI,aI,aI,aI] at fin
   simp(maxSteps:=9^6)-dsimp only[go_sem,pcM99_6,v8,h1,h2,h3,h7]
   exact fin _ _ rfl
  |true=>
   rw[h1,h2,h3,h7,aI,aI,aI,aQ] at fin
   simp(maxSteps:=9^6)-dsimp only[go_sem,pcM99_6,v8,h1,h2,h3,h7]
   refine aH rfl (.done ?_)
   simp(maxSteps:=9^6)-dsimp only[go_sem,G7]
   refine j9 hs ?_
   rw[show (cO s.es t.n).getD default=enOf s t from rfl]
   generalize enOf s t=e at *
   simp(maxSteps:=9^6)-dsimp only[go_sem,aV]
   have hel:=he.lv
   refine aO (α:=Nat) (fun i=>[(5,.va (.c1 (.pt 2 0))),(9,.va (.c1 (.pt 3 0))),(11,iS .i64 i)]) (fun _=>[.cells [.vl (.int .i64 s.ver),.fz (s.es.map aV),.fz (s.ss.map aD)] 25,.cells [.vl (.int .i64 t.k),.vl (.int .i64 t.s),.vl (.string t.n),.fz (t.e.map aK)] 45,.cells [.vl (.int .i64 v.k),.vl (.int .i64 v.n),.vl (.string v.s),.fz (v.l.map aW),.fz (v.f.map bG)] 29,.cells [.vl (.string e.nm),.fz (e.ns.map bH),.fz (e.vs.map cV)] 70])
    (fun i=>i<=e.vs.length/\((e.vs.drop i).any fun x=>x==v.n)=(e.vs.any fun x=>x==v.n)) (fun i=>e.vs.length-i) 0 4 ⟨aP _,rfl⟩ ?_ ?_ ?_
   · simp -dsimp only[go_sem]<;>simp
   · simp -dsimp only[go_sem]<;>simp
   rintro j ⟨hj,ho⟩
   rcases bB j e.vs.length with hlt|hge
   · have hg:decide ((j:Int)<(e.vs.length:Int))=true:=by simp;omega
     have hx:e.vs[j]? = some e.vs[j]:=aX hlt
     have q2:=aS (row:=cV) hx
     rw[cG hlt,List.any_cons] at ho
     generalize e.vs[j]=m at *
     cases hc:m==v.n with
     |true=>
      rw[hc,cR] at ho
      simp(maxSteps:=9^6)-dsimp only[go_sem,hg,↓q2,hc]
      exact ⟨⟨by omega,by omega⟩,fin _ _ ho.symm⟩
     |false=>
      rw[hc,bK] at ho
      simp(maxSteps:=9^6)-dsimp only[go_sem,hg,↓q2,hc]
      refine ⟨⟨by omega,by omega⟩,⟨by omega,by omega⟩,aC (j+1) 4 ⟨by omega,ho⟩ (by omega) ?_ ?_⟩
      · simp -dsimp only[go_sem]<;>simp
      · simp -dsimp only[go_sem]<;>simp
   · have hg:decide ((j:Int)<(e.vs.length:Int))=false:=by simp;omega
     have:e.vs.drop j=[]:=iD.2 (by omega)
     rw[this,List.any_nil] at ho
     simp(maxSteps:=9^6)-dsimp only[go_sem,hg]
     exact fin _ _ ho.symm
 simp(maxSteps:=9^6)-dsimp only[go_sem,aA,aY t,aJ v,aLS,v8]
 refine aO (α:=Nat) (fun i=>[(3,.va (.c1 (.pt 0 0))),(4,.va (.c1 (.pt 1 0))),(5,.va (.c1 (.pt 2 0))),(7,iS .i64 (wB i)),(8,iS .i64 i)]) (fun _=>[.cells [.vl (.int .i64 s.ver),.fz (s.es.map aV),.fz (s.ss.map aD)] 25,.cells [.vl (.int .i64 t.k),.vl (.int .i64 t.s),.vl (.string t.n),.fz (t.e.map aK)] 45,.cells [.vl (.int .i64 v.k),.vl (.int .i64 v.n),.vl (.string v.s),.fz (v.l.map aW),.fz (v.f.map bG)] 29])
  (fun i=>1<=i/\i<=63/\(i=1\/(i:Int)<=t.s)) (fun i=>63-i) 1 3 ⟨by omega,by omega,.inl rfl⟩ ?_ ?_ ?_
 · simp -dsimp only[go_sem]<;>simp[wB]
 · simp -dsimp only[go_sem]<;>simp
 rintro i ⟨hi1,hi2,hi3⟩
 have hb:=YS hi2
 cases hg:decide ((i:Int)<t.s)&&decide ((i:Int)<63) with
 |true=>
  obtain ⟨g1,g2⟩:decide ((i:Int)<t.s)=true/\decide ((i:Int)<63)=true:=by simpa only[bI] using hg
  have hsu:=W6 hi1
  have h1:=iO g1
  have h2:=iO g2
  have hb2:=YS (i:=i+1) (by omega)
  simp(maxSteps:=9^6)-dsimp only[go_sem,g1,g2]
  refine ⟨⟨by omega,by omega⟩,⟨by omega,by omega⟩,aC (i+1) 3 ⟨by omega,by omega,.inr (by omega)⟩ (by omega) ?_ ?_⟩
  · simp -dsimp only[go_sem,hsu]<;>simp
  · simp -dsimp only[go_sem]<;>simp
 |false=>
  have hg':(decide ((i:Int)<t.s)=false)\/(decide ((i:Int)<t.s)=true/\decide ((i:Int)<63)=false):=by
   cases h:decide ((i:Int)<t.s) with
   |false=>exact .inl rfl
   |true=>rw[h,bF] at hg;exact .inr ⟨rfl,hg⟩
  rcases hg' with g1|⟨g1,g2⟩
  · simp(maxSteps:=9^6)-dsimp only[go_sem,g1]
    refine bZ 3 (tail i hi2 hi3 (.inl (by have:=gL g1;omega))) ?_ ?_
    · simp -dsimp only[go_sem]<;>simp
    · simp -dsimp only[go_sem]<;>simp
  · simp(maxSteps:=9^6)-dsimp only[go_sem,g1,g2]
    refine bZ 3 (tail i hi2 hi3 (.inr (by have:=gL g2;omega))) ?_ ?_
    · simp -dsimp only[go_sem]<;>simp
    · simp -dsimp only[go_sem]<;>simp
def TT (t:Ty) (a b:Int):Bool:=(t.k==4&&decide (t.s<a))||(t.k==5&&decide (t.s<b))
mutual
def wD (s:Sc) (t:Ty):Vl->Int
 |.mk k n str l f=>bif !(mX s t (.mk k n str l f)) then 13 else bif !(vP s t n) then 4 else bif TT t (bl str).length l.length then 3
  else bif sJ s (t.e.headD default) l != 0 then sJ s (t.e.headD default) l else vT s (stOf s t) f
def sJ (s:Sc) (t:Ty):List Vl->Int
 |[]=>0
 |v::r=>bif wD s t v != 0 then wD s t v else sJ s t r
def vT (s:Sc) (u:St):List (Int×Vl)->Int
 |[]=>0
 | (i,v)::r=>bif wD s (n8 u i).ty v != 0 then wD s (n8 u i).ty v else vT s u r
end
theorem x5 {α:Type} {l:List α} (h:decide (0<(l.length:Int))=false):l=[]:=by
 have:=gL h
 exact List.length_eq_zero_iff.1 (by omega)
theorem aRF {s:Sc} {t:Ty} {n:Int} (hp:valF s.ss s.es t=true) (h4:(t.k==4)=false) (h5:(t.k==5)=false) (h6:(t.k==6)=false):vP s t n=jX s t n:=by
 unfold vP jX
 cases h1:t.k==1 with
 |true=>rfl
 |false=>
 cases h2:t.k==2 with
 |true=>rfl
 |false=>
 cases h3:t.k==3 with
 |true=>rfl
 |false=>
 cases h7:t.k==7 with
 |true=>rfl
 |false=>
  exfalso
  obtain ⟨k,sz,nm,e⟩:=t
  have h1:(k==1)=false:=h1
  have h2:(k==2)=false:=h2
  have h3:(k==3)=false:=h3
  have h4:(k==4)=false:=h4
  have h5:(k==5)=false:=h5
  have h6:(k==6)=false:=h6
  have h7:(k==7)=false:=h7
  rw[valF,h1,h2,h3,h4,h5,h6,h7] at hp
  cases hp
mutual
theorem RF (s:Sc) (t:Ty):∀v:Vl,wD s t v=gB s t v
 |.mk k n str l f=>by
  have hL:∀u,sJ s u l=qU s u l:=fun u=>ZY s u l
  have hE:vT s (stOf s t) f=qT s ((fS s.ss t.n).getD default).fs f:=aBD s (stOf s t) f
  rw[wD,gB,hL,hE]
  unfold mX
  cases hp:valF s.ss s.es t with
  |false=>rfl
  |true=>
  show (bif !(bif !true||k != t.k||JY (.mk k n str l f) then false else bif TP (.mk k n str l f) then false else bif k != 6 then true else eY (stOf s t).fs f) then 13 else _)=_
  cases hk:k != t.k with
  |true=>rfl
  |false=>
  have hk':k=t.k:=by simpa using hk
  subst hk'
  have eA:JY (.mk t.k n str l f)=((t.k != 4&&!(bl str==[]))||(t.k != 5&&decide (0<(l.length:Int)))||(t.k != 6&&decide (0<(f.length:Int)))):=rfl
  have eB:TP (.mk t.k n str l f)=((t.k==4||t.k==5||t.k==6)&&n != 0):=rfl
  rw[eA,eB]
  unfold TT
  cases h4:t.k==4 with
  |true=>
   have e4:t.k=4:=eq_of_beq h4
   have er:vP s t n=true:=by unfold vP;rw[e4];rfl
   rw[er,e4]
   unfold zT
   cases hn:n != 0<;>cases hl:decide (0<(l.length:Int))<;>cases hf:decide (0<(f.length:Int))<;>cases hs:decide (t.s<((bl str).length:Int))<;>(try rw[x5 hl])<;>(try rw[x5 hf])<;>simp[qU,qT]
  |false=>
  cases h5:t.k==5 with
  |true=>
   have e5:t.k=5:=eq_of_beq h5
   have er:vP s t n=true:=by unfold vP;rw[e5];rfl
   rw[er,e5]
   generalize qU s (t.e.headD default) l=q
   have hq:(bif q != 0 then q else 0)=q:=by
    cases hz:q != 0 with
    |true=>rfl
    |false=>
     have hq0:q=0:=by simpa using hz
     rw[hq0];rfl
   cases hn:n != 0<;>cases hb:bl str==[]<;>cases hf:decide (0<(f.length:Int))<;>cases hs:decide (t.s<(l.length:Int))<;>(try rw[x5 hf])<;>simp[qT,hq]
  |false=>
  cases h6:t.k==6 with
  |true=>
   have e6:t.k=6:=eq_of_beq h6
   have er:vP s t n=true:=by unfold vP;rw[e6];rfl
   have ef:(stOf s t).fs=((fS s.ss t.n).getD default).fs:=rfl
   rw[er,e6,ef]
   cases hn:n != 0<;>cases hb:bl str==[]<;>cases hl:decide (0<(l.length:Int))<;>cases hs:eY ((fS s.ss t.n).getD default).fs f<;>(try rw[x5 hl])<;>simp[qU]
  |false=>
   rw[aRF hp h4 h5 h6]
   have c4:(t.k != 4)=true:=by rw[bne,h4];rfl
   have c5:(t.k != 5)=true:=by rw[bne,h5];rfl
   have c6:(t.k != 6)=true:=by rw[bne,h6];rfl
   rw[c4,c5,c6]
   unfold BF
   cases hb:bl str==[]<;>cases hl:decide (0<(l.length:Int))<;>cases hf:decide (0<(f.length:Int))<;>cases hr:jX s t n<;>(try rw[x5 hl])<;>(try rw[x5 hf])<;>simp[qU,qT]
theorem ZY (s:Sc) (t:Ty):∀l:List Vl,sJ s t l=qU s t l
 |[]=>by rw[sJ,qU]
 |v::r=>by rw[sJ,qU,RF s t v,ZY s t r]
theorem aBD (s:Sc) (u:St):∀l:List (Int×Vl),vT s u l=qT s u.fs l
 |[]=>by rw[vT,qT]
 | (i,v)::r=>by
  rw[vT,qT,RF s (n8 u i).ty v,aBD s u r];rfl
end
theorem aOK (s:Sc) (t:Ty) (v:Vl):wD s t v=bif !(mX s t v) then 13 else bif !(vP s t v.n) then 4 else bif TT t (bl v.s).length v.l.length then 3
 else bif sJ s (t.e.headD default) v.l != 0 then sJ s (t.e.headD default) v.l else vT s (stOf s t) v.f:=by cases v;rw[wD];rfl
theorem VN:∀N,Meets Tryz.prog 57 (kK (FS N) fun s t v=>.int .i64 (wD s t v)).sp
 |0=>⟨by kernel_rfl,by rintro xs vs E ro w K _ _ _ h;obtain ⟨_,_,v,_,_,_,_,_,h,_⟩:=gQ h;have:=v.h_pos;have h:v.h<=0:=h;omega⟩
 |N+1=>by
  refine aF Tryz.func57 a01 3 (by rw[Tryz.ntmps57];decide) (aG aP4 (aG aG9 (aG (VN N) (aE SL (aE WC (aB _)))))) jM ?_
  intro av H K h
  obtain ⟨s,t,v,rfl,rfl,hs,ht,hv,hh,hK⟩:=gQ h
  clear h
  have hh:v.h<=N+1:=hh
  have fin:∀(z:Int) (R:Hp),wD s t v=z->W.Fin 0 K (iS .i64 z) R:=fun z R h=>by
   have hK:K (iS .i64 (wD s t v)) []:=hK
   rw[h] at hK;exact .z ((by simpa[go_sem] using hK))
  clear hK
  rw[aOK] at fin
  have k1:=dE hv
  have k2:=fV v
  have k4:=iL ht
  have k5:=n7 t
  have k6:=fZ hs
  have k7:=kL s
  cases h1:mX s t v with
  |false=>
   rw[h1] at fin
   simp(maxSteps:=9^6)-dsimp only[go_sem,aA,aY t,aJ v,YZ,H6,k1,k2,k4,k5,k6,k7,h1]
   exact fin 13 _ rfl
  |true=>
  have hp:valF s.ss s.es t=true:=by
   cases hp:valF s.ss s.es t with
   |true=>rfl
   |false=>unfold mX at h1;rw[hp] at h1;cases h1
  rw[h1] at fin
  simp(maxSteps:=9^6)-dsimp only[go_sem,aA,aY t,aJ v,YZ,H6,k1,k2,k4,k5,k6,k7,h1]
  refine aH rfl (.done ?_)
  cases h2:vP s t v.n with
  |false=>
   rw[h2] at fin
   simp(maxSteps:=9^6)-dsimp only[go_sem,EY,k1,k2,k4,k5,k6,k7,hp,h2]
   exact fin 4 _ rfl
  |true=>
  rw[h2] at fin
  simp(maxSteps:=9^6)-dsimp only[go_sem,EY,k1,k2,k4,k5,k6,k7,hp,h2]
  refine aH rfl (.done ?_)
  simp only[bN,aI] at fin
  have hne:0<v.l.length->∃u,t.e=[u]/\TyOk u:=fun hl=>by
   have hk5:v.k=5:=by
    cases h5:v.k != 5 with
    |false=>simpa using h5
    |true=>
     unfold mX JY at h1
     rw[h5,eE (show (0:Int)<(v.l.length:Int) by omega)] at h1
     simp at h1
   have hkt:v.k=t.k:=by
    cases hkt:v.k != t.k with
    |false=>simpa using hkt
    |true=>unfold mX at h1;rw[hkt] at h1;simp at h1
   obtain ⟨u,he,_⟩:=GU hp (by rw[<-hkt,hk5];rfl)
   exact ⟨u,he,ht.e u (by rw[he];simp)⟩
  have tail:(∀(z:Int) (R:Hp),(bif sJ s (t.e.headD default) v.l != 0 then sJ s (t.e.headD default) v.l else vT s (stOf s t) v.f)=z->W.Fin 0 K (iS .i64 z) R)->vc [(98,.f (kK (fun _ _ _=>True) fun s t v=>.bool (mX s t v))),(99,.f (kK (fun s t _=>valF s.ss s.es t=true) fun s t v=>.bool (vP s t v.n))),(57,.f (kK (FS N) fun s t v=>.int .i64 (wD s t v))),(100,.s zU),(101,.s wY)] 0 pcM57_7.ungh
   (gY [(3,.va (.c1 (.pt 0 0))),(4,.va (.c1 (.pt 1 0))),(5,.va (.c1 (.pt 2 0)))]) [.cells [.vl (.int .i64 s.ver),.fz (s.es.map aV),.fz (s.ss.map aD)] 25,.cells [.vl (.int .i64 t.k),.vl (.int .i64 t.s),.vl (.string t.n),.fz (t.e.map aK)] 45,.cells [.vl (.int .i64 v.k),.vl (.int .i64 v.n),.vl (.string v.s),.fz (v.l.map aW),.fz (v.f.map bG)] 29] (pY 0 H6 K):=fun fin=>by
   have hll:=hv.ll
   simp(maxSteps:=9^6)-dsimp only[go_sem,pcM57_7,H6]
   refine aO (α:=Nat) (fun i=>[(3,.va (.c1 (.pt 0 0))),(4,.va (.c1 (.pt 1 0))),(5,.va (.c1 (.pt 2 0))),(7,iS .i64 i)]) (fun _=>[.cells [.vl (.int .i64 s.ver),.fz (s.es.map aV),.fz (s.ss.map aD)] 25,.cells [.vl (.int .i64 t.k),.vl (.int .i64 t.s),.vl (.string t.n),.fz (t.e.map aK)] 45,.cells [.vl (.int .i64 v.k),.vl (.int .i64 v.n),.vl (.string v.s),.fz (v.l.map aW),.fz (v.f.map bG)] 29])
    (fun i=>i<=v.l.length/\(bif sJ s (t.e.headD default) (v.l.drop i) != 0 then sJ s (t.e.headD default) (v.l.drop i) else vT s (stOf s t) v.f)=(bif sJ s (t.e.headD default) v.l != 0 then sJ s (t.e.headD default) v.l else vT s (stOf s t) v.f)) (fun i=>v.l.length-i) 0 3 ⟨aP _,rfl⟩ ?_ ?_ ?_
   · simp -dsimp only[go_sem]<;>simp
   · simp -dsimp only[go_sem]<;>simp
   rintro i ⟨hi,ho⟩
   rcases bB i v.l.length with hlt|hge
   · have hg:decide ((i:Int)<(v.l.length:Int))=true:=by simp;omega
     have hx:v.l[i]? = some v.l[i]:=aX hlt
     have q2:=aS (row:=aW) hx
     obtain ⟨u,he,hu⟩:=hne (by omega)
     rw[he,y9] at ho
     rw[cG hlt,sJ] at ho
     have hxo:=hv.l _ (eM hlt)
     have hxh:=Vl.h_l (eM hlt)
     generalize v.l[i]=x at *
     have j1:=dE hxo
     have j2:=fV x
     have j4:=iL hu
     have j5:=n7 u
     have j8:FS N s u x:=show x.h<=N by omega
     have z0:(0:Int)<((1:Nat):Int):=by decide
     have z1:(0:Int)<=0:=by decide
     cases hz:wD s u x != 0 with
     |true=>
      rw[hz,aQ,hz,aQ] at ho
      simp(maxSteps:=9^6)-dsimp only[go_sem,hg,↓q2,he,aY u,aJ x,forall_eq',z0,z1,bP,dZ,eG,eH,j1,j2,j4,j5,j8,k6,k7,hz]
      exact ⟨⟨by omega,by omega⟩,fin _ _ (by rw[he];exact ho.symm)⟩
     |false=>
      rw[hz,aI] at ho
      simp(maxSteps:=9^6)-dsimp only[go_sem,hg,↓q2,he,aY u,aJ x,forall_eq',z0,z1,bP,dZ,eG,eH,j1,j2,j4,j5,j8,k6,k7,hz]
      refine ⟨⟨by omega,by omega⟩,⟨by omega,by omega⟩,aC (i+1) 3 ⟨by omega,by rw[he];exact ho⟩ (by omega) ?_ ?_⟩
      · simp -dsimp only[go_sem]<;>simp
      · simp -dsimp only[go_sem]<;>simp[he,aY u]
   · have hg:decide ((i:Int)<(v.l.length:Int))=false:=by simp;omega
     have:v.l.drop i=[]:=iD.2 (by omega)
     rw[this,sJ] at ho
     have ho:vT s (stOf s t) v.f=_:=ho
     rw[<-ho] at fin
     simp(maxSteps:=9^6)-dsimp only[go_sem,hg]
     refine aH rfl (.done ?_)
     simp(maxSteps:=9^6)-dsimp only[go_sem,GT]
     refine dJ hs ?_
     rw[show (fS s.ss t.n).getD default=stOf s t from rfl]
     have hwo:=pQ hs t
     have hws:=aEY hs t
     generalize stOf s t=w at *
     have hlf:=hv.lf
     simp(maxSteps:=9^6)-dsimp only[go_sem,aD]
     refine aH rfl (.done ?_)
     simp(maxSteps:=9^6)-dsimp only[go_sem,GS]
     clear ho this hg hge hi
     refine aO (α:=Nat) (fun i=>[(3,.va (.c1 (.pt 0 0))),(5,.va (.c1 (.pt 2 0))),(9,.va (.c1 (.pt 3 0))),(11,iS .i64 i)]) (fun _=>[.cells [.vl (.int .i64 s.ver),.fz (s.es.map aV),.fz (s.ss.map aD)] 25,.cells [.vl (.int .i64 t.k),.vl (.int .i64 t.s),.vl (.string t.n),.fz (t.e.map aK)] 45,.cells [.vl (.int .i64 v.k),.vl (.int .i64 v.n),.vl (.string v.s),.fz (v.l.map aW),.fz (v.f.map bG)] 29,.cells [.vl (.string w.nm),.fz (w.fs.map aN)] 50])
      (fun i=>i<=v.f.length/\vT s w (v.f.drop i)=vT s w v.f) (fun i=>v.f.length-i) 0 4 ⟨aP _,rfl⟩ ?_ ?_ ?_
     · simp -dsimp only[go_sem]<;>simp
     · simp -dsimp only[go_sem]<;>simp
     rintro j ⟨hj,ho⟩
     rcases bB j v.f.length with hlt|hge
     · have hg:decide ((j:Int)<(v.f.length:Int))=true:=by simp;omega
       have hx:v.f[j]? = some v.f[j]:=aX hlt
       have q2:=kZ hx
       rw[cG hlt] at ho
       have hxo:=hv.f _ (eM hlt)
       have hxh:=Vl.h_f (eM hlt)
       generalize v.f[j]=x at *
       obtain ⟨n,x⟩:=x
       rw[vT] at ho
       have hdo:=aN3 hwo n
       simp only at hxo hxh q2
       have j1:=dE hxo
       have j2:=fV x
       have j8:∀d:Ty,FS N s d x:=fun d=>show x.h<=N by omega
       simp(maxSteps:=9^6)-dsimp only[go_sem,hg,↓q2]
       refine ⟨⟨by omega,by omega⟩,RM hwo hws ?_⟩
       generalize n8 w n=d at *
       have j4:=iL hdo.ty
       have j5:=n7 d.ty
       have j8:=j8 d.ty
       simp(maxSteps:=9^6)-dsimp only[go_sem,aN]
       refine aH rfl (.done ?_)
       cases hz:wD s d.ty x != 0 with
       |true=>
        rw[hz,aQ] at ho
        simp(maxSteps:=9^6)-dsimp only[go_sem,zX,↓q2,j1,j2,j4,j5,j8,k6,k7,eG,eH,bP,dZ]
        refine ⟨⟨by omega,by omega⟩,aH rfl (.done ?_)⟩
        simp(maxSteps:=9^6)-dsimp only[go_sem,zO,hz]
        exact fin _ _ ho.symm
       |false=>
        rw[hz,aI] at ho
        simp(maxSteps:=9^6)-dsimp only[go_sem,zX,↓q2,j1,j2,j4,j5,j8,k6,k7,eG,eH,bP,dZ]
        refine ⟨⟨by omega,by omega⟩,aH rfl (.done ?_)⟩
        simp(maxSteps:=9^6)-dsimp only[go_sem,zO,hz]
        refine ⟨⟨by omega,by omega⟩,aC (j+1) 4 ⟨by omega,ho⟩ (by omega) ?_ ?_⟩
        · simp -dsimp only[go_sem]<;>simp
        · simp -dsimp only[go_sem]<;>simp
     · have hg:decide ((j:Int)<(v.f.length:Int))=false:=by simp;omega
       have:v.f.drop j=[]:=iD.2 (by omega)
       rw[this,vT] at ho
       simp(maxSteps:=9^6)-dsimp only[go_sem,hg]
       exact fin _ _ ho.symm
  have hA:∀b:Bool,TT t (bl v.s).length v.l.length=b->((t.k==4&&decide (t.s<((bl v.s).length:Int)))||(t.k==5&&decide (t.s<(v.l.length:Int))))=b:=fun b h=>h
  cases h3:TT t (bl v.s).length v.l.length with
  |true=>
   have hA:=hA true h3
   rw[h3,aQ] at fin
   cases a1:t.k==4<;>cases a2:decide (t.s<((bl v.s).length:Int))<;>cases a3:t.k==5<;>cases a4:decide (t.s<(v.l.length:Int)) <;>
   first
    | (exfalso;rw[a1,a2,a3,a4] at hA;exact absurd hA (by decide))
    | (simp(maxSteps:=9^6)-dsimp only[go_sem,EO,a1,a2,a3,a4,bL,bF,dF]
       exact fin 3 _ rfl)
  |false=>
   have hA:=hA false h3
   rw[h3,aI] at fin
   cases a1:t.k==4<;>cases a2:decide (t.s<((bl v.s).length:Int))<;>cases a3:t.k==5<;>cases a4:decide (t.s<(v.l.length:Int)) <;>
   first
    | (exfalso;rw[a1,a2,a3,a4] at hA;exact absurd hA (by decide))
    | (simp(maxSteps:=9^6)-dsimp only[go_sem,EO,a1,a2,a3,a4,bF,dF]
       refine bZ 3 (tail fin) ?_ ?_
       · simp -dsimp only[go_sem]<;>simp
       · simp -dsimp only[go_sem]<;>simp)
mutual
def eU:Vl->Int
 |.mk k n s l f=>bif uU (.mk k n s l f) then 0 else 1+nW (kR 0 l) f
def kR (d:Int):List Vl->Int
 |[]=>d
 |v::r=>kR (max d (eU v)) r
def nW (d:Int):List (Int×Vl)->Int
 |[]=>d
 | (_,v)::r=>nW (max d (eU v)) r
end
theorem aBB (v:Vl):eU v=bif uU v then 0 else 1+nW (kR 0 v.l) v.f:=by cases v;rw[eU];rfl
theorem QS {g:Vl->Int} {n:Nat} (hg:∀x,g x=min (eU x) n) (D:Int) (x:Vl):sY g ((n:Int)-1) (min D n) x=min (max D (eU x)) n:=by
 unfold sY
 rw[hg x]
 cases h:decide (min D (n:Int)<=(n:Int)-1) with
 |true=>have:=iO h;rw[aQ];omega
 |false=>have:=gL h;rw[aI];omega
theorem aH8 {g:Vl->Int} {n:Nat} (hg:∀x,g x=min (eU x) n):∀(l:List Vl) (D:Int),l.foldl (sY g ((n:Int)-1)) (min D n)=min (kR D l) n
 |[],D=>by rw[kR];rfl
 |x::l,D=>by rw[sI,QS hg,aH8 hg l,kR]
theorem aJ9 {g:Vl->Int} {n:Nat} (hg:∀x,g x=min (eU x) n):∀(l:List (Int×Vl)) (D:Int),l.foldl (x9 g ((n:Int)-1)) (min D n)=min (nW D l) n
 |[],D=>by rw[nW];rfl
 | (i,x)::l,D=>by
  rw[sI,show x9 g ((n:Int)-1) (min D n) (i,x)=sY g ((n:Int)-1) (min D n) x from rfl,QS hg,aJ9 hg l,nW]
theorem aLK {g:Vl->Int} {n:Nat} (hg:∀x,g x=min (eU x) n) (v:Vl):TI g ((n:Int)-1) v=min (eU v) ((n:Int)+1):=by
 unfold TI
 rw[aBB]
 cases uU v with
 |true=>rw[aQ,aQ];omega
 |false=>
  rw[aI,aI]
  have h1:=aH8 hg v.l 0
  rw[show min (0:Int) (n:Int)=0 by omega] at h1
  rw[h1,aJ9 hg v.f]
  omega
mutual
theorem aNN:∀v:Vl,0<=eU v
 |.mk k n s l f=>by
  rw[eU]
  have h1:=yG l 0
  have h2:=xR f (kR 0 l)
  cases uU (.mk k n s l f) with
  |true=>exact iC _
  |false=>rw[aI];omega
theorem yG:∀(l:List Vl) (d:Int),d<=kR d l
 |[],d=>by rw[kR];exact iC _
 |v::r,d=>by
  rw[kR]
  have:=yG r (max d (eU v))
  omega
theorem xR:∀(l:List (Int×Vl)) (d:Int),d<=nW d l
 |[],d=>by rw[nW];exact iC _
 | (_,v)::r,d=>by
  rw[nW]
  have:=xR r (max d (eU v))
  omega
end
theorem WT:∀(n:Nat) (x:Vl),mU n x=min (eU x) n
 |0,x=>by have:=aNN x;show (0:Int)=min (eU x) 0;omega
 |n+1,x=>by
  rw[mU,IY,aLK (WT n) x]
  omega
theorem aNX (n:Nat) (v:Vl):B5 n v=min (eU v) ((n:Int)+1):=by rw[IY,aLK (WT n) v]
theorem VS (v:Vl):decide (6<B5 7 v)=decide (6<eU v):=by
 rw[aNX]
 rw[fH,decide_eq_true_iff,decide_eq_true_iff]
 omega
def pcL56_3:PC:=.seq (.gh (.reg [.c 3 0])) (.seq (.S [.c 4 0] (.block 0 (.loop (.seq (.S [.v 28 4,.f 29 3 1,.r 30 29,.m 31 30,.k 32 .lss 28 31] (.C 32 .skip (.exit 0))) (.seq (.block 1 (.S [.f 35 3 1,.r 36 35,.v 37 4,.x 38 5 36 37,.n 39 5 38,.u 40 56 [kY],.v 5 40] (.S [.v 41 5,.v 42 3,.k 43 .gtr 41 42] (.I 43 (.reg [.v 44 5,.v 3 44]))))) (.reg [.v 33 4,.h 34 .add 33 1,.v 4 34])))))) (.seq (.S [.c 6 0] (.block 2 (.loop (.seq (.S [.v 45 6,.f 46 4 1,.r 47 46,.m 48 47,.k 49 .lss 45 48] (.C 49 .skip (.exit 2))) (.seq (.block 3 (.S [.f 52 4 1,.r 53 52,.v 54 6,.x 55 6 53 54,.f 56 1 55,.n 57 5 56,.u 58 56 [A9],.v 7 58] (.S [.v 59 7,.v 60 3,.k 61 .gtr 59 60] (.I 61 (.reg [.v 62 7,.v 3 62]))))) (.reg [.v 50 6,.h 51 .add 50 1,.v 6 51])))))) (.R [.v 63 3,.h 64 .add 63 1,.v 2 64])))
@[go_sem ↓] theorem a4U:a7 pcL56_3:=a8 _
def YY:PC:=.S [.z 1 29 0,.c 2 0] (.seq (.S [.f 8 0 1,.r 9 8,.h 10 .neq 9 5,.v 11 10,.Y 12 11 (.f 0 1),.Y 13 11 (.r 12),.Y 14 11 (.h .neq 13 6),.p 15 11 14,.v 16 15,.Y 17 16 (.f 3 1),.Y 18 16 (.r 17),.Y 19 16 (.m 18),.Y 20 16 (.h .eql 19 0),.p 21 16 20,.v 22 21,.Y 23 22 (.f 4 1),.Y 24 22 (.r 23),.Y 25 22 (.m 24),.Y 26 22 (.h .eql 25 0),.p 27 22 26] (.I 27 (.R [.c 2 0]))) pcL56_3)
def IZ:List RV:=[.mv (.t 2)]
theorem a1B:aU Tryz.prog true ⟨fun r k=>if r=7/\k=5 then .q else if r=13/\k=6 then .q else .own [],fun r=>[3].contains r⟩ Tryz.f56=some (YY,IZ):=by kernel_rfl
mutual
theorem Y2:∀v:Vl,eU v<=v.h
 |.mk k n s l f=>by
  rw[eU,Vl.h]
  have h1:=aK1 l 0
  have h2:=aKD f (kR 0 l)
  cases uU (.mk k n s l f) with
  |true=>rw[aQ];omega
  |false=>rw[aI];omega
theorem aK1:∀(l:List Vl) (d:Int),kR d l<=max d (Vl.hl l)
 |[],d=>by rw[kR,Vl.hl];omega
 |v::r,d=>by
  rw[kR,Vl.hl]
  have h1:=Y2 v
  have h2:=aK1 r (max d (eU v))
  omega
theorem aKD:∀(l:List (Int×Vl)) (d:Int),nW d l<=max d (Vl.hf l)
 |[],d=>by rw[nW,Vl.hf];omega
 | (i,v)::r,d=>by
  rw[nW,Vl.hf]
  have h1:=Y2 v
  have h2:=aKD r (max d (eU v))
  omega
end
def PP (N:Nat):List S->Prop:=fun av=>match av with
 |[.va (.gs r)]=>qH r/\(C.vv r).h<=N/\N<=1000000
 |_=>False
theorem tO {N:Nat} {av:List S} (h:PP N av):∃v,av=[.va (.gs (aW v))]/\VlOk v/\v.h<=N/\N<=1000000:=by
 unfold PP at h
 split at h
 · obtain ⟨⟨v,rfl,hv⟩,h1,h2⟩:=h;rw[jL] at h1;exact ⟨v,rfl,hv,h1,h2⟩
 · exact h.elim
noncomputable def aIC:List S->A:=fun av=>match av with
 |[.va (.gs r)]=>iA .i64 (eU (C.vv r))
 |_=>.gs []
noncomputable def ZF (N:Nat):Fun:=⟨PP N,aIC,fun av h=>by obtain ⟨_,rfl,_⟩:=tO h;trivial⟩
attribute [go_sem] ZF PP aIC
theorem RG:∀N,Meets Tryz.prog 56 (ZF N).sp
 |0=>⟨by kernel_rfl,by rintro xs vs E ro w K _ _ _ ⟨⟨h,_⟩,_⟩;obtain ⟨v,_,_,h,_⟩:=tO h;have:=v.h_pos;omega⟩
 |N+1=>by
  refine aF Tryz.func56 a1B 1 (by rw[Tryz.ntmps56];decide) (aG (RG N) (aB _)) (fun av H K h=>by obtain ⟨_,rfl,_⟩:=tO h.1.1;rfl) ?_
  rintro av H K ⟨⟨h,rfl⟩,hK⟩
  obtain ⟨v,rfl,hv,hh,hN⟩:=tO h
  have hK:K (iS .i64 (eU v)) []:=by
   have:(ZF (N+1)).val [.va (.gs (aW v))]=iA .i64 (eU v):=by show iA .i64 (eU (C.vv (aW v)))=_;rw[jL]
   rw[this] at hK;exact hK
  have fin:∀(z:Int) (R:Hp),eU v=z->W.Fin 0 K (iS .i64 z) R:=fun z R h=>by
   rw[h] at hK;exact .z ((by simpa[go_sem] using hK))
  clear hK h
  have hvh:=Y2 v
  rw[aBB] at fin hvh
  have hll:=hv.ll
  have hlf:=hv.lf
  have hs:∀b:Bool,uU v=b->((v.k != 5)&&(v.k != 6)&&((v.l.length:Int)==0)&&((v.f.length:Int)==0))=b:=fun b h=>h
  have tail:(∀(z:Int) (R:Hp),1+nW (kR 0 v.l) v.f=z->W.Fin 0 K (iS .i64 z) R)->1+nW (kR 0 v.l) v.f<=1000001->vc [(56,.f (ZF N))] 0 pcL56_3.ungh (gY [(1,.va (.c1 (.pt 0 0)))]) [.cells [.vl (.int .i64 v.k),.vl (.int .i64 v.n),.vl (.string v.s),.fz (v.l.map aW),.fz (v.f.map bG)] 29] (pY 0 IZ K):=fun fin hb=>by
   simp(maxSteps:=9^6)-dsimp only[go_sem,pcL56_3,IZ]
   refine aO (α:=Nat×Int) (fun x=>[(1,.va (.c1 (.pt 0 0))),(3,iS .i64 x.2),(4,iS .i64 x.1)]) (fun _=>[.cells [.vl (.int .i64 v.k),.vl (.int .i64 v.n),.vl (.string v.s),.fz (v.l.map aW),.fz (v.f.map bG)] 29])
    (fun x=>x.1<=v.l.length/\kR x.2 (v.l.drop x.1)=kR 0 v.l) (fun x=>v.l.length-x.1) (0,0) 1 ⟨aP _,rfl⟩ ?_ ?_ ?_
   · simp -dsimp only[go_sem]<;>simp
   · simp -dsimp only[go_sem]<;>simp
   rintro ⟨i,m⟩ ⟨hi,ho⟩
   simp only at hi ho
   rcases bB i v.l.length with hlt|hge
   · have hg:decide ((i:Int)<(v.l.length:Int))=true:=by simp;omega
     have hx:v.l[i]? = some v.l[i]:=aX hlt
     have q2:=aS (row:=aW) hx
     rw[cG hlt,kR] at ho
     have hxo:=hv.l _ (eM hlt)
     have hxh:=Vl.h_l (eM hlt)
     generalize v.l[i]=x at *
     have j1:=dE hxo
     have j2:=fV x
     have j3:(x.h<=N)=True:=eq_true (by omega)
     have j4:(N<=1000000)=True:=eq_true (by omega)
     cases hz:decide (m<eU x) with
     |true=>
      have:=iO hz
      rw[show max m (eU x)=eU x by omega] at ho
      simp(maxSteps:=9^6)-dsimp only[go_sem,hg,↓q2,aJ x,eG,eH,bP,dZ,j1,j2,j3,j4,hz]
      refine ⟨⟨by omega,by omega⟩,⟨by omega,by omega⟩,aC (i+1,eU x) 1 ⟨by simp only;omega,ho⟩ (by simp only;omega) ?_ ?_⟩
      · simp -dsimp only[go_sem]<;>simp
      · simp -dsimp only[go_sem]<;>simp
     |false=>
      have:=gL hz
      rw[show max m (eU x)=m by omega] at ho
      simp(maxSteps:=9^6)-dsimp only[go_sem,hg,↓q2,aJ x,eG,eH,bP,dZ,j1,j2,j3,j4,hz]
      refine ⟨⟨by omega,by omega⟩,⟨by omega,by omega⟩,aC (i+1,m) 1 ⟨by simp only;omega,ho⟩ (by simp only;omega) ?_ ?_⟩
      · simp -dsimp only[go_sem]<;>simp
      · simp -dsimp only[go_sem]<;>simp
   · have hg:decide ((i:Int)<(v.l.length:Int))=false:=by simp;omega
     have:v.l.drop i=[]:=iD.2 (by omega)
     rw[this,kR] at ho
     simp(maxSteps:=9^6)-dsimp only[go_sem,hg]
     clear hg this hi hge
     subst ho
     refine aO (α:=Nat×Int) (fun x=>[(1,.va (.c1 (.pt 0 0))),(3,iS .i64 x.2),(6,iS .i64 x.1)]) (fun _=>[.cells [.vl (.int .i64 v.k),.vl (.int .i64 v.n),.vl (.string v.s),.fz (v.l.map aW),.fz (v.f.map bG)] 29])
      (fun x=>x.1<=v.f.length/\nW x.2 (v.f.drop x.1)=nW (kR 0 v.l) v.f) (fun x=>v.f.length-x.1) (0,kR 0 v.l) 1 ⟨aP _,rfl⟩ ?_ ?_ ?_
     · simp -dsimp only[go_sem]<;>simp
     · simp -dsimp only[go_sem]<;>simp
     rintro ⟨j,m⟩ ⟨hj,ho⟩
     simp only at hj ho
     rcases bB j v.f.length with hlt|hge
     · have hg:decide ((j:Int)<(v.f.length:Int))=true:=by simp;omega
       have hx:v.f[j]? = some v.f[j]:=aX hlt
       have q2:=kZ hx
       rw[cG hlt] at ho
       have hxo:=hv.f _ (eM hlt)
       have hxh:=Vl.h_f (eM hlt)
       generalize v.f[j]=x at *
       obtain ⟨n,x⟩:=x
       rw[nW] at ho
       simp only at hxo hxh q2
       have j1:=dE hxo
       have j2:=fV x
       have j3:(x.h<=N)=True:=eq_true (by omega)
       have j4:(N<=1000000)=True:=eq_true (by omega)
       cases hz:decide (m<eU x) with
       |true=>
        have:=iO hz
        rw[show max m (eU x)=eU x by omega] at ho
        simp(maxSteps:=9^6)-dsimp only[go_sem,hg,↓q2,eG,eH,bP,dZ,j1,j2,j3,j4,hz]
        refine ⟨⟨by omega,by omega⟩,⟨by omega,by omega⟩,aC (j+1,eU x) 1 ⟨by simp only;omega,ho⟩ (by simp only;omega) ?_ ?_⟩
        · simp -dsimp only[go_sem]<;>simp
        · simp -dsimp only[go_sem]<;>simp
       |false=>
        have:=gL hz
        rw[show max m (eU x)=m by omega] at ho
        simp(maxSteps:=9^6)-dsimp only[go_sem,hg,↓q2,eG,eH,bP,dZ,j1,j2,j3,j4,hz]
        refine ⟨⟨by omega,by omega⟩,⟨by omega,by omega⟩,aC (j+1,m) 1 ⟨by simp only;omega,ho⟩ (by simp only;omega) ?_ ?_⟩
        · simp -dsimp only[go_sem]<;>simp
        · simp -dsimp only[go_sem]<;>simp
     · have hg:decide ((j:Int)<(v.f.length:Int))=false:=by simp;omega
       have:v.f.drop j=[]:=iD.2 (by omega)
       rw[this,nW] at ho
       have hm0:0<=nW (kR 0 v.l) v.f:=Int.le_trans (yG v.l 0) (xR v.f _)
       simp(maxSteps:=9^6)-dsimp only[go_sem,hg]
       exact ⟨⟨by omega,by omega⟩,fin _ _ (by omega)⟩
  cases h0:uU v with
  |true=>
   have hs:=hs true h0
   rw[h0,aQ] at fin
   simp only[bI] at hs
   obtain ⟨⟨⟨a1,a2⟩,a3⟩,a4⟩:=hs
   simp(maxSteps:=9^6)-dsimp only[go_sem,aJ v,YY,IZ,a1,a2,a3,a4]
   exact fin 0 _ rfl
  |false=>
   have hs:=hs false h0
   rw[h0,aI] at fin hvh
   cases a1:v.k != 5<;>cases a2:v.k != 6<;>cases a3:(v.l.length:Int)==0<;>cases a4:(v.f.length:Int)==0 <;>
   first
    | (exfalso;rw[a1,a2,a3,a4] at hs;exact absurd hs (by decide))
    | (simp(maxSteps:=9^6)-dsimp only[go_sem,aJ v,YY,IZ,a1,a2,a3,a4]
       refine bZ 1 (tail fin (by omega)) ?_ ?_
       · simp -dsimp only[go_sem]<;>simp
       · simp -dsimp only[go_sem]<;>simp)
theorem aOE (N:Nat) (hN:N<=1000000):Meets Tryz.prog 21 (kK (FS N) fun s t v=>.int .i64 (lN s t v)).sp:=by
 refine aF Tryz.func21 a7M 3 (by rw[Tryz.ntmps21];decide) (aG (RG N) (aG (VN N) (aB _))) jM ?_
 intro av H K h
 obtain ⟨s,t,v,rfl,rfl,hs,ht,hv,hh,hK⟩:=gQ h
 clear h
 have fin:∀(z:Int) (R:Hp),lN s t v=z->W.Fin 0 K (iS .i64 z) R:=fun z R h=>by
  have hK:K (iS .i64 (lN s t v)) []:=hK
  rw[h] at hK;exact .z ((by simpa[go_sem] using hK))
 clear hK
 unfold lN at fin
 rw[VS,<-RF] at fin
 have k1:=dE hv
 have k2:=fV v
 have k4:=iL ht
 have k5:=n7 t
 have k6:=fZ hs
 have k7:=kL s
 have k8:(v.h<=N)=True:=eq_true hh
 have k9:(N<=1000000)=True:=eq_true hN
 have k10:FS N s t v:=hh
 cases h1:decide (6<eU v) with
 |true=>
  rw[h1] at fin
  simp(maxSteps:=9^6)-dsimp only[go_sem,aA,aY t,aJ v,aGR,aFM,k1,k2,k8,k9,h1]
  exact fin 9 _ rfl
 |false=>
  rw[h1] at fin
  simp(maxSteps:=9^6)-dsimp only[go_sem,aA,aY t,aJ v,aGR,aFM,k1,k2,k4,k5,k6,k7,k8,k9,h1]
  exact fin _ _ rfl
mutual
def prV:Vl->Bool
 |.mk _ _ s l f=>(decide ((bl s).length<=200)&&(bl s).all prB)&&(prL l&&prG f)
def prL:List Vl->Bool
 |[]=>true
 |v::r=>prV v&&prL r
def prG:List (Int×Vl)->Bool
 |[]=>true
 | (_,v)::r=>prV v&&prG r
end
def a8J (s:Sc):Prop:=∀e∈s.es,e.ns.length=e.vs.length
structure NSt (ss:List St) (es:List En) (u:St):Prop where
 l:u.fs.length<=16
 n:∀f∈u.fs,1<=f.num/\f.num<=127
 m:∀f∈u.fs,eP (bl f.nm)=true
 v:∀f∈u.fs,valF ss es f.ty=true
 a:∀k f g,0<k->u.fs[k-1]? = some g->u.fs[k]? = some f->g.num<f.num
 d:∀k f,u.fs[k]? = some f->(u.fs.take k).any (fun g=>decide (g.nm=f.nm))=false
structure NEn (e:En):Prop where
 l:e.ns.length=e.vs.length
 s:e.ns.length<=16
 m:∀n∈e.ns,eP (bl n)=true
 d:∀k x,e.ns[k]? = some x->bJ (e.ns.take k) x=false
 a:∀k x y,0<k->e.vs[k-1]? = some x->e.vs[k]? = some y->x<y
 n:∀x∈e.vs,0<=x/\x<=127
structure Nice (s:Sc):Prop where
 st:∀u∈s.ss,NSt s.ss s.es u
 en:∀e∈s.es,NEn e
theorem kD {b:Bool} {x y:Int} (h:(bif b then x else y)=0) (hx:x≠0):b=false/\y=0:=by
 cases b with
 |true=>exact absurd h hx
 |false=>exact ⟨rfl,h⟩
theorem aBY {x y:Int} (h:(bif x != 0 then x else y)=0):x=0/\y=0:=by
 by_cases c:x=0
 · subst c;exact ⟨rfl,h⟩
 · rw[show (x != 0)=true by simpa using c] at h;exact absurd h c
theorem aA3 {ss:List St} {es:List En} {t:St} {k:Nat} {f:Fl} (hx:t.fs[k]? = some f) (h:mV ss es t k=0) :
 (1<=f.num/\f.num<=127)/\(∀g,0<k->t.fs[k-1]? = some g->g.num<f.num)/\eP (bl f.nm)=true/\(t.fs.take k).any (fun g=>decide (g.nm=f.nm))=false/\valF ss es f.ty=true:=by
 unfold mV at h
 rw[hx] at h
 simp only at h
 obtain ⟨c1,h⟩:=kD h (by decide)
 obtain ⟨c2,h⟩:=kD h (by decide)
 obtain ⟨c3,h⟩:=kD h (by decide)
 obtain ⟨c4,h⟩:=kD h (by decide)
 obtain ⟨c5,h⟩:=kD h (by decide)
 simp only[cY,qF] at c1
 refine ⟨⟨by omega,by omega⟩,fun g hk hg=>?_,by simpa using c3,c4,by simpa using c5⟩
 rw[hg] at c2
 simp only at c2
 rw[show decide (0<(k:Int))=true by simp;omega,bF] at c2
 have:=gL c2
 omega
theorem NA {e:En} {k:Nat} {x:ByteArray} {n:Int} (hx:e.ns[k]? = some x) (hn:e.vs[k]? = some n) (h:iI e k=0) :
 eP (bl x)=true/\bJ (e.ns.take k) x=false/\(0<=n/\n<=127)/\(k=0->n=0)/\∀m,0<k->e.vs[k-1]? = some m->m<n:=by
 unfold iI at h
 rw[hx,hn] at h
 simp only at h
 obtain ⟨c3,h⟩:=kD h (by decide)
 obtain ⟨c4,h⟩:=kD h (by decide)
 obtain ⟨c1,h⟩:=kD h (by decide)
 obtain ⟨c2,h⟩:=kD h (by decide)
 rw[cY] at c1 c2
 have a1:=gL c1.1
 have a2:=gL c1.2
 refine ⟨by simpa using c3,c4,⟨by omega,by omega⟩,fun hk=>?_,fun m hk hm=>?_⟩
 · have c2:=c2.1
   rw[show decide ((k:Int)=0)=true by simp;omega,bF] at c2
   exact Decidable.of_not_not (gL c2)
 · have c2:=c2.2
   rw[hm] at c2
   simp only at c2
   rw[show decide (0<(k:Int))=true by simp;omega,bF] at c2
   have:=gL c2
   omega
theorem WF {e:En} (h:pW e=0):0<e.ns.length/\e.ns.length=e.vs.length/\∀k<e.ns.length,iI e k=0:=by
 unfold pW at h
 obtain ⟨c1,h⟩:=kD h (by decide)
 simp only[cY,qF] at c1
 exact ⟨by omega,by omega,fun k hk=>jC (m:=e.ns.length) (by rw[Nat.sub_zero];exact h) k hk⟩
theorem A8 {s:Sc} (h:aL s=0):c9 s=false/\vQ s=0/\tH s=0/\jQ s.ss=0:=by
 unfold aL at h
 obtain ⟨_,h⟩:=kD h (by decide)
 obtain ⟨c2,h⟩:=kD h (by decide)
 obtain ⟨c3,h⟩:=aBY h
 obtain ⟨c4,h⟩:=aBY h
 exact ⟨c2,c3,c4,h⟩
theorem aON {s:Sc} (h:aL s=0):Nice s:=by
 obtain ⟨c2,c3,c4,_⟩:=A8 h
 obtain ⟨l1,l2,l3,l4⟩:=rW c2
 refine ⟨fun u hu=>?_,fun e he=>?_⟩
 · obtain ⟨i,hi⟩:=eN.1 hu
   have hc:=(DO hi (jC c4 i (bT.1 hi).1)).2
   have key:=fun k f (hx:u.fs[k]? = some f)=>aA3 hx (jC hc k (bT.1 hx).1)
   have mem:∀f∈u.fs,∃k,u.fs[k]? = some f:=fun f hf=>eN.1 hf
   exact ⟨l4 u hu,fun f hf=>(mem f hf).elim fun k hx=>(key k f hx).1,fun f hf=>(mem f hf).elim fun k hx=>(key k f hx).2.2.1,fun f hf=>(mem f hf).elim fun k hx=>(key k f hx).2.2.2.2,
    fun k f g hk hg hf=>(key k f hf).2.1 g hk hg,fun k f hf=>(key k f hf).2.2.2.1⟩
 · obtain ⟨i,hi⟩:=eN.1 he
   obtain ⟨hp,hl,hc⟩:=WF (ED hi (jC c3 i (bT.1 hi).1)).2.2
   have key:=fun k x n (hx:e.ns[k]? = some x) (hn:e.vs[k]? = some n)=>NA hx hn (hc k (bT.1 hx).1)
   have oth:∀k x,e.ns[k]? = some x->∃n,e.vs[k]? = some n:=fun k x hx=>⟨_,aX (hl ▸ (bT.1 hx).1)⟩
   have oth2:∀k n,e.vs[k]? = some n->∃x,e.ns[k]? = some x:=fun k x hx=>⟨_,aX (hl ▸ (bT.1 hx).1)⟩
   refine ⟨hl,l3 e he,fun x hx=>?_,fun k x hx=>?_,fun k x y hk hx hy=>?_,fun n hn=>?_⟩
   · obtain ⟨k,hk⟩:=eN.1 hx
     obtain ⟨n,hn⟩:=oth k x hk
     exact (key k x n hk hn).1
   · obtain ⟨n,hn⟩:=oth k x hx
     exact (key k x n hx hn).2.1
   · obtain ⟨z,hz⟩:=oth2 k y hy
     exact (key k z y hz hy).2.2.2.2 x hk hx
   · obtain ⟨k,hk⟩:=eN.1 hn
     obtain ⟨z,hz⟩:=oth2 k n hk
     exact (key k z n hz hk).2.2.1
theorem aEP {s:Sc} (h:aL s=0) {e:En} (he:e∈s.es):e.vs[0]? = some 0:=by
 obtain ⟨c2,c3,c4,_⟩:=A8 h
 obtain ⟨i,hi⟩:=eN.1 he
 obtain ⟨hp,hl,hc⟩:=WF (ED hi (jC c3 i (bT.1 hi).1)).2.2
 have h1:e.ns[0]? = some e.ns[0]:=aX hp
 have h2:e.vs[0]? = some (e.vs[0]'(hl ▸ hp)):=aX (hl ▸ hp)
 rw[h2,(NA h1 h2 (hc 0 hp)).2.2.2.1 rfl]
theorem Nice.stOf {s:Sc} (h:Nice s) (t:Ty):NSt s.ss s.es (stOf s t):=by
 unfold Proofs.YtblfcdllimkbhaaGreat.stOf
 cases h1:fS s.ss t.n with
 |none=>exact ⟨by decide,fun _ h=>(by cases h),fun _ h=>(by cases h),fun _ h=>(by cases h),fun _ _ _ _ h=>(by cases h),fun _ _ h=>(by cases h)⟩
 |some u=>exact h.st u (fJ h1)
theorem Nice.enOf {s:Sc} (h:Nice s) (t:Ty):NEn (enOf s t):=by
 unfold Proofs.YtblfcdllimkbhaaGreat.enOf
 cases h1:cO s.es t.n with
 |none=>exact ⟨rfl,by decide,fun _ h=>(by cases h),fun _ _ h=>(by cases h),fun _ _ _ _ h=>(by cases h),fun _ h=>(by cases h)⟩
 |some u=>exact h.en u (fJ h1)
theorem Nice.eq {s:Sc} (h:Nice s):a8J s:=fun e he=>(h.en e he).l
theorem aE0 {x:List UInt8} (h:eP x=true):x.length<=16:=by
 rcases bB 16 x.length with h1|h1
 · rw[CT h1] at h;cases h
 · exact h1
structure Ck (s:Sc) (t:Ty) (v:Vl):Prop where
 va:valF s.ss s.es t=true
 kk:v.k=t.k
 tx:(t.k==4)=true->v.n=0/\v.l=[]/\v.f=[]/\((bl v.s).length:Int)<=t.s
 ls:(t.k==5)=true->v.n=0/\bl v.s=[]/\v.f=[]/\(v.l.length:Int)<=t.s/\∀x∈v.l,gB s (t.e.headD default) x=0
 st:(t.k==6)=true->v.n=0/\bl v.s=[]/\v.l=[]/\eY (stOf s t).fs v.f=true/\∀x∈v.f,gB s (n8 (stOf s t) x.1).ty x.2=0
 nu:(t.k==4)=false->(t.k==5)=false->(t.k==6)=false->bl v.s=[]/\v.l=[]/\v.f=[]/\jX s t v.n=true
theorem RS {s:Sc} {t:Ty}:∀{l:List Vl},qU s t l=0->∀x∈l,gB s t x=0
 |[],_,_,h=>by cases h
 |y::l,h,x,hx=>by
  rw[qU] at h
  by_cases c:gB s t y=0
  · rw[c] at h
    rcases bU.1 hx with rfl|hx
    · exact c
    · exact RS h x hx
  · rw[show (gB s t y != 0)=true by simpa using c] at h;exact absurd h c
theorem RR {s:Sc} {fs:List Fl}:∀{l:List (Int×Vl)},qT s fs l=0->∀x∈l,gB s ((fF fs x.1).getD default).ty x.2=0
 |[],_,_,h=>by cases h
 |y::l,h,x,hx=>by
  rw[QK] at h
  by_cases c:gB s ((fF fs y.1).getD default).ty y.2=0
  · rw[c] at h
    rcases bU.1 hx with rfl|hx
    · exact c
    · exact RR h x hx
  · rw[show (gB s ((fF fs y.1).getD default).ty y.2 != 0)=true by simpa using c] at h;exact absurd h c
theorem uI {α:Type} {l:List α} (h:¬ 0<(l.length:Int)):l=[]:=iB (by omega)
theorem fN {k a b:Int} (h:(k==a)=true) (hab:a≠b):(k==b)=false:=by
 have:=eq_of_beq h;simp;omega
theorem m9 {s:Sc} {t:Ty} {v:Vl} (h:gB s t v=0):Ck s t v:=by
 rw[ZR] at h
 cases c1:!(valF s.ss s.es t)||v.k != t.k with
 |true=>rw[c1] at h;simp at h
 |false=>
 rw[c1,aI] at h
 rw[cY] at c1
 have va:valF s.ss s.es t=true:=by simpa using c1.1
 have kk:v.k=t.k:=by simpa using c1.2
 cases c4:t.k==4 with
 |true=>
  rw[c4,aQ] at h
  unfold zT at h
  cases d1:v.n != 0||decide (0<(v.l.length:Int))||decide (0<(v.f.length:Int)) with
  |true=>rw[d1] at h;simp at h
  |false=>
   rw[d1,aI] at h
   cases d2:decide (t.s<((bl v.s).length:Int)) with
   |true=>rw[d2] at h;simp at h
   |false=>
    simp only[cY,qF,bne_eq_false_iff_eq] at d1 d2
    refine ⟨va,kk,fun _=>⟨d1.1.1,uI d1.1.2,uI d1.2,by omega⟩,fun h=>?_,fun h=>?_,fun h _ _=>?_⟩
    · rw[fN c4 (by decide)] at h;cases h
    · rw[fN c4 (by decide)] at h;cases h
    · rw[c4] at h;cases h
 |false=>
 rw[c4,aI] at h
 cases c5:t.k==5 with
 |true=>
  rw[c5,aQ] at h
  cases d1:v.n != 0||!(bl v.s==[])||decide (0<(v.f.length:Int)) with
  |true=>rw[d1] at h;simp at h
  |false=>
   rw[d1,aI] at h
   cases d2:decide (t.s<(v.l.length:Int)) with
   |true=>rw[d2] at h;simp at h
   |false=>
    rw[d2,aI] at h
    simp only[cY,qF,bne_eq_false_iff_eq,nP] at d1 d2
    refine ⟨va,kk,fun h=>?_,fun _=>⟨d1.1.1,eq_of_beq d1.1.2,uI d1.2,by omega,RS h⟩,fun h=>?_,fun _ h _=>?_⟩
    · rw[c4] at h;cases h
    · rw[fN c5 (by decide)] at h;cases h
    · rw[c5] at h;cases h
 |false=>
 rw[c5,aI] at h
 cases c6:t.k==6 with
 |true=>
  rw[c6,aQ] at h
  cases d1:v.n != 0||!(bl v.s==[])||decide (0<(v.l.length:Int))||!(eY ((fS s.ss t.n).getD default).fs v.f) with
  |true=>rw[d1] at h;simp at h
  |false=>
   rw[d1,aI] at h
   simp only[cY,qF,bne_eq_false_iff_eq,nP] at d1
   refine ⟨va,kk,fun h=>?_,fun h=>?_,fun _=>⟨d1.1.1.1,eq_of_beq d1.1.1.2,uI d1.1.2,d1.2,RR h⟩,fun _ _ h=>?_⟩
   · rw[c4] at h;cases h
   · rw[c5] at h;cases h
   · rw[c6] at h;cases h
 |false=>
 rw[c6,aI] at h
 unfold BF at h
 cases d1:!(bl v.s==[])||decide (0<(v.l.length:Int))||decide (0<(v.f.length:Int)) with
 |true=>rw[d1] at h;simp at h
 |false=>
  rw[d1,aI] at h
  cases d2:jX s t v.n with
  |false=>rw[d2] at h;simp at h
  |true=>
   simp only[cY,qF,nP] at d1
   refine ⟨va,kk,fun h=>?_,fun h=>?_,fun h=>?_,fun _ _ _=>⟨eq_of_beq d1.1.1,uI d1.1.2,uI d1.2,d2⟩⟩
   · rw[c4] at h;cases h
   · rw[c5] at h;cases h
   · rw[c6] at h;cases h
def l6:Nat->Nat
 |0=>500
 |m+1=>40*l6 m
theorem GC {s:Sc} {t:Ty} {v:Vl} (h:lN s t v=0):gB s t v=0/\eU v<=6:=by
 unfold lN at h
 rw[VS] at h
 cases c:decide (6<eU v) with
 |true=>rw[c] at h;simp at h
 |false=>rw[c] at h;exact ⟨h,by have:=gL c;omega⟩
def BW (a b:Int×Int):Int×Int:=(IntKind.i64.wrap (a.1+b.1),max a.2 b.2)
mutual
def wJ:Vl->Int->Int×Int
 |.mk _ _ _ l f,lev=>bif decide (20<lev) then (1,lev) else TE f (lev+1) (FL l (lev+1) (1,lev))
def FL:List Vl->Int->Int×Int->Int×Int
 |[],_,a=>a
 |v::r,lev,a=>FL r lev (BW a (wJ v lev))
def TE:List (Int×Vl)->Int->Int×Int->Int×Int
 |[],_,a=>a
 | (_,v)::r,lev,a=>TE r lev (BW a (wJ v lev))
end
mutual
theorem aO0:∀(v:Vl) (lev:Int),lev<=(wJ v lev).2
 |.mk k n s l f,lev=>by
  rw[wJ]
  cases decide (20<lev) with
  |true=>exact iC _
  |false=>
   have h1:=DV l (lev+1) (1,lev)
   have h2:=EL f (lev+1) (FL l (lev+1) (1,lev))
   rw[aI]
   simp only at h1
   omega
theorem DV:∀(l:List Vl) (lev:Int) (a:Int×Int),a.2<=(FL l lev a).2
 |[],_,_=>by rw[FL];exact iC _
 |v::r,lev,a=>by
  have h:=DV r lev (BW a (wJ v lev))
  rw[FL]
  unfold BW at h ⊢
  simp only at h
  omega
theorem EL:∀(l:List (Int×Vl)) (lev:Int) (a:Int×Int),a.2<=(TE l lev a).2
 |[],_,_=>by rw[TE];exact iC _
 | (i,v)::r,lev,a=>by
  have h:=EL r lev (BW a (wJ v lev))
  rw[TE]
  unfold BW at h ⊢
  simp only at h
  omega
end
mutual
theorem aIN:∀(v:Vl) (lev:Int),(wJ v lev).2<=12->lev+v.h<=13
 |.mk k n s l f,lev,h=>by
  have h0:=aO0 (.mk k n s l f) lev
  rw[wJ] at h h0
  cases c:decide (20<lev) with
  |true=>have:=iO c;rw[c,aQ] at h;simp only at h;omega
  |false=>
   rw[c,aI] at h h0
   have h1:=DV l (lev+1) (1,lev)
   have h2:=EL f (lev+1) (FL l (lev+1) (1,lev))
   have h3:=aLB f (lev+1) (FL l (lev+1) (1,lev)) h
   have h4:=aLF l (lev+1) (1,lev) (by omega)
   rw[Vl.h]
   simp only at h1
   omega
theorem aLF:∀(l:List Vl) (lev:Int) (a:Int×Int),(FL l lev a).2<=12->Vl.hl l=0\/lev+Vl.hl l<=13
 |[],_,_,_=>.inl (by rw[Vl.hl])
 |v::r,lev,a,h=>by
  rw[FL] at h
  have h1:=DV r lev (BW a (wJ v lev))
  have h2:(wJ v lev).2<=(BW a (wJ v lev)).2:=by unfold BW;simp only;omega
  have h3:=aIN v lev (by omega)
  have h4:=aLF r lev _ h
  rw[Vl.hl]
  omega
theorem aLB:∀(l:List (Int×Vl)) (lev:Int) (a:Int×Int),(TE l lev a).2<=12->Vl.hf l=0\/lev+Vl.hf l<=13
 |[],_,_,_=>.inl (by rw[Vl.hf])
 | (i,v)::r,lev,a,h=>by
  rw[TE] at h
  have h1:=EL r lev (BW a (wJ v lev))
  have h2:(wJ v lev).2<=(BW a (wJ v lev)).2:=by unfold BW;simp only;omega
  have h3:=aIN v lev (by omega)
  have h4:=aLB r lev _ h
  rw[Vl.hf]
  omega
end
theorem aUR {ts:List Tk} {n:Nat} (he:Ends ts) (hn:n<ts.length) (hk:(mD ts n).k≠0):fW ts n=n+1:=by
 have h:=he.last n _ (RE hn)
 unfold fW
 rw[if_pos]
 by_cases e:n+1=ts.length
 · exact absurd (h.2 e) hk
 · omega
abbrev nZ (n:Nat):Fs:=⟨false,0,n⟩
def moN (w:List UInt8) (ts:List Tk) (n:Nat):Fs:=bif qE [44] ts (nZ n) then EU [44] ts (nZ n) else kA w ts (nZ n)
theorem aA5 {ts:List Tk} {z:Fs} (h:z.bad=true):oM ts z=z:=by unfold oM;rw[h];rfl
theorem S4 {w:List UInt8} {ts:List Tk} {z:Fs} (h:z.bad=true):qE w ts z=false:=by unfold qE;rw[h];rfl
theorem NE {w:List UInt8} {ts:List Tk} {z:Fs} (h:z.bad=true):kA w ts z=z:=by unfold kA;rw[S4 h];exact aA5 h
structure Vr {α:Type} (ts:List Tk) (r:α×Fs) (v:α) (n:Nat) (b:Bool):Prop where
 hb:r.2.bad=b
 hn:n<ts.length
 ok:b=false->v=r.1/\r.2=nZ n
 er:b=true->r.2.off=((mD ts n).a:Int)
theorem aNZ {ts:List Tk} {n:Nat} (he:Ends ts) (hn:n<ts.length) (hk:(mD ts n).k≠0):n+1<ts.length:=by
 have h:=he.last n _ (RE hn)
 by_cases e:n+1=ts.length
 · exact absurd (h.2 e) hk
 · omega
theorem aCF {k:Int} {w:List UInt8} {t:Tk} (h:GK k w t=true):t.k=k:=by unfold GK at h;rw[bI] at h;exact eq_of_beq h.1
end Go.Proofs.YtblfcdllimkbhaaGreat
namespace Go.W
section
variable {P:Program} {f:FuncId} {s t:Spec}
def C.pl:C->C->Prop
 |.vl v,c'=>c'=.vl v
 |c,c'=>∃u,c'=.vl u/\(c.one->u.oneCell'=true)
def A.pl:A->A->Prop
 |.c1 c,.c1 c'=>C.pl c c'
 |.gs cs,.gs cs'=>All2 C.pl cs cs'
 |_,_=>False
def S.pl:S->S->Prop
 |.va a,s=>∃b,s=.va b/\A.pl a b
 |.tu l,s=>∃m,s=.tu m/\All2 A.pl l m
 |_,s=>s=.un
end
end Go.W
namespace Go.Proofs.YtblfcdllimkbhaaGreat
open Go.W
theorem a2C {α:Type} {ts:List Tk} {n:Nat} {v:α} {z:Fs} (h:z=nZ z.n\/z=oM ts (nZ n)) (hn:n<ts.length) (hz:z.n<ts.length):Vr ts (v,z) v z.n z.bad:=by
 rcases h with h|h
 · rw[h];exact ⟨rfl,hz,fun _=>⟨rfl,rfl⟩,fun h=>(by cases h)⟩
 · rw[h];exact ⟨rfl,hn,fun h=>(by cases h),fun _=>rfl⟩
theorem aEK (w:List UInt8) (ts:List Tk) (n:Nat):kA w ts (nZ n)=nZ (kA w ts (nZ n)).n\/kA w ts (nZ n)=oM ts (nZ n):=by
 unfold kA
 cases qE w ts (nZ n) with
 |true=>exact .inl rfl
 |false=>exact .inr rfl
abbrev N9:List (Nat×S):=[(0,.va (.c1 (.pt 0 0))),(4,.va (.c1 (.pt 1 0))),(5,.va (.c1 (.pt 2 0))),(6,.va (.c1 (.pt 3 0))),(7,.va (.c1 (.pt 4 0)))]
theorem KZ {ss:List St} {es:List En} {t:Ty} (h:valF ss es t=true):(t.k==1)=true\/(t.k==2)=true\/(t.k==3)=true\/(t.k==4)=true\/(t.k==5)=true\/(t.k==6)=true\/(t.k==7)=true:=by
 obtain ⟨k,s,n,e⟩:=t
 show (k==1)=true\/_
 rw[valF.eq_def] at h
 simp only at h
 cases h1:k==1<;>cases h2:k==2<;>cases h3:k==3<;>cases h4:k==4<;>cases h5:k==5<;>cases h6:k==6<;>cases h7:k==7 <;>
 first
  | (simp[Ty.k,h1,h2,h3,h4,h5,h6,h7];done)
  | (rw[h1,h2,h3,h4,h5,h6,h7] at h;cases h)
theorem aA1 {w:List UInt8} {ts:List Tk} {n:Nat}:qE w ts (nZ n)=GK 4 w (mD ts n):=by unfold qE;rw[bV,bF]
theorem QG {w:List UInt8} {ts:List Tk} {n:Nat} (he:Ends ts) (hn:n<ts.length) (h:GK 4 w (mD ts n)=true):EU w ts (nZ n)=nZ (n+1):=by
 unfold EU;rw[aA1,h,aUR he hn (by rw[aCF h];decide)];rfl
structure Ser {α:Type} (one:α->Fs->α×Fs) (sh:List UInt8) (ts:List Tk) (Q:α×Fs) (f:Nat) (m:Bool) (a:α) (n:Nat) (b:Bool):Prop where
 hn:n<ts.length
 go:m=true->b=false/\ts.length<n+f/\J9 one ts f a (nZ n)=Q
 no:m=false->Vr ts (Q.1,kA sh ts Q.2) a n b
theorem Ser.next {α:Type} {one:α->Fs->α×Fs} {sh:List UInt8} {ts:List Tk} {Q:α×Fs} {f:Nat} {a a':α} {n n':Nat} {b':Bool} (he:Ends ts) (ho:Onw one ts) (h:Ser one sh ts Q (f+1) true a n false) (hr:Vr ts (one a (nZ n)) a' n' b') :
 (b'=true->Ser one sh ts Q f false a' n' true)/\(b'=false->Ser one sh ts Q f (qE [44] ts (nZ n')) a' (moN sh ts n').n (moN sh ts n').bad):=by
 obtain ⟨_,h2,h3⟩:=h.go rfl
 rw[aBF] at h3
 simp only[aI] at h3
 refine ⟨fun hb=>?_,fun hb=>?_⟩
 · have hbad:(one a (nZ n)).2.bad=true:=by rw[hr.hb,hb]
   rw[S4 hbad,aI] at h3
   refine ⟨hr.hn,fun h=>(by cases h),fun _=>?_⟩
   rw[<-h3]
   exact ⟨by rw[NE hbad,hbad],hr.hn,fun h=>(by cases h),fun _=>by rw[NE hbad];exact hr.er hb⟩
 · obtain ⟨e1,e2⟩:=hr.ok hb
   have hn':=hr.hn
   rw[e2] at h3
   unfold moN
   cases hc:qE [44] ts (nZ n') with
   |true=>
    have hc':=hc
    rw[aA1] at hc'
    have hm:=aNZ he hn' (by rw[aCF hc'];decide)
    rw[hc,aQ,QG he hn' hc'] at h3
    rw[aQ,QG he hn' hc']
    refine ⟨hm,fun _=>⟨rfl,?_,by rw[e1];exact h3⟩,fun h=>(by cases h)⟩
    have h5:=(ho a (nZ n) h.hn).1
    rw[e2] at h5
    show ts.length<n'+1+f
    have h5:n<=n':=h5
    omega
   |false=>
    rw[hc,aI] at h3
    rw[aI]
    have hq:Q=(a',nZ n'):=by rw[<-h3,e1,<-e2]
    refine ⟨(U5 (w:=sh) hn').2,fun h=>(by cases h),fun _=>?_⟩
    rw[hq]
    exact a2C (aEK sh ts n') hn' (U5 (w:=sh) hn').2
structure Gtk (k:Int) (x:List UInt8) (n:Int):Prop where
 e:k=0->x=[]/\n=0
 o:k≠0->okK k x n=true
 i:cB n
theorem aOL {k:Int} {x:List UInt8} {n:Int} (h:okK k x n=true):x.length<=200:=by
 unfold okK at h
 cases c1:k==1 with
 |true=>rw[c1,aQ,bI] at h;have:=aE0 h.2;omega
 |false=>
 rw[c1,aI] at h
 cases c2:k==2 with
 |true=>rw[c2,aQ] at h;rw[eq_of_beq h];exact aP _
 |false=>
 rw[c2,aI] at h
 cases c3:k==3 with
 |true=>rw[c3,aQ,bI,bI] at h;exact iO h.2.1
 |false=>
 rw[c3,aI] at h
 cases c4:k==4 with
 |false=>rw[c4] at h;cases h
 |true=>
  rw[c4,aQ,bI] at h
  match x,h with
  |[],_=>exact aP _
  |[_],_=>exact (by decide:1<=200)
  |_::_::_,h=>exact absurd h.2 (by simp)
theorem Gtk.len {k:Int} {x:List UInt8} {n:Int} (h:Gtk k x n):x.length<=200:=by
 by_cases hk:k=0
 · rw[(h.e hk).1];exact aP _
 · exact aOL (h.o hk)
structure Dg (s:Sc):Prop where
 ni:Nice s
 g:Gd s.ss s.es
 ac:wL s.ss
 d6:∀u∈s.ss,dD s.ss u.nm<=6
 z:∀e∈s.es,e.vs[0]? = some 0
theorem O0 {s:Sc} (hf:s.fit) (h:aL s=0):Dg s:=by
 obtain ⟨c2,c3,c4,c5⟩:=A8 h
 unfold jQ at c5
 obtain ⟨d1,c5⟩:=kD c5 (by decide)
 obtain ⟨d2,c5⟩:=kD c5 (by decide)
 exact ⟨aON h,uM hf c2 c4,fun t ht=>g5 d1 t ht,fun u hu=>by have:=gL (g5 d2 u hu);omega,fun e he=>aEP h he⟩
abbrev pS (s:Sc) (t:Ty):Int:=cW (dD s.ss) t
theorem v7 (s:Sc) (t:Ty):0<=pS s t:=by
 unfold pS cW
 have:=P1 s.ss (cJ t).2.n
 cases (cJ t).2.k==6 with
 |true=>rw[aQ];omega
 |false=>rw[aI];omega
theorem WJ {s:Sc} {t u:Ty} (h5:(t.k==5)=true) (he:t.e=[u]):pS s t=pS s u+1:=by
 obtain ⟨k,z,n,e⟩:=t
 have hk:k=5:=eq_of_beq h5
 have he:e=[u]:=he
 subst hk he
 unfold pS cW
 rw[cJ,show ((5:Int)==5)=true from rfl,aQ,N2]
 simp only
 omega
theorem u5 {s:Sc} {t:Ty} (h6:(t.k==6)=true):pS s t=dD s.ss t.n:=by
 obtain ⟨k,z,n,e⟩:=t
 have hk:k=6:=eq_of_beq h6
 subst hk
 unfold pS cW
 rw[cJ,show ((6:Int)==5)=false from rfl,aI]
 show ((0:Nat):Int)+(bif (6:Int)==6 then dD s.ss n else 0)=dD s.ss n
 simp
theorem va6 {s:Sc} {t:Ty} (h:valF s.ss s.es t=true) (h6:(t.k==6)=true):∃u,fS s.ss t.n=some u/\stOf s t=u/\u∈s.ss/\u.nm=t.n:=by
 have hh:aZ s.ss t.n=true:=by
  obtain ⟨k,z,n,e⟩:=t
  have hk:k=6:=eq_of_beq h6
  subst hk
  rw[valF] at h;simp at h;exact h.1.1
 rw[<-oD] at hh
 obtain ⟨u,hu⟩:=oW.1 hh
 exact ⟨u,hu,by unfold stOf;rw[hu];rfl,(fQ hu).1,(fQ hu).2⟩
theorem rV {s:Sc} (hd:Dg s) {t:Ty} (h:valF s.ss s.es t=true) (h6:(t.k==6)=true):1<=dD s.ss t.n/\dD s.ss t.n<=6/\∀f∈(stOf s t).fs,pS s f.ty+1<=dD s.ss t.n:=by
 obtain ⟨u,h1,h2,h3,h4⟩:=va6 h h6
 have e:=EC hd.g hd.ac h1
 have h0:=oF (dD s.ss) u.fs
 refine ⟨by omega,by rw[<-h4];exact hd.d6 u h3,fun f hf=>?_⟩
 rw[h2] at hf
 have:=WW (dp:=dD s.ss) hf
 show cW (dD s.ss) f.ty+1<=_
 omega
theorem DN {ss:List St} {es:List En} {u:St} (hu:NSt ss es u):u.fs.Pairwise fun f g=>f.num<g.num:=by
 have key:∀(l:List Fl),(∀k f g,0<k->l[k-1]? = some g->l[k]? = some f->g.num<f.num)->l.Pairwise fun f g=>f.num<g.num:=by
  intro l
  induction l with
  |nil=>intro _;exact .nil
  |cons y l ih=>
   intro h
   have hl:=ih fun k f g hk h1 h2=>h (k+1) f g (by omega) (by rw[show k+1-1=k-1+1 by omega];simpa using h1) (by simpa using h2)
   refine gU.2 ⟨fun f hf=>?_,hl⟩
   cases l with
   |nil=>cases hf
   |cons z l=>
    have h1:=h 1 z y (by omega) rfl rfl
    rcases bU.1 hf with rfl|hf
    · exact h1
    · exact aD1 h1 ((gU.1 hl).1 f hf)
 exact key u.fs hu.a
theorem IA:∀{fs:List Fl} {f:Fl},fs.Pairwise (fun f g=>f.num<g.num)->f∈fs->fF fs f.num=some f
 |y::l,f,hp,hf=>by
  obtain ⟨h1,h2⟩:=gU.1 hp
  show List.find? _ _=_
  rw[nQ]
  rcases bU.1 hf with rfl|hf
  · simp
  · have:=h1 f hf
    have e:decide (y.num=f.num)=false:=by simp;omega
    rw[e]
    exact IA h2 hf
theorem aHA (n:Nat):(0:Int)<2 ^ n:=Int.pow_pos (by decide)
theorem a68 {s:Sc} {t:Ty} (h:valF s.ss s.es t=true) (hk:(t.k==4)=true\/(t.k==5)=true):1<=t.s:=by
 obtain ⟨k,z,n,e⟩:=t
 show 1<=z
 rcases hk with hk|hk
 · have hk:k=4:=eq_of_beq hk
   subst hk
   rw[valF.eq_def] at h
   simp at h
   omega
 · have hk:k=5:=eq_of_beq hk
   subst hk
   rw[valF.eq_def] at h
   simp at h
   omega
mutual
def iM:Vl->Vl->Bool
 |.mk k n s l f,.mk k' n' s' l' f'=>k==k'&&(n==n'&&(bl s==bl s'&&(qD l l'&&oA f f')))
def qD:List Vl->List Vl->Bool
 |[],[]=>true
 |x::a,y::b=>iM x y&&qD a b
 |[],_::_=>false
 |_::_,[]=>false
def oA:List (Int×Vl)->List (Int×Vl)->Bool
 |[],[]=>true
 | (i,x)::a,(j,y)::b=>i==j&&(iM x y&&oA a b)
 |[],_::_=>false
 |_::_,[]=>false
end
mutual
theorem uO:∀{a b:Vl},iM a b=true ↔ a=b
 |.mk k n s l f,.mk k' n' s' l' f'=>by
  rw[iM]
  simp only[bI,beq_iff_eq,WS,VR,Vl.mk.injEq]
  exact ⟨fun ⟨h1,h2,h3,h4,h5⟩=>⟨h1,h2,mY h3,h4,h5⟩,fun ⟨h1,h2,h3,h4,h5⟩=>⟨h1,h2,by rw[h3],h4,h5⟩⟩
theorem WS:∀{a b:List Vl},qD a b=true ↔ a=b
 |[],[]=>by rw[qD];simp
 |[],_::_=>by rw[qD];simp
 |_::_,[]=>by rw[qD];simp
 |x::a,y::b=>by rw[qD,bI,uO,WS];simp
theorem VR:∀{a b:List (Int×Vl)},oA a b=true ↔ a=b
 |[],[]=>by rw[oA];simp
 |[],_::_=>by rw[oA];simp
 | (_,_)::_,[]=>by rw[oA];simp
 | (i,x)::a,(j,y)::b=>by rw[oA,bI,bI,uO,VR];simp[and_assoc]
end
theorem aEM (a:Vl):iM a a=true:=uO.2 rfl
theorem aSB {a b:Vl} (h:iM a b=false):a≠b:=fun e=>by rw[e,aEM] at h;cases h
theorem aSQ (a b:Vl):iM a b=(a.k==b.k&&(a.n==b.n&&(bl a.s==bl b.s&&(qD a.l b.l&&oA a.f b.f)))):=by
 cases a;cases b;rw[iM];rfl
theorem aHC (x y:Int×Vl) (a b:List (Int×Vl)):oA (x::a) (y::b)=(x.1==y.1&&(iM x.2 y.2&&oA a b)):=by
 obtain ⟨i,x⟩:=x;obtain ⟨j,y⟩:=y;rw[oA]
def BR (R:Ty->Vl->List UInt8) (s:Sc) (f:List (Int×Vl)) (g:Fl):List UInt8:=
 bif !(dH f g.num).isSome||(!g.opt&&iM (((dH f g.num).map (·.2)).getD default) (zF s 23 g.ty)) then [] else oC g.num++wR (R g.ty (((dH f g.num).map (·.2)).getD default))
def lK (R:Ty->Vl->List UInt8) (s:Sc) (fs:List Fl) (f:List (Int×Vl)):List UInt8:=fs.flatMap (BR R s f)
def sP (R:Ty->Vl->List UInt8) (t:Ty) (l:List Vl):List UInt8:=l.flatMap fun x=>wR (R t x)
def eV (s:Sc):Nat->Ty->Vl->List UInt8
 |0,_,_=>[]
 |N+1,t,v=>bif t.k==1||(t.k==3||t.k==7) then oC v.n else bif t.k==2 then vi (B3 v.n) else bif t.k==4 then bl v.s else bif t.k==5 then oC v.l.length++sP (eV s N) (t.e.headD default) v.l else lK (eV s N) s (stOf s t).fs v.f
theorem zR (s:Sc) (N:Nat) (t:Ty) (v:Vl):eV s (N+1) t v=bif t.k==1||(t.k==3||t.k==7) then oC v.n else bif t.k==2 then vi (B3 v.n) else bif t.k==4 then bl v.s else bif t.k==5 then oC v.l.length++sP (eV s N) (t.e.headD default) v.l else lK (eV s N) s (stOf s t).fs v.f:=rfl
theorem yU {α:Type} {f:α->List UInt8} {B:Nat}:∀{l:List α},(∀x∈l,(f x).length<=B)->(l.flatMap f).length<=l.length*B
 |[],_=>aP _
 |x::l,h=>by
  have h1:=h x (eI ..)
  have h2:=yU fun y hy=>h y (eD _ hy)
  rw[iZ,bW,bP,Nat.add_mul,Nat.one_mul];omega
theorem yF (l:List UInt8):(wR l).length<=10+l.length:=by
 unfold wR;have:=rP l.length;rw[bW];omega
def eB (N:Nat):Nat:=4000*40 ^ N
theorem aPP (N:Nat):eB (N+1)=40*eB N:=by unfold eB;rw[Nat.pow_succ];omega
theorem aSD (N:Nat):4000<=eB N:=by unfold eB;have:0<40 ^ N:=Nat.pow_pos (by decide);omega
theorem xU {N:Nat} (h:N<=8):eB N<=27000000000000000:=by
 have:40 ^ N<=40 ^ 8:=DE (by decide) h
 have h2:(40:Nat) ^ 8=6553600000000:=by decide
 unfold eB;omega
theorem yR {l:List (Int×Vl)} {k:Int} {x:Int×Vl} (h:dH l k=some x):x∈l/\x.1=k:=by
 unfold dH at h
 exact ⟨fJ h,by have:=qM h;simpa using this⟩
theorem LQ {s:Sc} (hd:Dg s) {t:Ty} {g:Fl} (hg:g∈(stOf s t).fs):n8 (stOf s t) g.num=g:=by
 unfold n8
 rw[IA (DN (hd.ni.stOf t)) hg];rfl
theorem WY {s:Sc} (hd:Dg s) {R:Ty->Vl->List UInt8} {t:Ty} {f:List (Int×Vl)} {g:Fl} {B:Nat} (hg:g∈(stOf s t).fs) (hR:∀x∈f,(R (n8 (stOf s t) x.1).ty x.2).length<=B):(BR R s f g).length<=20+B:=by
 unfold BR
 cases hv:dH f g.num with
 |none=>exact aP _
 |some x=>
  obtain ⟨hm,he⟩:=yR hv
  have h1:=hR x hm
  rw[he,LQ hd hg] at h1
  have h2:=rP g.num
  have h3:=yF (R g.ty x.2)
  show (bif !true||(!g.opt&&iM x.2 (zF s 23 g.ty)) then [] else oC g.num++wR (R g.ty x.2)).length<=_
  cases !true||(!g.opt&&iM x.2 (zF s 23 g.ty)) with
  |true=>exact aP _
  |false=>rw[aI,bW];omega
theorem yY {s:Sc} {t:Ty} (h:valF s.ss s.es t=true):((t.k==4)=true->t.s<=2000)/\((t.k==5)=true->t.s<=32):=by
 obtain ⟨k,z,n,e⟩:=t
 refine ⟨fun hk=>?_,fun hk=>?_⟩
 · have hk:k=4:=eq_of_beq hk
   subst hk
   rw[valF.eq_def] at h
   simp at h
   show z<=2000
   omega
 · have hk:k=5:=eq_of_beq hk
   subst hk
   rw[valF.eq_def] at h
   simp at h
   show z<=32
   omega
theorem pO {s:Sc} (hd:Dg s):∀(N:Nat) (t:Ty) (v:Vl),v.h<=N->gB s t v=0->(eV s N t v).length<=eB N
 |0,_,v,h,_=>by have:=v.h_pos;omega
 |N+1,t,v,hh,h0=>by
  have hc:=m9 h0
  have hB:=aPP N
  have hp:=aSD N
  have hvz:=yY hc.va
  rw[zR]
  cases c1:t.k==1||(t.k==3||t.k==7) with
  |true=>rw[aQ];have:=rP v.n;omega
  |false=>
  rw[aI]
  cases c2:t.k==2 with
  |true=>rw[aQ];have:=aAJ (B3 v.n);omega
  |false=>
  rw[aI]
  cases c4:t.k==4 with
  |true=>
   rw[aQ]
   obtain ⟨_,_,_,h1⟩:=hc.tx c4
   have:=hvz.1 c4
   omega
  |false=>
  rw[aI]
  cases c5:t.k==5 with
  |true=>
   rw[aQ,bW]
   obtain ⟨_,_,_,h1,h2⟩:=hc.ls c5
   have h3:=hvz.2 c5
   have h4:=rP v.l.length
   have h5:(sP (eV s N) (t.e.headD default) v.l).length<=v.l.length*(10+eB N):=yU fun x hx=>by
    have:=pO hd N _ x (by have:=Vl.h_l hx;omega) (h2 x hx)
    have:=yF (eV s N (t.e.headD default) x)
    omega
   have h6:v.l.length*(10+eB N)<=32*(10+eB N):=gD _ (by omega)
   omega
  |false=>
   rw[aI]
   have c6:(t.k==6)=true:=by
    rcases KZ hc.va with h|h|h|h|h|h|h
    · rw[h] at c1;cases c1
    · rw[h] at c2;cases c2
    · rw[h,cR,oU] at c1;cases c1
    · rw[h] at c4;cases c4
    · rw[h] at c5;cases c5
    · exact h
    · rw[h,oU,oU] at c1;cases c1
   obtain ⟨_,_,_,_,h2⟩:=hc.st c6
   have hl:=(hd.ni.stOf t).l
   have h5:(lK (eV s N) s (stOf s t).fs v.f).length<=(stOf s t).fs.length*(20+eB N):=yU fun g hg=>WY hd hg fun x hx=>pO hd N _ x.2 (by have:=Vl.h_f hx;omega) (h2 x hx)
   have h6:(stOf s t).fs.length*(20+eB N)<=16*(20+eB N):=gD _ hl
   omega
def BV (s:Sc) (nm:ByteArray) (v:Vl):List UInt8×Int:=
 bif aL s != 0 then ([],aL s) else bif !(aZ s.ss nm) then ([],6) else bif lN s (.mk 6 0 nm []) v != 0 then ([],lN s (.mk 6 0 nm []) v) else bif decide (2000<((lK (eV s 8) s (stOf s (.mk 6 0 nm [])).fs v.f).length:Int)) then ([],3) else (lK (eV s 8) s (stOf s (.mk 6 0 nm [])).fs v.f,0)
mutual
theorem aHL:∀v:Vl,(v.h:Int)<=eU v+1
 |.mk k n s l f=>by
  have h1:=aKK l 0 (iC _)
  have h0:=yG l 0
  have h2:=aME f (kR 0 l) h0
  have h3:=xR f (kR 0 l)
  rw[eU,Vl.h]
  cases hs:uU (.mk k n s l f) with
  |true=>
   rw[aQ]
   unfold uU at hs
   simp only[bI] at hs
   have e1:l=[]:=by have:=hs.1.2;simpa[Vl.l] using this
   have e2:f=[]:=by have:=hs.2;simpa[Vl.f] using this
   rw[e1,e2,Vl.hl,Vl.hf];decide
  |false=>rw[aI];omega
theorem aKK:∀(l:List Vl) (d:Int),0<=d->(Vl.hl l:Int)<=kR d l+1
 |[],d,hd=>by rw[Vl.hl,kR];omega
 |v::r,d,hd=>by
  have h1:=aHL v
  have h2:=aKK r (max d (eU v)) (by omega)
  have h3:=yG r (max d (eU v))
  rw[Vl.hl,kR];omega
theorem aME:∀(l:List (Int×Vl)) (d:Int),0<=d->(Vl.hf l:Int)<=nW d l+1
 |[],d,hd=>by rw[Vl.hf,nW];omega
 | (_,v)::r,d,hd=>by
  have h1:=aHL v
  have h2:=aME r (max d (eU v)) (by omega)
  have h3:=xR r (max d (eU v))
  rw[Vl.hf,nW];omega
end
theorem aTO {s:Sc} {t:Ty} {v:Vl} (h:lN s t v=0):v.h<=7:=by
 have h1:=(GC h).2
 have h2:=aHL v
 omega
def BN (b:List UInt8):Vl×Int:=bif b==[] then (v0,1) else bif decide (1<(b.headD 0).toNat)||decide (1<b.length) then (v0,2) else (.mk 1 (b.headD 0).toNat (mk []) [] [],0)
def oE (k:Int) (n:Nat):Int:=bif k==2 then CE n else n
def BX (s:Sc) (t:Ty) (b:List UInt8):Vl×Int:=bif (vr b).2.2 != 0 then (v0,(vr b).2.2) else bif decide ((vr b).2.1<b.length) then (v0,2) else bif !(jX s t (oE t.k (vr b).1)) then (v0,4) else (.mk t.k (oE t.k (vr b).1) (mk []) [] [],0)
def dTx (t:Ty) (b:List UInt8):Vl×Int:=bif decide (t.s<(b.length:Int)) then (v0,3) else (.mk 4 0 (mk b) [] [],0)
def jN (R:List UInt8->Vl×Int):Nat->List UInt8->(List Vl×List UInt8)×Int
 |0,b=>(([],b),0)
 |n+1,b=>bif (cU b).2.2 != 0 then (([],[]),(cU b).2.2) else bif (R (cU b).1).2 != 0 then (([],[]),(R (cU b).1).2) else bif (jN R n (cU b).2.1).2 != 0 then (([],[]),(jN R n (cU b).2.1).2) else (((R (cU b).1).1::(jN R n (cU b).2.1).1.1,(jN R n (cU b).2.1).1.2),0)
theorem BC (R:List UInt8->Vl×Int) (n:Nat) (b:List UInt8):jN R (n+1) b=bif (cU b).2.2 != 0 then (([],[]),(cU b).2.2) else bif (R (cU b).1).2 != 0 then (([],[]),(R (cU b).1).2) else bif (jN R n (cU b).2.1).2 != 0 then (([],[]),(jN R n (cU b).2.1).2) else (((R (cU b).1).1::(jN R n (cU b).2.1).1.1,(jN R n (cU b).2.1).1.2),0):=rfl
def sU (R:List UInt8->Vl×Int) (sz:Int) (b:List UInt8):Vl×Int:=
 bif (bY b).2.2 != 0 then (v0,(bY b).2.2) else bif decide (sz<((bY b).1:Int)) then (v0,3) else bif (jN R (bY b).1 (bY b).2.1).2 != 0 then (v0,(jN R (bY b).1 (bY b).2.1).2)
 else bif !((jN R (bY b).1 (bY b).2.1).1.2==[]) then (v0,2) else (.mk 5 0 (mk []) (jN R (bY b).1 (bY b).2.1).1.1 [],0)
def FC (R:Ty->List UInt8->Vl×Int) (s:Sc) (f:Fl) (b:List UInt8):Int:=
 bif (R f.ty b).2 != 0 then (R f.ty b).2 else bif !f.opt&&(iM (R f.ty b).1 (zF s 23 f.ty)&&(f.ty.k != 6||b==[])) then 2 else 0
def lL (R:Ty->List UInt8->Vl×Int) (s:Sc) (fs:List Fl):Nat->Int->List UInt8->List (Int×Vl)×Int
 |0,_,_=>([],0)
 |g+1,last,b=>bif b==[] then ([],0) else bif (cH b last).2.2 != 0 then ([],(cH b last).2.2)
  else bif !(fF fs (cH b last).1.1).isSome then lL R s fs g (cH b last).1.1 (cH b last).2.1
  else bif FC R s ((fF fs (cH b last).1.1).getD default) (cH b last).1.2 != 0 then ([],FC R s ((fF fs (cH b last).1.1).getD default) (cH b last).1.2)
  else bif (lL R s fs g (cH b last).1.1 (cH b last).2.1).2 != 0 then ([],(lL R s fs g (cH b last).1.1 (cH b last).2.1).2)
  else (((cH b last).1.1,(R ((fF fs (cH b last).1.1).getD default).ty (cH b last).1.2).1)::(lL R s fs g (cH b last).1.1 (cH b last).2.1).1,0)
def TK (s:Sc) (L:List (Int×Vl)) (f:Fl):List (Int×Vl):=bif (dH L f.num).isSome then [(f.num,((dH L f.num).map (·.2)).getD default)] else bif f.opt then [] else [(f.num,zF s 23 f.ty)]
def tE (s:Sc) (fs:List Fl) (L:List (Int×Vl)):List (Int×Vl):=fs.flatMap (TK s L)
def tF (R:Ty->List UInt8->Vl×Int) (s:Sc) (fs:List Fl) (b:List UInt8):Vl×Int:=
 bif (lL R s fs b.length 0 b).2 != 0 then (v0,(lL R s fs b.length 0 b).2) else (.mk 6 0 (mk []) [] (tE s fs (lL R s fs b.length 0 b).1),0)
def d9 (s:Sc):Nat->Ty->List UInt8->Vl×Int
 |0,_,_=>(v0,0)
 |N+1,t,b=>bif t.k==1 then BN b else bif t.k==2||(t.k==3||t.k==7) then BX s t b else bif t.k==4 then dTx t b else bif t.k==5 then sU (d9 s N (t.e.headD default)) t.s b else tF (d9 s N) s (stOf s t).fs b
theorem GM (s:Sc) (N:Nat) (t:Ty) (b:List UInt8):d9 s (N+1) t b=bif t.k==1 then BN b else bif t.k==2||(t.k==3||t.k==7) then BX s t b else bif t.k==4 then dTx t b else bif t.k==5 then sU (d9 s N (t.e.headD default)) t.s b else tF (d9 s N) s (stOf s t).fs b:=rfl
def B0 (s:Sc) (nm:ByteArray) (b:List UInt8):Vl×Int:=
 bif aL s != 0 then (v0,aL s) else bif !(aZ s.ss nm) then (v0,6) else bif decide (2000<(b.length:Int)) then (v0,3) else tF (d9 s 8) s (stOf s (.mk 6 0 nm [])).fs b
def w5 {α:Type} (acc:List α) (q:List α×Int):List α×Int:=bif q.2 != 0 then ([],q.2) else (acc++q.1,0)
theorem aN6 {α:Type} {q:List α×Int} (h:q.2≠0->q.1=[]):w5 [] q=q:=by
 unfold w5
 cases hq:q.2 != 0 with
 |true=>rw[aQ];obtain ⟨a,b⟩:=q;have:=h (N6 hq);simp only at this;rw[this]
 |false=>rw[aI];obtain ⟨a,b⟩:=q;have:=wW hq;simp only at this;rw[this];rfl
theorem aWW {α:Type} (a b:List α) (q:List α×Int):w5 a (w5 b q)=w5 (a++b) q:=by
 unfold w5
 cases hq:q.2 != 0 with
 |true=>simp only[aQ,hq]
 |false=>simp only[aI];rw[show ((0:Int) != 0)=false from rfl,aI,gV]
theorem J0 {α:Type} (a:List α) {e:Int} (h:(e != 0)=true):w5 a ([],e)=([],e):=by unfold w5;rw[h];rfl
theorem aS2 {α:Type} (a b:List α):w5 a (b,0)=(a++b,0):=rfl
theorem KT {R:Ty->List UInt8->Vl×Int} {s:Sc} {fs:List Fl} (g:Nat) (last:Int):lL R s fs g last []=([],0):=by cases g<;>rfl
theorem zQ {R:Ty->List UInt8->Vl×Int} {s:Sc} {fs:List Fl} {g:Nat} {last:Int} {b:List UInt8} (h:b≠[]):lL R s fs (g+1) last b=bif (cH b last).2.2 != 0 then ([],(cH b last).2.2)
 else bif !(fF fs (cH b last).1.1).isSome then lL R s fs g (cH b last).1.1 (cH b last).2.1
 else bif FC R s ((fF fs (cH b last).1.1).getD default) (cH b last).1.2 != 0 then ([],FC R s ((fF fs (cH b last).1.1).getD default) (cH b last).1.2)
 else w5 [((cH b last).1.1,(R ((fF fs (cH b last).1.1).getD default).ty (cH b last).1.2).1)] (lL R s fs g (cH b last).1.1 (cH b last).2.1):=by
 have hb:(b==[])=false:=by simpa using h
 rw[lL,hb,aI];rfl
theorem aL8 {R:Ty->List UInt8->Vl×Int} {s:Sc} {fs:List Fl}:∀(g:Nat) (last:Int) (b:List UInt8),(lL R s fs g last b).2≠0->(lL R s fs g last b).1=[]
 |0,_,_,h=>absurd rfl h
 |g+1,last,b,h=>by
  by_cases hb:b=[]
  · subst hb;rfl
  · rw[zQ hb] at h ⊢
    cases c1:(cH b last).2.2 != 0 with
    |true=>rfl
    |false=>
    rw[c1,aI] at h
    rw[aI]
    cases c2:!(fF fs (cH b last).1.1).isSome with
    |true=>rw[c2,aQ] at h;rw[aQ];exact aL8 g _ _ h
    |false=>
    rw[c2,aI] at h
    rw[aI]
    cases c3:FC R s ((fF fs (cH b last).1.1).getD default) (cH b last).1.2 != 0 with
    |true=>rfl
    |false=>
    rw[c3,aI] at h
    rw[aI]
    unfold w5 at h ⊢
    cases c4:(lL R s fs g (cH b last).1.1 (cH b last).2.1).2 != 0 with
    |true=>rfl
    |false=>rw[c4] at h;exact absurd rfl h
def a7N:Ty:=.mk 2 8 (mk []) []
def xTx:Ty:=.mk 4 5 (mk []) []
def xMo:Ty:=.mk 7 0 (mk [77,111,100,101]) []
def xBo:Ty:=.mk 1 0 (mk []) []
def xLi:Ty:=.mk 5 2 (mk []) [xBo]
def xF1:Fl:=⟨1,mk [120],a7N,false⟩
def xF2:Fl:=⟨2,mk [110,97,109,101],xTx,true⟩
def xF4:Fl:=⟨4,mk [109,111,100,101],xMo,false⟩
def xF5:Fl:=⟨5,mk [108],xLi,false⟩
def xSt:St:=⟨mk [80,111,115,101],[xF1,xF2,xF4,xF5]⟩
def xEn:En:=⟨mk [77,111,100,101],[mk [105,100,108,101],mk [114,117,110]],[0,3]⟩
def xS:Sc:=⟨1,[xEn],[xSt]⟩
def xT:Ty:=.mk 6 0 (mk [80,111,115,101]) []
def x1:List UInt8:=[123,120,32,61,32,45,53,44,32,109,111,100,101,32,61,32,114,117,110,44,32,108,32,61,32,91,116,114,117,101,44,32,102,97,108,115,101,93,125]
def x2:List UInt8:=[123,120,32,61,32,50,48,48,44,32,109,111,100,101,32,61,32,114,117,110,44,32,108,32,61,32,91,93,125]
def x3:List UInt8:=[123,109,111,100,101,32,61,32,114,117,110,44,32,120,32,61,32,49,125]
def x4:List UInt8:=[123,120,32,61,32,49,44,32,109,111,100,101,32,61,32,115,116,111,112,44,32,108,32,61,32,91,93,125]
def vl0 (k n:Int):Vl:=.mk k n (mk []) [] []
def xL:Vl:=.mk 5 0 (mk []) [vl0 1 1,vl0 1 0] []
def xV:Vl:=.mk 6 0 (mk []) [] [(1,vl0 2 (-5)),(4,vl0 7 3),(5,xL)]
theorem e1:YD (pP 10) xS xT x1=(xV,0,0):=by kernel_rfl
theorem e2:YD (pP 10) xS xT x2=(v0,4,0):=by kernel_rfl
theorem e3:YD (pP 10) xS xT x3=(v0,2,13):=by kernel_rfl
theorem e4:YD (pP 10) xS xT x4=(v0,2,15):=by kernel_rfl
theorem e0:lN xS xT xV=0:=by kernel_rfl
theorem e5:a8U (fP 10) xS xT xV=x1:=by kernel_rfl
theorem nH:VlOk v0:=YC ⟨by decide,by decide⟩ ⟨by decide,by decide⟩ (by decide)
theorem WR {P:Vl->Prop} {R:List UInt8->Vl×Int}:∀(n:Nat) (b:List UInt8),(∀c,c.length<=b.length->P (R c).1)->(∀x∈(jN R n b).1.1,P x)/\(jN R n b).1.1.length<=n/\(jN R n b).1.2.length<=b.length
 |0,b,_=>⟨fun x h=>(by cases h),bE _,bE _⟩
 |n+1,b,h=>by
  have hl:=RK b
  obtain ⟨i1,i2,i3⟩:=WR n (cU b).2.1 fun c hc=>h c (dM hc hl.2.1)
  have nil:(∀x∈([]:List Vl),P x)/\([]:List Vl).length<=n+1/\([]:List UInt8).length<=b.length:=⟨fun x h=>(by cases h),aP _,aP _⟩
  rw[BC]
  cases (cU b).2.2 != 0 with
  |true=>exact nil
  |false=>
  rw[aI]
  cases (R (cU b).1).2 != 0 with
  |true=>exact nil
  |false=>
  rw[aI]
  cases (jN R n (cU b).2.1).2 != 0 with
  |true=>exact nil
  |false=>
   rw[aI]
   refine ⟨fun x hx=>?_,by rw[bP];omega,dM i3 hl.2.1⟩
   rcases bU.1 hx with rfl|hx
   · exact h _ hl.1
   · exact i1 x hx
theorem WB {P:Int->Vl->Prop} {R:Ty->List UInt8->Vl×Int} {s:Sc} {fs:List Fl}:∀(g:Nat) (last:Int) (b:List UInt8),(∀f∈fs,∀c,c.length<=b.length->P f.num (R f.ty c).1)->(∀x∈(lL R s fs g last b).1,P x.1 x.2)
 |0,_,b,_,x,h=>(by cases h)
 |g+1,last,b,h,x,hx=>by
  by_cases hb:b=[]
  · subst hb;rw[KT] at hx;cases hx
  · rw[zQ hb] at hx
    have hl:=ZP b last
    have ih:=WB (P:=P) (R:=R) (s:=s) (fs:=fs) g (cH b last).1.1 (cH b last).2.1 fun f hf c hc=>h f hf c (dM hc hl.2.1)
    cases c1:(cH b last).2.2 != 0 with
    |true=>rw[c1] at hx;cases hx
    |false=>
    rw[c1,aI] at hx
    cases c2:!(fF fs (cH b last).1.1).isSome with
    |true=>rw[c2,aQ] at hx;exact ih x hx
    |false=>
    rw[c2,aI] at hx
    cases c3:FC R s ((fF fs (cH b last).1.1).getD default) (cH b last).1.2 != 0 with
    |true=>rw[c3] at hx;cases hx
    |false=>
    rw[c3,aI] at hx
    unfold w5 at hx
    cases c4:(lL R s fs g (cH b last).1.1 (cH b last).2.1).2 != 0 with
    |true=>rw[c4] at hx;cases hx
    |false=>
     rw[c4,aI] at hx
     rcases cL.1 hx with hx|hx
     · obtain rfl:=dS.1 hx
       cases hf:fF fs (cH b last).1.1 with
       |none=>rw[hf] at c2;cases c2
       |some f=>
        have hm:f∈fs:=fJ hf
        have he:f.num=(cH b last).1.1:=by have:=qM hf;simpa using this
        have:=h f hm (cH b last).1.2 hl.1
        rw[he] at this
        exact this
     · exact ih x hx
theorem aO7 {P:Int->Vl->Prop} {s:Sc} {fs:List Fl} {L:List (Int×Vl)} (h1:∀x∈L,P x.1 x.2) (h2:∀f∈fs,P f.num (zF s 23 f.ty)):∀x∈tE s fs L,P x.1 x.2:=fun x hx=>by
 obtain ⟨f,hf,hx⟩:=s3.1 hx
 unfold TK at hx
 cases hv:dH L f.num with
 |some y=>
  obtain ⟨hm,he⟩:=yR hv
  rw[hv] at hx
  obtain rfl:=dS.1 hx
  have:=h1 y hm
  rw[he] at this
  exact this
 |none=>
  rw[hv] at hx
  change x∈bif f.opt then [] else _ at hx
  cases ho:f.opt with
  |true=>rw[ho] at hx;cases hx
  |false=>rw[ho] at hx;obtain rfl:=dS.1 hx;exact h2 f hf
theorem aPO (s:Sc) (L:List (Int×Vl)) (f:Fl):(TK s L f).length<=1:=by
 unfold TK
 cases (dH L f.num).isSome<;>cases f.opt<;>simp
theorem NJ {α β:Type} {f:α->List β}:∀{l:List α},(∀x,(f x).length<=1)->(l.flatMap f).length<=l.length
 |[],_=>bE _
 |x::l,h=>by
  have h1:=h x
  have h2:=NJ (l:=l) h
  rw[iZ,bW,bP];omega
theorem VF (s:Sc) (fs:List Fl) (L:List (Int×Vl)):(tE s fs L).length<=fs.length:=NJ (aPO s L)
theorem aSF {n:Nat} (h:n<18446744073709551616):cB (CE n):=by
 unfold CE cB
 split<;>omega
theorem rg3 {s:Sc} {t:Ty} {n:Int} (h3:(t.k==3)=true):jX s t n=(decide (0<=n)&&decide (n<(2 ^ t.s.toNat:Int))):=by
 unfold jX
 rw[fN h3 (b:=1) (by decide),fN h3 (b:=2) (by decide),h3];rfl
theorem rg7 {s:Sc} {t:Ty} {n:Int} (h7:(t.k==7)=true):jX s t n=(enOf s t).vs.any (fun x=>x==n):=by
 unfold jX
 rw[fN h7 (b:=1) (by decide),fN h7 (b:=2) (by decide),fN h7 (b:=3) (by decide),h7];rfl
theorem aIV {s:Sc} (hd:Dg s) {t:Ty} (hv:valF s.ss s.es t=true) (hk:(t.k==2||(t.k==3||t.k==7))=true) {n:Nat} (hn:n<18446744073709551616) (hr:jX s t (oE t.k n)=true):cB (oE t.k n)/\((t.k==2)=false->oE t.k n=n/\n<4294967296):=by
 unfold oE at hr ⊢
 cases c2:t.k==2 with
 |true=>rw[aQ];exact ⟨aSF hn,fun h=>(by cases h)⟩
 |false=>
  rw[c2,aI] at hr
  rw[aI]
  have key:n<4294967296:=by
   cases c3:t.k==3 with
   |true=>
    rw[rg3 c3,bI] at hr
    have h2:=iO hr.2
    have h32:(2:Int) ^ (32:Int).toNat=4294967296:=by decide
    have h16:(2:Int) ^ (16:Int).toNat=65536:=by decide
    have h8:(2:Int) ^ (8:Int).toNat=256:=by decide
    rcases aE3 hv c3 with h|h|h<;>rw[h] at h2<;>omega
   |false=>
    have c7:(t.k==7)=true:=by rw[c2,c3] at hk;simpa using hk
    rw[rg7 c7,iY] at hr
    obtain ⟨x,hx,he⟩:=hr
    have:=(hd.ni.enOf t).n x hx
    have he:=eq_of_beq he
    omega
  exact ⟨⟨by omega,by omega⟩,fun _=>⟨rfl,key⟩⟩
theorem XW (b:List UInt8):(vr b).1<18446744073709551616:=by
 rcases D5 b with ⟨_,h,_⟩|⟨_,_,_,_,_,h⟩
 · rw[h];decide
 · exact h
theorem a15 (b:List UInt8):(bY b).1<18446744073709551616:=by
 rcases I2 b with ⟨_,h,_⟩|⟨_,_,h⟩
 · rw[h];decide
 · exact h
theorem aQD {s:Sc} (hs:s.fit) (hd:Dg s) {R:Ty->List UInt8->Vl×Int} {t:Ty} {b:List UInt8} (hR:∀f∈(stOf s t).fs,∀c,c.length<=b.length->VlOk (R f.ty c).1):VlOk (tF R s (stOf s t).fs b).1:=by
 unfold tF
 cases (lL R s (stOf s t).fs b.length 0 b).2 != 0 with
 |true=>exact nH
 |false=>
  rw[aI]
  have hn:=hd.ni.stOf t
  have key:=aO7 (P:=fun i v=>cB i/\VlOk v) (s:=s) (fs:=(stOf s t).fs) (L:=(lL R s (stOf s t).fs b.length 0 b).1)
   (WB (P:=fun i v=>cB i/\VlOk v) b.length 0 b fun f hf c hc=>⟨by have:=hn.n f hf;exact ⟨by omega,by omega⟩,hR f hf c hc⟩)
   (fun f hf=>⟨by have:=hn.n f hf;exact ⟨by omega,by omega⟩,O6 hs 23 f.ty ((pQ hs t).fs f hf).ty⟩)
  have hl:=VF s (stOf s t).fs (lL R s (stOf s t).fs b.length 0 b).1
  have hl2:=hn.l
  exact .mk ⟨by decide,by decide⟩ ⟨by decide,by decide⟩ (by decide) (by simp) (by omega) (fun x h=>(by cases h)) (fun x hx=>(key x hx).1) (fun x hx=>(key x hx).2)
theorem D6 {s:Sc} (hs:s.fit) (hd:Dg s):∀(N:Nat) (t:Ty) (b:List UInt8),TyOk t->valF s.ss s.es t=true->b.length<=1000000000->VlOk (d9 s N t b).1
 |0,_,_,_,_,_=>nH
 |N+1,t,b,ht,hv,hb=>by
  rw[GM]
  cases c1:t.k==1 with
  |true=>
   rw[aQ]
   unfold BN
   cases b==[] with
   |true=>exact nH
   |false=>
   cases decide (1<(b.headD 0).toNat)||decide (1<b.length) with
   |true=>exact nH
   |false=>have:=(b.headD 0).toNat_lt;exact YC ⟨by decide,by decide⟩ ⟨by omega,by omega⟩ (by decide)
  |false=>
  rw[aI]
  cases c2:t.k==2||(t.k==3||t.k==7) with
  |true=>
   rw[aQ]
   unfold BX
   cases (vr b).2.2 != 0 with
   |true=>exact nH
   |false=>
   rw[aI]
   cases decide ((vr b).2.1<b.length) with
   |true=>exact nH
   |false=>
   rw[aI]
   cases c3:jX s t (oE t.k (vr b).1) with
   |false=>exact nH
   |true=>exact YC ht.k (aIV hd hv c2 (XW b) c3).1 (by decide)
  |false=>
  rw[aI]
  cases c4:t.k==4 with
  |true=>
   rw[aQ]
   unfold dTx
   cases decide (t.s<(b.length:Int)) with
   |true=>exact nH
   |false=>exact YC ⟨by decide,by decide⟩ ⟨by decide,by decide⟩ (by rw[jA,BG];omega)
  |false=>
  rw[aI]
  cases c5:t.k==5 with
  |true=>
   rw[aQ]
   obtain ⟨u,he,hu⟩:=GU hv c5
   have hto:=ht.e u (by rw[he];exact dS.2 rfl)
   rw[he]
   show VlOk (sU (d9 s N u) t.s b).1
   unfold sU
   have hcl:=C2 b
   obtain ⟨i1,i2,_⟩:=WR (P:=VlOk) (R:=d9 s N u) (bY b).1 (bY b).2.1 fun c hc=>D6 hs hd N u c hto hu (by omega)
   cases (bY b).2.2 != 0 with
   |true=>exact nH
   |false=>
   rw[aI]
   cases c6:decide (t.s<((bY b).1:Int)) with
   |true=>exact nH
   |false=>
   rw[aI]
   cases (jN (d9 s N u) (bY b).1 (bY b).2.1).2 != 0 with
   |true=>exact nH
   |false=>
   rw[aI]
   cases !((jN (d9 s N u) (bY b).1 (bY b).2.1).1.2==[]) with
   |true=>exact nH
   |false=>
    rw[aI]
    have h1:=gL c6
    have h2:=(yY hv).2 c5
    exact .mk ⟨by decide,by decide⟩ ⟨by decide,by decide⟩ (by decide) (by omega) (by simp) i1 (fun x h=>(by cases h)) (fun x h=>(by cases h))
  |false=>
   rw[aI]
   have hn:=hd.ni.stOf t
   exact aQD hs hd fun f hf c hc=>D6 hs hd N f.ty c ((pQ hs t).fs f hf).ty (hn.v f hf) (by omega)
theorem yD {n:Nat} (h:n<18446744073709551616):oC (n:Int)=vi n:=by
 unfold oC
 have h2:IntKind.u64.wrap (n:Int)=(n:Int) % 18446744073709551616:=by simp[IntKind.wrap,IntKind.signed,IntKind.bits]
 rw[h2,show ((n:Int) % 18446744073709551616).toNat=n by omega]
theorem UW {x:Int} (h0:0<=x) (h:x<18446744073709551616):oC x=vi x.toNat:=by
 have:=yD (n:=x.toNat) (by omega)
 rwa [s0 h0] at this
theorem aA9 {l:List UInt8} (h:l.length<18446744073709551616):wR l=vi l.length++l:=by unfold wR;rw[yD h]
theorem aZ2 {n:Int} (h:cB n):B3 n<18446744073709551616/\CE (B3 n)=n:=by
 unfold cB at h
 unfold B3 CE
 split
 · have e:(2*(-(n+1))+1).toNat % 2=1:=by omega
   rw[if_pos e]
   omega
 · have e:¬ (2*n).toNat % 2=1:=by omega
   rw[if_neg e]
   omega
theorem VG {t:Ty} {v:Vl} (h1:v.k=t.k) (h2:bl v.s=[]) (h3:v.l=[]) (h4:v.f=[]):v=.mk t.k v.n (mk []) [] []:=by
 obtain ⟨k,n,s,l,f⟩:=v
 have h1:k=t.k:=h1
 have h3:l=[]:=h3
 have h4:f=[]:=h4
 have h2:bl s=bl (mk []):=h2
 rw[h1,h3,h4,mY h2];rfl
theorem RB:vi 0=[0]/\vi 1=[1]:=by
 unfold vi
 exact ⟨by rw[rG (by decide) (by decide)];rfl,by rw[rG (by decide) (by decide)];rfl⟩
def xW (F:List (Int×Vl)) (g:Fl):List (Int×Vl):=match dH F g.num with
 |some x=>[(g.num,x.2)]
 |none=>[]
theorem pA (y:Int×Vl) (F:List (Int×Vl)) (k:Int):dH (y::F) k=if y.1=k then some y else dH F k:=by
 unfold dH
 rw[nQ]
 by_cases h:y.1=k
 · rw[eE h,if_pos h]
 · rw[dP h,if_neg h]
theorem u0 {F:List (Int×Vl)} {k:Int} (h:∀x∈F,x.1≠k):dH F k=none:=by
 unfold dH
 rw[DB]
 intro x hx
 have:=h x hx
 simpa using this
theorem EJ:∀{fs:List Fl} {F:List (Int×Vl)},fs.Pairwise (fun f g=>f.num<g.num)->F.Pairwise (fun x y=>x.1<y.1)->(∀x∈F,∃f∈fs,f.num=x.1)->fs.flatMap (xW F)=F
 |[],F,_,_,h=>by
  cases F with
  |nil=>rfl
  |cons x F=>obtain ⟨f,hf,_⟩:=h x (eI ..);cases hf
 |g::fs,[],hp,_,_=>by
  have e:∀g':Fl,xW [] g'=[]:=fun g'=>rfl
  simp[e]
 |g::fs,y::F,hp,hF,h=>by
  obtain ⟨p1,p2⟩:=gU.1 hp
  obtain ⟨q1,q2⟩:=gU.1 hF
  rw[iZ]
  by_cases he:y.1=g.num
  · have e1:xW (y::F) g=[y]:=by
     unfold xW;rw[pA,if_pos he];simp only;rw[<-he]
    have e2:fs.flatMap (xW (y::F))=fs.flatMap (xW F):=by
     rw[aD2,aD2]
     congr 1
     refine vU fun g' hg'=>?_
     have:=p1 g' hg'
     unfold xW
     rw[pA,if_neg (by omega)]
    rw[e1,e2,EJ p2 q2 fun x hx=>?_]
    · rfl
    · obtain ⟨f,hf,hfe⟩:=h x (eD _ hx)
      have:=q1 x hx
      rcases bU.1 hf with rfl|hf
      · omega
      · exact ⟨f,hf,hfe⟩
  · have hy:∃f∈fs,f.num=y.1:=by
     obtain ⟨f,hf,hfe⟩:=h y (eI ..)
     rcases bU.1 hf with rfl|hf
     · exact absurd hfe.symm he
     · exact ⟨f,hf,hfe⟩
    obtain ⟨f0,hf0,hfe0⟩:=hy
    have hlt:=p1 f0 hf0
    have e1:xW (y::F) g=[]:=by
     unfold xW
     rw[u0 fun x hx=>?_]
     rcases bU.1 hx with rfl|hx
     · exact he
     · have:=q1 x hx;omega
    rw[e1,jT]
    exact EJ p2 hF fun x hx=>by
     obtain ⟨f,hf,hfe⟩:=h x hx
     rcases bU.1 hf with rfl|hf
     · rcases bU.1 hx with rfl|hx
       · exact absurd hfe.symm he
       · have:=q1 x hx;omega
     · exact ⟨f,hf,hfe⟩
theorem VB {fs:List Fl}:∀{l:List (Int×Vl)} {p:Option Int},ftA fs p l=true->∀x∈l,(fF fs x.1).isSome=true
 |y::l,p,h,x,hx=>by
  rw[zY,bI,bI] at h
  rcases bU.1 hx with rfl|hx
  · exact h.1.1
  · exact VB h.2 x hx
theorem t7 {α β:Type} {f h:α->List β}:∀{l:List α},(∀x∈l,f x=h x)->l.flatMap f=l.flatMap h
 |[],_=>rfl
 |x::l,e=>by rw[iZ,iZ,e x (eI ..),t7 fun y hy=>e y (eD _ hy)]
theorem TJ {fs:List Fl}:∀{F:List (Int×Vl)} {p:Option Int},ftA fs p F=true->(∀q,p=some q->∀x∈F,q<x.1)/\F.Pairwise (fun x y=>x.1<y.1)
 |[],_,_=>⟨fun _ _ x h=>(by cases h),.nil⟩
 |y::F,p,h=>by
  rw[zY,bI,bI] at h
  obtain ⟨i1,i2⟩:=TJ h.2
  have h1:=i1 y.1 rfl
  refine ⟨fun q hq x hx=>?_,gU.2 ⟨h1,i2⟩⟩
  have h2:q<y.1:=by rw[hq] at h;exact iO h.1.2
  rcases bU.1 hx with rfl|hx
  · exact h2
  · exact aD1 h2 (h1 x hx)
theorem aJB {fs:List Fl} {k:Int} {f:Fl} (h:fF fs k=some f):f∈fs/\f.num=k:=by
 exact ⟨fJ h,by have:=qM h;simpa using this⟩
structure Fits (s:Sc) (u:St) (F:List (Int×Vl)):Prop where
 p:F.Pairwise (fun x y=>x.1<y.1)
 m:∀x∈F,∃f∈u.fs,f.num=x.1
 r:∀f∈u.fs,f.opt=false->∃x∈F,x.1=f.num
theorem VU {s:Sc} {u:St} {F:List (Int×Vl)} (h:eY u.fs F=true):Fits s u F:=by
 have h':=h
 unfold eY at h'
 rw[bI,List.all_eq_true] at h'
 refine ⟨(TJ h'.1).2,fun x hx=>?_,fun f hf ho=>?_⟩
 · have:=VB h'.1 x hx
   obtain ⟨f,hf⟩:=oW.1 this
   obtain ⟨h1,h2⟩:=aJB hf
   exact ⟨f,h1,h2⟩
 · have:=h'.2 f hf
   rw[ho,bK] at this
   unfold qX at this
   rw[iY] at this
   obtain ⟨x,hx,he⟩:=this
   exact ⟨x,hx,eq_of_beq he⟩
def sO (s:Sc) (F:List (Int×Vl)) (g:Fl):Bool:=!(dH F g.num).isSome||(!g.opt&&iM (((dH F g.num).map (·.2)).getD default) (zF s 23 g.ty))
theorem H8 (R:Ty->Vl->List UInt8) (s:Sc) (F:List (Int×Vl)) (g:Fl):BR R s F g=bif sO s F g then [] else oC g.num++wR (R g.ty (((dH F g.num).map (·.2)).getD default)):=rfl
theorem YB {s:Sc} {t:Ty} (hv:valF s.ss s.es t=true) (c1:(t.k==1)=false) (c2:(t.k==2||(t.k==3||t.k==7))=false) (c4:(t.k==4)=false) (c5:(t.k==5)=false):(t.k==6)=true:=by
 rw[cY,cY] at c2
 rcases KZ hv with h|h|h|h|h|h|h
 · rw[h] at c1;cases c1
 · rw[h] at c2;cases c2.1
 · rw[h] at c2;cases c2.2.1
 · rw[h] at c4;cases c4
 · rw[h] at c5;cases c5
 · exact h
 · rw[h] at c2;cases c2.2.2
def pF (k:Int) (t:Ty):Ty:=bif decide (k=t.k)&&decide (t.k=5)&&decide (t.e.length=1) then t.e.headD default else default
def oJ (s:Sc) (k:Int) (t:Ty):Option (List Fl):=bif decide (k=t.k)&&decide (t.k=6)&&aZ s.ss t.n then some ((fS s.ss t.n).getD default).fs else none
mutual
def pj (s:Sc) (t:Ty):Vl->Vl
 |.mk k n str l f=>.mk k n str (wQ s (pF k t) l) (pjF s (oJ s k t) f)
def wQ (s:Sc) (t:Ty):List Vl->List Vl
 |[]=>[]
 |v::r=>pj s t v::wQ s t r
def pjF (s:Sc) (o:Option (List Fl)):List (Int×Vl)->List (Int×Vl)
 |[]=>[]
 | (i,v)::r=>match o with
  |none=>(i,pj s default v)::pjF s o r
  |some fs=>match fF fs i with
   |some g=>(i,pj s g.ty v)::pjF s o r
   |none=>pjF s o r
end
theorem D1 (s:Sc) (t:Ty):∀l:List Vl,wQ s t l=l.map (pj s t)
 |[]=>rfl
 |v::r=>by rw[wQ,D1 s t r];rfl
def hT (s:Sc) (o:Option (List Fl)) (x:Int×Vl):List (Int×Vl):=match o with
 |none=>[(x.1,pj s default x.2)]
 |some fs=>match fF fs x.1 with
  |some g=>[(x.1,pj s g.ty x.2)]
  |none=>[]
theorem AV (s:Sc) (o:Option (List Fl)):∀l:List (Int×Vl),pjF s o l=l.flatMap (hT s o)
 |[]=>rfl
 | (i,v)::r=>by
  rw[pjF.eq_def,iZ,<-AV s o r]
  unfold hT
  cases o with
  |none=>rfl
  |some fs=>cases h:fF fs i<;>simp[h]
theorem oK (s:Sc) (t:Ty) (v:Vl):pj s t v=.mk v.k v.n v.s (v.l.map (pj s (pF v.k t))) (v.f.flatMap (hT s (oJ s v.k t))):=by
 cases v with
 |mk k n str l f=>rw[pj,D1,AV];rfl
theorem UP (k:Int):pF k default=default:=by
 unfold pF
 cases (decide (k=(default:Ty).k)&&decide ((default:Ty).k=5)&&decide ((default:Ty).e.length=1))<;>rfl
theorem UQ (s:Sc) (k:Int):oJ s k default=none:=by
 unfold oJ
 have:decide ((default:Ty).k=6)=false:=by decide
 rw[this,dF,bL];rfl
mutual
theorem tQ (s:Sc):∀v:Vl,pj s default v=v
 |.mk k n str l f=>by rw[pj,UP,UQ,rY s l,sB s f]
theorem rY (s:Sc):∀l:List Vl,wQ s default l=l
 |[]=>rfl
 |v::r=>by rw[wQ,tQ s v,rY s r]
theorem sB (s:Sc):∀f:List (Int×Vl),pjF s none f=f
 |[]=>rfl
 | (i,v)::r=>by rw[pjF,tQ s v,sB s r]
end
theorem aD9 {s:Sc} {t:Ty} {v:Vl} (h:v.k≠t.k):pj s t v=v:=by
 cases v with
 |mk k n str l f=>
  have h:k≠t.k:=h
  have e1:pF k t=default:=by unfold pF;rw[dP h];rfl
  have e2:oJ s k t=none:=by unfold oJ;rw[dP h];rfl
  rw[pj,e1,e2,rY,sB]
mutual
theorem GH (s:Sc):∀(v:Vl) (t:Ty),pj s t (pj s t v)=pj s t v
 |.mk k n str l f,t=>by
  rw[pj,pj,N5 s l,wF s f]
theorem N5 (s:Sc):∀(l:List Vl) (t:Ty),wQ s t (wQ s t l)=wQ s t l
 |[],_=>rfl
 |v::r,t=>by rw[wQ,wQ,GH s v t,N5 s r t]
theorem wF (s:Sc):∀(f:List (Int×Vl)) (o:Option (List Fl)),pjF s o (pjF s o f)=pjF s o f
 |[],_=>rfl
 | (i,v)::r,o=>by
  cases o with
  |none=>
   rw[pjF,pjF,GH s v default,wF s r none]
  |some fs=>
   rw[pjF]
   cases h:fF fs i with
   |none=>dsimp only;rw[wF s r (some fs)]
   |some g=>
    dsimp only
    rw[pjF]
    simp only[h]
    rw[GH s v g.ty,wF s r (some fs)]
end
theorem aO6 (s:Sc) (o:Option (List Fl)) (x:Int×Vl):(hT s o x).length<=1:=by
 unfold hT
 cases o with
 |none=>exact bE _
 |some fs=>dsimp only;cases fF fs x.1<;>simp
theorem aEV (s:Sc) (o:Option (List Fl)) (l:List (Int×Vl)):(l.flatMap (hT s o)).length<=l.length:=by
 induction l with
 |nil=>exact bE _
 |cons x l ih=>rw[iZ,bW,bP];have:=aO6 s o x;omega
mutual
theorem PO {s:Sc}:∀{v:Vl} {t:Ty},VlOk v->VlOk (pj s t v)
 |.mk k n str l f,t,h=>by
  rw[pj]
  refine .mk h.k h.n h.s ?_ ?_ (aCD (fun x hx=>h.l x hx)) (fun x hx=>(CK (fun y hy=>⟨h.fn y hy,h.f y hy⟩) x hx).1) (fun x hx=>(CK (fun y hy=>⟨h.fn y hy,h.f y hy⟩) x hx).2)
  · rw[D1,cE];exact h.ll
  · have:=h.lf
    have h2:=aEV s (oJ s k t) f
    rw[AV]
    have h3:f.length*88<=140737488355328:=this
    omega
theorem aCD {s:Sc}:∀{l:List Vl} {t:Ty},(∀x∈l,VlOk x)->∀x∈wQ s t l,VlOk x
 |[],_,_,x,hx=>by rw[wQ] at hx;cases hx
 |v::r,t,h,x,hx=>by
  rw[wQ] at hx
  rcases bU.1 hx with rfl|hx
  · exact PO (h v (by simp))
  · exact aCD (fun y hy=>h y (eD _ hy)) x hx
theorem CK {s:Sc}:∀{f:List (Int×Vl)} {o:Option (List Fl)},(∀x∈f,cB x.1/\VlOk x.2)->∀x∈pjF s o f,cB x.1/\VlOk x.2
 |[],_,_,x,hx=>by rw[pjF] at hx;cases hx
 | (i,v)::r,o,h,x,hx=>by
  have h1:=h (i,v) (by simp)
  have h2:∀y∈r,cB y.1/\VlOk y.2:=fun y hy=>h y (eD _ hy)
  cases o with
  |none=>
   rw[pjF] at hx
   rcases bU.1 hx with rfl|hx
   · exact ⟨h1.1,PO h1.2⟩
   · exact CK h2 x hx
  |some fs=>
   rw[pjF] at hx
   cases hf:fF fs i with
   |none=>rw[hf] at hx;exact CK h2 x hx
   |some g=>
    rw[hf] at hx
    simp only at hx
    rcases bU.1 hx with rfl|hx
    · exact ⟨h1.1,PO h1.2⟩
    · exact CK h2 x hx
end
noncomputable def F2:Nat->Ty->Ty->Bool
 |0,a,b=>l5 a b
 |n+1,a,b=>l5 a b||(decide (a.k=b.k)&&decide (a.n=b.n)&&(bif decide (a.k=5) then decide (a.e.length=1)&&decide (b.e.length=1)&&decide (a.s<=b.s)&&F2 n (a.e.headD default) (b.e.headD default)
  else (decide (a.k=2)||decide (a.k=3)||decide (a.k=4))&&decide (a.s<b.s)&&l5 a (.mk b.k a.s b.n b.e)))
noncomputable def c8 (a b:Ty):Bool:=F2 a.h a b
theorem h_pos (t:Ty):0<t.h:=by cases t;rw[Ty.h];omega
theorem HE {l:List Ty} (h:l.length=1):l.headD default∈l:=by
 match l,h with
 |[x],_=>simp
theorem NO:∀{n m:Nat} {a b:Ty},a.h<=n->a.h<=m->F2 n a b=F2 m a b
 |0,_,a,_,h,_=>by have:=h_pos a;omega
 |_+1,0,a,_,_,h=>by have:=h_pos a;omega
 |n+1,m+1,a,b,h1,h2=>by
  rw[F2,F2]
  by_cases hl:a.e.length=1
  · have hh:=Ty.h_e (HE hl)
    rw[NO (n:=n) (m:=m) (by omega) (by omega)]
  · simp[hl]
theorem CC (a b:Ty):c8 a b=(l5 a b||(decide (a.k=b.k)&&decide (a.n=b.n)&&(bif decide (a.k=5) then decide (a.e.length=1)&&decide (b.e.length=1)&&decide (a.s<=b.s)&&c8 (a.e.headD default) (b.e.headD default)
 else (decide (a.k=2)||decide (a.k=3)||decide (a.k=4))&&decide (a.s<b.s)&&l5 a (.mk b.k a.s b.n b.e)))):=by
 obtain ⟨m,hm⟩:∃m,a.h=m+1:=⟨a.h-1,by have:=h_pos a;omega⟩
 unfold c8
 rw[hm,F2]
 by_cases hl:a.e.length=1
 · have hh:=Ty.h_e (HE hl)
   rw[NO (n:=m) (m:=(a.e.headD default).h) (by omega) (bE _)]
 · simp[hl]
theorem aBA (a:Ty):c8 a a=true:=by rw[CC,xX rfl,cR]
theorem o9 {a b:Ty}:c8 a b=true ↔ a=b\/(a.k=b.k/\a.n=b.n/\((a.k=5/\a.e.length=1/\b.e.length=1/\a.s<=b.s/\c8 (a.e.headD default) (b.e.headD default)=true)\/(a.k≠5/\(a.k=2\/a.k=3\/a.k=4)/\a.s<b.s/\a.e=b.e))):=by
 rw[CC]
 have hx:l5 a (.mk b.k a.s b.n b.e)=true ↔ (a.k=b.k/\a.n=b.n/\a.e=b.e):=by
  rw[rQ]
  cases a with
  |mk k s n e=>simp[Ty.k,Ty.s,Ty.n,Ty.e]
 by_cases h5:a.k=5
 · simp only[fB,bI,fU,rQ,h5,decide_true,aQ,true_and,not_true,ne_eq,false_and,or_false]
   simp only[and_assoc]
 · simp only[fB,bI,fU,rQ,h5,decide_false,aI,false_and,false_or,ne_eq,not_false_eq_true,true_and,hx]
   constructor
   · rintro (h|⟨⟨h1,h2⟩,⟨h3,h4⟩,h5,h6,h7⟩)
     · exact .inl h
     · exact .inr ⟨h1,h2,by omega,h4,h7⟩
   · rintro (h|⟨h1,h2,h3,h4,h5⟩)
     · exact .inl h
     · exact .inr ⟨⟨h1,h2⟩,⟨by omega,h4⟩,h1,h2,h5⟩
noncomputable def yQ (a b:List Ty):Bool:=@decide (a=b) (Classical.propDecidable _)
theorem EZ {a b:List Ty}:yQ a b=true ↔ a=b:=by unfold yQ;simp
theorem aGC (a b:Ty):c8 a b=(l5 a b||(decide (a.k=b.k)&&decide (a.n=b.n)&&decide (a.e.length=b.e.length) &&
 (bif decide (a.k=2)||decide (a.k=3) then decide (a.s<b.s)&&yQ a.e b.e else bif decide (a.k=4) then decide (a.s<=b.s)&&yQ a.e b.e else bif decide (a.k=5) then decide (a.s<=b.s)&&decide (a.e.length=1)&&c8 (a.e.headD default) (b.e.headD default) else false))):=by
 rw[fH,o9]
 have he:a=b ↔ (a.k=b.k/\a.s=b.s/\a.n=b.n/\a.e=b.e):=by
  cases a;cases b;simp[Ty.k,Ty.s,Ty.n,Ty.e]
 simp only[fB,bI,fU,rQ]
 by_cases h2:a.k=2\/a.k=3
 · have e2:(decide (a.k=2)||decide (a.k=3))=true:=by simpa using h2
   rw[e2,aQ]
   simp only[bI,fU,EZ]
   constructor
   · rintro (h|⟨h3,h4,⟨h5,_⟩|⟨_,_,h5,h6⟩⟩)
     · exact .inl h
     · omega
     · exact .inr ⟨⟨⟨h3,h4⟩,by rw[h6]⟩,h5,h6⟩
   · rintro (h|⟨⟨⟨h3,h4⟩,_⟩,h5,h6⟩)
     · exact .inl h
     · exact .inr ⟨h3,h4,.inr ⟨by omega,by omega,h5,h6⟩⟩
 · have e2:(decide (a.k=2)||decide (a.k=3))=false:=by simpa using h2
   rw[e2,aI]
   by_cases h4:a.k=4
   · rw[eE h4,aQ]
     simp only[bI,fU,EZ]
     constructor
     · rintro (h|⟨h3,h5,⟨h6,_⟩|⟨_,_,h6,h7⟩⟩)
       · exact .inl h
       · omega
       · exact .inr ⟨⟨⟨h3,h5⟩,by rw[h7]⟩,by omega,h7⟩
     · rintro (h|⟨⟨⟨h3,h5⟩,_⟩,h6,h7⟩)
       · exact .inl h
       · rcases Int.lt_or_eq_of_le h6 with h8|h8
         · exact .inr ⟨h3,h5,.inr ⟨by omega,by omega,h8,h7⟩⟩
         · exact .inl (he.2 ⟨h3,h8,h5,h7⟩)
   · rw[dP h4,aI]
     by_cases h5:a.k=5
     · rw[eE h5,aQ]
       simp only[bI,fU]
       constructor
       · rintro (h|⟨h3,h6,⟨_,h7,h8,h9,h10⟩|⟨h7,_⟩⟩)
         · exact .inl h
         · exact .inr ⟨⟨⟨h3,h6⟩,by omega⟩,⟨h9,h7⟩,h10⟩
         · exact absurd h5 h7
       · rintro (h|⟨⟨⟨h3,h6⟩,h7⟩,⟨h8,h9⟩,h10⟩)
         · exact .inl h
         · exact .inr ⟨h3,h6,.inl ⟨h5,h9,by omega,h8,h10⟩⟩
     · rw[dP h5,aI]
       constructor
       · rintro (h|⟨h3,h6,⟨h7,_⟩|⟨_,h7,_⟩⟩)
         · exact .inl h
         · exact absurd h7 h5
         · omega
       · rintro (h|⟨_,h⟩)
         · exact .inl h
         · cases h
structure Is where
 k:Int
 n:Int
 t:ByteArray
instance:Inhabited Is:=⟨⟨0,0,ByteArray.empty⟩⟩
theorem is_eq {a b:Is}:a=b ↔ (a.k=b.k/\a.n=b.n/\a.t=b.t):=by cases a;cases b;simp
instance:DecidableEq Is:=fun _ _=>decidable_of_iff _ is_eq.symm
def bR (x:Is):List C:=[.vl (.int .i64 x.k),.vl (.int .i64 x.n),.vl (.string x.t)]
theorem aO3 {a b:Is} (h:bR a=bR b):a=b:=by
 rw[is_eq]
 simpa[bR] using h
def mE (l:List Is) (x:Is):List Is:=bif l.any (fun y=>decide (x=y)) then l else l++[x]
def b8 (l xs:List Is):List Is:=xs.foldl mE l
theorem oZ (l xs ys:List Is):b8 l (xs++ys)=b8 (b8 l xs) ys:=zI
theorem iH (l:List Is):b8 l []=l:=rfl
theorem mW (l:List Is) (x:Is):b8 l [x]=mE l x:=rfl
theorem Q8 {l:List Is} {x:Is}:l.any (fun y=>decide (x=y))=true ↔ x∈l:=by
 rw[iY]
 constructor
 · rintro ⟨y,h1,h2⟩
   rw[iO h2];exact h1
 · intro h
   exact ⟨x,h,by simp⟩
theorem aE9 {l:List Is} {x y:Is}:y∈mE l x ↔ y∈l\/y=x:=by
 unfold mE
 cases h:l.any (fun y=>decide (x=y)) with
 |true=>
  have:=Q8.1 h
  rw[aQ]
  constructor
  · exact .inl
  · rintro (h|rfl)
    · exact h
    · exact this
 |false=>simp
theorem FZ {y:Is}:∀{xs l:List Is},y∈b8 l xs ↔ y∈l\/y∈xs
 |[],l=>by simp[b8]
 |x::xs,l=>by
  show y∈b8 (mE l x) xs ↔ _
  rw[FZ,aE9,bU,or_assoc]
theorem aN1 {l:List Is} {x:Is} (h:l.Nodup):(mE l x).Nodup:=by
 unfold mE
 cases h1:l.any (fun y=>decide (x=y)) with
 |true=>exact h
 |false=>
  have:x ∉ l:=fun hx=>by rw[Q8.2 hx] at h1;cases h1
  rw[aI,List.nodup_append]
  exact ⟨h,by simp,fun a ha b hb e=>by simp at hb;subst hb;subst e;exact this ha⟩
theorem UX:∀{xs l:List Is},l.Nodup->(b8 l xs).Nodup
 |[],_,h=>h
 |x::xs,l,h=>UX (xs:=xs) (l:=mE l x) (aN1 h)
theorem Q0 (l:List Is) (x:Is):(mE l x).length<=l.length+1:=by
 unfold mE
 cases l.any (fun y=>decide (x=y))<;>simp
theorem oY:∀(xs l:List Is),(b8 l xs).length<=l.length+xs.length
 |[],l=>bE _
 |x::xs,l=>by
  have h1:=oY xs (mE l x)
  have h2:=Q0 l x
  show (b8 (mE l x) xs).length<=_
  rw[bP];omega
def uY (a b:Is):Prop:=FT a.t b.t\/(a.t=b.t/\(a.k<b.k\/(a.k=b.k/\a.n<b.n)))
theorem uB (a:Is):¬ uY a a:=by
 rintro (h|⟨_,h|⟨_,h⟩⟩)
 · exact lS _ h
 · omega
 · omega
theorem w6 {a b c:Is} (h:uY a b) (h2:uY b c):uY a c:=by
 rcases h with h|⟨e,h⟩
 · rcases h2 with h2|⟨e2,h2⟩
   · exact .inl (wV h h2)
   · exact .inl (e2 ▸ h)
 · rcases h2 with h2|⟨e2,h2⟩
   · exact .inl (e ▸ h2)
   · exact .inr ⟨e.trans e2,by omega⟩
theorem CM {a b:Is} (h:¬ uY a b) (h2:a≠b):uY b a:=by
 by_cases e:a.t=b.t
 · refine .inr ⟨e.symm,?_⟩
   have h3:¬ (a.k<b.k\/(a.k=b.k/\a.n<b.n)):=fun h3=>h (.inr ⟨e,h3⟩)
   have h4:¬ (a.k=b.k/\a.n=b.n):=fun h4=>h2 (is_eq.2 ⟨h4.1,h4.2,e⟩)
   omega
 · exact .inl (CG (fun h3=>h (.inl h3)) e)
noncomputable def n5 (a b:Is):Bool:=@decide (uY a b) (Classical.propDecidable _)
theorem iJ {a b:Is}:n5 a b=true ↔ uY a b:=by unfold n5;simp
theorem aPT (a b:Is):n5 a b=(Op.bytesLess (bl a.t) (bl b.t)||(decide (a.t=b.t)&&(decide (a.k<b.k)||(decide (a.k=b.k)&&decide (a.n<b.n))))):=by
 rw[fH,iJ,EN]
 simp only[uY,fB,bI,fU]
def AN (l:List Is):Prop:=l.Pairwise uY
theorem GL:∀{a b:List Is},AN a->AN b->(∀x,x∈a ↔ x∈b)->a=b
 |[],[],_,_,_=>rfl
 |[],y::b,_,_,h=>by have:=(h y).2 eI;cases this
 |x::a,[],_,_,h=>by have:=(h x).1 eI;cases this
 |x::a,y::b,h1,h2,h=>by
  obtain ⟨p1,p2⟩:=gU.1 h1
  obtain ⟨p3,p4⟩:=gU.1 h2
  have e:x=y:=by
   rcases bU.1 ((h x).1 eI) with e|e
   · exact e
   · rcases bU.1 ((h y).2 eI) with e2|e2
     · exact e2.symm
     · exact absurd (w6 (p1 y e2) (p3 x e)) (uB x)
  subst e
  rw[GL p2 p4 fun z=>?_]
  constructor
  · intro hz
    rcases bU.1 ((h z).1 (eD _ hz)) with e|e
    · exact absurd (p1 z hz) (by rw[e];exact uB x)
    · exact e
  · intro hz
    rcases bU.1 ((h z).2 (eD _ hz)) with e|e
    · exact absurd (p3 z hz) (by rw[e];exact uB x)
    · exact e
theorem aNJ {l' l:List Is} (hp:l'.Perm l) (hn:l.Nodup) (hs:l'.Pairwise fun a b=>n5 b a=false):AN l':=by
 have hn':l'.Nodup:=hp.nodup_iff.2 hn
 refine List.Pairwise.imp₂ (fun a b h1 h2=>?_) hs hn'
 have h3:¬ uY b a:=fun h=>by rw[iJ.2 h] at h1;cases h1
 exact CM h3 (fun e=>h2 e.symm)
noncomputable def eR (x:Is):Bool->List Is->List Is
 |d,[]=>bif d then [] else [x]
 |d,y::r=>bif !(d||decide (y=x))&&n5 x y then x::y::eR x true r else y::eR x (d||decide (y=x)) r
theorem pG (x:Is):∀l,eR x true l=l
 |[]=>rfl
 |y::r=>by rw[eR,cR,pG x r];rfl
theorem AM (x:Is):∀(d:Bool) (l:List Is),(eR x d l).length<=l.length+1
 |d,[]=>by cases d<;>simp[eR]
 |d,y::r=>by
  have h2:=AM x (d||decide (y=x)) r
  rw[eR,pG]
  cases (!(d||decide (y=x))&&n5 x y)
  · simp only[aI,bP];omega
  · simp
theorem GD {x z:Is}:∀{l:List Is},z∈eR x false l ↔ z=x\/z∈l
 |[]=>by simp[eR]
 |y::r=>by
  rw[eR,pG,bK]
  by_cases c2:y=x
  · subst c2
    simp[pG]
  · rw[dP c2]
    cases c1:n5 x y with
    |true=>simp
    |false=>
     have:=GD (x:=x) (z:=z) (l:=r)
     simp[this]
     constructor
     · rintro (h|h|h)
       · exact .inr (.inl h)
       · exact .inl h
       · exact .inr (.inr h)
     · rintro (h|h|h)
       · exact .inr (.inl h)
       · exact .inl h
       · exact .inr (.inr h)
theorem P5 {x:Is}:∀{l:List Is},AN l->AN (eR x false l)
 |[],_=>by simp[eR,AN]
 |y::r,h=>by
  obtain ⟨p1,p2⟩:=gU.1 h
  rw[eR,pG,bK]
  by_cases c2:y=x
  · rw[eE c2,pG];exact h
  · rw[dP c2]
    cases c1:n5 x y with
    |true=>
     have c1:=iJ.1 c1
     refine gU.2 ⟨fun z hz=>?_,h⟩
     rcases bU.1 hz with rfl|hz
     · exact c1
     · exact w6 c1 (p1 z hz)
    |false=>
     have c1:¬ uY x y:=fun h=>by rw[iJ.2 h] at c1;cases c1
     refine gU.2 ⟨fun z hz=>?_,P5 p2⟩
     rcases GD.1 hz with rfl|hz
     · exact CM c1 (fun e=>c2 e.symm)
     · exact p1 z hz
noncomputable def cF (l xs:List Is):List Is:=xs.foldl (fun l x=>eR x false l) l
theorem rF (l xs ys:List Is):cF l (xs++ys)=cF (cF l xs) ys:=zI
theorem uX {y:Is}:∀{xs l:List Is},y∈cF l xs ↔ y∈l\/y∈xs
 |[],l=>by simp[cF]
 |x::xs,l=>by
  show y∈cF (eR x false l) xs ↔ _
  rw[uX,GD,bU,or_assoc,or_left_comm]
theorem zM:∀{xs l:List Is},AN l->AN (cF l xs)
 |[],_,h=>h
 |x::xs,l,h=>zM (xs:=xs) (l:=eR x false l) (P5 h)
theorem vH:∀(xs l:List Is),(cF l xs).length<=l.length+xs.length
 |[],l=>bE _
 |x::xs,l=>by
  have h1:=vH xs (eR x false l)
  have h2:=AM x false l
  show (cF (eR x false l) xs).length<=_
  rw[bP];omega
theorem a9M {s:Sc} (hf:s.fit) (h:aL s=0) {n:ByteArray} (hn:aZ s.ss n=true):cI s.es n=false:=by
 obtain ⟨_,_,_,h2,_⟩:=lQ hf h
 obtain ⟨t,ht⟩:=NK hn
 obtain ⟨htm,rfl⟩:=fQ ht
 obtain ⟨i,hi⟩:=eN.1 htm
 exact (V2 (DO hi (jC h2 i (bT.1 hi).1)).1).2.1
theorem EB {s:Sc} (h:s.fit) (n:ByteArray):(jY s n).length<=32:=by
 unfold jY
 cases hok:pN s n with
 |false=>exact aP _
 |true=>
  have:=(lQ h (TO hok).1).1.vlen n
  rw[aQ,wU];exact this
theorem aB2 {s:Sc} (h:s.fit) (n:ByteArray):xH ((jY s n).map bH):=rJ (by have:=EB h n;omega)
theorem VL {ss:List St} {es:List En} {t:St} (h:tB ss es t=0) {i:Nat} {f g:Fl} (hf:t.fs[i]? = some f) (hg:t.fs[i+1]? = some g):f.num<g.num:=by
 have:=jC h (i+1) (bT.1 hg).1
 unfold mV at this
 rw[hg] at this
 simp only[UH,hf] at this
 cases c1:decide (g.num<1)||decide (127<g.num) with
 |true=>rw[c1] at this;simp at this
 |false=>
 rw[c1] at this
 simp only[aI] at this
 have c0:decide (0<((i+1:Nat):Int))=true:=eE (by omega)
 rw[c0,bF] at this
 by_cases c2:g.num<=f.num
 · rw[eE c2] at this;simp at this
 · omega
theorem aS4 {ss:List St} {es:List En} {t:St} (h:tB ss es t=0):t.fs.Pairwise fun f g=>f.num<g.num:=by
 rw[List.pairwise_iff_getElem]
 have key:∀d i (hi:i<t.fs.length) (hj:i+d+1<t.fs.length),t.fs[i].num<t.fs[i+d+1].num:=by
  intro d
  induction d with
  |zero=>intro i hi hj;exact VL h (aX hi) (aX hj)
  |succ d ih=>
   intro i hi hj
   have h1:=ih i hi (by omega)
   have h2:=VL h (aX (show i+d+1<t.fs.length by omega)) (aX (show i+d+1+1<t.fs.length by omega))
   have:i+(d+1)+1=i+d+1+1:=by omega
   simp only[this]
   omega
 intro i j hi hj hij
 obtain ⟨d,rfl⟩:∃d,j=i+d+1:=⟨j-i-1,by omega⟩
 exact key d i hi hj
theorem OG:∀{l:List Fl},l.Pairwise (fun f g=>f.num<g.num)->∀{f:Fl},f∈l->fF l f.num=some f
 |[],_,f,h=>by cases h
 |x::l,h,f,hf=>by
  obtain ⟨h1,h2⟩:=gU.1 h
  unfold fF
  rw[nQ]
  rcases bU.1 hf with rfl|hf
  · simp
  · have:decide (x.num=f.num)=false:=by have:=h1 f hf;simp;omega
    rw[this]
    exact OG h2 hf
theorem yK {l:List Fl} {k:Int} {f:Fl} (h:fF l k=some f):f∈l/\f.num=k:=by
 refine ⟨fJ h,?_⟩
 have:=qM h
 simpa using this
theorem uS {s:Sc} (hf:s.fit) (h:aL s=0) {n:ByteArray} (hn:aZ s.ss n=true):∃t,fS s.ss n=some t/\t∈s.ss/\t.nm=n/\t.fs.length<=16/\(∀f∈t.fs,(1<=f.num/\f.num<=127)/\fF t.fs f.num=some f):=by
 obtain ⟨_,_,_,h2,hl,_⟩:=lQ hf h
 obtain ⟨t,ht⟩:=NK hn
 obtain ⟨htm,hnm⟩:=fQ ht
 obtain ⟨i,hi⟩:=eN.1 htm
 have hc:=(DO hi (jC h2 i (bT.1 hi).1)).2
 exact ⟨t,ht,htm,hnm,(rW hl).2.2.2 t htm,fun f hm=>⟨(VT hc f hm).1,OG (aS4 hc) hm⟩⟩
theorem TY {s:Sc} (hf:s.fit) (h:aL s=0) {n:ByteArray} {e:En} (he:cO s.es n=some e):e.vs.length=e.ns.length/\e.ns.length<=16:=by
 obtain ⟨_,_,h1,_,hl,_⟩:=lQ hf h
 obtain ⟨hem,_⟩:=y8 he
 obtain ⟨i,hi⟩:=eN.1 hem
 have hc:=(ED hi (jC h1 i (bT.1 hi).1)).2.2
 unfold pW at hc
 cases c:decide (e.ns.length=0)||decide (e.ns.length≠e.vs.length) with
 |true=>rw[c] at hc;simp at hc
 |false=>
  simp at c
  exact ⟨c.2.symm,(rW hl).2.2.1 e hem⟩
theorem aVB {s:Sc} (hf:s.fit) (h:aL s=0) {n:ByteArray} {e:En} (he:cO s.es n=some e):∀v∈e.vs,0<=v/\v<=127:=by
 intro v hv
 have hl:=TY hf h he
 obtain ⟨_,_,h1,_,_,_⟩:=lQ hf h
 obtain ⟨hem,_⟩:=y8 he
 obtain ⟨i,hi⟩:=eN.1 hem
 have hc:=(ED hi (jC h1 i (bT.1 hi).1)).2.2
 unfold pW at hc
 cases c:decide (e.ns.length=0)||decide (e.ns.length≠e.vs.length) with
 |true=>rw[c] at hc;simp at hc
 |false=>
  rw[c,aI] at hc
  obtain ⟨k,hk⟩:=eN.1 hv
  have hkl:=(bT.1 hk).1
  have hz:=jC (f:=iI e) (m:=e.ns.length) hc k (by omega)
  have hn:e.ns[k]? = some e.ns[k]:=aX (by omega)
  unfold iI at hz
  rw[hk,hn] at hz
  simp only at hz
  cases d1:eP (bl e.ns[k]) with
  |false=>rw[d1] at hz;simp at hz
  |true=>
  rw[d1] at hz
  cases d2:bJ (e.ns.take k) e.ns[k] with
  |true=>rw[d2] at hz;simp at hz
  |false=>
  rw[d2] at hz
  cases d3:decide (v<0)||decide (127<v) with
  |true=>rw[d3] at hz;simp at hz
  |false=>
   simp only[cY,qF] at d3
   omega
noncomputable def dX (nm:ByteArray) (b:St) (f:Fl):List Is:=match fF b.fs f.num with
 |none=>bif f.opt then [] else [⟨2,f.num,nm⟩]
 |some g=>(bif c8 f.ty g.ty then [] else [⟨1,f.num,nm⟩])++(bif f.opt==g.opt then [] else [⟨3,f.num,nm⟩])
def kT (nm:ByteArray) (a:St) (g:Fl):List Is:=bif (fF a.fs g.num).isNone&&!g.opt then [⟨2,g.num,nm⟩] else []
noncomputable def lP (nm:ByteArray) (a b:St):List Is:=a.fs.flatMap (dX nm b)++b.fs.flatMap (kT nm a)
def eT (nm:ByteArray) (vs:List Int) (e:En):List Is:=(vs.filter fun v=>!(e.vs.any fun w=>decide (v=w))).map fun v=>⟨4,v,nm⟩
def RI (nm:ByteArray) (d e:En):List Is:=eT nm d.vs e
noncomputable def iU (o n:Sc) (x:ByteArray):List Is:=bif aZ o.ss x != aZ n.ss x then [⟨5,0,x⟩] else
 (bif aZ o.ss x then lP x ((fS o.ss x).getD default) ((fS n.ss x).getD default) else [])++(bif cI o.es x&&cI n.es x then RI x ((cO o.es x).getD default) ((cO n.es x).getD default) else [])
def mF (o n:Sc) (x:ByteArray):List ByteArray:=x::(jY o x).filter (bJ (jY n x))
noncomputable def n9 (o n:Sc) (x:ByteArray):List Is:=(mF o n x).flatMap (iU o n)
noncomputable def m5 (o n:Sc) (x:ByteArray):List Is:=bif (aL o != 0)||(aL n != 0) then [] else cF [] (n9 o n x)
noncomputable def l0 (o n:Sc) (x:ByteArray):Bool:=bif (aL o != 0)||(aL n != 0) then false else aZ o.ss x&&aZ n.ss x&&(((m5 o n x).length:Int)==0)
theorem GB:AN []:=.nil
theorem XY {raw l':List Is} (hp:l'.Perm (b8 [] raw)) (hs:l'.Pairwise fun a b=>n5 b a=false):l'=cF [] raw:=by
 refine GL (aNJ hp (UX .nil) hs) (zM GB) fun x=>?_
 rw[hp.mem_iff,FZ,uX]
theorem aES {a b:List Is} (h:∀x,x∈a ↔ x∈b):cF [] a=cF [] b:=
 GL (zM GB) (zM GB) fun x=>by rw[uX,uX,h]
noncomputable def BY (nm:ByteArray) (a b:St) (n:Int):List Is:=match fF a.fs n,fF b.fs n with
 |some f,some g=>(bif c8 f.ty g.ty then [] else [⟨1,n,nm⟩])++(bif f.opt==g.opt then [] else [⟨3,n,nm⟩])
 |some f,none=>bif f.opt then [] else [⟨2,n,nm⟩]
 |none,some g=>bif g.opt then [] else [⟨2,n,nm⟩]
 |none,none=>[]
noncomputable def CB (nm:ByteArray) (a b:St):List Is:=(List.range 127).flatMap fun (i:Nat)=>BY nm a b ((i:Int)+1)
noncomputable def gX (o n:Sc) (x:ByteArray):List Is:=bif aZ o.ss x != aZ n.ss x then [⟨5,0,x⟩] else
 bif aZ o.ss x then CB ((fS o.ss x).getD default).nm ((fS o.ss x).getD default) ((fS n.ss x).getD default) else (bif cI o.es x&&cI n.es x then RI x ((cO o.es x).getD default) ((cO n.es x).getD default) else [])
theorem aP3 {nm:ByteArray} {a b:St} (ha:∀f∈a.fs,(1<=f.num/\f.num<=127)/\fF a.fs f.num=some f) (hb:∀f∈b.fs,(1<=f.num/\f.num<=127)/\fF b.fs f.num=some f) (x:Is):x∈lP nm a b ↔ x∈CB nm a b:=by
 unfold lP CB
 simp only[cL,s3,List.mem_range]
 constructor
 · rintro (⟨f,hf,hx⟩|⟨g,hg,hx⟩)
   · obtain ⟨⟨h1,h2⟩,h3⟩:=ha f hf
     refine ⟨(f.num-1).toNat,by omega,?_⟩
     have e:(((f.num-1).toNat:Nat):Int)+1=f.num:=by omega
     rw[e]
     unfold BY
     rw[h3]
     unfold dX at hx
     cases hb':fF b.fs f.num with
     |none=>rw[hb'] at hx;exact hx
     |some g=>rw[hb'] at hx;exact hx
   · obtain ⟨⟨h1,h2⟩,h3⟩:=hb g hg
     refine ⟨(g.num-1).toNat,by omega,?_⟩
     have e:(((g.num-1).toNat:Nat):Int)+1=g.num:=by omega
     rw[e]
     unfold BY
     rw[h3]
     unfold kT at hx
     cases ha':fF a.fs g.num with
     |some f=>rw[ha'] at hx;simp at hx
     |none=>
      rw[ha'] at hx
      cases ho:g.opt with
      |true=>rw[ho] at hx;simp at hx
      |false=>rw[ho] at hx;simpa[ho] using hx
 · rintro ⟨i,hi,hx⟩
   unfold BY at hx
   cases ha':fF a.fs ((i:Int)+1) with
   |some f=>
    rw[ha'] at hx
    obtain ⟨hf,hn⟩:=yK ha'
    refine .inl ⟨f,hf,?_⟩
    unfold dX
    rw[hn]
    cases hb':fF b.fs ((i:Int)+1) with
    |none=>rw[hb'] at hx;exact hx
    |some g=>rw[hb'] at hx;exact hx
   |none=>
    rw[ha'] at hx
    cases hb':fF b.fs ((i:Int)+1) with
    |none=>rw[hb'] at hx;cases hx
    |some g=>
     rw[hb'] at hx
     obtain ⟨hg,hn⟩:=yK hb'
     refine .inr ⟨g,hg,?_⟩
     unfold kT
     rw[hn,ha']
     cases ho:g.opt with
     |true=>simp[ho] at hx
     |false=>simpa[ho] using hx
theorem SY {o n:Sc} (ho:o.fit) (hn:n.fit) (c1:aL o=0) (c2:aL n=0) (x:ByteArray) (z:Is):z∈iU o n x ↔ z∈gX o n x:=by
 unfold iU gX
 cases h1:aZ o.ss x with
 |false=>cases h2:aZ n.ss x<;>simp
 |true=>
  cases h2:aZ n.ss x with
  |false=>simp
  |true=>
   obtain ⟨t,e1,_,e2,_,e3⟩:=uS ho c1 h1
   obtain ⟨u,e4,_,_,_,e5⟩:=uS hn c2 h2
   have d1:=a9M ho c1 h1
   rw[e1,e4,d1]
   simp only[bne_self_eq_false,aI,aQ,Option.getD_some,bL,fI,e2]
   exact aP3 e3 e5 z
noncomputable def aD7 (o n:Sc) (x:ByteArray):List Is:=(mF o n x).flatMap (gX o n)
theorem aFZ {o n:Sc} (ho:o.fit) (hn:n.fit) (x:ByteArray):m5 o n x=bif (aL o != 0)||(aL n != 0) then [] else cF [] (aD7 o n x):=by
 unfold m5
 by_cases c1:aL o=0
 · by_cases c2:aL n=0
   · rw[aES fun z=>?_]
     unfold n9 aD7
     simp only[s3]
     constructor
     · rintro ⟨y,h1,h2⟩;exact ⟨y,h1,(SY ho hn c1 c2 y z).1 h2⟩
     · rintro ⟨y,h1,h2⟩;exact ⟨y,h1,(SY ho hn c1 c2 y z).2 h2⟩
   · rw[show (aL n != 0)=true by simpa using c2,oU];rfl
 · rw[show (aL o != 0)=true by simpa using c1];rfl
theorem tZ {α β:Type} {f:α->List β} {k:Nat}:∀{l:List α},(∀a∈l,(f a).length<=k)->(l.flatMap f).length<=l.length*k
 |[],_=>by simp
 |x::l,h=>by
  have h1:=tZ fun a ha=>h a (eD _ ha)
  have h2:=h x eI
  rw[iZ,bW,bP,Nat.succ_mul];omega
theorem MB (nm:ByteArray) (b:St) (f:Fl):(dX nm b f).length<=2:=by
 unfold dX
 split
 · cases f.opt<;>simp
 · rename_i g _
   cases c8 f.ty g.ty<;>cases (f.opt==g.opt)<;>simp
theorem J7 (nm:ByteArray) (b:St) (f:Fl):(kT nm b f).length<=1:=by
 unfold kT
 cases (fF b.fs f.num).isNone&&!f.opt<;>simp
theorem aN5 (nm:ByteArray) (a b:St) (n:Int):(BY nm a b n).length<=2:=by
 unfold BY
 split
 · rename_i f g _ _
   cases c8 f.ty g.ty<;>cases (f.opt==g.opt)<;>simp
 · rename_i f _ _;cases f.opt<;>simp
 · rename_i f _ _;cases f.opt<;>simp
 · simp
theorem BB {t u:Ty} (h:c8 t u=true):t.k=u.k/\t.s<=u.s:=by
 rcases o9.1 h with rfl|⟨h1,_,⟨_,_,_,h2,_⟩|⟨_,_,h2,_⟩⟩
 · exact ⟨rfl,iC _⟩
 · exact ⟨h1,h2⟩
 · exact ⟨h1,by omega⟩
theorem aXH {t u:Ty} (h:c8 t u=true) (h6:t.k=6\/t.k=7):u=t:=by
 rcases o9.1 h with rfl|⟨_,_,⟨h1,_⟩|⟨_,h2,_⟩⟩
 · rfl
 · omega
 · omega
theorem aTR {t u x y:Ty} (h:c8 t u=true) (h5:t.k=5) (hx:t.e=[x]) (hy:u.e=[y]):c8 x y=true:=by
 rcases o9.1 h with rfl|⟨_,_,⟨_,_,_,_,h2⟩|⟨h1,_⟩⟩
 · rw[hx] at hy;cases hy;exact aBA _
 · rw[hx,hy] at h2;exact h2
 · exact absurd h5 h1
theorem LB {t u:Ty} (h5:t.k=5) (he:t.e=[u]):eQ t=eQ u:=by
 obtain ⟨k,s,n,e⟩:=t
 have h5:k=5:=h5
 have he:e=[u]:=he
 subst h5 he
 exact wM
theorem GO {t:Ty} (h5:t.k≠5):eQ t=t:=by
 obtain ⟨k,s,n,e⟩:=t
 have h5:k≠5:=h5
 exact tJ (by rw[show (k==5)=false by simpa using h5];rfl)
theorem M4:∀{n:Nat} {a b:Ty},a.h<=n->c8 a b=true->(eQ a).k=(eQ b).k/\(eQ a).n=(eQ b).n
 |0,a,_,h,_=>by have:=h_pos a;omega
 |n+1,a,b,h,hw=>by
  rcases o9.1 hw with rfl|⟨h1,h2,⟨h3,h4,h5,_,h6⟩|⟨h3,_⟩⟩
  · exact ⟨rfl,rfl⟩
  · obtain ⟨x,hx⟩:=lZ.1 h4
    obtain ⟨y,hy⟩:=lZ.1 h5
    have:=Ty.h_e (HE h4)
    rw[hx,hy] at h6
    rw[hx] at this
    rw[LB h3 hx,LB (h1 ▸ h3) hy]
    exact M4 (n:=n) (by simp only[y9] at this;omega) h6
  · rw[GO h3,GO (h1 ▸ h3)];exact ⟨h1,h2⟩
structure Cmp (s m:Sc) (J:ByteArray->Prop):Prop where
 f:∀n,J n->aZ s.ss n=true->aZ m.ss n=true->∀f∈((fS s.ss n).getD default).fs,(fF ((fS m.ss n).getD default).fs f.num=none/\f.opt=true)\/
  ∃g,fF ((fS m.ss n).getD default).fs f.num=some g/\f.opt=g.opt/\c8 f.ty g.ty=true/\(cA f.ty=true->J (bQ f.ty))
 o:∀n,J n->aZ s.ss n=true->aZ m.ss n=true->∀g∈((fS m.ss n).getD default).fs,fF ((fS s.ss n).getD default).fs g.num=none->g.opt=true
 e:∀n,J n->cI s.es n=true->cI m.es n=true->∀v∈((cO s.es n).getD default).vs,v∈((cO m.es n).getD default).vs
theorem ZX {s m:Sc} {n:ByteArray} (h:l0 s m n=true):aL s=0/\aL m=0/\aZ s.ss n=true/\aZ m.ss n=true/\Cmp s m (fun x=>x∈mF s m n):=by
 unfold l0 at h
 cases c:(aL s != 0)||(aL m != 0) with
 |true=>rw[c] at h;cases h
 |false=>
 rw[c,aI,bI,bI] at h
 obtain ⟨⟨h1,h2⟩,h3⟩:=h
 have c':=c
 rw[cY] at c'
 have c1:=wW c'.1
 have c2:=wW c'.2
 have hno:∀y∈mF s m n,iU s m y=[]:=fun y hy=>List.eq_nil_iff_forall_not_mem.2 fun z hz=>by
  unfold m5 at h3
  rw[c,aI] at h3
  have h4:cF [] (n9 s m n)=[]:=iB (by have:=eq_of_beq h3;omega)
  have:z∈cF [] (n9 s m n):=uX.2 (.inr (s3.2 ⟨y,hy,hz⟩))
  rw[h4] at this;cases this
 have hus:∀{q:Sc},aL q=0->aZ q.ss n=true->jY q n=dA q.ss n:=fun h4 h5=>by unfold jY pN;rw[h4,h5];rfl
 have hst:∀y,y∈mF s m n->aZ s.ss y=true->aZ m.ss y=true->lP y ((fS s.ss y).getD default) ((fS m.ss y).getD default)=[]:=fun y hy e1 e2=>by
  have:=hno y hy
  unfold iU at this
  rw[e1,e2,bne_self_eq_false,aI] at this
  exact (zD.1 this).1
 refine ⟨c1,c2,h1,h2,fun y hy e1 e2 f hf=>?_,fun y hy e1 e2 g hg e3=>?_,fun y hy e1 e2 v hv=>?_⟩
 · have:=UJ.1 (zD.1 (hst y hy e1 e2)).1 f hf
   unfold dX at this
   cases hg:fF ((fS m.ss y).getD default).fs f.num with
   |none=>
    rw[hg] at this
    refine .inl ⟨rfl,?_⟩
    cases ho:f.opt with
    |true=>rfl
    |false=>rw[ho] at this;cases this
   |some g=>
    rw[hg] at this
    obtain ⟨a1,a2⟩:=zD.1 this
    have ho:f.opt=g.opt:=by
     cases ho:f.opt==g.opt with
     |true=>exact eq_of_beq ho
     |false=>rw[ho] at a2;cases a2
    have hw:c8 f.ty g.ty=true:=by
     cases hw:c8 f.ty g.ty with
     |true=>rfl
     |false=>rw[hw] at a1;cases a1
    refine .inr ⟨g,rfl,ho,hw,fun hn=>?_⟩
    have hgm:g∈((fS m.ss y).getD default).fs:=fJ hg
    obtain ⟨n1,n2⟩:=M4 (bE _) hw
    have r1:fG s.ss y (bQ f.ty):=⟨f,hf,hn,rfl⟩
    have r2:fG m.ss y (bQ f.ty):=⟨g,hgm,by unfold cA at hn ⊢;rw[<-n1];exact hn,n2.symm⟩
    have key:Reach s.ss n (bQ f.ty)/\Reach m.ss n (bQ f.ty):=by
     rcases bU.1 hy with rfl|hy
     · exact ⟨.one r1,.one r2⟩
     · obtain ⟨b1,b2⟩:=JR.1 hy
       rw[hus c1 h1,pI] at b1
       rw[hus c2 h2,m6,pI] at b2
       exact ⟨.more b1 r1,.more b2 r2⟩
    exact eD _ (JR.2 ⟨by rw[hus c1 h1];exact pI.2 key.1,by rw[hus c2 h2,m6];exact pI.2 key.2⟩)
 · have:=UJ.1 (zD.1 (hst y hy e1 e2)).2 g hg
   unfold kT at this
   rw[e3] at this
   cases ho:g.opt with
   |true=>rfl
   |false=>rw[ho] at this;cases this
 · have:=hno y hy
   unfold iU at this
   cases hb:aZ s.ss y != aZ m.ss y with
   |true=>rw[hb] at this;cases this
   |false=>
    rw[hb,aI,e1,e2] at this
    have h5:eT y ((cO s.es y).getD default).vs ((cO m.es y).getD default)=[]:=(zD.1 this).2
    have h6:=List.filter_eq_nil_iff.1 (aC6.1 h5) v hv
    simpa using h6
structure Rl (J:ByteArray->Prop) (t u:Ty):Prop where
 w:c8 t u=true
 j:cA t=true->J (bQ t)
theorem Rl.ls {J:ByteArray->Prop} {t u x y:Ty} (h:Rl J t u) (h5:t.k=5) (hx:t.e=[x]) (hy:u.e=[y]):Rl J x y:=
 ⟨aTR h.w h5 hx hy,fun hn=>by have:=h.j;unfold cA bQ at this;rw[LB h5 hx] at this;exact this hn⟩
theorem Rl.nm {J:ByteArray->Prop} {t u:Ty} (h:Rl J t u) (h6:t.k=6\/t.k=7):u=t/\J t.n:=by
 refine ⟨aXH h.w h6,?_⟩
 have:=h.j
 unfold cA bQ at this
 rw[GO (by omega)] at this
 exact this (by rcases h6 with h|h<;>rw[h]<;>rfl)
theorem Z6 (a:Nat):∀c:Nat,(2:Int) ^ a<=2 ^ (a+c)
 |0=>iC _
 |c+1=>by
  have h1:=Z6 a c
  have h2:=aHA (a+c)
  rw[<-Nat.add_assoc,aD0]
  omega
theorem aCB {a b:Nat} (h:a<=b):(2:Int) ^ a<=2 ^ b:=by
 obtain ⟨c,rfl⟩:=Nat.exists_eq_add_of_le h
 exact Z6 a c
theorem aF1 {s:Sc} {t:Ty} (h:valF s.ss s.es t=true) (hk:t.k=2\/t.k=3):8<=t.s/\t.s<=64:=by
 obtain ⟨k,z,n,e⟩:=t
 have hk:k=2\/k=3:=hk
 show 8<=z/\z<=64
 rcases hk with rfl|rfl<;>rw[valF.eq_def] at h<;>simp at h<;>omega
theorem aQY {s:Sc} {t:Ty} (h:valF s.ss s.es t=true) (h7:t.k=7):cI s.es t.n=true:=by
 obtain ⟨k,z,n,e⟩:=t
 have hk:k=7:=h7
 subst hk
 rw[valF] at h;simp at h;exact h.1.1
theorem TU {s:Sc} {t:Ty} (h:valF s.ss s.es t=true) (h6:t.k=6):aZ s.ss t.n=true:=by
 obtain ⟨k,z,n,e⟩:=t
 have hk:k=6:=h6
 subst hk
 rw[valF] at h;simp at h;exact h.1.1
theorem rg2 {s:Sc} {t:Ty} {n:Int} (h2:(t.k==2)=true):jX s t n=(t.s==64||(decide (-(2 ^ (t.s.toNat-1):Int)<=n)&&decide (n<(2 ^ (t.s.toNat-1):Int)))):=by
 unfold jX
 rw[fN h2 (b:=1) (by decide),h2];rfl
theorem a8L {s m:Sc} {J:ByteArray->Prop} (hc:Cmp s m J) {t u:Ty} (hr:Rl J t u) (h1:valF s.ss s.es t=true) (h2:valF m.ss m.es u=true) {n:Int} (h:jX s t n=true):jX m u n=true:=by
 obtain ⟨e1,e2⟩:=BB hr.w
 rcases KZ h1 with k|k|k|k|k|k|k
 · have ku:(u.k==1)=true:=by rw[<-e1];exact k
   unfold jX at h ⊢
   rw[k] at h
   rw[ku]
   exact h
 · have k2:=eq_of_beq k
   have v1:=aF1 h1 (.inl k2)
   have v2:=aF1 h2 (.inl (e1 ▸ k2))
   rw[rg2 k] at h
   rw[rg2 (by rw[<-e1];exact k)]
   simp only[fB,bI,fU,beq_iff_eq] at h ⊢
   have:=aCB (show t.s.toNat-1<=u.s.toNat-1 by omega)
   omega
 · have k3:=eq_of_beq k
   have v1:=aF1 h1 (.inr k3)
   rw[rg3 k] at h
   rw[rg3 (by rw[<-e1];exact k)]
   simp only[bI,fU] at h ⊢
   have:=aCB (show t.s.toNat<=u.s.toNat by omega)
   omega
 · unfold jX at h;rw[eq_of_beq k] at h;cases h
 · unfold jX at h;rw[eq_of_beq k] at h;cases h
 · unfold jX at h;rw[eq_of_beq k] at h;cases h
 · obtain ⟨rfl,j⟩:=hr.nm (.inr (eq_of_beq k))
   rw[rg7 k] at h ⊢
   obtain ⟨x,hx,he⟩:=iY.1 h
   exact iY.2 ⟨x,hc.e u.n j (aQY h1 (eq_of_beq k)) (aQY h2 (eq_of_beq k)) x hx,he⟩
theorem ES (m:Sc) (t:Ty) {v:Vl} (h1:v.l=[]) (h2:v.f=[]):pj m t v=v:=by
 rw[oK,h1,h2]
 obtain ⟨k,n,str,l,f⟩:=v
 have h1:l=[]:=h1
 have h2:f=[]:=h2
 rw[h1,h2];rfl
theorem aU5 {t u:Ty} (h5:t.k=5) (he:t.e=[u]):pF 5 t=u:=by
 unfold pF
 rw[h5,he];rfl
theorem QL {m:Sc} {t:Ty} (h6:t.k=6) (hh:aZ m.ss t.n=true):oJ m 6 t=some (stOf m t).fs:=by
 unfold oJ
 rw[h6,hh];rfl
theorem KV (A B:List (Int×Vl)) (k:Int):dH (A++B) k=(dH A k).or (dH B k):=by unfold dH;exact List.find?_append
theorem aAU {m:Sc} {fs:List Fl} {g:Fl} (hg:fF fs g.num=some g):∀F:List (Int×Vl),dH (F.flatMap (hT m (some fs))) g.num=(dH F g.num).map fun x=>(g.num,pj m g.ty x.2)
 |[]=>rfl
 |x::F=>by
  rw[iZ,KV,pA,aAU hg F]
  by_cases he:x.1=g.num
  · rw[if_pos he]
    have:hT m (some fs) x=[(g.num,pj m g.ty x.2)]:=by unfold hT;rw[he];simp only;rw[hg]
    rw[this,pA,if_pos rfl];rfl
  · rw[if_neg he]
    have:dH (hT m (some fs) x) g.num=none:=u0 fun y hy=>by
     unfold hT at hy
     simp only at hy
     cases hx:fF fs x.1 with
     |none=>rw[hx] at hy;cases hy
     |some q=>rw[hx] at hy;obtain rfl:=dS.1 hy;exact he
    rw[this];rfl
theorem L8 {m:Sc} {fs:List Fl} {x y:Int×Vl} (h:y∈hT m (some fs) x):y.1=x.1/\∃g∈fs,g.num=y.1:=by
 unfold hT at h
 simp only at h
 cases hx:fF fs x.1 with
 |none=>rw[hx] at h;cases h
 |some q=>
  rw[hx] at h
  obtain rfl:=dS.1 h
  exact ⟨rfl,q,fJ hx,by have:=qM hx;simpa using this⟩
theorem aBZ {m:Sc} {fs:List Fl} (hp:fs.Pairwise fun f g=>f.num<g.num) {F:List (Int×Vl)} (hF:F.Pairwise fun x y=>x.1<y.1):fs.flatMap (xW (F.flatMap (hT m (some fs))))=F.flatMap (hT m (some fs)):=by
 refine EJ hp (List.pairwise_flatMap.2 ⟨fun x _=>?_,hF.imp fun h y hy z hz=>?_⟩) fun x hx=>?_
 · unfold hT
   simp only
   cases fF fs x.1 with
   |none=>exact .nil
   |some q=>exact List.pairwise_singleton ..
 · rw[(L8 hy).1,(L8 hz).1];exact h
 · obtain ⟨y,_,hx⟩:=s3.1 hx
   exact (L8 hx).2
theorem ZN {m:Sc} {fs:List Fl} {g:Fl} (hg:fF fs g.num=some g) (F:List (Int×Vl)):xW (F.flatMap (hT m (some fs))) g=match dH F g.num with
 |some x=>[(g.num,pj m g.ty x.2)]
 |none=>[]:=by
 unfold xW
 rw[aAU hg F]
 cases dH F g.num<;>rfl
theorem aNA (s:Sc) (hd:Dg s):∀(M n k:Nat) (t:Ty),pS s t<M->M<=n->M<=k->zF s n t=zF s k t
 |0,_,_,t,h,_,_=>by have:=v7 s t;omega
 |M+1,n,k,t,h,hn,hk=>by
  obtain ⟨n,rfl⟩:∃k,n=k+1:=⟨n-1,by omega⟩
  obtain ⟨k,rfl⟩:∃n,k=n+1:=⟨k-1,by omega⟩
  rw[mB,mB]
  cases hv:valF s.ss s.es t with
  |false=>rfl
  |true=>
  cases h6:t.k==6 with
  |false=>rfl
  |true=>
   have e:zE s n (stOf s t).fs=zE s k (stOf s t).fs:=by
    unfold zE
    refine vU fun f hf=>?_
    have:=(rV hd hv h6).2.2 f (JR.1 hf).1
    have h7:=u5 (s:=s) h6
    rw[aNA s hd M n k f.ty (by omega) (by omega) (by omega)]
   rw[e]
theorem x6 (s:Sc) (n:Nat):∀fs:List Fl,zE s n fs=fs.flatMap fun g=>bif g.opt then [] else [(g.num,zF s n g.ty)]
 |[]=>rfl
 |f::fs=>by
  have:=x6 s n fs
  unfold zE at this ⊢
  rw[iZ,<-this,List.filter_cons]
  cases f.opt<;>rfl
theorem WO {s:Sc} {n:Nat}:∀{fs:List Fl},fs.Pairwise (fun f g=>f.num<g.num)->∀k:Int,dH (zE s n fs) k=(fF fs k).bind fun f=>bif f.opt then none else some (k,zF s n f.ty)
 |[],_,_=>rfl
 |f::fs,hp,k=>by
  obtain ⟨p1,p2⟩:=gU.1 hp
  have ih:=WO (s:=s) (n:=n) p2 k
  have e1:fF (f::fs) k=if f.num=k then some f else fF fs k:=by
   unfold fF
   rw[nQ]
   by_cases h:f.num=k
   · rw[eE h,if_pos h]
   · rw[dP h,if_neg h]
  rw[e1,x6,iZ,<-x6,KV,ih]
  by_cases h:f.num=k
  · rw[if_pos h]
    have e2:fF fs k=none:=DB.2 fun g hg=>by have:=p1 g hg;simp;omega
    rw[e2,aD3,nR]
    cases f.opt with
    |true=>rfl
    |false=>rw[aI,pA,if_pos h,h];rfl
  · rw[if_neg h]
    have:dH (bif f.opt then [] else [(f.num,zF s n f.ty)]) k=none:=u0 fun x hx=>by
     cases ho:f.opt with
     |true=>rw[ho] at hx;cases hx
     |false=>rw[ho] at hx;obtain rfl:=dS.1 hx;exact h
    rw[this];rfl
theorem aZ6 (s:Sc) (n:Nat) {fs:List Fl} (hp:fs.Pairwise fun f g=>f.num<g.num):(zE s n fs).Pairwise fun x y=>x.1<y.1:=by
 unfold zE
 rw[List.pairwise_map]
 exact hp.filter _
theorem aI2 {s m:Sc} {J:ByteArray->Prop} (hd:Dg s) (he:Dg m) (hc:Cmp s m J):∀(M n:Nat) (t u:Ty),valF s.ss s.es t=true->valF m.ss m.es u=true->Rl J t u->pS s t<M->pS m u<M->M<=n->pj m u (zF s n t)=zF m n u
 |0,_,t,_,_,_,_,h,_,_=>by have:=v7 s t;omega
 |M+1,n,t,u,h1,h2,hr,hs,hm,hn=>by
  obtain ⟨n,rfl⟩:∃k,n=k+1:=⟨n-1,by omega⟩
  have ek:=(BB hr.w).1
  rw[mB,mB,h1,h2,aQ,aQ,<-ek]
  cases h6:t.k==6 with
  |false=>exact ES m u rfl rfl
  |true=>
   have k6:=eq_of_beq h6
   obtain ⟨rfl,j⟩:=hr.nm (.inl k6)
   have b1:=TU h1 k6
   have b2:=TU h2 k6
   have p1:=DN (hd.ni.stOf u)
   have p2:=DN (he.ni.stOf u)
   rw[aQ,aQ,oK]
   show Vl.mk 6 0 (mk []) [] ((zE s n (stOf s u).fs).flatMap (hT m (oJ m 6 u)))=_
   rw[QL k6 b2,<-aBZ p2 (aZ6 s n p1),x6 m]
   congr 1
   refine t7 fun g hg=>?_
   have hgf:=IA p2 hg
   rw[ZN hgf,WO p1]
   cases hf:fF (stOf s u).fs g.num with
   |none=>rw[hc.o u.n j b1 b2 g hg hf];rfl
   |some f=>
    obtain ⟨f1,f2⟩:=yK hf
    rcases hc.f u.n j b1 b2 f f1 with ⟨q,_⟩|⟨g',q1,q2,q3,q4⟩
    · rw[f2] at q;rw[show fF ((fS m.ss u.n).getD default).fs g.num=some g from hgf] at q;cases q
    · rw[f2,show fF ((fS m.ss u.n).getD default).fs g.num=some g from hgf] at q1
      cases q1
      rw[<-q2]
      rw[nR]
      cases ho:f.opt with
      |true=>rfl
      |false=>
       have d1:=(rV hd h1 h6).2.2 f f1
       have d2:=(rV he h2 h6).2.2 g hg
       have d3:=u5 (s:=s) h6
       have d4:=u5 (s:=m) h6
       show [(g.num,pj m g.ty (zF s n f.ty))]=[(g.num,zF m n g.ty)]
       rw[aI2 hd he hc M n f.ty g.ty ((hd.ni.stOf u).v f f1) ((he.ni.stOf u).v g hg) ⟨q3,q4⟩ (by omega) (by omega) (by omega)]
def wS (s m:Sc) (us:List Fl) (F:List (Int×Vl)) (f:Fl):List (Int×Vl):=bif sO s F f then [] else match fF us f.num with
 |some g=>[(f.num,pj m g.ty (((dH F f.num).map (·.2)).getD default))]
 |none=>[]
theorem aO5 {s m:Sc} {us:List Fl} {F:List (Int×Vl)} {f:Fl} {x:Int×Vl} (h:x∈wS s m us F f):x.1=f.num:=by
 unfold wS at h
 cases ho:sO s F f with
 |true=>rw[ho] at h;cases h
 |false=>
  rw[ho,aI] at h
  cases hf:fF us f.num with
  |none=>rw[hf] at h;cases h
  |some g=>rw[hf] at h;obtain rfl:=dS.1 h;rfl
theorem MZ {s m:Sc} {R:Ty->Vl->List UInt8} {D:Ty->List UInt8->Vl×Int} {fs us:List Fl} {F:List (Int×Vl)}
 (hn:∀f∈fs,1<=f.num/\f.num<=127) (hL:∀f∈fs,∀x∈F,x.1=f.num->(R f.ty x.2).length<18446744073709551616)
 (hR:∀f∈fs,∀g,fF us f.num=some g->∀x,dH F f.num=some x->sO s F f=false->D g.ty (R f.ty x.2)=(pj m g.ty x.2,0)/\FC D m g (R f.ty x.2)=0) :
 ∀(gs:List Fl) (g:Nat) (last:Int),(∀f∈gs,f∈fs/\last<f.num)->gs.Pairwise (fun f g=>f.num<g.num)->(gs.flatMap (BR R s F)).length<=g->lL D m us g last (gs.flatMap (BR R s F))=(gs.flatMap (wS s m us F),0)
 |[],g,last,_,_,_=>by rw[vX,vX,KT]
 |q::gs,g,last,h,hq,hl=>by
  obtain ⟨p1,p2⟩:=gU.1 hq
  obtain ⟨hqf,hql⟩:=h q (eI ..)
  rw[iZ,iZ]
  rw[iZ] at hl
  cases ho:sO s F q with
  |true=>
   have e1:BR R s F q=[]:=by rw[H8,ho];rfl
   have e2:wS s m us F q=[]:=by unfold wS;rw[ho];rfl
   rw[e1,jT] at hl ⊢
   rw[e2,jT]
   exact MZ hn hL hR gs g last (fun f hf=>h f (eD _ hf)) p2 hl
  |false=>
   cases hv:dH F q.num with
   |none=>unfold sO at ho;rw[hv] at ho;cases ho
   |some x=>
    obtain ⟨hm,he⟩:=yR hv
    have r2:=hL q hqf x hm he
    obtain ⟨n1,n2⟩:=hn q hqf
    have e1:BR R s F q=vi q.num.toNat++(vi (R q.ty x.2).length++R q.ty x.2):=by
     rw[H8,ho,hv]
     show oC q.num++wR (R q.ty x.2)=_
     rw[UW (by omega) (by omega),aA9 r2]
    rw[e1] at hl ⊢
    have hpos:=JN q.num.toNat
    rw[bW,bW] at hl
    obtain ⟨g,rfl⟩:∃k,g=k+1:=⟨g-1,by omega⟩
    have hne:vi q.num.toNat++(vi (R q.ty x.2).length++R q.ty x.2)++gs.flatMap (BR R s F)≠[]:=fun e=>by
     have:=congrArg List.length e
     rw[bW,bW,dZ] at this
     omega
    have hfs:=aY7 (n:=q.num.toNat) (x:=R q.ty x.2) (last:=last) (by omega) (by omega) r2 (gs.flatMap (BR R s F))
    rw[s0 (show (0:Int)<=q.num by omega)] at hfs
    have ih:=MZ hn hL hR gs g q.num (fun f hf=>⟨(h f (eD _ hf)).1,p1 f hf⟩) p2 (by omega)
    rw[zQ hne,hfs]
    simp only
    cases hff:fF us q.num with
    |none=>
     have e2:wS s m us F q=[]:=by unfold wS;rw[ho,hff];rfl
     rw[e2,jT,<-ih];rfl
    |some u=>
     have e2:wS s m us F q=[(q.num,pj m u.ty x.2)]:=by unfold wS;rw[ho,hff,hv];rfl
     obtain ⟨r1,hde⟩:=hR q hqf u hff x hv ho
     simp only[Option.getD_some,lG]
     rw[hde,r1,ih,e2]
     rfl
theorem R4 {s m:Sc} {us:List Fl} {F:List (Int×Vl)} {g:Fl} (hg:fF us g.num=some g):∀{fs:List Fl},fs.Pairwise (fun f g=>f.num<g.num)->
 dH (fs.flatMap (wS s m us F)) g.num=(fF fs g.num).bind fun f=>bif sO s F f then none else some (g.num,pj m g.ty (((dH F g.num).map (·.2)).getD default))
 |[],_=>rfl
 |f::fs,hp=>by
  obtain ⟨p1,p2⟩:=gU.1 hp
  have e1:fF (f::fs) g.num=if f.num=g.num then some f else fF fs g.num:=by
   unfold fF
   rw[nQ]
   by_cases h:f.num=g.num
   · rw[eE h,if_pos h]
   · rw[dP h,if_neg h]
  rw[e1,iZ,KV,R4 hg p2]
  by_cases h:f.num=g.num
  · rw[if_pos h]
    have e2:fF fs g.num=none:=DB.2 fun q hq=>by have:=p1 q hq;simp;omega
    rw[e2,aD3,nR]
    unfold wS
    rw[h,hg]
    cases ho:sO s F f with
    |true=>rfl
    |false=>simp only[aI];rw[pA,if_pos rfl,Option.some_or]
  · rw[if_neg h,u0 fun x hx=>by rw[aO5 hx];exact h]
    rfl
theorem aWO {s m:Sc} {t:St} {us:List Fl} {F:List (Int×Vl)} (h1:t.fs.Pairwise fun f g=>f.num<g.num) (h2:us.Pairwise fun f g=>f.num<g.num) (hf:Fits s t F)
 (hz:∀f∈t.fs,∀g,fF us f.num=some g->f.opt=g.opt/\pj m g.ty (zF s 23 f.ty)=zF m 23 g.ty) (ho:∀g∈us,fF t.fs g.num=none->g.opt=true) :
 tE m us (t.fs.flatMap (wS s m us F))=F.flatMap (hT m (some us)):=by
 rw[<-aBZ h2 hf.p]
 refine t7 fun g hg=>?_
 have hgf:=IA h2 hg
 rw[ZN hgf]
 unfold TK
 rw[R4 hgf h1]
 cases hff:fF t.fs g.num with
 |none=>
  have e:dH F g.num=none:=u0 fun x hx e=>by
   obtain ⟨f,f1,f2⟩:=hf.m x hx
   have:=IA h1 f1
   rw[f2,e,hff] at this;cases this
  rw[e,ho g hg hff];rfl
 |some f=>
  obtain ⟨f1,f2⟩:=yK hff
  obtain ⟨z1,z2⟩:=hz f f1 g (by rw[f2];exact hgf)
  cases hv:dH F g.num with
  |none=>
   have e:sO s F f=true:=by unfold sO;rw[f2,hv];rfl
   have e2:g.opt=true:=by
    rw[<-z1]
    cases hopt:f.opt with
    |true=>rfl
    |false=>
     obtain ⟨x,hx,he⟩:=hf.r f f1 hopt
     unfold dH at hv
     exact absurd (by simpa using he.trans f2) (DB.1 hv x hx)
   rw[e2]
   simp only[nR]
   rw[e];rfl
  |some x=>
   simp only[nR]
   cases e:sO s F f with
   |false=>rfl
   |true=>
    unfold sO at e
    rw[f2,hv] at e
    have e:(!f.opt&&iM x.2 (zF s 23 f.ty))=true:=e
    rw[bI] at e
    have e1:g.opt=false:=by rw[<-z1];simpa using e.1
    rw[e1]
    show [(g.num,zF m 23 g.ty)]=[(g.num,pj m g.ty x.2)]
    rw[uO.1 e.2,z2]
theorem a2P {D:Ty->List UInt8->Vl×Int} {m:Sc} {g:Fl} {b:List UInt8} {y:Vl} (h:D g.ty b=(y,0)) (h2:g.opt=false->y=zF m 23 g.ty->g.ty.k=6/\b≠[]):FC D m g b=0:=by
 unfold FC
 rw[h]
 show (bif !g.opt&&(iM y (zF m 23 g.ty)&&(g.ty.k != 6||b==[])) then (2:Int) else 0)=0
 cases ho:g.opt with
 |true=>rfl
 |false=>
  cases he:iM y (zF m 23 g.ty) with
  |false=>rfl
  |true=>
   obtain ⟨k,hb⟩:=h2 ho (uO.1 he)
   have:(b==[])=false:=by simpa using hb
   rw[k,this];rfl
theorem aXE {s:Sc} (hd:Dg s) {N:Nat} {t:Ty} {v:Vl} (h:gB s t v=0) (h6:t.k=6) (hb:eV s (N+1) t v=[]):v=zF s 23 t:=by
 have hc:=m9 h
 have hk:(t.k==6)=true:=by rw[h6];rfl
 obtain ⟨e1,e2,e3,e4,_⟩:=hc.st hk
 have hst:=rV hd hc.va hk
 have hp:=DN (hd.ni.stOf t)
 have hf:=VU (s:=s) e4
 have hfd:=u5 (s:=s) hk
 have hb:(stOf s t).fs.flatMap (BR (eV s N) s v.f)=[]:=by
  rw[zR,h6] at hb;exact hb
 have key:v.f=zE s 22 (stOf s t).fs:=by
  rw[<-EJ hp hf.p hf.m,x6]
  refine t7 fun g hg=>?_
  have h0:=UJ.1 hb g hg
  rw[H8] at h0
  have ho:sO s v.f g=true:=by
   cases ho:sO s v.f g with
   |true=>rfl
   |false=>
    rw[ho,aI] at h0
    have h7:=(zD.1 h0).1
    unfold oC at h7
    have:=JN (IntKind.u64.wrap g.num).toNat
    rw[h7] at this
    exact absurd this (by decide)
  unfold sO at ho
  unfold xW
  cases hv:dH v.f g.num with
  |none=>
   cases hopt:g.opt with
   |true=>rfl
   |false=>
    obtain ⟨x,hx,he⟩:=hf.r g hg hopt
    unfold dH at hv
    exact absurd (by simpa using he) (DB.1 hv x hx)
  |some x=>
   rw[hv] at ho
   have ho:(!g.opt&&iM x.2 (zF s 23 g.ty))=true:=ho
   rw[bI] at ho
   have:=hst.2.2 g hg
   show [(g.num,x.2)]=bif g.opt then [] else [(g.num,zF s 22 g.ty)]
   rw[show g.opt=false by simpa using ho.1,uO.1 ho.2,aNA s hd 7 23 22 g.ty (by omega) (by omega) (by omega)];rfl
 have hkk:=hc.kk
 rw[mB,hc.va,hk,aQ,aQ,<-key]
 obtain ⟨k,n,str,l,f⟩:=v
 have a1:k=t.k:=hkk
 have a2:n=0:=e1
 have a3:l=[]:=e3
 have a4:bl str=bl (mk []):=e2
 rw[a1,a2,a3,mY a4,h6];rfl
theorem aPJ {s m:Sc} {t u:Ty} {v:Vl} (h:gB s t v=0) (h6:t.k≠6) (hk:t.k=u.k) (hu:valF m.ss m.es u=true) (e:pj m u v=zF m 23 u):v=zF s 23 t:=by
 have hc:=m9 h
 have n6:(t.k==6)=false:=by simpa using h6
 rw[mB,hu,<-hk,n6,aQ,aI,oK] at e
 rw[mB,hc.va,n6,aQ,aI]
 have hf:v.f=[]:=by
  cases c4:t.k==4 with
  |true=>exact (hc.tx c4).2.2.1
  |false=>
   cases c5:t.k==5 with
   |true=>exact (hc.ls c5).2.2.1
   |false=>exact (hc.nu c4 c5 n6).2.2.1
 obtain ⟨k,n,str,l,f⟩:=v
 have hf:f=[]:=hf
 subst hf
 injection e with a1 a2 a3 a4
 have a4:l=[]:=aC6.1 a4
 have a1:k=t.k:=a1
 have a2:n=0:=a2
 have a3:str=mk []:=a3
 rw[a1,a2,a3,a4]
theorem aLC {R:List UInt8->Vl×Int} {f:Vl->List UInt8} {p:Vl->Vl} (r:List UInt8):∀(l:List Vl),(∀x∈l,R (f x)=(p x,0)/\(f x).length<18446744073709551616)->jN R l.length ((l.flatMap fun x=>wR (f x))++r)=((l.map p,r),0)
 |[],_=>rfl
 |x::l,h=>by
  obtain ⟨h1,h2⟩:=h x (eI ..)
  have ih:=aLC r l fun y hy=>h y (eD _ hy)
  rw[bP,BC,iZ,aA9 h2,gV,aKP h2,h1,ih]
  rfl
theorem aIK {s m:Sc} {J:ByteArray->Prop} (hd:Dg s) (he:Dg m) (hc:Cmp s m J) {M N:Nat} {t:Ty} {F:List (Int×Vl)} (h1:valF s.ss s.es t=true) (h2:valF m.ss m.es t=true) (h6:t.k=6) (j:J t.n)
 (hf:eY (stOf s t).fs F=true) (hck:∀x∈F,gB s (n8 (stOf s t) x.1).ty x.2=0) (hN:N<=8) (hh:∀x∈F,x.2.h<=N)
 (ih:∀(t u:Ty) (v:Vl),(∃x∈F,v=x.2)->gB s t v=0->valF m.ss m.es u=true->Rl J t u->v.h<=N->pS m u<M->d9 m M u (eV s N t v)=(pj m u v,0)) (hM:dD m.ss t.n<=M) :
 tF (d9 m M) m (stOf m t).fs (lK (eV s N) s (stOf s t).fs F)=(.mk 6 0 (mk []) [] (F.flatMap (hT m (some (stOf m t).fs))),0):=by
 have hk:(t.k==6)=true:=by rw[h6];rfl
 have b1:=TU h1 h6
 have b2:=TU h2 h6
 have p1:=DN (hd.ni.stOf t)
 have p2:=DN (he.ni.stOf t)
 have d1:=rV hd h1 hk
 have d2:=rV he h2 hk
 have hfit:=VU (s:=s) hf
 have rel:∀f∈(stOf s t).fs,∀g,fF (stOf m t).fs f.num=some g->g∈(stOf m t).fs/\f.opt=g.opt/\Rl J f.ty g.ty:=fun f hf g hg=>by
  refine ⟨fJ hg,?_⟩
  rcases hc.f t.n j b1 b2 f hf with ⟨q,_⟩|⟨g',q1,q2,q3,q4⟩
  · rw[show fF ((fS m.ss t.n).getD default).fs f.num=some g from hg] at q;cases q
  · rw[show fF ((fS m.ss t.n).getD default).fs f.num=some g from hg] at q1
    cases q1
    exact ⟨q2,q3,q4⟩
 have hckf:∀f∈(stOf s t).fs,∀x∈F,x.1=f.num->gB s f.ty x.2=0:=fun f hf x hx e=>by
  have:=hck x hx
  rw[e,LQ hd hf] at this;exact this
 have hs:=MZ (s:=s) (m:=m) (R:=eV s N) (D:=d9 m M) (fs:=(stOf s t).fs) (us:=(stOf m t).fs) (F:=F) (hd.ni.stOf t).n (fun f hf x hx e=>by
  have:=pO hd N f.ty x.2 (hh x hx) (hckf f hf x hx e)
  have:=xU hN
  omega) (fun f hf g hg x hx ho=>by
  obtain ⟨hm,hx1⟩:=yR hx
  obtain ⟨g1,g2,g3⟩:=rel f hf g hg
  have hcx:=hckf f hf x hm hx1
  have hvg:=(he.ni.stOf t).v g g1
  have hr:=ih f.ty g.ty x.2 ⟨x,hm,rfl⟩ hcx hvg g3 (hh x hm) (by have:=d2.2.2 g g1;omega)
  refine ⟨hr,a2P hr fun go hy=>?_⟩
  unfold sO at ho
  rw[hx] at ho
  have ho:(!f.opt&&iM x.2 (zF s 23 f.ty))=false:=ho
  rw[g2,go,bV,bF] at ho
  have hne:=aSB ho
  have ek:=(BB g3.w).1
  by_cases k6:f.ty.k=6
  · refine ⟨by omega,fun hb=>hne ?_⟩
    obtain ⟨N',rfl⟩:∃k,N=k+1:=⟨N-1,by have:=hh x hm;have:=x.2.h_pos;omega⟩
    exact aXE hd hcx k6 hb
  · exact absurd (aPJ hcx k6 ek hvg hy) hne) (stOf s t).fs (lK (eV s N) s (stOf s t).fs F).length 0 (fun f hf=>⟨hf,by have:=(hd.ni.stOf t).n f hf;omega⟩) p1 (bE _)
 unfold tF
 rw[show lL (d9 m M) m (stOf m t).fs (lK (eV s N) s (stOf s t).fs F).length 0 (lK (eV s N) s (stOf s t).fs F)=((stOf s t).fs.flatMap (wS s m (stOf m t).fs F),0) from hs]
 show ((Vl.mk 6 0 (mk []) [] (tE m (stOf m t).fs ((stOf s t).fs.flatMap (wS s m (stOf m t).fs F))),(0:Int)))=_
 rw[aWO p1 p2 hfit (fun f hf g hg=>?_) (fun g hg hn=>hc.o t.n j b1 b2 g hg hn)]
 obtain ⟨g1,g2,g3⟩:=rel f hf g hg
 have e1:=d1.2.2 f hf
 have e2:=d2.2.2 g g1
 exact ⟨g2,aI2 hd he hc 23 23 f.ty g.ty ((hd.ni.stOf t).v f hf) ((he.ni.stOf t).v g g1) g3 (by omega) (by omega) (bE _)⟩
theorem YW {s m:Sc} {J:ByteArray->Prop} (hd:Dg s) (he:Dg m) (hc:Cmp s m J):∀(M N:Nat) (t u:Ty) (v:Vl),VlOk v->gB s t v=0->valF m.ss m.es u=true->Rl J t u->v.h<=N->N<=8->pS m u<M->d9 m M u (eV s N t v)=(pj m u v,0)
 |0,_,_,u,_,_,_,_,_,_,_,h=>by have:=v7 m u;omega
 |_+1,0,_,_,v,_,_,_,_,h,_,_=>by have:=v.h_pos;omega
 |M+1,N+1,t,u,v,hvo,h0,hu,hr,hh,hN,hM=>by
  have hq:=m9 h0
  obtain ⟨ek,es⟩:=BB hr.w
  rw[GM,zR,<-ek]
  cases c1:t.k==1 with
  |true=>
   rw[cR,aQ,aQ]
   obtain ⟨e1,e2,e3,e4⟩:=hq.nu (fN c1 (by decide)) (fN c1 (by decide)) (fN c1 (by decide))
   rw[ES m u e2 e3]
   have e5:=VG hq.kk e1 e2 e3
   have hk:t.k=1:=eq_of_beq c1
   have e6:v.n=0\/v.n=1:=by unfold jX at e4;rw[c1] at e4;simpa using e4
   rw[hk] at e5
   rcases e6 with e6|e6<;>rw[e5,e6]
   · show BN (oC 0)=_
     rw[show oC 0=[0] from (yD (n:=0) (by decide)).trans RB.1];rfl
   · show BN (oC 1)=_
     rw[show oC 1=[1] from (yD (n:=1) (by decide)).trans RB.2];rfl
  |false=>
  rw[bK,aI]
  cases c2:t.k==2||(t.k==3||t.k==7) with
  |true=>
   rw[aQ]
   have n4:(t.k==4)=false/\(t.k==5)=false/\(t.k==6)=false:=by
    rw[fB,fB] at c2
    rcases c2 with h|h|h<;>exact ⟨fN h (by decide),fN h (by decide),fN h (by decide)⟩
   obtain ⟨e1,e2,e3,e4⟩:=hq.nu n4.1 n4.2.1 n4.2.2
   rw[ES m u e2 e3]
   have e5:=VG hq.kk e1 e2 e3
   have key:∀z:Nat,z<18446744073709551616->oE t.k z=v.n->BX m u (vi z)=(v,0):=fun z hz hn=>by
    have hvr:=aL3 hz []
    rw[fI] at hvr
    unfold BX
    rw[hvr]
    simp only
    rw[dP (Nat.lt_irrefl _),<-ek,hn,a8L hc hr hq.va hu e4]
    show (Vl.mk t.k v.n (mk []) [] [],(0:Int))=_
    rw[<-e5]
   cases c3:t.k==3||t.k==7 with
   |true=>
    rw[aQ]
    have hne2:(t.k==2)=false:=by
     rw[fB] at c3
     rcases c3 with h|h<;>exact fN h (by decide)
    have h0n:0<=v.n:=by
     rw[fB] at c3
     rcases c3 with h|h
     · rw[rg3 h,bI] at e4;exact iO e4.1
     · rw[rg7 h,iY] at e4
       obtain ⟨x,hx,he⟩:=e4
       have:=(hd.ni.enOf t).n x hx
       have he:=eq_of_beq he
       omega
    have hlt:=hvo.n.2
    rw[UW h0n (by omega)]
    exact key _ (by omega) (by unfold oE;rw[hne2,aI];omega)
   |false=>
    have h2:(t.k==2)=true:=by rw[c3,oV] at c2;exact c2
    rw[aI,h2,aQ]
    obtain ⟨z1,z2⟩:=aZ2 hvo.n
    exact key _ z1 (by unfold oE;rw[h2];exact z2)
  |false=>
  have c2':=c2
  rw[cY] at c2'
  rw[aI,c2'.2,aI,c2'.1,aI]
  cases c4:t.k==4 with
  |true=>
   rw[aQ,aQ]
   obtain ⟨e1,e2,e3,e4⟩:=hq.tx c4
   rw[ES m u e2 e3]
   unfold dTx
   rw[dP (by omega)]
   have hk:t.k=4:=eq_of_beq c4
   have hkk:=hq.kk
   rw[hk] at hkk
   obtain ⟨k,n,str,l,f⟩:=v
   have h1:k=4:=hkk
   have h2:n=0:=e1
   have h3:l=[]:=e2
   have h4:f=[]:=e3
   subst h1 h2 h3 h4
   show (Vl.mk 4 0 (mk (bl str)) [] [],(0:Int))=_
   rw[qC]
  |false=>
  rw[aI,aI]
  cases c5:t.k==5 with
  |true=>
   rw[aQ,aQ]
   have hk:t.k=5:=eq_of_beq c5
   have hku:u.k=5:=by omega
   obtain ⟨x,hx,_⟩:=GU hq.va c5
   obtain ⟨y,hy,hvy⟩:=GU hu (by rw[hku];rfl)
   have hfd:=WJ (s:=m) (by rw[hku];rfl) hy
   obtain ⟨e1,e2,e3,e4,e5⟩:=hq.ls c5
   have h32:=(yY hq.va).2 c5
   rw[hx] at e5 ⊢
   rw[hy]
   simp only[y9] at e5 ⊢
   have hl:=aLC (R:=d9 m M y) (f:=eV s N x) (p:=pj m y) [] v.l fun z hz=>by
    have hzh:z.h<=N:=by have:=Vl.h_l hz;omega
    have:=pO hd N x z hzh (e5 z hz)
    have:=xU (N:=N) (by omega)
    exact ⟨YW hd he hc M N x y z (hvo.l z hz) (e5 z hz) hvy (hr.ls hk hx hy) hzh (by omega) (by omega),by omega⟩
   rw[fI] at hl
   have hn:v.l.length<18446744073709551616:=by omega
   unfold sU sP
   rw[yD hn,ZK hn]
   simp only
   rw[dP (by omega),hl,oK]
   have hkk:=hq.kk
   rw[hk] at hkk
   rw[hkk,aU5 hku hy,e3,e1,mY (b:=mk []) e2];rfl
  |false=>
   rw[aI,aI]
   have c6:=YB hq.va c1 c2 c4 c5
   have k6:t.k=6:=eq_of_beq c6
   obtain ⟨rfl,j⟩:=hr.nm (.inl k6)
   obtain ⟨e1,e2,e3,e4,e5⟩:=hq.st c6
   have hfd:=u5 (s:=m) c6
   rw[aIK hd he hc hq.va hu k6 j e4 e5 (by omega) (fun x hx=>by have:=Vl.h_f hx;omega) (fun t' u' v' hv' h1 h2 h3 h4 h5=>by
    obtain ⟨x,hx,rfl⟩:=hv'
    exact YW hd he hc M N t' u' x.2 (hvo.f x hx) h1 h2 h3 h4 (by omega) h5) (by omega),oK]
   have hkk:=hq.kk
   rw[k6] at hkk
   rw[hkk,QL k6 (TU hu k6),e3,e1,mY (b:=mk []) e2];rfl
theorem a9K {s m:Sc} (hs:s.fit) (hm:m.fit) {n:ByteArray} {v:Vl} (hvo:VlOk v) (h:l0 s m n=true) (h0:lN s (.mk 6 0 n []) v=0) :
 ((BV s n v).2=0/\(BV s n v).1.length<=2000/\B0 m n (BV s n v).1=(pj m (.mk 6 0 n []) v,0))\/(BV s n v).2=3:=by
 obtain ⟨c1,c2,c3,c4,hc⟩:=ZX h
 have hd:=O0 hs c1
 have he:=O0 hm c2
 have hv1:valF s.ss s.es (.mk 6 0 n [])=true:=by rw[valF.eq_def];simp[c3]
 have hv2:valF m.ss m.es (.mk 6 0 n [])=true:=by rw[valF.eq_def];simp[c4]
 unfold BV
 rw[c1,c3,h0]
 simp only[bne_self_eq_false,bN,aI]
 cases c5:decide (2000<((lK (eV s 8) s (stOf s (.mk 6 0 n [])).fs v.f).length:Int)) with
 |true=>exact .inr rfl
 |false=>
  refine .inl ⟨rfl,by have:=gL c5;rw[aI];simp only;omega,?_⟩
  rw[aI]
  have hk:=(GC h0).1
  have hh:=aTO h0
  obtain ⟨e1,e2,e3,e4,e5⟩:=(m9 hk).st rfl
  have hdd:=rV he hv2 rfl
  unfold B0
  rw[c2,c4,c5]
  simp only[bne_self_eq_false,bN,aI]
  rw[aIK hd he hc hv1 hv2 rfl (eI ..) e4 e5 (bE _) (fun x hx=>by have:=Vl.h_f hx;omega) (fun t u x hx h1 h2 h3 h4 h5=>by
   obtain ⟨y,hy,rfl⟩:=hx
   exact YW hd he hc 8 8 t u y.2 (hvo.f y hy) h1 h2 h3 h4 (bE _) h5) (by have:=hdd.2.1;show dD m.ss n<=8;have:dD m.ss n<=6:=this;omega),oK]
  have hkk:v.k=6:=(m9 hk).kk
  rw[hkk,QL (t:=.mk 6 0 n []) rfl c4,e3,e1,mY (b:=mk []) e2];rfl
def aKJ:PC:=.S [.z 3 25 0,.z 5 29 2,.A 6 gO 29] (.seq (.S [.n 10 3 3,.v 11 1,.j 12 16 [jK,kJ],.v 9 12,.y 13 9 0,.y 14 9 1,.A 7 #[(.string (mk [])),(.slice none 0 0)] 50,.w 2 7 13,.v 8 14] (.S [.v 15 8,.t 16 15,.v 17 16,.N 18 17 (.n 3 3),.N 19 17 (.cq 15 [iV]),.N 20 17 (.h .neq 19 0),.o 21 17 20] (.I 21 (.R [.n 22 3 3,.q 23 (.bd [(.int .i64 0),(.int .i64 0),(.string (mk [])),(.slice none 0 0)] []),.n 24 5 5,.j 25 49 [jO,jP,kQ],.w 5 6 25])))) (.R [.n 26 3 3,.v 27 1,.q 28 (.bd [(.int .i64 0),(.int .i64 0),(.string (mk [])),(.slice none 0 0)] [(0,1,(.i 6)),(2,1,oN)]),.n 29 5 5,.j 30 49 [j7,g7,lB],.w 5 6 30]))
def aIR:List RV:=[.ld (.ldn 5 (.t 6))]
theorem a08:aU Tryz.prog true ⟨fun r k=>if r=2/\k=4 then .q else .own [],fun _=>false⟩ Tryz.f18=some (aKJ,aIR):=by kernel_rfl
def AY:PC:=.gh (.ord [.q (.f 104 4 5),.q (.r 105 104),.q (.f 106 0 15),.q (.r 107 106),.q (.n 108 3 3),.q (.n 109 4 16),.q (.f 110 1 15),.q (.n 111 5 110),.m (.j 112 49 [(.t 108),(.t 109),(.t 111)]),.rc (.f 104 4 5),.rc (.r 105 104),.rc (.f 106 0 15),.rc (.r 107 106),.q (.q 113 (.bd [(.int .i64 0),(.int .i64 0),(.int .i64 0),(.string (mk [])),(.slice none 0 0),(.slice none 0 0)] [(0,1,(.t 107)),(1,5,(.t 112))])),.m (.e 114 (.bsl 42 6 [(.t 113)])),.rc (.f 104 4 5),.rc (.r 105 104),.m (.e 115 (.ap 42 6 88 (.t 105) (.t 114))),.q (.f 116 4 5),.m (.w 1 116 115)])
@[go_sem ↓] theorem a03:a7 AY:=a8 _
def aIB:PC:=.S [.z 3 25 0,.z 4 45 1,.z 5 29 2,.A 6 gO 29] (.S [.f 19 3 5,.r 20 19,.f 21 4 5,.r 22 21,.v 7 20,.v 8 22] (.S [.f 23 3 5,.s (.st 1 jP gH),.f 24 4 5,.s (.st 1 kQ gH)] (.S [.n 26 3 3,.f 27 2 4,.r 28 27,.j 29 16 [j7,g7],.v 25 29,.y 30 25 0,.y 31 25 1,.A 9 #[(.string (mk [])),(.slice none 0 0)] 50,.w 2 9 30,.v 10 31] (.S [.f 32 0 5,.r 33 32,.f 34 0 4,.r 35 34,.k 36 .eql 33 35,.v 11 36] (.seq (.S [.v 37 7,.m 38 37,.c 39 0] (.L 0 40 39 38 1 76 (.S [.x 41 5 37 39,.n 42 5 41,.A 13 gO 29,.w 5 13 42] (.S [.v 43 11,.v 44 43,.Y 45 44 (.f 0 4),.Y 46 44 (.r 45),.Y 47 44 (.h .eql 46 5),.p 48 44 47,.v 49 48,.Y 50 49 (.f 3 4),.Y 51 49 (.r 50),.Y 52 49 (.m 51),.Y 53 49 (.h .eql 52 1),.p 54 49 53] (.C 54 (.ord [.q (.f 55 3 5),.q (.r 56 55),.q (.n 57 3 3),.q (.f 58 3 4),.q (.r 59 58),.q (.l 60 (.ia 4 rR gZ)),.q (.n 61 4 60),.q (.n 62 5 13),.m (.j 63 49 [A9,tT,(.t 62)]),.rc (.f 55 3 5),.rc (.r 56 55),.m (.e 64 (.bsl 29 5 [(.t 63)])),.rc (.f 55 3 5),.rc (.r 56 55),.m (.e 65 (.ap 29 5 80 rT (.t 64))),.q (.f 66 3 5),.m (.w 1 66 65)]) (.ord [.q (.f 67 3 5),.q (.r 68 67),.q (.n 69 3 3),.q (.q 70 (.bd [(.int .i64 0),(.int .i64 0),(.string (mk [])),(.slice none 0 0)] [])),.q (.n 71 5 13),.m (.j 72 49 [v6,(.t 70),(.t 71)]),.rc (.f 67 3 5),.rc (.r 68 67),.m (.e 73 (.bsl 29 5 [AP])),.rc (.f 67 3 5),.rc (.r 68 67),.m (.e 74 (.ap 29 5 80 (.t 68) (.t 73))),.q (.f 75 3 5),.m (.w 1 75 74)])))))) (.seq (.S [.v 77 8,.m 78 77,.c 79 0] (.L 2 80 79 78 3 117 (.S [.x 81 6 77 79,.n 82 6 81,.A 15 #[(.int .i64 0),(.int .i64 0),(.int .i64 0),(.string (mk [])),(.slice none 0 0),(.slice none 0 0)] 42,.w 6 15 82] (.S [.q 83 (.bd [(.int .i64 0),(.int .i64 0),(.string (mk [])),(.slice none 0 0)] []),.A 16 #[(.int .i64 0),(.int .i64 0),(.string (mk [])),(.slice none 0 0)] 45,.w 4 16 83] (.seq (.S [.v 84 11,.v 85 84,.Y 86 85 (.f 0 4),.Y 87 85 (.r 86),.Y 88 85 (.h .eql 87 6),.p 89 85 88,.v 90 89,.Y 91 90 (.v 10),.p 92 90 91] (.I 92 (.S [.n 94 2 9,.f 95 0 15,.r 96 95,.j 97 69 [(.t 94),(.t 96)],.v 93 97,.y 98 93 0,.y 99 93 1,.A 17 #[(.int .i64 0),(.string (mk [])),(.int .i64 0),(.int .i64 0),(.string (mk [])),(.slice none 0 0),(.bool false)] 47,.w 7 17 98,.v 18 99] (.seq (.S [.v 100 18,.t 101 100] (.I 101 (.exit 3))) (.reg [.f 102 2 17,.n 103 4 102,.w 4 16 103]))))) AY))))) (.R [.n 118 5 5,.w 5 6 118])))))))
def aLV:List RV:=[.ld (.ldn 5 (.t 6))]
theorem a1W:aU Tryz.prog true ⟨fun _ _=>.own [],fun r=>[20].contains r⟩ Tryz.f49=some (aIB,aLV):=by kernel_rfl
end Go.Proofs.YtblfcdllimkbhaaGreat
