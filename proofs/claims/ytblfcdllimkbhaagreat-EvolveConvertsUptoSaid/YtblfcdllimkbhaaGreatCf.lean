/- Lemmas and walks for the proof. -/
import Derived.Test.YtblfcdllimkbhaaGreatCe
import Derived.Test.YtblfcdllimkbhaaGreatProg
import Derived.WalkKit
import Derived.Sort.Grow
import Derived.Lib.Bytealg
import Derived.Deep.Draws
import Derived.StillTail
import Derived.StillTactics
import Derived.Shelf.SlSortCmp.NoneTotal
import Derived.Shelf.Small.Strs
import Derived.ProofKit
import Derived.OpenShut
import Derived.ChangeStays
import Derived.Deep.Slices
import Derived.JoinedCond
set_option maxRecDepth 100000
set_option maxHeartbeats 8000000
open List renaming not_mem_nil→E4,length_take→eJ,length_eq_one_iff→lZ,getElem?_cons_zero→oS,take_length→eC,length_map→cE,drop_eq_getElem_cons→cG,flatMap_cons→iZ,append_assoc→gV,append_nil→fI,mem_of_find?_eq_some→fJ,length_append→bW,length_singleton→JW,drop_length→dT,flatMap_nil→vX,drop_eq_nil_iff→iD,any_cons→sZ,nil_append→jT,ext_getElem?→iF,getElem?_eq_none→iE,length_filter_le→JQ,take_succ_cons→eG,take_zero→eH,drop_zero→zA,mem_append→cL,map_cons→gC,flatten_cons→fA,length_cons→bP,mem_map→dO,getElem?_map→b9,map_map→fK,getElem?_take→gW,pairwise_map→aC0,getElem_mem→eM,mem_flatten→w8,mem_flatMap→s3,mem_singleton→dS,length_nil→dZ,filter_append→aC9,flatMap_append→s4
open Nat renaming zero_le→aP,le_refl→bE,mul_le_mul_right→gD,succ_mul→jU,mul_comm→qO,zero_add→gJ,mod_eq_of_lt→w7,pow_succ→DC
open Bool renaming and_eq_true→bI,and_false→dF,and_true→eZ,false_and→bL,not_eq_true'→oR,not_eq_false'→nP,true_or→cR,false_or→bK,or_eq_false_iff→cY,true_and→bF,eq_iff_iff→fH,not_true→bN,not_false→bV,or_self→uG,or_true→oU,and_self→JX
open Option renaming getD_none→oT,isSome_none→nS,isSome_some→lG,map_some→cQ
open Array renaming getElem?_eq_none→nT,getElem?_eq_getElem→nO,getElem?_modify→qN
open Int renaming fdiv_eq_ediv_of_nonneg→aD4
namespace Go.Proofs.YtblfcdllimkbhaaGreat
open Go.W
def gR (t:Ty):List C:=[.vl (.int .i64 t.k),.vl (.int .i64 t.s),.vl (.string t.n),.fz (t.e.map aK)]
def QQ (N:Nat):W.Spec:=fun av H K=>∃(s:Sc) (t:Ty) (v:Vl),av=[.va (.gs (aA s)),.va (.gs (aK t)),.va (.gs (aW v))]/\H=[]/\s.fit/\TyOk t/\VlOk v/\v.h<=N/\K (.va (.gs (aW (pj s t v)))) []
theorem aQ1 {N:Nat} {s:Sc} {t:Ty} {v:Vl} {K:S->Hp->Prop} (h1:s.fit) (h2:TyOk t) (h3:VlOk v) (h4:v.h<=N) (hK:K (.va (.gs (aW (pj s t v)))) []):QQ N [.va (.gs (aA s)),.va (.gs (aK t)),.va (.gs (aW v))] [] K:=⟨s,t,v,rfl,rfl,h1,h2,h3,h4,hK⟩
theorem x8 {N:Nat} {s:Sc} {t:Ty} {v:Vl} {K:S->Hp->Prop} (h1:s.fit) (h2:TyOk t) (h3:VlOk v) (h4:v.h<=N)
 (hK:K (.va (.gs [.vl (.int .i64 (pj s t v).k),.vl (.int .i64 (pj s t v).n),.vl (.string (pj s t v).s),.fz ((pj s t v).l.map aW),.fz ((pj s t v).f.map bG)])) []) :
 QQ N [.va (.gs [.vl (.int .i64 s.ver),.fz (s.es.map aV),.fz (s.ss.map aD)]),.va (.gs [.vl (.int .i64 t.k),.vl (.int .i64 t.s),.vl (.string t.n),.fz (t.e.map aK)]),.va (.gs [.vl (.int .i64 v.k),.vl (.int .i64 v.n),.vl (.string v.s),.fz (v.l.map aW),.fz (v.f.map bG)])] [] K:=by
 have:=aQ1 (K:=K) h1 h2 h3 h4 (by rw[aJ];exact hK)
 rw[aJ,aY] at this
 exact this
theorem R3:TyOk default:=.mk (by unfold cB;decide) (by unfold cB;decide) (by decide) (by decide) (fun _ h=>by cases h)
theorem V8 {N:Nat} {s:Sc} {v:Vl} {K:S->Hp->Prop} (h1:s.fit) (h3:VlOk v) (h4:v.h<=N)
 (hK:K (.va (.gs [.vl (.int .i64 (pj s default v).k),.vl (.int .i64 (pj s default v).n),.vl (.string (pj s default v).s),.fz ((pj s default v).l.map aW),.fz ((pj s default v).f.map bG)])) []) :
 QQ N [.va (.gs [.vl (.int .i64 s.ver),.fz (s.es.map aV),.fz (s.ss.map aD)]),.va (.gs [.vl (.int .i64 0),.vl (.int .i64 0),.vl (.string (mk [])),.fz []]),.va (.gs [.vl (.int .i64 v.k),.vl (.int .i64 v.n),.vl (.string v.s),.fz (v.l.map aW),.fz (v.f.map bG)])] [] K:=x8 (t:=default) h1 R3 h3 h4 hK
theorem M7:∀N,Meets Tryz.prog 49 (QQ N)
 |0=>⟨by kernel_rfl,by rintro xs vs E ro w K _ _ _ ⟨s,t,v,_,_,_,_,_,h,_⟩;have:=v.h_pos;omega⟩
 |N+1=>by
  refine aF Tryz.func49 a1W 3 (by rw[Tryz.ntmps49];decide) (aE (M7 N) (aE jJ (aE sL (aB _)))) (fun av H K h=>by obtain ⟨_,_,_,rfl,_⟩:=h;rfl) ?_
  rintro av H K ⟨s,t,v,rfl,rfl,hs,ht,hv,hh,hK⟩
  have hll:=hv.ll
  have hlf:=hv.lf
  rw[oK,aW,rI,rC] at hK
  simp(maxSteps:=9^7)-dsimp only[go_sem,aJ v,aY t,aA,aIB,aLV]
  refine dJ (s:=s) hs ?_
  generalize hu:(fS s.ss t.n).getD default=u
  generalize hkn:aZ s.ss t.n=kn
  have hO:oJ s v.k t=bif decide (v.k=t.k)&&decide (t.k=6)&&kn then some u.fs else none:=by unfold oJ;rw[hu,hkn]
  have huo:u.ok:=by
   rw[<-hu]
   cases hf:fS s.ss t.n with
   |none=>exact St.ok_default
   |some w=>exact hs.ok.ss w (fQ hf).1
  have hus:∀f∈u.fs,TySm f.ty:=by
   rw[<-hu]
   cases hf:fS s.ss t.n with
   |none=>exact fun f hf=>(E4 hf).elim
   |some w=>exact (hs.sm w (fQ hf).1).2
  generalize hsh:(v.k==t.k)=sh
  have hsh':decide (v.k=t.k)=sh:=hsh
  simp(maxSteps:=9^7)-dsimp only[go_sem,aD,hsh]
  refine dL (α:=Nat) (fun i=>[(3,.va (.c1 (.pt 0 0))),(4,.va (.c1 (.pt 1 0))),(5,.va (.c1 (.pt 2 0))),(6,.va (.c1 (.pt 3 0))),(8,.va (.c1 (.fz (v.f.map bG)))),(9,.va (.c1 (.pt 4 0))),(10,bS kn),(11,bS sh),(37,.va (.c1 (.fz (v.l.map aW)))),(38,iS .i64 v.l.length),(39,iS .i64 i)])
   (fun i=>[.cells (aA s) 25,.cells (gR t) 45,.cells [.vl (.int .i64 v.k),.vl (.int .i64 v.n),.vl (.string v.s),.sl 5 i,.vl (.slice none 0 0)] 29,.cells [.vl (.int .i64 0),.vl (.int .i64 0),.vl (.string (mk [])),.vl (.slice none 0 0),.vl (.slice none 0 0)] 29,.cells (aD u) 50,.row (((v.l.take i).map (pj s (pF v.k t))).map aW) 29 5])
   (fun i=>i<=v.l.length) (fun i=>v.l.length-i) (.nilc 2 3 29 5 [.vl (.int .i64 v.k),.vl (.int .i64 v.n),.vl (.string v.s),.vl (.slice none 0 0),.vl (.slice none 0 0)] 29 rfl rfl (lA 0 6 (aP _) ?_ ?_)) ?_
  · simp -dsimp only[go_sem,hsh]<;>simp[hsh]
  · simp -dsimp only[go_sem,aA,gR,aD]<;>simp[gR,aD,aA]
  intro i hi
  have hz:(v.l.take i).length=i:=by rw[eJ];omega
  rcases bB i v.l.length with hlt|hge
  · have hg:decide ((i:Int)<(v.l.length:Int))=true:=by simp;omega
    obtain ⟨x,hx⟩:∃t,v.l[i]? = some t:=⟨_,aX hlt⟩
    have q1:=sC hx
    have hxm:=cC hx
    have hxo:=hv.l x hxm
    have hxh:x.h<=N:=by have:=Vl.h_l hxm;omega
    simp(maxSteps:=9^7)-dsimp only[go_sem,hg,↓q1,aA,gR,aD]
    refine ⟨by omega,fun hc=>?_,fun hc=>?_⟩
    · simp only[bI,beq_iff_eq] at hc
      obtain ⟨⟨hc1,hc2⟩,hc3⟩:=hc
      obtain ⟨e,he⟩:∃e,t.e=[e]:=lZ.1 (by omega)
      have hch:pF v.k t=e:=by unfold pF;rw[hsh',hc1,hc2,he];rfl
      have heo:TyOk e:=ht.e e (by rw[he];simp)
      rw[hch,he]
      simp(maxSteps:=9^7)-dsimp only[go_sem,aY e,oS,aM,forall_eq']
      refine ⟨by omega,x8 hs heo hxo hxh ?_⟩
      simp(maxSteps:=9^7)-dsimp only[go_sem]
      refine ⟨hz,by omega,by omega,aC (i+1) 6 (by omega) (by omega) ?_ ?_⟩
      · simp -dsimp only[go_sem]<;>simp
      · simp -dsimp only[go_sem,aA,gR,aD,cM hx,hch,he]<;>simp[gR,aD,aA,he,hch,aJ (pj s e x),aY e]
    · have hch:pF v.k t=default:=by
       unfold pF
       rw[hsh']
       cases h1:decide (t.e.length=1) with
       |false=>rw[dF];rfl
       |true=>
        have h2:((t.e.length:Int)==1)=true:=by have:=iO h1;simp[this]
        have h3:(t.k==5)=decide (t.k=5):=rfl
        rw[h2,eZ,h3] at hc
        rw[hc];rfl
      rw[hch]
      refine V8 hs hxo hxh ?_
      simp(maxSteps:=9^7)-dsimp only[go_sem]
      refine ⟨hz,by omega,by omega,aC (i+1) 6 (by omega) (by omega) ?_ ?_⟩
      · simp -dsimp only[go_sem]<;>simp
      · simp -dsimp only[go_sem,aA,gR,aD,cM hx,hch]<;>simp[gR,aD,aA,hch,aJ (pj s default x)]
  · have hg:decide ((i:Int)<(v.l.length:Int))=false:=by simp;omega
    obtain rfl:i=v.l.length:=by omega
    rw[eC]
    simp(maxSteps:=9^7)-dsimp only[go_sem,hg,aA,gR,aD]
    generalize hL:v.l.map (pj s (pF v.k t))=L at *
    have hLl:L.length=v.l.length:=by rw[<-hL,cE]
    generalize ho:oJ s v.k t=o at *
    clear hi hge hg hz
    refine dL (α:=Nat×List (Int×Vl)) (fun z=>[(3,.va (.c1 (.pt 0 0))),(4,.va (.c1 (.pt 1 0))),(5,.va (.c1 (.pt 2 0))),(6,.va (.c1 (.pt 3 0))),(9,.va (.c1 (.pt 4 0))),(10,bS kn),(11,bS sh),(77,.va (.c1 (.fz (v.f.map bG)))),(78,iS .i64 v.f.length),(79,iS .i64 z.1)])
     (fun z=>[.cells (aA s) 25,.cells (gR t) 45,.cells [.vl (.int .i64 v.k),.vl (.int .i64 v.n),.vl (.string v.s),.sl 5 v.l.length,.sl 6 z.2.length] 29,.cells [.vl (.int .i64 0),.vl (.int .i64 0),.vl (.string (mk [])),.vl (.slice none 0 0),.vl (.slice none 0 0)] 29,.cells (aD u) 50,.row (L.map aW) 29 5,.row (z.2.map bG) 42 6])
     (fun z=>z.1<=v.f.length/\z.2++(v.f.drop z.1).flatMap (hT s o)=v.f.flatMap (hT s o)/\z.2.length<=z.1) (fun z=>v.f.length-z.1)
     (.nilc 2 4 42 6 [.vl (.int .i64 v.k),.vl (.int .i64 v.n),.vl (.string v.s),.sl 5 v.l.length,.vl (.slice none 0 0)] 29 rfl rfl (lA (0,[]) 7 ⟨aP _,rfl,bE _⟩ ?_ ?_)) ?_
    · simp -dsimp only[go_sem]<;>simp
    · simp -dsimp only[go_sem,aA,gR,aD]<;>simp[gR,aD,aA]
    rintro ⟨i,O⟩ ⟨hi,hm,hol⟩
    simp only at hi hm hol ⊢
    rcases bB i v.f.length with hlt|hge
    · have hg:decide ((i:Int)<(v.f.length:Int))=true:=by simp;omega
      obtain ⟨x,hx⟩:∃t,v.f[i]? = some t:=⟨_,aX hlt⟩
      have q1:=kZ hx
      have hxm:=cC hx
      have hxo:=hv.f x hxm
      have hxh:x.2.h<=N:=by have:=Vl.h_f hxm;omega
      have hdr:v.f.drop i=x::v.f.drop (i+1):=by
       obtain ⟨h,rfl⟩:=bT.1 hx
       exact cG h
      rw[hdr,iZ,<-gV] at hm
      simp(maxSteps:=9^7)-dsimp only[go_sem,hg,↓q1,aA,gR,aD]
      refine ⟨by omega,fun hc=>?_,fun hc=>?_⟩
      · have hc':=hc
        simp only[bI,beq_iff_eq] at hc'
        obtain ⟨⟨hc1,hc2⟩,hc3⟩:=hc'
        have hoe:o=some u.fs:=by rw[hO,hsh',hc1,hc2,hc3];rfl
        refine nA (t:=u) huo hus ?_
        cases hf:fF u.fs x.1 with
        |none=>
         have he:hT s o x=[]:=by rw[hoe];unfold hT;simp only[hf]
         rw[he,fI] at hm
         simp(maxSteps:=9^7)-dsimp only[go_sem,oT,nS,lH]
         refine ⟨by omega,aC (i+1,O) 7 ⟨by simp only;omega,hm,by simp only;omega⟩ (by simp only;omega) ?_ ?_⟩
         · simp -dsimp only[go_sem]<;>simp
         · simp -dsimp only[go_sem,aA,gR,aD]<;>simp[gR,aD,aA]
        |some g=>
         have he:hT s o x=[(x.1,pj s g.ty x.2)]:=by rw[hoe];unfold hT;simp only[hf]
         have hgo:=(huo.fs g (fJ hf)).ty
         rw[he] at hm
         simp(maxSteps:=9^7)-dsimp only[go_sem,Option.getD_some,lG,aN]
         refine aH rfl (.done ?_)
         simp(maxSteps:=9^7)-dsimp only[go_sem,AY]
         refine x8 (t:=g.ty) hs hgo hxo hxh ?_
         simp(maxSteps:=9^7)-dsimp only[go_sem]
         refine ⟨by omega,by omega,aC (i+1,O++[(x.1,pj s g.ty x.2)]) 7 ⟨by simp only;omega,hm,by simp only[bW,JW];omega⟩ (by simp only;omega) ?_ ?_⟩
         · simp -dsimp only[go_sem]<;>simp
         · simp -dsimp only[go_sem,aA,gR,aD]<;>simp[gR,aD,aA,l9]
      · have hoe:o=none:=by
         rw[hO,hsh']
         have h3:(t.k==6)=decide (t.k=6):=rfl
         rw[<-h3,hc];rfl
        have he:hT s o x=[(x.1,pj s default x.2)]:=by rw[hoe];rfl
        rw[he] at hm
        refine aH rfl (.done ?_)
        simp(maxSteps:=9^7)-dsimp only[go_sem,AY]
        refine V8 hs hxo hxh ?_
        simp(maxSteps:=9^7)-dsimp only[go_sem]
        refine ⟨by omega,by omega,aC (i+1,O++[(x.1,pj s default x.2)]) 7 ⟨by simp only;omega,hm,by simp only[bW,JW];omega⟩ (by simp only;omega) ?_ ?_⟩
        · simp -dsimp only[go_sem]<;>simp
        · simp -dsimp only[go_sem,aA,gR,aD]<;>simp[gR,aD,aA,l9]
    · have hg:decide ((i:Int)<(v.f.length:Int))=false:=by simp;omega
      obtain rfl:i=v.f.length:=by omega
      rw[dT,vX,fI] at hm
      subst hm
      simp(maxSteps:=9^7)-dsimp only[go_sem,hg,aA,gR,aD]
      rw[<-hLl]
      refine .pub 5 _ _ _ rfl (.pub 6 _ _ _ rfl (.sel [] (by simp) (by simp[cS]) rfl (.done ?_)))
      simp -dsimp only[go_sem,cS]
      simpa using hK
theorem nC (s:Sc) (l:List Vl):l.map (pj s default)=l:=by
 conv=>rhs;rw[<-rY s l]
 rw[D1]
theorem qJ (s:Sc) (f:List (Int×Vl)):f.flatMap (hT s none)=f:=by
 conv=>rhs;rw[<-sB s f]
 rw[AV]
theorem aW1:∀N,Meets Tryz.prog 59 (QQ N)
 |0=>⟨by kernel_rfl,by rintro xs vs E ro w K _ _ _ ⟨s,t,v,_,_,_,_,_,h,_⟩;have:=v.h_pos;omega⟩
 |N+1=>by
  refine aF Tryz.func59 a9G 3 (by rw[Tryz.ntmps59];decide) (aE (aW1 N) (aE mR (aE OH (aB _)))) (fun av H K h=>by obtain ⟨_,_,_,rfl,_⟩:=h;rfl) ?_
  rintro av H K ⟨s,t,v,rfl,rfl,hs,ht,hv,hh,hK⟩
  have hll:=hv.ll
  have hlf:=hv.lf
  have fin:∀R:Hp,pj s t v=v->W.Fin 0 K (.va (.gs [.vl (.int .i64 v.k),.vl (.int .i64 v.n),.vl (.string v.s),.fz (v.l.map aW),.fz (v.f.map bG)])) R:=fun R h=>by
   rw[h,aJ] at hK
   exact .z ((by simpa[go_sem] using hK))
  by_cases hk:v.k=t.k
  rotate_left
  · have hb:(v.k != t.k)=true:=by simpa using hk
    simp(maxSteps:=9^7)-dsimp only[go_sem,aJ v,aY t,aA,KL,KG,hb]
    exact fin _ (aD9 hk)
  have hb:(v.k != t.k)=false:=by simp[hk]
  by_cases h5:t.k=5
  · have b5:(t.k==5)=true:=by simp[h5]
    have b6:(t.k==6)=false:=by simp[h5]
    have hO:oJ s v.k t=none:=by unfold oJ;rw[dP (show ¬ t.k=6 by omega),dF,bL];rfl
    by_cases hl:t.e.length=1
    rotate_left
    · have bl1:((t.e.length:Int)==1)=false:=by simp;omega
      simp(maxSteps:=9^7)-dsimp only[go_sem,aJ v,aY t,aA,KL,KG,hb,b5,b6,bl1]
      refine fin _ ?_
      have hC:pF v.k t=default:=by unfold pF;rw[dP hl,dF];rfl
      rw[oK,hC,hO,nC,qJ]
      cases v;rfl
    · have bl1:((t.e.length:Int)==1)=true:=by simp;omega
      obtain ⟨e,he⟩:∃e,t.e=[e]:=lZ.1 hl
      have heo:TyOk e:=ht.e e (by rw[he];simp)
      have hC:pF v.k t=e:=by unfold pF;rw[eE hk,eE h5,eE hl,he];rfl
      rw[oK,hC,hO,qJ,aW,rI,rC] at hK
      simp(maxSteps:=9^7)-dsimp only[go_sem,aJ v,aY t,aA,KL,KG,hb,b5,bl1]
      refine dL (α:=Nat) (fun i=>[(3,.va (.c1 (.pt 0 0))),(4,.va (.c1 (.pt 1 0))),(5,.va (.c1 (.pt 2 0))),(6,.va (.c1 (.pt 3 0))),(7,.va (.c1 (.pt 4 0))),(8,iS .i64 i)])
       (fun i=>[.cells (aA s) 25,.cells (gR t) 45,.cells (bO v) 29,.cells [.vl (.int .i64 0),.vl (.int .i64 0),.vl (.string (mk [])),.vl (.slice none 0 0),.vl (.slice none 0 0)] 29,.cells [.vl (.int .i64 v.k),.vl (.int .i64 v.n),.vl (.string v.s),.sl 5 i,.fz (v.f.map bG)] 29,.row (((v.l.take i).map (pj s e)).map aW) 29 5])
       (fun i=>i<=v.l.length) (fun i=>v.l.length-i) (.nilc 4 3 29 5 [.vl (.int .i64 v.k),.vl (.int .i64 v.n),.vl (.string v.s),.vl (.slice none 0 0),.fz (v.f.map bG)] 29 rfl rfl (lA 0 6 (aP _) ?_ ?_)) ?_
      · simp -dsimp only[go_sem]<;>simp
      · simp -dsimp only[go_sem,aA,gR,bO]<;>simp[gR,bO,aA]
      intro i hi
      have hz:(v.l.take i).length=i:=by rw[eJ];omega
      rcases bB i v.l.length with hlt|hge
      · have hg:decide ((i:Int)<(v.l.length:Int))=true:=by simp;omega
        obtain ⟨x,hx⟩:∃t,v.l[i]? = some t:=⟨_,aX hlt⟩
        have q1:=sC hx
        have hxm:=cC hx
        have hxo:=hv.l x hxm
        have hxh:x.h<=N:=by have:=Vl.h_l hxm;omega
        simp(maxSteps:=9^7)-dsimp only[go_sem,hg,↓q1,aA,gR,bO,he,aY e,oS,aM,forall_eq']
        and_intros
        all_goals first
         |omega
         |skip
        refine x8 hs heo hxo hxh ?_
        simp(maxSteps:=9^7)-dsimp only[go_sem]
        refine ⟨hz,by omega,by omega,aC (i+1) 6 (by omega) (by omega) ?_ ?_⟩
        · simp -dsimp only[go_sem]<;>simp
        · simp -dsimp only[go_sem,aA,gR,bO,cM hx,he]<;>simp[gR,bO,aA,he,aJ (pj s e x),aY e]
      · have hg:decide ((i:Int)<(v.l.length:Int))=false:=by simp;omega
        obtain rfl:i=v.l.length:=by omega
        rw[eC]
        simp(maxSteps:=9^7)-dsimp only[go_sem,hg,aA,gR,bO,b6]
        refine .pub 5 _ _ _ rfl (.sel [] (by simp) (by simp[cS]) rfl (.done ?_))
        simp -dsimp only[go_sem,cS]
        simpa using hK
  · have b5:(t.k==5)=false:=by simpa using h5
    have hC:pF v.k t=default:=by unfold pF;rw[dP h5,dF,bL];rfl
    by_cases h6:t.k=6
    rotate_left
    · have b6:(t.k==6)=false:=by simpa using h6
      have hO:oJ s v.k t=none:=by unfold oJ;rw[dP h6,dF,bL];rfl
      simp(maxSteps:=9^7)-dsimp only[go_sem,aJ v,aY t,aA,KL,KG,hb,b5,b6]
      refine fin _ ?_
      rw[oK,hC,hO,nC,qJ]
      cases v;rfl
    have b6:(t.k==6)=true:=by simp[h6]
    simp(maxSteps:=9^7)-dsimp only[go_sem,aJ v,aY t,aA,KL,KG,hb,b5,b6]
    refine dJ (s:=s) hs ?_
    cases hkn:aZ s.ss t.n with
    |false=>
     have hO:oJ s v.k t=none:=by unfold oJ;rw[hkn,dF];rfl
     simp(maxSteps:=9^7)-dsimp only[go_sem,aD]
     refine fin _ ?_
     rw[oK,hC,hO,nC,qJ]
     cases v;rfl
    |true=>
     generalize hu:(fS s.ss t.n).getD default=u
     have hO:oJ s v.k t=some u.fs:=by unfold oJ;rw[hkn,hu,eE hk,eE h6];rfl
     have huo:u.ok:=by
      rw[<-hu]
      cases hf:fS s.ss t.n with
      |none=>exact St.ok_default
      |some w=>exact hs.ok.ss w (fQ hf).1
     have hus:∀f∈u.fs,TySm f.ty:=by
      rw[<-hu]
      cases hf:fS s.ss t.n with
      |none=>exact fun f hf=>(E4 hf).elim
      |some w=>exact (hs.sm w (fQ hf).1).2
     rw[oK,hC,hO,nC,aW,rI,rC] at hK
     simp(maxSteps:=9^7)-dsimp only[go_sem,aD]
     refine dL (α:=Nat×List (Int×Vl)) (fun z=>[(3,.va (.c1 (.pt 0 0))),(4,.va (.c1 (.pt 1 0))),(5,.va (.c1 (.pt 2 0))),(6,.va (.c1 (.pt 3 0))),(7,.va (.c1 (.pt 4 0))),(9,.va (.c1 (.pt 5 0))),(11,iS .i64 z.1)])
      (fun z=>[.cells (aA s) 25,.cells (gR t) 45,.cells (bO v) 29,.cells [.vl (.int .i64 0),.vl (.int .i64 0),.vl (.string (mk [])),.vl (.slice none 0 0),.vl (.slice none 0 0)] 29,.cells [.vl (.int .i64 v.k),.vl (.int .i64 v.n),.vl (.string v.s),.fz (v.l.map aW),.sl 6 z.2.length] 29,.cells (aD u) 50,.row (z.2.map bG) 42 6])
      (fun z=>z.1<=v.f.length/\z.2++(v.f.drop z.1).flatMap (hT s (some u.fs))=v.f.flatMap (hT s (some u.fs))/\z.2.length<=z.1) (fun z=>v.f.length-z.1)
      (.nilc 4 4 42 6 [.vl (.int .i64 v.k),.vl (.int .i64 v.n),.vl (.string v.s),.fz (v.l.map aW),.vl (.slice none 0 0)] 29 rfl rfl (lA (0,[]) 7 ⟨aP _,rfl,bE _⟩ ?_ ?_)) ?_
     · simp -dsimp only[go_sem]<;>simp
     · simp -dsimp only[go_sem,aA,gR,bO,aD]<;>simp[gR,bO,aD,aA]
     rintro ⟨i,O⟩ ⟨hi,hm,hol⟩
     simp only at hi hm hol ⊢
     rcases bB i v.f.length with hlt|hge
     · have hg:decide ((i:Int)<(v.f.length:Int))=true:=by simp;omega
       obtain ⟨x,hx⟩:∃t,v.f[i]? = some t:=⟨_,aX hlt⟩
       have q1:=kZ hx
       have hxm:=cC hx
       have hxo:=hv.f x hxm
       have hxh:x.2.h<=N:=by have:=Vl.h_f hxm;omega
       have hdr:v.f.drop i=x::v.f.drop (i+1):=by
        obtain ⟨h,rfl⟩:=bT.1 hx
        exact cG h
       rw[hdr,iZ,<-gV] at hm
       simp(maxSteps:=9^7)-dsimp only[go_sem,hg,↓q1,aA,gR,bO,aD]
       refine ⟨by omega,nA (t:=u) huo hus ?_⟩
       cases hf:fF u.fs x.1 with
       |none=>
        have he:hT s (some u.fs) x=[]:=by unfold hT;simp only[hf]
        rw[he,fI] at hm
        simp(maxSteps:=9^7)-dsimp only[go_sem,oT,nS,lH]
        refine aH rfl (.done ?_)
        simp(maxSteps:=9^7)-dsimp only[go_sem,DJ]
        refine ⟨by omega,aC (i+1,O) 7 ⟨by simp only;omega,hm,by simp only;omega⟩ (by simp only;omega) ?_ ?_⟩
        · simp -dsimp only[go_sem]<;>simp
        · simp -dsimp only[go_sem,aA,gR,bO,aD]<;>simp[gR,bO,aD,aA]
       |some g=>
        have he:hT s (some u.fs) x=[(x.1,pj s g.ty x.2)]:=by unfold hT;simp only[hf]
        have hgo:=(huo.fs g (fJ hf)).ty
        rw[he] at hm
        simp(maxSteps:=9^7)-dsimp only[go_sem,Option.getD_some,lG,aN]
        refine aH rfl (.done ?_)
        simp(maxSteps:=9^7)-dsimp only[go_sem,DJ,↓q1]
        refine ⟨by omega,by omega,x8 (t:=g.ty) hs hgo hxo hxh ?_⟩
        simp(maxSteps:=9^7)-dsimp only[go_sem,↓q1]
        refine ⟨by omega,by omega,by omega,aC (i+1,O++[(x.1,pj s g.ty x.2)]) 7 ⟨by simp only;omega,hm,by simp only[bW,JW];omega⟩ (by simp only;omega) ?_ ?_⟩
        · simp -dsimp only[go_sem]<;>simp
        · simp -dsimp only[go_sem,aA,gR,bO,aD]<;>simp[gR,bO,aD,aA,l9]
     · have hg:decide ((i:Int)<(v.f.length:Int))=false:=by simp;omega
       obtain rfl:i=v.f.length:=by omega
       rw[dT,vX,fI] at hm
       subst hm
       simp(maxSteps:=9^7)-dsimp only[go_sem,hg,aA,gR,bO,aD]
       refine .pub 6 _ _ _ rfl (.sel [] (by simp) (by simp[cS]) rfl (.done ?_))
       simp -dsimp only[go_sem,cS]
       simpa using hK
def Z5:W.Spec:=fun av H K=>∃(s:Sc) (t:Ty) (v:Vl),av=[.va (.gs (aA s)),.va (.gs (aK t)),.va (.gs (aW v))]/\H=[]/\s.fit/\TyOk t/\VlOk v/\K (.va (.gs (aW (pj s t v)))) []
theorem LF {s:Sc} {t:Ty} {v:Vl} {K:S->Hp->Prop} (h1:s.fit) (h2:TyOk t) (h3:VlOk v)
 (hK:K (.va (.gs [.vl (.int .i64 (pj s t v).k),.vl (.int .i64 (pj s t v).n),.vl (.string (pj s t v).s),.fz ((pj s t v).l.map aW),.fz ((pj s t v).f.map bG)])) []) :
 Z5 [.va (.gs [.vl (.int .i64 s.ver),.fz (s.es.map aV),.fz (s.ss.map aD)]),.va (.gs [.vl (.int .i64 t.k),.vl (.int .i64 t.s),.vl (.string t.n),.fz (t.e.map aK)]),.va (.gs [.vl (.int .i64 v.k),.vl (.int .i64 v.n),.vl (.string v.s),.fz (v.l.map aW),.fz (v.f.map bG)])] [] K:=by
 have:Z5 [.va (.gs (aA s)),.va (.gs (aK t)),.va (.gs (aW v))] [] K:=⟨s,t,v,rfl,rfl,h1,h2,h3,by rw[aJ];exact hK⟩
 rw[aJ,aY] at this
 exact this
theorem aB9:Meets Tryz.prog 49 Z5:=dB 0 M7 fun av H K ⟨s,t,v,e1,e2,h1,h2,h3,hK⟩=>⟨v.h,s,t,v,e1,e2,h1,h2,h3,bE _,hK⟩
theorem mBy:Meets Tryz.prog 59 Z5:=dB 0 aW1 fun av H K ⟨s,t,v,e1,e2,h1,h2,h3,hK⟩=>⟨v.h,s,t,v,e1,e2,h1,h2,h3,bE _,hK⟩
def sN (n:ByteArray):Ty:=.mk 6 0 n []
def qI (s:Sc) (n:ByteArray) (v:Vl):Vl:=bif aZ s.ss n&&(aL s==0) then pj s (sN n) v else v
theorem aUA {s:Sc} {n:ByteArray} {v:Vl} (h:VlOk v):VlOk (qI s n v):=by
 unfold qI
 cases aZ s.ss n&&(aL s==0)
 · exact h
 · exact PO h
def Y6:W.Spec:=fun av H K=>∃(s:Sc) (n:ByteArray) (v:Vl),av=[.va (.gs (aA s)),tS n,.va (.gs (aW v))]/\H=[]/\s.fit/\n.size<=9223372036854775807/\VlOk v/\K (.va (.gs (aW (qI s n v)))) []
theorem Z4 {s:Sc} {n:ByteArray} {v:Vl} {K:S->Hp->Prop} (h1:s.fit) (h2:n.size<=9223372036854775807) (h3:VlOk v)
 (hK:K (.va (.gs [.vl (.int .i64 (qI s n v).k),.vl (.int .i64 (qI s n v).n),.vl (.string (qI s n v).s),.fz ((qI s n v).l.map aW),.fz ((qI s n v).f.map bG)])) []) :
 Y6 [.va (.gs [.vl (.int .i64 s.ver),.fz (s.es.map aV),.fz (s.ss.map aD)]),tS n,.va (.gs [.vl (.int .i64 v.k),.vl (.int .i64 v.n),.vl (.string v.s),.fz (v.l.map aW),.fz (v.f.map bG)])] [] K:=by
 have:Y6 [.va (.gs (aA s)),tS n,.va (.gs (aW v))] [] K:=⟨s,n,v,rfl,rfl,h1,h2,h3,by rw[aJ];exact hK⟩
 rw[aJ] at this
 exact this
theorem IM {n:ByteArray} (h:n.size<=9223372036854775807):TyOk (sN n):=.mk (by unfold cB;decide) (by unfold cB;decide) h (by decide) (fun _ h=>by cases h)
theorem aHG:Meets Tryz.prog 18 Y6:=by
 refine aF Tryz.func18 a08 3 (by rw[Tryz.ntmps18];decide) (aE jJ (aG yO (aE aB9 (aB _)))) (fun av H K h=>by obtain ⟨_,_,_,rfl,_⟩:=h;rfl) ?_
 rintro av H K ⟨s,n,v,rfl,rfl,hs,hn,hv,hK⟩
 have hso:=cN hs
 have hdo:=cT s
 rw[aA] at hso hdo
 have fin:∀(w:Vl) (R:Hp),qI s n v=w->W.Fin 0 K (.va (.gs [.vl (.int .i64 w.k),.vl (.int .i64 w.n),.vl (.string w.s),.fz (w.l.map aW),.fz (w.f.map bG)])) R:=fun w R h=>by
  rw[h,aJ] at hK
  exact .z ((by simpa[go_sem] using hK))
 have no:∀(R:Hp) {K':S->Hp->Prop},K' (.va (.gs [.vl (.int .i64 (pj s default v).k),.vl (.int .i64 (pj s default v).n),.vl (.string (pj s default v).s),.fz ((pj s default v).l.map aW),.fz ((pj s default v).f.map bG)])) []->
  Z5 [.va (.gs [.vl (.int .i64 s.ver),.fz (s.es.map aV),.fz (s.ss.map aD)]),.va (.gs [.vl (.int .i64 0),.vl (.int .i64 0),.vl (.string (mk [])),.fz []]),.va (.gs [.vl (.int .i64 v.k),.vl (.int .i64 v.n),.vl (.string v.s),.fz (v.l.map aW),.fz (v.f.map bG)])] [] K':=fun _ _ h=>LF (t:=default) hs R3 hv h
 simp(maxSteps:=9^7)-dsimp only[go_sem,aJ v,aA,aKJ,aIR]
 refine dJ (s:=s) hs ?_
 generalize (fS s.ss n).getD default=u
 cases hkn:aZ s.ss n with
 |false=>
  simp(maxSteps:=9^7)-dsimp only[go_sem,aD,hso,hdo]
  refine no [] ?_
  simp(maxSteps:=9^7)-dsimp only[go_sem]
  exact fin _ _ (by unfold qI;rw[hkn,tQ];rfl)
 |true=>
  cases hc:aL s != 0 with
  |true=>
   have hc':(aL s==0)=false:=by rw[bne,oR] at hc;exact hc
   simp(maxSteps:=9^7)-dsimp only[go_sem,aD,hso,hdo,hc]
   refine no [] ?_
   simp(maxSteps:=9^7)-dsimp only[go_sem]
   exact fin _ _ (by unfold qI;rw[hkn,hc',tQ];rfl)
  |false=>
   have hc':(aL s==0)=true:=by rw[bne,nP] at hc;exact hc
   simp(maxSteps:=9^7)-dsimp only[go_sem,aD,hso,hdo,hc]
   refine LF (t:=sN n) hs (IM hn) hv ?_
   simp(maxSteps:=9^7)-dsimp only[go_sem]
   exact fin _ _ (by unfold qI;rw[hkn,hc'];rfl)
theorem aAI:Meets Tryz.prog 23 Y6:=by
 refine aF Tryz.func23 bAI 3 (by rw[Tryz.ntmps23];decide) (aE mR (aG y6 (aE mBy (aB _)))) (fun av H K h=>by obtain ⟨_,_,_,rfl,_⟩:=h;rfl) ?_
 rintro av H K ⟨s,n,v,rfl,rfl,hs,hn,hv,hK⟩
 have hso:=cN hs
 have hdo:=cT s
 rw[aA] at hso hdo
 have fin:∀(w:Vl) (R:Hp),qI s n v=w->W.Fin 0 K (.va (.gs [.vl (.int .i64 w.k),.vl (.int .i64 w.n),.vl (.string w.s),.fz (w.l.map aW),.fz (w.f.map bG)])) R:=fun w R h=>by
  rw[h,aJ] at hK
  exact .z ((by simpa[go_sem] using hK))
 simp(maxSteps:=9^7)-dsimp only[go_sem,aJ v,aA,aU9,aVC]
 refine dJ (s:=s) hs ?_
 generalize (fS s.ss n).getD default=u
 cases hkn:aZ s.ss n with
 |false=>
  simp(maxSteps:=9^7)-dsimp only[go_sem,aD,hso,hdo]
  exact fin _ _ (by unfold qI;rw[hkn];rfl)
 |true=>
  cases hc:aL s != 0 with
  |true=>
   have hc':(aL s==0)=false:=by rw[bne,oR] at hc;exact hc
   simp(maxSteps:=9^7)-dsimp only[go_sem,aD,hso,hdo,hc]
   exact fin _ _ (by unfold qI;rw[hkn,hc'];rfl)
  |false=>
   have hc':(aL s==0)=true:=by rw[bne,nP] at hc;exact hc
   simp(maxSteps:=9^7)-dsimp only[go_sem,aD,hso,hdo,hc]
   refine LF (t:=sN n) hs (IM hn) hv ?_
   simp(maxSteps:=9^7)-dsimp only[go_sem]
   exact fin _ _ (by unfold qI;rw[hkn,hc'];rfl)
theorem ieq (a b:Int):(a==b)=decide (a=b):=rfl
def YX (rs:List (List C)):Prop:=∃l:List Int,rs=l.map cV/\l.length<=9223372036854775807
theorem J1 {l:List Int} (h:l.length<=9223372036854775807):YX (l.map cV):=⟨l,rfl,h⟩
def P3:List S->Prop:=fun av=>match av with
 |[.va (.c1 (.fz rs)),.va (.c1 (.vl (.int .i64 _)))]=>YX rs
 |_=>False
theorem t6 {av:List S} (h:P3 av):∃(l:List Int) (x:Int),av=[.va (.c1 (.fz (l.map cV))),iS .i64 x]/\l.length<=9223372036854775807:=by
 unfold P3 at h
 split at h
 · obtain ⟨l,rfl,h⟩:=h;exact ⟨l,_,rfl,h⟩
 · exact h.elim
noncomputable def aKG (f:List Int->Int->Value):List S->A:=fun av=>match av with
 |[.va (.c1 (.fz rs)),.va (.c1 (.vl (.int .i64 x)))]=>.c1 (.vl (f (rs.map C.it) x))
 |_=>.gs []
noncomputable def MN (f:List Int->Int->Value):Fun:=⟨P3,aKG f,fun av h=>by obtain ⟨l,x,rfl,_⟩:=t6 h;trivial⟩
theorem RZ {f}:∀av H K,(MN f).sp av H K->av.length=2:=fun av H K h=>by obtain ⟨l,x,rfl,_⟩:=t6 h.1.1;rfl
attribute [go_sem] MN P3 aKG
def BT:List Int->Int->Nat->Int
 |[],_,_=>-1
 |y::l,x,i=>bif decide (x=y) then (i:Int) else BT l x (i+1)
def l7 (l:List Int) (x:Int):Bool:=l.any fun y=>decide (x=y)
theorem W4:∀(l:List Int) (x:Int) (i:Nat),decide (0<=BT l x i)=l7 l x
 |[],_,_=>by simp[BT,l7]
 |y::l,x,i=>by
  simp only[BT]
  by_cases h:x=y
  · simp[h,l7]
  · have:=W4 l x (i+1)
    simp[h,l7] at this ⊢;exact this
theorem aPC:Meets Tryz.prog 77 (MN fun l x=>.int .i64 (BT l x 0)).sp:=by
 refine aF Tryz.func77 a6D 2 (by rw[Tryz.ntmps77];decide) (aB _) RZ ?_
 rintro av H K ⟨⟨h,rfl⟩,hK⟩
 obtain ⟨l,x,rfl,hl⟩:=t6 h
 have hK:K (iS .i64 (BT l x 0)) []:=by
  have:(MN fun l x=>.int .i64 (BT l x 0)).val [.va (.c1 (.fz (l.map cV))),iS .i64 x]=iA .i64 (BT l x 0):=by simp -dsimp only[go_sem]
  rw[this] at hK;exact hK
 simp -dsimp only[go_sem,aT5,aSY]
 refine aO (α:=Nat) (fun i=>[(0,.va (.c1 (.fz (l.map cV)))),(1,iS .i64 x),(7,iS .i64 l.length),(8,iS .i64 i)]) (fun _=>[])
  (fun i=>i<=l.length/\BT (l.drop i) x i=BT l x 0) (fun i=>l.length-i) 0 0 ⟨aP _,rfl⟩ ?_ ?_ ?_
 · simp[go_sem]
 · simp[go_sem]
 rintro i ⟨hi,ho⟩
 rcases bB i l.length with hlt|hge
 · have hg:decide ((i:Int)<(l.length:Int))=true:=by simp;omega
   have hx:l[i]? = some l[i]:=aX hlt
   have q1:=xZ (row:=cV) hx
   have q2:=aS (row:=cV) hx
   rw[cG hlt] at ho
   simp only[BT] at ho
   generalize l[i]=y at *
   cases hc:decide (x=y) with
   |true=>
    rw[hc,aQ] at ho
    simp -dsimp only[go_sem,hg,↓q2,hc,ieq]
    and_intros
    all_goals first
     |omega
     |exact .done (by rw[ho];exact hK)
   |false=>
    rw[hc,aI] at ho
    simp -dsimp only[go_sem,hg,↓q2,hc,ieq]
    and_intros
    all_goals first
     |omega
     |skip
    refine aC (i+1) 0 ⟨by omega,ho⟩ (by omega) ?_ ?_
    · simp[go_sem]
    · simp[go_sem]
 · have hg:decide ((i:Int)<(l.length:Int))=false:=by simp;omega
   have:l.drop i=[]:=iD.2 (by omega)
   rw[this] at ho
   simp -dsimp only[go_sem,hg]
   exact .done (by rw[show (-1:Int)=BT l x 0 from ho];exact hK)
theorem YH:Meets Tryz.prog 34 (MN fun l x=>.bool (l7 l x)).sp:=by
 refine aF Tryz.func34 a6Z 2 (by rw[Tryz.ntmps34];decide) (aG aPC (aB _)) RZ ?_
 rintro av H K ⟨⟨h,rfl⟩,hK⟩
 obtain ⟨l,x,rfl,hl⟩:=t6 h
 have hK:K (bS (l7 l x)) []:=by
  have:(MN fun l x=>.bool (l7 l x)).val [.va (.c1 (.fz (l.map cV))),iS .i64 x]=bA (l7 l x):=by simp -dsimp only[go_sem]
  rw[this] at hK;exact hK
 simp -dsimp only[go_sem,aUE,aT6,J1 hl,W4]
 exact .done hK
noncomputable def ZL:List S->A:=fun av=>match av with
 |[.va (.gs r),.va (.gs q)]=>bA (c8 (C.ty r) (C.ty q))
 |_=>.gs []
noncomputable def KW (N:Nat):Fun:=⟨IF N,ZL,fun av h=>by obtain ⟨a,b,rfl,_⟩:=fD h;trivial⟩
attribute [go_sem] KW ZL
theorem Q3 {N:Nat}:∀av H K,(KW N).sp av H K->av.length=2:=fun av H K h=>by obtain ⟨a,b,rfl,_⟩:=fD h.1.1;rfl
theorem RQ:∀N,Meets Tryz.prog 74 (KW N).sp
 |0=>⟨by kernel_rfl,by rintro xs vs E ro w K _ _ _ ⟨⟨h,_⟩,_⟩;obtain ⟨a,_,_,_,_,h⟩:=fD h;have:=a.h_pos;omega⟩
 |N+1=>by
  refine aF Tryz.func74 a65 2 (by rw[Tryz.ntmps74];decide) (aG (RQ N) (aG aRD (aB _))) Q3 ?_
  rintro av H K ⟨⟨h,rfl⟩,hK⟩
  obtain ⟨a,b,rfl,ha,hb,hh⟩:=fD h
  have hK:K (bS (c8 a b)) []:=by
   have:(KW (N+1)).val [.va (.gs (aK a)),.va (.gs (aK b))]=bA (c8 a b):=by simp -dsimp only[go_sem]
   rw[this] at hK;exact hK
  clear h
  have fin:∀(x:Bool) (R:Hp),c8 a b=x->W.Fin 0 K (bS x) R:=fun x R h=>by
   rw[h] at hK
   exact .z ((by simpa[go_sem] using hK))
  obtain ⟨k,s,n,e⟩:=a
  obtain ⟨k',s',n',e'⟩:=b
  have hua:dG (aK (.mk k s n e)):=bM ha
  have hub:dG (aK (.mk k' s' n' e')):=bM hb
  have hax:TyOk (.mk k' s n' e'):=by cases hb;exact .mk (by assumption) ha.s (by assumption) (by assumption) (by assumption)
  have hux:dG (aK (.mk k' s n' e')):=bM hax
  have dua:=eF (.mk k s n e)
  have dub:=eF (.mk k' s' n' e')
  have dux:=eF (.mk k' s n' e')
  have hla:=ha.len
  have hlb:=hb.len
  have hoa:=ha.e
  have hob:=hb.e
  simp only[Ty.e] at hla hlb hoa hob
  have hst:c8 (.mk k s n e) (.mk k' s' n' e')=(l5 (.mk k s n e) (.mk k' s' n' e')||(decide (k=k')&&decide (n=n')&&(bif decide (k=5) then decide (e.length=1)&&decide (e'.length=1)&&decide (s<=s')&&c8 (e.headD default) (e'.headD default)
   else (decide (k=2)||decide (k=3)||decide (k=4))&&decide (s<s')&&l5 (.mk k s n e) (.mk k' s n' e')))):=CC _ _
  simp only[aK,aR] at hua hub hux dua dub dux
  cases c1:l5 (.mk k s n e) (.mk k' s' n' e') with
  |true=>
   rw[c1,cR] at hst
   simp(maxSteps:=9^7)-dsimp only[go_sem,aK,aR,aEH,aHZ,hua,hub,dua,dub,c1]
   exact fin _ _ hst
  |false=>
  rw[c1,bK] at hst
  simp(maxSteps:=9^7)-dsimp only[go_sem,aK,aR,aEH,aHZ,cK,hua,hub,hux,dua,dub,dux,c1]
  have e5:(k==(5:Int))=decide (k=5):=rfl
  have e2:(k==(2:Int))=decide (k=2):=rfl
  have e3:(k==(3:Int))=decide (k=3):=rfl
  have e4:(k==(4:Int))=decide (k=4):=rfl
  refine ⟨fun h1=>fin _ _ ?_,fun h1=>?_⟩
  · rw[hst]
    by_cases hk:k=k'
    · by_cases hn:n=n'
      · rw[hk,hn] at h1;simp at h1
      · rw[dP hn,dF,bL]
    · rw[dP hk,bL,bL]
  have hkn:(decide (k=k')&&decide (n=n'))=true:=by
   simp only[cY,bne_eq_false_iff_eq,nP] at h1
   rw[h1.2,eE h1.1];rfl
  rw[hkn,bF] at hst
  refine ⟨fun h5=>?_,fun h5=>fin _ _ ?_⟩
  · rw[e5] at h5
    rw[h5,aQ] at hst
    refine ⟨fun h2=>?_,fun h2=>fin _ _ ?_⟩
    · have h2':=h2
      simp only[bI,beq_iff_eq,fU] at h2'
      obtain ⟨⟨l1,l2⟩,l3⟩:=h2'
      obtain ⟨u,rfl⟩:∃u,e=[u]:=lZ.1 (by omega)
      obtain ⟨v,rfl⟩:∃v,e'=[v]:=lZ.1 (by omega)
      have hu:dG (aK u):=bM (hoa u (by simp))
      have hv:dG (aK v):=bM (hob v (by simp))
      have huh:u.h<=N:=by rw[Ty.h,Ty.hs] at hh;omega
      have hfin:c8 (.mk k s n [u]) (.mk k' s' n' [v])=c8 u v:=by
       rw[hst];simp[l3]
      simp(maxSteps:=9^7)-dsimp only[go_sem,dR,hu,hv,oS,aM,forall_eq']
      refine ⟨by simp,by simp,huh,fin _ _ hfin⟩
    · rw[hst]
      cases hc:(decide (e.length=1)&&decide (e'.length=1)&&decide (s<=s')) with
      |false=>rfl
      |true=>
       simp only[bI,fU] at hc
       simp[hc] at h2
  · rw[e5] at h5
    rw[hst,h5,aI,e2,e3,e4]
abbrev CJ (l:List Is):Hp:=[.cells [.sl 1 l.length] 74,.row (l.map bR) 55 3]
def aXC:W.Spec:=fun av H K=>∃(k n:Int) (t:ByteArray) (l:List Is),av=[.va (.c1 (.pt 0 0)),iS .i64 k,iS .i64 n,tS t]/\H=CJ l/\l.length<=1000000/\K (.tu []) (CJ (mE l ⟨k,n,t⟩))
theorem oH {k n:Int} {t:ByteArray} {l:List Is} {K:S->Hp->Prop} (h:l.length<=1000000) (hK:K (.tu []) (CJ (mE l ⟨k,n,t⟩))):aXC [.va (.c1 (.pt 0 0)),iS .i64 k,iS .i64 n,tS t] (CJ l) K:=⟨k,n,t,l,rfl,rfl,h,hK⟩
theorem aXX:Meets Tryz.prog 31 aXC:=by
 refine aF Tryz.func31 a56 4 (by rw[Tryz.ntmps31];decide) (aB _) (fun av H K h=>by obtain ⟨_,_,_,_,rfl,_⟩:=h;rfl) ?_
 rintro av H K ⟨k,n,t,l,rfl,rfl,hl,hK⟩
 unfold mE at hK
 simp(maxSteps:=9^7)-dsimp only[go_sem,aRJ,aSE]
 refine aO (α:=Nat) (fun i=>[(0,.va (.c1 (.pt 0 0))),(8,.va (.c1 (.pt 2 0))),(18,.va (.c1 (.sl 1 l.length))),(19,iS .i64 l.length),(20,iS .i64 i)]) (fun _=>[.cells [.sl 1 l.length] 74,.row (l.map bR) 55 3,.cells (bR ⟨k,n,t⟩) 55])
  (fun i=>i<=l.length/\(l.drop i).any (fun y=>decide ((⟨k,n,t⟩:Is)=y))=l.any (fun y=>decide ((⟨k,n,t⟩:Is)=y))) (fun i=>l.length-i) 0 3 ⟨aP _,rfl⟩ ?_ ?_ ?_
 · simp -dsimp only[go_sem]<;>simp
 · simp -dsimp only[go_sem,bR]<;>simp
 rintro i ⟨hi,ho⟩
 rcases bB i l.length with hlt|hge
 · have hg:decide ((i:Int)<(l.length:Int))=true:=by simp;omega
   obtain ⟨y,hx⟩:∃t,l[i]? = some t:=⟨_,aX hlt⟩
   have q1:=aS (row:=bR) hx
   have hdr:l.drop i=y::l.drop (i+1):=by
    obtain ⟨h,rfl⟩:=bT.1 hx
    exact cG h
   rw[hdr,sZ] at ho
   simp(maxSteps:=9^7)-dsimp only[go_sem,hg,bR]
   have hcc:(k==y.k&&(n==y.n&&bl t==bl y.t))=decide ((⟨k,n,t⟩:Is)=y):=by
    rw[cK,fH,fU,is_eq]
    simp
   refine ⟨by omega,hlt,fun z hz=>?_⟩
   rw[hx,aM] at hz
   subst hz
   rw[hcc]
   refine ⟨fun h1=>?_,fun h1=>⟨by omega,aC (i+1) 3 ⟨by omega,?_⟩ (by omega) ?_ ?_⟩⟩
   · rw[h1,cR] at ho
     rw[<-ho,aQ] at hK
     refine .sel [0,1] (by simp) (by simp) rfl (.done ?_)
     simpa -dsimp [go_sem,bR,CJ] using hK
   · rw[h1,bK] at ho;exact ho
   · simp -dsimp only[go_sem]<;>simp
   · simp -dsimp only[go_sem,bR]<;>simp
 · have hg:decide ((i:Int)<(l.length:Int))=false:=by simp;omega
   obtain rfl:i=l.length:=by omega
   rw[dT,List.any_nil] at ho
   rw[<-ho,aI] at hK
   simp(maxSteps:=9^7)-dsimp only[go_sem,hg,bR]
   refine ⟨by omega,.sel [0,1] (by simp) (by simp) rfl (.done ?_)⟩
   simpa -dsimp [go_sem,bR,CJ] using hK
noncomputable def wFn:Fun:=⟨QD,ZL,fun av h=>by obtain ⟨a,b,rfl,_⟩:=pL h;trivial⟩
attribute [go_sem] wFn
theorem aQB:Meets Tryz.prog 74 wFn.sp:=dB 0 RQ fun av H K ⟨⟨h,e⟩,hK⟩=>by
 obtain ⟨a,b,rfl,ha,hb⟩:=pL h
 exact ⟨a.h,⟨⟨⟨bM ha,bM hb,by rw[eF];exact bE _⟩,e⟩,hK⟩⟩
structure StG (a:St):Prop where
 ok:a.ok
 len:a.fs.length<=1000
 sm:∀f∈a.fs,TySm f.ty
def aM3:W.Spec:=fun av H K=>∃(nm:ByteArray) (a b:St) (l:List Is),av=[.va (.c1 (.pt 0 0)),tS nm,.va (.gs (aD a)),.va (.gs (aD b))]/\H=CJ l/\StG a/\StG b/\l.length<=900000/\K (.tu []) (CJ (b8 l (lP nm a b)))
theorem aPI {nm:ByteArray} {a b:St} {l:List Is} {K:S->Hp->Prop} (h1:StG a) (h2:StG b) (h3:l.length<=900000) (hK:K (.tu []) (CJ (b8 l (lP nm a b)))):aM3 [.va (.c1 (.pt 0 0)),tS nm,.va (.gs (aD a)),.va (.gs (aD b))] (CJ l) K:=⟨nm,a,b,l,rfl,rfl,h1,h2,h3,hK⟩
theorem MS {α β:Type} {l:List α} {i:Nat} {x:α} (h:l[i]? = some x) (f:α->List β):(l.take (i+1)).flatMap f=(l.take i).flatMap f++f x:=by rw[cM h];simp
theorem I7 {α β:Type} {f:α->List β} {k:Nat} (h:∀a,(f a).length<=k) (l:List α) (i:Nat):((l.take i).flatMap f).length<=l.length*k:=Nat.le_trans (tZ fun a _=>h a) (gD k (by rw[eJ];omega))
theorem AH {f:Fl} (h:f.ok):dG [.vl (.int .i64 f.ty.k),.vl (.int .i64 f.ty.s),.vl (.string f.ty.n),.fz (f.ty.e.map aK)]:=by rw[<-aY];exact bM h.ty
theorem D8 (f:Fl):C.ty [.vl (.int .i64 f.ty.k),.vl (.int .i64 f.ty.s),.vl (.string f.ty.n),.fz (f.ty.e.map aK)]=f.ty:=by rw[<-aY,eF]
theorem aG0:Meets Tryz.prog 32 aM3:=by
 refine aF Tryz.func32 a63 4 (by rw[Tryz.ntmps32];decide) (aE aXX (aE sL (aG aQB (aB _)))) (fun av H K h=>by obtain ⟨_,_,_,_,rfl,_⟩:=h;rfl) ?_
 rintro av H K ⟨nm,a,b,l,rfl,rfl,ga,gb,hl,hK⟩
 have hla:=ga.len
 have hlb:=gb.len
 simp(maxSteps:=9^7)-dsimp only[go_sem,aD,aTB,aRS]
 have hbd:∀i,(b8 l ((a.fs.take i).flatMap (dX nm b))).length<=910000:=fun i=>by
  have h1:=oY ((a.fs.take i).flatMap (dX nm b)) l
  have h2:=I7 (MB nm b) a.fs i
  omega
 refine aO (α:=Nat) (fun i=>[(0,.va (.c1 (.pt 0 0))),(1,tS nm),(6,.va (.c1 (.pt 2 0))),(7,.va (.c1 (.pt 3 0))),(17,.va (.c1 (.fz (a.fs.map aN)))),(18,iS .i64 a.fs.length),(19,iS .i64 i)]) (fun i=>[.cells [.sl 1 (b8 l ((a.fs.take i).flatMap (dX nm b))).length] 74,.row ((b8 l ((a.fs.take i).flatMap (dX nm b))).map bR) 55 3,.cells (aD a) 50,.cells (aD b) 50])
  (fun i=>i<=a.fs.length) (fun i=>a.fs.length-i) 0 4 (aP _) ?_ ?_ ?_
 · simp -dsimp only[go_sem]<;>simp
 · simp -dsimp only[go_sem,aD]<;>simp[b8]
 intro i hi
 have hbi:=hbd i
 rcases bB i a.fs.length with hlt|hge
 · have hg:decide ((i:Int)<(a.fs.length:Int))=true:=by simp;omega
   obtain ⟨f,hx⟩:∃t,a.fs[i]? = some t:=⟨_,aX hlt⟩
   have q1:=aS (row:=aN) hx
   have hfm:=cC hx
   have hnx:b8 l ((a.fs.take (i+1)).flatMap (dX nm b))=b8 (b8 l ((a.fs.take i).flatMap (dX nm b))) (dX nm b f):=by rw[MS hx,oZ]
   generalize hL:b8 l ((a.fs.take i).flatMap (dX nm b))=L at *
   have hft:=AH (ga.ok.fs f hfm)
   have hfd:=D8 f
   simp(maxSteps:=9^7)-dsimp only[go_sem,hg,↓q1,aD,aN]
   refine ⟨by omega,nA (t:=b) gb.ok gb.sm ?_⟩
   cases hfo:fF b.fs f.num with
   |none=>
    cases ho:f.opt with
    |true=>
     have hv:dX nm b f=[]:=by unfold dX;rw[hfo];simp[ho]
     rw[hv,iH] at hnx
     simp(maxSteps:=9^7)-dsimp only[go_sem,oT,nS,lH]
     refine ⟨by omega,aC (i+1) 4 (by omega) (by omega) ?_ ?_⟩
     · simp -dsimp only[go_sem]<;>simp
     · simp -dsimp only[go_sem,aD,hnx]<;>simp
    |false=>
     have hv:dX nm b f=[⟨2,f.num,nm⟩]:=by unfold dX;rw[hfo];simp[ho]
     rw[hv,mW] at hnx
     simp(maxSteps:=9^7)-dsimp only[go_sem,oT,nS,lH]
     refine oH (l:=L) (by omega) ?_
     simp(maxSteps:=9^7)-dsimp only[go_sem]
     refine ⟨by omega,aC (i+1) 4 (by omega) (by omega) ?_ ?_⟩
     · simp -dsimp only[go_sem]<;>simp
     · simp -dsimp only[go_sem,aD,hnx]<;>simp
   |some g=>
    have hgm:=(yK hfo).1
    have hgt:=AH (gb.ok.fs g hgm)
    have hgd:=D8 g
    have hv:dX nm b f=(bif c8 f.ty g.ty then [] else [⟨1,f.num,nm⟩])++(bif f.opt==g.opt then [] else [⟨3,f.num,nm⟩]):=by unfold dX;rw[hfo]
    rw[hv] at hnx
    have eo:(f.opt != g.opt)=!(f.opt==g.opt):=rfl
    have hl1:=Q0 L ⟨1,f.num,nm⟩
    cases hw:c8 f.ty g.ty with
    |true=>
     cases he:f.opt==g.opt with
     |true=>
      rw[hw,he] at hnx
      simp only[aQ,fI,iH] at hnx
      simp(maxSteps:=9^7)-dsimp only[go_sem,Option.getD_some,lG,aN,hft,hfd,hgt,hgd,hw,he,bN]
      refine ⟨by omega,aC (i+1) 4 (by omega) (by omega) ?_ ?_⟩
      · simp -dsimp only[go_sem]<;>simp
      · simp -dsimp only[go_sem,aD,hnx]<;>simp
     |false=>
      rw[hw,he] at hnx
      simp only[aQ,aI,jT,mW] at hnx
      simp(maxSteps:=9^7)-dsimp only[go_sem,Option.getD_some,lG,aN,hft,hfd,hgt,hgd,hw,he,bN,bV]
      refine oH (l:=L) (by omega) ?_
      simp(maxSteps:=9^7)-dsimp only[go_sem]
      refine ⟨by omega,aC (i+1) 4 (by omega) (by omega) ?_ ?_⟩
      · simp -dsimp only[go_sem]<;>simp
      · simp -dsimp only[go_sem,aD,hnx]<;>simp
    |false=>
     cases he:f.opt==g.opt with
     |true=>
      rw[hw,he] at hnx
      simp only[aQ,aI,fI,mW] at hnx
      simp(maxSteps:=9^7)-dsimp only[go_sem,Option.getD_some,lG,aN,hft,hfd,hgt,hgd,hw,he,bN,bV]
      refine oH (l:=L) (by omega) ?_
      simp(maxSteps:=9^7)-dsimp only[go_sem]
      refine ⟨by omega,aC (i+1) 4 (by omega) (by omega) ?_ ?_⟩
      · simp -dsimp only[go_sem]<;>simp
      · simp -dsimp only[go_sem,aD,hnx]<;>simp
     |false=>
      rw[hw,he] at hnx
      simp only[aI,List.singleton_append] at hnx
      rw[show b8 L [⟨1,f.num,nm⟩,⟨3,f.num,nm⟩]=mE (mE L ⟨1,f.num,nm⟩) ⟨3,f.num,nm⟩ from rfl] at hnx
      simp(maxSteps:=9^7)-dsimp only[go_sem,Option.getD_some,lG,aN,hft,hfd,hgt,hgd,hw,he,bN,bV]
      refine oH (l:=L) (by omega) ?_
      simp(maxSteps:=9^7)-dsimp only[go_sem]
      refine oH (l:=mE L ⟨1,f.num,nm⟩) (by omega) ?_
      simp(maxSteps:=9^7)-dsimp only[go_sem]
      refine ⟨by omega,aC (i+1) 4 (by omega) (by omega) ?_ ?_⟩
      · simp -dsimp only[go_sem]<;>simp
      · simp -dsimp only[go_sem,aD,hnx]<;>simp
 · have hg:decide ((i:Int)<(a.fs.length:Int))=false:=by simp;omega
   obtain rfl:i=a.fs.length:=by omega
   rw[eC] at hbi ⊢
   have hcs:b8 l (lP nm a b)=b8 (b8 l (a.fs.flatMap (dX nm b))) (b.fs.flatMap (kT nm a)):=by rw[lP,oZ]
   rw[hcs] at hK
   clear hcs hbd
   generalize b8 l (a.fs.flatMap (dX nm b))=L at *
   simp(maxSteps:=9^7)-dsimp only[go_sem,hg,aD]
   have hbd:∀i,(b8 L ((b.fs.take i).flatMap (kT nm a))).length<=920000:=fun i=>by
    have h1:=oY ((b.fs.take i).flatMap (kT nm a)) L
    have h2:=I7 (J7 nm a) b.fs i
    omega
   refine aO (α:=Nat) (fun i=>[(0,.va (.c1 (.pt 0 0))),(1,tS nm),(6,.va (.c1 (.pt 2 0))),(7,.va (.c1 (.pt 3 0))),(63,.va (.c1 (.fz (b.fs.map aN)))),(64,iS .i64 b.fs.length),(65,iS .i64 i)]) (fun i=>[.cells [.sl 1 (b8 L ((b.fs.take i).flatMap (kT nm a))).length] 74,.row ((b8 L ((b.fs.take i).flatMap (kT nm a))).map bR) 55 3,.cells (aD a) 50,.cells (aD b) 50])
    (fun i=>i<=b.fs.length) (fun i=>b.fs.length-i) 0 4 (aP _) ?_ ?_ ?_
   · simp -dsimp only[go_sem]<;>simp
   · simp -dsimp only[go_sem,aD]<;>simp[b8]
   intro i hi
   have hbi:=hbd i
   rcases bB i b.fs.length with hlt|hge
   · have hg:decide ((i:Int)<(b.fs.length:Int))=true:=by simp;omega
     obtain ⟨f,hx⟩:∃t,b.fs[i]? = some t:=⟨_,aX hlt⟩
     have q1:=aS (row:=aN) hx
     have hnx:b8 L ((b.fs.take (i+1)).flatMap (kT nm a))=b8 (b8 L ((b.fs.take i).flatMap (kT nm a))) (kT nm a f):=by rw[MS hx,oZ]
     generalize hL:b8 L ((b.fs.take i).flatMap (kT nm a))=M at *
     simp(maxSteps:=9^7)-dsimp only[go_sem,hg,↓q1,aD,aN]
     refine ⟨by omega,nA (t:=a) ga.ok ga.sm ?_⟩
     cases hfo:fF a.fs f.num with
     |none=>
      cases ho:f.opt with
      |true=>
       have hv:kT nm a f=[]:=by unfold kT;rw[hfo];simp[ho]
       rw[hv,iH] at hnx
       simp(maxSteps:=9^7)-dsimp only[go_sem,oT,nS,lH]
       refine ⟨by omega,aC (i+1) 4 (by omega) (by omega) ?_ ?_⟩
       · simp -dsimp only[go_sem]<;>simp
       · simp -dsimp only[go_sem,aD,hnx]<;>simp
      |false=>
       have hv:kT nm a f=[⟨2,f.num,nm⟩]:=by unfold kT;rw[hfo];simp[ho]
       rw[hv,mW] at hnx
       simp(maxSteps:=9^7)-dsimp only[go_sem,oT,nS,lH]
       refine oH (l:=M) (by omega) ?_
       simp(maxSteps:=9^7)-dsimp only[go_sem]
       refine ⟨by omega,aC (i+1) 4 (by omega) (by omega) ?_ ?_⟩
       · simp -dsimp only[go_sem]<;>simp
       · simp -dsimp only[go_sem,aD,hnx]<;>simp
     |some g=>
      have hv:kT nm a f=[]:=by unfold kT;rw[hfo];simp
      rw[hv,iH] at hnx
      simp(maxSteps:=9^7)-dsimp only[go_sem,Option.getD_some,lG,aN]
      refine ⟨by omega,aC (i+1) 4 (by omega) (by omega) ?_ ?_⟩
      · simp -dsimp only[go_sem]<;>simp
      · simp -dsimp only[go_sem,aD,hnx]<;>simp
   · have hg:decide ((i:Int)<(b.fs.length:Int))=false:=by simp;omega
     obtain rfl:i=b.fs.length:=by omega
     rw[eC]
     simp(maxSteps:=9^7)-dsimp only[go_sem,hg,aD]
     refine .sel [0,1] (by simp) (by simp) rfl (.done ?_)
     simpa -dsimp [go_sem,CJ] using hK
def aHN (rs:List (List C)):Prop:=∃l:List Ty,rs=l.map aK/\l.length<=9223372036854775807/\∀t∈l,TyOk t
theorem VK {l:List Ty} (h:l.length<=9223372036854775807) (h2:∀t∈l,TyOk t):aHN (l.map aK):=⟨l,rfl,h,h2⟩
def O5:List S->Prop:=fun av=>match av with
 |[.va (.c1 (.fz ra)),.va (.c1 (.fz rb))]=>aHN ra/\aHN rb/\ra.length=rb.length
 |_=>False
theorem zJ {av:List S} (h:O5 av):∃a b:List Ty,av=[.va (.c1 (.fz (a.map aK))),.va (.c1 (.fz (b.map aK)))]/\a.length<=9223372036854775807/\(∀t∈a,TyOk t)/\(∀t∈b,TyOk t)/\a.length=b.length:=by
 unfold O5 at h
 split at h
 · obtain ⟨⟨a,rfl,h1,h2⟩,⟨b,rfl,_,h3⟩,h4⟩:=h
   exact ⟨a,b,rfl,h1,h2,h3,by simpa using h4⟩
 · exact h.elim
noncomputable def aK3:List S->A:=fun av=>match av with
 |[.va (.c1 (.fz ra)),.va (.c1 (.fz rb))]=>bA (yQ (ra.map C.ty) (rb.map C.ty))
 |_=>.gs []
noncomputable def tsFn:Fun:=⟨O5,aK3,fun av h=>by obtain ⟨a,b,rfl,_⟩:=zJ h;trivial⟩
theorem aGU:∀av H K,tsFn.sp av H K->av.length=2:=fun av H K h=>by obtain ⟨a,b,rfl,_⟩:=zJ h.1.1;rfl
attribute [go_sem] tsFn O5 aK3
theorem aSW {a b:List Ty} (h:a=b):yQ a b=true:=EZ.2 h
theorem aSJ {a b:List Ty} (h:a≠b):yQ a b=false:=by
 cases c:yQ a b with
 |false=>rfl
 |true=>exact absurd (EZ.1 c) h
theorem aYO:Meets Tryz.prog 188 tsFn.sp:=by
 refine aF Tryz.func188 a1N 2 (by rw[Tryz.ntmps188];decide) (aG aBG (aB _)) aGU ?_
 rintro av H K ⟨⟨h,rfl⟩,hK⟩
 obtain ⟨a,b,rfl,hla,hoa,hob,hl⟩:=zJ h
 replace hK:K (bS (yQ a b)) []:=by
  have:tsFn.val [.va (.c1 (.fz (a.map aK))),.va (.c1 (.fz (b.map aK)))]=bA (yQ a b):=by simp -dsimp only[go_sem]
  rw[this] at hK;exact hK
 clear h
 have fin:∀(x:Bool),yQ a b=x->K (bS x) []:=fun x h=>by rw[h] at hK;exact hK
 simp(maxSteps:=9^7)-dsimp only[go_sem,aKX,aKH]
 refine aO (α:=Nat) (fun i=>[(0,.va (.c1 (.fz (a.map aK)))),(1,.va (.c1 (.fz (b.map aK)))),(5,iS .i64 i)]) (fun _=>[])
  (fun i=>i<=a.length/\∀j,j<i->a[j]? = b[j]?) (fun i=>a.length-i) 0 0 ⟨aP _,fun j hj=>by omega⟩ ?_ ?_ ?_
 · simp -dsimp only[go_sem]<;>simp
 · simp -dsimp only[go_sem]<;>simp
 rintro i ⟨hi,ho⟩
 rcases bB i a.length with hlt|hge
 · have hg:decide ((i:Int)<(a.length:Int))=true:=by simp;omega
   obtain ⟨u,hx⟩:∃t,a[i]? = some t:=⟨_,aX hlt⟩
   obtain ⟨v,hy⟩:∃t,b[i]? = some t:=⟨_,aX (by omega)⟩
   have hu:dG (aK u):=bM (hoa u (cC hx))
   have hv:dG (aK v):=bM (hob v (cC hy))
   simp(maxSteps:=9^7)-dsimp only[go_sem,hg]
   simp(maxSteps:=9^7)-dsimp only[go_sem,dR,hu,hv,hx,hy,aM,forall_eq']
   refine ⟨by omega,by omega,fun h1=>.done (fin false (aSJ fun he=>?_)),fun h1=>?_⟩
   · subst he
     rw[hx] at hy
     rw[xX (dV hy)] at h1
     simp at h1
   · have h1:u=v:=rQ.1 (by simpa using h1)
     subst h1
     refine ⟨by omega,aC (i+1) 0 ⟨by omega,fun j hj=>?_⟩ (by omega) ?_ ?_⟩
     · rcases bB j i with h4|h4
       · exact ho j h4
       · obtain rfl:j=i:=by omega
         rw[hx,hy]
     · simp -dsimp only[go_sem]<;>simp
     · simp -dsimp only[go_sem]<;>simp
 · have hg:decide ((i:Int)<(a.length:Int))=false:=by simp;omega
   obtain rfl:i=a.length:=by omega
   simp(maxSteps:=9^7)-dsimp only[go_sem,hg]
   refine .done (fin true (aSW (iF fun j=>?_)))
   rcases bB j a.length with h4|h4
   · exact ho j h4
   · rw[iE h4,iE (by omega)]
theorem NF:∀N,Meets Tryz.prog 172 (KW N).sp
 |0=>⟨by kernel_rfl,by rintro xs vs E ro w K _ _ _ ⟨⟨h,_⟩,_⟩;obtain ⟨a,_,_,_,_,h⟩:=fD h;have:=a.h_pos;omega⟩
 |N+1=>by
  refine aF Tryz.func172 a2K 2 (by rw[Tryz.ntmps172];decide) (aG (NF N) (aG aBG (aG aYO (aB _)))) Q3 ?_
  rintro av H K ⟨⟨h,rfl⟩,hK⟩
  obtain ⟨a,b,rfl,ha,hb,hh⟩:=fD h
  have hK:K (bS (c8 a b)) []:=by
   have:(KW (N+1)).val [.va (.gs (aK a)),.va (.gs (aK b))]=bA (c8 a b):=by simp -dsimp only[go_sem]
   rw[this] at hK;exact hK
  clear h
  have fin:∀(x:Bool) (R:Hp),c8 a b=x->W.Fin 0 K (bS x) R:=fun x R h=>by
   rw[h] at hK
   exact .z ((by simpa[go_sem] using hK))
  obtain ⟨k,s,n,e⟩:=a
  obtain ⟨k',s',n',e'⟩:=b
  have hua:dG (aK (.mk k s n e)):=bM ha
  have hub:dG (aK (.mk k' s' n' e')):=bM hb
  have dua:=eF (.mk k s n e)
  have dub:=eF (.mk k' s' n' e')
  have hla:=ha.len
  have hlb:=hb.len
  have hoa:=ha.e
  have hob:=hb.e
  simp only[Ty.e] at hla hlb hoa hob
  have hst:c8 (.mk k s n e) (.mk k' s' n' e')=(l5 (.mk k s n e) (.mk k' s' n' e')||(decide (k=k')&&decide (n=n')&&decide (e.length=e'.length) &&
   (bif decide (k=2)||decide (k=3) then decide (s<s')&&yQ e e' else bif decide (k=4) then decide (s<=s')&&yQ e e' else bif decide (k=5) then decide (s<=s')&&decide (e.length=1)&&c8 (e.headD default) (e'.headD default) else false))):=aGC _ _
  have htsa:=VK hla hoa
  have htsb:=VK hlb hob
  have dta:=aAX e
  have dtb:=aAX e'
  simp only[aK,aR] at hua hub dua dub
  cases c1:l5 (.mk k s n e) (.mk k' s' n' e') with
  |true=>
   rw[c1,cR] at hst
   simp(maxSteps:=9^7)-dsimp only[go_sem,aK,aR,ZH,YE,hua,hub,dua,dub,c1]
   exact fin _ _ hst
  |false=>
  rw[c1,bK] at hst
  simp(maxSteps:=9^7)-dsimp only[go_sem,aK,aR,ZH,YE,cK,hua,hub,dua,dub,c1,htsa,htsb,dta,dtb]
  have e5:(k==(5:Int))=decide (k=5):=rfl
  have e2:(k==(2:Int))=decide (k=2):=rfl
  have e3:(k==(3:Int))=decide (k=3):=rfl
  have e4:(k==(4:Int))=decide (k=4):=rfl
  refine ⟨fun h1=>fin _ _ ?_,fun h1=>?_⟩
  · rw[hst]
    by_cases hk:k=k'
    · by_cases hn:n=n'
      · by_cases hl:e.length=e'.length
        · rw[hk,hn,hl] at h1;simp at h1
        · rw[dP hl,dF,bL]
      · rw[dP hn,dF,bL,bL]
    · rw[dP hk,bL,bL,bL]
  have h1':=h1
  simp only[cY,bne_eq_false_iff_eq,nP] at h1'
  obtain ⟨⟨hk,hn⟩,hl⟩:=h1'
  have hl:e.length=e'.length:=by omega
  rw[hn,eE hk,eE hl,bF,bF,bF] at hst
  refine ⟨fun k2=>⟨fun _=>⟨fun _=>hl,fin _ _ ?_⟩,fun h=>absurd (k2.symm.trans h) (by simp)⟩,fun k2=>⟨fun k3=>⟨fun _=>hl,fin _ _ ?_⟩,fun k3=>⟨fun k4=>⟨fun _=>hl,fin _ _ ?_⟩,fun k4=>⟨fun k5=>?_,fun k5=>fin _ _ ?_⟩⟩⟩⟩
  · rw[e2] at k2;rw[hst,k2];rfl
  · rw[e2] at k2;rw[e3] at k3;rw[hst,k2,k3];rfl
  · rw[e2] at k2;rw[e3] at k3;rw[e4] at k4;rw[hst,k2,k3,k4];rfl
  · rw[e2] at k2;rw[e3] at k3;rw[e4] at k4;rw[e5] at k5
    rw[k2,k3,k4,k5] at hst
    simp only[uG,aI,aQ] at hst
    refine ⟨fun h2=>?_,fun h2=>fin _ _ ?_⟩
    · have h2':=h2
      simp only[bI,beq_iff_eq,fU] at h2'
      obtain ⟨l3,l1⟩:=h2'
      obtain ⟨u,rfl⟩:∃u,e=[u]:=lZ.1 (by omega)
      obtain ⟨v,rfl⟩:∃v,e'=[v]:=lZ.1 (by simpa using hl.symm)
      have hu:dG (aK u):=bM (hoa u (by simp))
      have hv:dG (aK v):=bM (hob v (by simp))
      have huh:u.h<=N:=by rw[Ty.h,Ty.hs] at hh;omega
      have hfin:c8 (.mk k s n [u]) (.mk k' s' n' [v])=c8 u v:=by
       rw[hst];simp[l3]
      simp(maxSteps:=9^7)-dsimp only[go_sem,dR,hu,hv,oS,aM,forall_eq']
      refine ⟨by simp,by simp,huh,fin _ _ hfin⟩
    · rw[hst]
      cases hc:(decide (s<=s')&&decide (e.length=1)) with
      |false=>rfl
      |true=>
       simp only[bI,fU] at hc
       simp[hc] at h2
  · rw[e2] at k2;rw[e3] at k3;rw[e4] at k4;rw[e5] at k5;rw[hst,k2,k3,k4,k5];rfl
theorem aFB:Meets Tryz.prog 172 wFn.sp:=dB 0 NF fun av H K ⟨⟨h,e⟩,hK⟩=>by
 obtain ⟨a,b,rfl,ha,hb⟩:=pL h
 exact ⟨a.h,⟨⟨⟨bM ha,bM hb,by rw[eF];exact bE _⟩,e⟩,hK⟩⟩
theorem aZT:Meets Tryz.prog 104 (CI fun l x=>.bool (bJ l x)).sp:=by
 refine aF Tryz.func104 aZU 2 (by rw[Tryz.ntmps104];decide) (aB _) G9 ?_
 rintro av H K ⟨⟨h,rfl⟩,hK⟩
 obtain ⟨l,x,rfl,hl⟩:=p6 h
 replace hK:K (bS (bJ l x)) []:=by
  have:(CI fun l x=>.bool (bJ l x)).val [.va (.c1 (.fz (l.map bH))),tS x]=bA (bJ l x):=by simp -dsimp only[go_sem]
  rw[this] at hK;exact hK
 clear h
 simp(maxSteps:=9^7)-dsimp only[go_sem,aL1,aJ6]
 refine aO (α:=Nat) (fun i=>[(0,.va (.c1 (.fz (l.map bH)))),(1,tS x),(5,iS .i64 i)]) (fun _=>[])
  (fun i=>i<=l.length/\bJ (l.drop i) x=bJ l x) (fun i=>l.length-i) 0 0 ⟨aP _,rfl⟩ ?_ ?_ ?_
 · simp -dsimp only[go_sem]<;>simp
 · simp -dsimp only[go_sem]<;>simp
 rintro i ⟨hi,ho⟩
 rcases bB i l.length with hlt|hge
 · have hg:decide ((i:Int)<(l.length:Int))=true:=by simp;omega
   obtain ⟨y,hx⟩:∃t,l[i]? = some t:=⟨_,aX hlt⟩
   have q2:=aS (row:=bH) hx
   have hdr:l.drop i=y::l.drop (i+1):=by
    obtain ⟨h,rfl⟩:=bT.1 hx
    exact cG h
   rw[hdr] at ho
   have ho:(decide (x=y)||bJ (l.drop (i+1)) x)=bJ l x:=ho
   have hq:decide (y=x)=decide (x=y):=by rw[decide_eq_decide];exact eq_comm
   cases hc:decide (x=y) with
   |true=>
    rw[hc,cR] at ho
    rw[hc] at hq
    simp(maxSteps:=9^7)-dsimp only[go_sem,hg,↓q2,cK,hq]
    exact ⟨by omega,.done (by rw[ho];exact hK)⟩
   |false=>
    rw[hc,bK] at ho
    rw[hc] at hq
    simp(maxSteps:=9^7)-dsimp only[go_sem,hg,↓q2,cK,hq]
    refine ⟨by omega,by omega,aC (i+1) 0 ⟨by omega,ho⟩ (by omega) ?_ ?_⟩
    · simp -dsimp only[go_sem]<;>simp
    · simp -dsimp only[go_sem]<;>simp
 · have hg:decide ((i:Int)<(l.length:Int))=false:=by simp;omega
   obtain rfl:i=l.length:=by omega
   rw[dT] at ho
   have ho:false=bJ l x:=ho
   simp(maxSteps:=9^7)-dsimp only[go_sem,hg]
   exact .done (by rw[ho];exact hK)
def PS:List S->Prop:=fun av=>match av with
 |[.va (.gs r),.va (.c1 (.vl (.int .i64 _)))]=>TH r
 |_=>False
theorem zS {av:List S} (h:PS av):∃(e:En) (n:Int),av=[.va (.gs (aV e)),iS .i64 n]/\e.ok:=by
 unfold PS at h
 split at h
 · obtain ⟨e,rfl,he⟩:=h;exact ⟨e,_,rfl,he⟩
 · exact h.elim
noncomputable def aH9:List S->A:=fun av=>match av with
 |[.va (.gs r),.va (.c1 (.vl (.int .i64 n)))]=>bA (l7 (C.en r).vs n)
 |_=>.gs []
noncomputable def nuFn:Fun:=⟨PS,aH9,fun av h=>by obtain ⟨e,n,rfl,_⟩:=zS h;trivial⟩
theorem aE1:∀av H K,nuFn.sp av H K->av.length=2:=fun av H K h=>by obtain ⟨e,n,rfl,_⟩:=zS h.1.1;rfl
attribute [go_sem] nuFn PS aH9
theorem aP9:Meets Tryz.prog 146 nuFn.sp:=by
 refine aF Tryz.func146 a02 2 (by rw[Tryz.ntmps146];decide) (aB _) aE1 ?_
 rintro av H K ⟨⟨h,rfl⟩,hK⟩
 obtain ⟨e,x,rfl,he⟩:=zS h
 replace hK:K (bS (l7 e.vs x)) []:=by
  have:nuFn.val [.va (.gs (aV e)),iS .i64 x]=bA (l7 e.vs x):=by simp -dsimp only[go_sem]
  rw[this] at hK;exact hK
 clear h
 have hl:=he.lv
 have fin:∀(b:Bool) (R:Hp),b=l7 e.vs x->W.Fin 0 K (bS b) R:=fun b R h=>by
  rw[<-h] at hK
  exact .z ((by simpa[go_sem] using hK))
 simp(maxSteps:=9^7)-dsimp only[go_sem,aV,aMN,aI0]
 refine aO (α:=Nat) (fun i=>[(1,iS .i64 x),(2,.va (.c1 (.pt 0 0))),(5,iS .i64 i)]) (fun _=>[.cells (aV e) 70])
  (fun i=>i<=e.vs.length/\l7 (e.vs.drop i) x=l7 e.vs x) (fun i=>e.vs.length-i) 0 1 ⟨aP _,rfl⟩ ?_ ?_ ?_
 · simp -dsimp only[go_sem]<;>simp
 · simp -dsimp only[go_sem,aV]<;>simp
 rintro i ⟨hi,ho⟩
 rcases bB i e.vs.length with hlt|hge
 · have hg:decide ((i:Int)<(e.vs.length:Int))=true:=by simp;omega
   obtain ⟨y,hx⟩:∃t,e.vs[i]? = some t:=⟨_,aX hlt⟩
   have q2:=aS (row:=cV) hx
   have hdr:e.vs.drop i=y::e.vs.drop (i+1):=by
    obtain ⟨h,rfl⟩:=bT.1 hx
    exact cG h
   rw[hdr] at ho
   have ho:(decide (x=y)||l7 (e.vs.drop (i+1)) x)=l7 e.vs x:=ho
   have hq:(y==x)=decide (x=y):=by rw[ieq,decide_eq_decide];exact eq_comm
   cases hc:decide (x=y) with
   |true=>
    rw[hc,cR] at ho
    rw[hc] at hq
    simp(maxSteps:=9^7)-dsimp only[go_sem,hg,↓q2,aV,hq]
    exact ⟨by omega,fin _ _ ho⟩
   |false=>
    rw[hc,bK] at ho
    rw[hc] at hq
    simp(maxSteps:=9^7)-dsimp only[go_sem,hg,↓q2,aV,hq]
    refine ⟨by omega,by omega,aC (i+1) 1 ⟨by omega,ho⟩ (by omega) ?_ ?_⟩
    · simp -dsimp only[go_sem]<;>simp
    · simp -dsimp only[go_sem,aV]<;>simp
 · have hg:decide ((i:Int)<(e.vs.length:Int))=false:=by simp;omega
   obtain rfl:i=e.vs.length:=by omega
   rw[dT] at ho
   have ho:false=l7 e.vs x:=ho
   simp(maxSteps:=9^7)-dsimp only[go_sem,hg,aV]
   exact fin _ _ ho
def aLN:W.Spec:=fun av H K=>∃(l:List Is) (x:Is),av=[.va (.c1 (.fz (l.map bR))),.va (.gs (bR x))]/\H=[]/\l.length<=1000000/\K (.va (.c1 (.fz ((eR x false l).map bR)))) []
theorem pH {l:List Is} {x:Is} {K:S->Hp->Prop} (h:l.length<=1000000) (hK:K (.va (.c1 (.fz ((eR x false l).map bR)))) []):aLN [.va (.c1 (.fz (l.map bR))),.va (.gs (bR x))] [] K:=⟨l,x,rfl,rfl,h,hK⟩
theorem aRW (a b:ByteArray):(!(Op.bytesLess (bl b) (bl a)||bl b==bl a))=Op.bytesLess (bl a) (bl b):=by
 rw[EN,EN,cK,fH]
 simp only[oR,cY,qF,fU]
 constructor
 · rintro ⟨h1,h2⟩
   exact CG h1 h2
 · intro h
   exact ⟨fun h1=>lS _ (wV h h1),fun e=>by subst e;exact lS _ h⟩
theorem aE8 (x y:Is):(!(Op.bytesLess (bl y.t) (bl x.t)||bl y.t==bl x.t)||(bl y.t==bl x.t&&(decide (x.k<y.k)||(y.k==x.k&&decide (x.n<y.n)))))=n5 x y:=by
 rw[aRW,aPT,cK,ieq]
 have h1:decide (y.t=x.t)=decide (x.t=y.t):=by rw[decide_eq_decide];exact eq_comm
 have h2:decide (y.k=x.k)=decide (x.k=y.k):=by rw[decide_eq_decide];exact eq_comm
 rw[h1,h2]
theorem a9X (x y:Is):(y.k==x.k&&(y.n==x.n&&bl y.t==bl x.t))=decide (y=x):=by
 rw[cK,fH,fU,is_eq]
 simp
theorem aJF:Meets Tryz.prog 144 aLN:=by
 refine aF Tryz.func144 aYZ 2 (by rw[Tryz.ntmps144];decide) (aB _) (fun av H K h=>by obtain ⟨_,_,rfl,_⟩:=h;rfl) ?_
 rintro av H K ⟨l,x,rfl,rfl,hl,hK⟩
 simp(maxSteps:=9^7)-dsimp only[go_sem,bR,aI6,aH0]
 refine dL (α:=Nat×Bool×List Is) (fun z=>[(0,.va (.c1 (.fz (l.map bR)))),(3,.va (.c1 (.pt 0 0))),(5,.va (.c1 (.sl 1 z.2.2.length))),(6,bS z.2.1),(7,iS .i64 z.1)]) (fun z=>[.cells (bR x) 181,.row (z.2.2.map bR) 181 3])
  (fun z=>z.1<=l.length/\z.2.2++eR x z.2.1 (l.drop z.1)=eR x false l) (fun z=>l.length-z.1) (.nil 5 181 3 rfl (lA (0,false,[]) 2 ⟨aP _,rfl⟩ ?_ ?_)) ?_
 · simp -dsimp only[go_sem]<;>simp
 · simp -dsimp only[go_sem,bR]<;>simp
 rintro ⟨i,d,o⟩ ⟨hi,ho⟩
 simp only at hi ho ⊢
 have hol:o.length<=l.length+1:=by
  have h1:=congrArg List.length ho
  have h2:=AM x false l
  rw[bW] at h1;omega
 rcases bB i l.length with hlt|hge
 · have hg:decide ((i:Int)<(l.length:Int))=true:=by simp;omega
   obtain ⟨y,hx⟩:∃t,l[i]? = some t:=⟨_,aX hlt⟩
   have q1:=aS (row:=bR) hx
   have hdr:l.drop i=y::l.drop (i+1):=by
    obtain ⟨h,rfl⟩:=bT.1 hx
    exact cG h
   rw[hdr,eR] at ho
   have ea:=aE8 x y
   have ee:=a9X x y
   cases hyx:decide (y=x) with
   |true=>
    rw[hyx,oU] at ho
    simp only[bN,bL,aI] at ho
    simp(maxSteps:=9^7)-dsimp only[go_sem,hg,↓q1,bR,ee,ea,hyx]
    and_intros
    all_goals first
     |omega
     | (generalize Op.bytesLess (bl y.t) (bl x.t)=p;generalize (bl y.t==bl x.t)=q;generalize decide (x.k<y.k)=r;generalize (y.k==x.k)=s;generalize decide (x.n<y.n)=v;revert p q r s v;decide)
     |skip
    refine aC (i+1,true,o++[y]) 2 ⟨by simp only;omega,by simpa using ho⟩ (by simp only;omega) ?_ ?_
    · simp -dsimp only[go_sem]<;>simp
    · simp -dsimp only[go_sem,bR]<;>simp[bR]
   |false=>
    rw[hyx,Bool.or_false] at ho
    cases d with
    |true=>
     simp only[bN,bL,aI] at ho
     simp(maxSteps:=9^7)-dsimp only[go_sem,hg,↓q1,bR,ee,ea,hyx]
     and_intros
     all_goals first
      |omega
      | (generalize Op.bytesLess (bl y.t) (bl x.t)=p;generalize (bl y.t==bl x.t)=q;generalize decide (x.k<y.k)=r;generalize (y.k==x.k)=s;generalize decide (x.n<y.n)=v;revert p q r s v;decide)
      |skip
     refine aC (i+1,true,o++[y]) 2 ⟨by simp only;omega,by simpa using ho⟩ (by simp only;omega) ?_ ?_
     · simp -dsimp only[go_sem]<;>simp
     · simp -dsimp only[go_sem,bR]<;>simp[bR]
    |false=>
     simp only[bV,bF] at ho
     cases hlt2:n5 x y with
     |true=>
      rw[hlt2,aQ] at ho
      simp(maxSteps:=9^7)-dsimp only[go_sem,hg,↓q1,bR,ee,ea,hyx,hlt2]
      and_intros
      all_goals first
       |omega
       | (generalize Op.bytesLess (bl y.t) (bl x.t)=p;generalize (bl y.t==bl x.t)=q;generalize decide (x.k<y.k)=r;generalize (y.k==x.k)=s;generalize decide (x.n<y.n)=v;revert p q r s v;decide)
       |skip
      refine aC (i+1,true,o++[x,y]) 2 ⟨by simp only;omega,by simpa using ho⟩ (by simp only;omega) ?_ ?_
      · simp -dsimp only[go_sem]<;>simp
      · simp -dsimp only[go_sem,bR]<;>simp
     |false=>
      rw[hlt2,aI] at ho
      simp(maxSteps:=9^7)-dsimp only[go_sem,hg,↓q1,bR,ee,ea,hyx,hlt2]
      and_intros
      all_goals first
       |omega
       | (generalize Op.bytesLess (bl y.t) (bl x.t)=p;generalize (bl y.t==bl x.t)=q;generalize decide (x.k<y.k)=r;generalize (y.k==x.k)=s;generalize decide (x.n<y.n)=v;revert p q r s v;decide)
       |skip
      refine aC (i+1,false,o++[y]) 2 ⟨by simp only;omega,by simpa using ho⟩ (by simp only;omega) ?_ ?_
      · simp -dsimp only[go_sem]<;>simp
      · simp -dsimp only[go_sem,bR]<;>simp[bR]
 · have hg:decide ((i:Int)<(l.length:Int))=false:=by simp;omega
   obtain rfl:i=l.length:=by omega
   rw[dT] at ho
   simp only[eR] at ho
   cases d with
   |true=>
    simp only[aQ,fI] at ho
    rw[<-ho] at hK
    simp(maxSteps:=9^7)-dsimp only[go_sem,hg,bR]
    rw[<-cE (f:=bR)]
    refine .pub 1 _ _ _ rfl (.sel [] (by simp) (by simp[cS]) rfl (.done ?_))
    simp -dsimp only[go_sem,cS]
    simpa using hK
   |false=>
    simp only[aI] at ho
    rw[<-ho] at hK
    simp(maxSteps:=9^7)-dsimp only[go_sem,hg,bR]
    refine ⟨by omega,?_⟩
    have e1:o.length+1=((o++[x]).map bR).length:=by simp
    have e2:o.map bR++[[.vl (.int .i64 x.k),.vl (.int .i64 x.n),.vl (.string x.t)]]=(o++[x]).map bR:=by simp[bR]
    rw[e1,e2]
    refine .pub 1 _ _ _ rfl (.sel [] (by simp) (by simp[cS]) rfl (.done ?_))
    simp -dsimp only[go_sem,cS]
    simpa using hK
def aU6:W.Spec:=fun av H K=>∃(o n:Sc) (x:ByteArray),av=[.va (.gs (aA o)),.va (.gs (aA n)),tS x]/\H=[]/\o.fit/\n.fit/\K (.va (.c1 (.fz ((mF o n x).map bH)))) []
theorem aRU {o n:Sc} {x:ByteArray} {K:S->Hp->Prop} (h1:o.fit) (h2:n.fit) (hK:K (.va (.c1 (.fz ((mF o n x).map bH)))) []):aU6 [.va (.gs (aA o)),.va (.gs (aA n)),tS x] [] K:=⟨o,n,x,rfl,rfl,h1,h2,hK⟩
theorem aQH:Meets Tryz.prog 30 aU6:=by
 refine aF Tryz.func30 a54 3 (by rw[Tryz.ntmps30];decide) (aE aQ5 (aG A4 (aB _))) (fun av H K h=>by obtain ⟨_,_,_,rfl,_⟩:=h;rfl) ?_
 rintro av H K ⟨o,n,x,rfl,rfl,ho,hn,hK⟩
 have ub:=aB2 hn x
 have ul:=EB ho x
 have dbs:=aCQ (jY n x)
 unfold mF at hK
 simp(maxSteps:=9^7)-dsimp only[go_sem,aA,aUZ,aQ7]
 refine EE hn ?_
 generalize jY n x=O at *
 simp(maxSteps:=9^7)-dsimp only[go_sem]
 refine EE ho ?_
 generalize jY o x=l at *
 simp(maxSteps:=9^7)-dsimp only[go_sem]
 refine aO (α:=Nat) (fun i=>[(7,.va (.c1 (.sl 2 (x::(l.take i).filter (bJ O)).length))),(8,.va (.c1 (.fz (O.map bH)))),(18,.va (.c1 (.fz (l.map bH)))),(19,iS .i64 l.length),(20,iS .i64 i)]) (fun i=>[.cells (aA o) 25,.cells (aA n) 25,.row ((x::(l.take i).filter (bJ O)).map bH) 9 1])
  (fun i=>i<=l.length) (fun i=>l.length-i) 0 3 (aP _) ?_ ?_ ?_
 · simp -dsimp only[go_sem]<;>simp
 · simp -dsimp only[go_sem,aA]<;>simp
 intro i hi
 have hlen:((l.take i).filter (bJ O)).length<=32:=by have:=JQ (bJ O) (l.take i);rw[eJ] at this;omega
 rcases bB i l.length with hlt|hge
 · have hg:decide ((i:Int)<(l.length:Int))=true:=by simp;omega
   obtain ⟨y,hx⟩:∃t,l[i]? = some t:=⟨_,aX hlt⟩
   have q1:=aS (row:=bH) hx
   cases c:bJ O y with
   |true=>
    have hnx:(l.take (i+1)).filter (bJ O)=(l.take i).filter (bJ O)++[y]:=by rw[cM hx];simp[c]
    simp(maxSteps:=9^7)-dsimp only[go_sem,hg,↓q1,ub,dbs,c]
    and_intros
    all_goals first
     |omega
     |skip
    refine aC (i+1) 3 (by omega) (by omega) ?_ ?_
    · simp -dsimp only[go_sem,hnx]<;>simp
    · simp -dsimp only[go_sem,hnx,aA]<;>simp
   |false=>
    have hnx:(l.take (i+1)).filter (bJ O)=(l.take i).filter (bJ O):=by rw[cM hx];simp[c]
    simp(maxSteps:=9^7)-dsimp only[go_sem,hg,↓q1,ub,dbs,c]
    and_intros
    all_goals first
     |omega
     |skip
    refine aC (i+1) 3 (by omega) (by omega) ?_ ?_
    · simp -dsimp only[go_sem,hnx]<;>simp
    · simp -dsimp only[go_sem,hnx,aA]<;>simp
 · have hg:decide ((i:Int)<(l.length:Int))=false:=by simp;omega
   obtain rfl:i=l.length:=by omega
   rw[eC]
   simp(maxSteps:=9^7)-dsimp only[go_sem,hg]
   rw[show (l.filter (bJ O)).length+1=((x::l.filter (bJ O)).map bH).length by simp]
   refine .pub 2 _ _ _ rfl (.sel [] (by simp) (by simp[cS]) rfl (.done ?_))
   simp -dsimp only[go_sem,cS]
   simpa using hK
end Go.Proofs.YtblfcdllimkbhaaGreat
namespace Go.Proofs.YtblfcdllimkbhaaGreat
open Go.RowKit
def NI (a b c:Int):Int:=if a≠0 then a else if b≠0 then b else c
theorem aO2 (a b c:Int) (bk cap:Nat) (w:World) (h0:w.cell? ⟨bk,0,none⟩=some (.int .i64 a)) (h1:w.cell? ⟨bk,1,none⟩=some (.int .i64 b)) (h2:w.cell? ⟨bk,2,none⟩=some (.int .i64 c)) :
 Calls Tryz.prog 37 #[.slice (some ⟨bk,0,none⟩) 3 cap] w fun e w'=>e=.returned (.int .i64 (NI a b c))/\w'=w:=by
 go_enter Tryz.func37,Tryz.ntmps37
 go_wp2
 go_loopw [8] (fun i w'=>∃(k:Nat),i=.int .i64 k/\w'=w/\k<=3/\(1<=k->a=0)/\(2<=k->b=0)/\(3<=k->c=0)) (fun i _=>match i with | .int _ k=>3-k.toNat|_=>0)
 case atStart=>exact ⟨0,rfl,rfl,by omega,by omega,by omega,by omega⟩
 case round=>
  obtain ⟨k,rfl,rfl,hk,e1,e2,e3⟩:=hrel
  match k,hk with
  |0,_=>
   by_cases ha:a=0
   · subst ha
     go_wp2
     refine ⟨⟨1,by simp,trivial,by omega,fun _=>by simp,fun h=>absurd h (by omega),fun h=>absurd h (by omega)⟩,by decide⟩
   · go_wp2
     go_ret
     exact ⟨by simp[NI,ha],rfl⟩
  |1,_=>
   obtain rfl:=e1 (by omega)
   by_cases hb:b=0
   · subst hb
     go_wp2
     refine ⟨⟨2,by simp,trivial,by omega,fun _=>by simp,fun _=>by simp,fun h=>absurd h (by omega)⟩,by decide⟩
   · go_wp2
     go_ret
     exact ⟨by simp[NI,hb],rfl⟩
  |2,_=>
   obtain rfl:=e1 (by omega)
   obtain rfl:=e2 (by omega)
   by_cases hc:c=0
   · subst hc
     go_wp2
     refine ⟨⟨3,by simp,trivial,by omega,fun _=>by simp,fun _=>by simp,fun _=>by simp⟩,by decide⟩
   · go_wp2
     go_ret
     exact ⟨by simp[NI],rfl⟩
  |3,_=>
   obtain rfl:=e1 (by omega)
   obtain rfl:=e2 (by omega)
   obtain rfl:=e3 (by omega)
   go_wp2
   go_ret
   exact ⟨by simp[NI],rfl⟩
theorem CO (W:World) (x y z:Value) (t:TypeId):(W.drew.alloc (.cells #[x,y,z] t)).cell? ⟨W.heap.size,0,none⟩=some x/\(W.drew.alloc (.cells #[x,y,z] t)).cell? ⟨W.heap.size,1,none⟩=some y/\(W.drew.alloc (.cells #[x,y,z] t)).cell? ⟨W.heap.size,2,none⟩=some z:=by
 refine ⟨?_,?_,?_⟩<;>(show (W.drew.alloc _).cell? ⟨W.drew.heap.size,_,none⟩=_;rw[World.cell?_alloc_mark];rfl)
theorem aO8 (hc:∀(a b:ByteArray) (w:World),Calls Tryz.prog 38 #[.string a,.string b] w fun e w'=>e=.returned (.int .i64 (Lib.compareBytes a.data.toList b.data.toList))/\w'=w) (k n k' n':Int) (t t':ByteArray) (hk:-1000<=k/\k<=1000) (hn:-1000<=n/\n<=1000) (hk':-1000<=k'/\k'<=1000) (hn':-1000<=n'/\n'<=1000) (w:World) :
 Calls Tryz.prog 36 #[.agg #[.int .i64 k,.int .i64 n,.string t],.agg #[.int .i64 k',.int .i64 n',.string t']] w fun e w'=>e=.returned (.int .i64 (NI (Lib.compareBytes t.data.toList t'.data.toList) (k-k') (n-n')))/\∃q os',w'=Sort.grow (w.drewN q) os':=by
 go_enter Tryz.func36,Tryz.ntmps36
 go_wp2
 have c0:((w.alloc (.cells #[.int .i64 k,.int .i64 n,.string t] 55)).alloc (.cells #[.int .i64 k',.int .i64 n',.string t'] 55)).cell? ⟨w.heap.size,0,none⟩=some (.int .i64 k):=by go_simp
 have c1:((w.alloc (.cells #[.int .i64 k,.int .i64 n,.string t] 55)).alloc (.cells #[.int .i64 k',.int .i64 n',.string t'] 55)).cell? ⟨w.heap.size,1,none⟩=some (.int .i64 n):=by go_simp
 have c2:((w.alloc (.cells #[.int .i64 k,.int .i64 n,.string t] 55)).alloc (.cells #[.int .i64 k',.int .i64 n',.string t'] 55)).cell? ⟨w.heap.size,2,none⟩=some (.string t):=by go_simp
 have d0:((w.alloc (.cells #[.int .i64 k,.int .i64 n,.string t] 55)).alloc (.cells #[.int .i64 k',.int .i64 n',.string t'] 55)).cell? ⟨w.heap.size+1,0,none⟩=some (.int .i64 k'):=by go_simp
 have d1:((w.alloc (.cells #[.int .i64 k,.int .i64 n,.string t] 55)).alloc (.cells #[.int .i64 k',.int .i64 n',.string t'] 55)).cell? ⟨w.heap.size+1,1,none⟩=some (.int .i64 n'):=by go_simp
 have d2:((w.alloc (.cells #[.int .i64 k,.int .i64 n,.string t] 55)).alloc (.cells #[.int .i64 k',.int .i64 n',.string t'] 55)).cell? ⟨w.heap.size+1,2,none⟩=some (.string t'):=by go_simp
 generalize hW:(w.alloc (.cells #[.int .i64 k,.int .i64 n,.string t] 55)).alloc (.cells #[.int .i64 k',.int .i64 n',.string t'] 55)=W at c0 c1 c2 d0 d1 d2 ⊢
 refine wp_region_still_tail 15 (by kernel_rfl) (by kernel_rfl) ?_
 simp only[eG,eH,List.drop_succ_cons,zA]
 change wpStill _ _ W.drew _ _ _
 repeat still_step
 still_call (hc _ _ _)
 repeat still_step
 try refine wpStill_nil ?_
 have w1:IntKind.i64.wrap (k-k')=k-k':=by simp[IntKind.wrap,IntKind.bits,IntKind.signed];omega
 have w2:IntKind.i64.wrap (n-n')=n-n':=by simp[IntKind.wrap,IntKind.bits,IntKind.signed];omega
 rw[w1,w2]
 change wpList _ _ _ _ _ W.drew
 have hor:Calls Tryz.prog 37 #[.slice (some ⟨W.heap.size,0,none⟩) 3 3] (W.drew.alloc (.cells #[.int .i64 (Lib.compareBytes t.data.toList t'.data.toList),.int .i64 (k-k'),.int .i64 (n-n')] 3)) _:=aO2 (Lib.compareBytes t.data.toList t'.data.toList) (k-k') (n-n') W.heap.size 3 _ (CO ..).1 (CO ..).2.1 (CO ..).2.2
 go_wp2_with (go_at_call 37;refine hor.mono ?_;rintro e w' ⟨rfl,rfl⟩)
 go_ret
 refine ⟨rfl,1, #[.cells #[.int .i64 k,.int .i64 n,.string t] 55]++#[.cells #[.int .i64 k',.int .i64 n',.string t'] 55]++#[.cells #[.int .i64 (Lib.compareBytes t.data.toList t'.data.toList),.int .i64 (k-k'),.int .i64 (n-n')] 3],?_⟩
 subst hW
 rw[<-Sort.grow_grow,<-Sort.grow_grow]
 simp only[Sort.alloc_eq_grow]
 rfl
end Go.Proofs.YtblfcdllimkbhaaGreat
namespace Go.Proofs
open Go.Shelf
def Tryz.sortIs_ren:Go.Shelf.Ren:=⟨fun|6=>35|15=>79|14=>78|28=>128|29=>129|20=>120|21=>121|22=>122|23=>123|24=>124|25=>125|26=>126|27=>127|46=>161|47=>162|48=>163|49=>164|50=>165|57=>176|n=>n,fun|22=>51|24=>55|25=>84|3=>3|39=>131|0=>0|53=>165|55=>112|4=>4|46=>158|45=>157|50=>162|5=>5|9=>9|66=>198|70=>201|76=>213|77=>214|n=>n,fun|n=>n⟩
theorem Tryz.sortIs:Go.Proofs.SlLaysF0.n6 Tryz.prog Tryz.sortIs_ren:={
 mixed:=by kernel_rfl
 f6:=⟨"slices.SortFunc[[]robotics/evolve.Issue,robotics/evolve.Issue]",by decide,Tryz.func35.trans (congrArg some (by kernel_rfl))⟩
 f14:=⟨"slices.pdqsortCmpFunc[robotics/evolve.Issue]",by decide,Tryz.func78.trans (congrArg some (by kernel_rfl))⟩
 f15:=Tryz.func79.trans (congrArg some (by kernel_rfl))
 f20:=⟨"slices.insertionSortCmpFunc[robotics/evolve.Issue]",by decide,Tryz.func120.trans (congrArg some (by kernel_rfl))⟩
 f21:=⟨"slices.heapSortCmpFunc[robotics/evolve.Issue]",by decide,Tryz.func121.trans (congrArg some (by kernel_rfl))⟩
 f22:=⟨"slices.breakPatternsCmpFunc[robotics/evolve.Issue]",by decide,Tryz.func122.trans (congrArg some (by kernel_rfl))⟩
 f23:=⟨"slices.choosePivotCmpFunc[robotics/evolve.Issue]",by decide,Tryz.func123.trans (congrArg some (by kernel_rfl))⟩
 f24:=⟨"slices.reverseRangeCmpFunc[robotics/evolve.Issue]",by decide,Tryz.func124.trans (congrArg some (by kernel_rfl))⟩
 f25:=⟨"slices.partialInsertionSortCmpFunc[robotics/evolve.Issue]",by decide,Tryz.func125.trans (congrArg some (by kernel_rfl))⟩
 f26:=⟨"slices.partitionEqualCmpFunc[robotics/evolve.Issue]",by decide,Tryz.func126.trans (congrArg some (by kernel_rfl))⟩
 f27:=⟨"slices.partitionCmpFunc[robotics/evolve.Issue]",by decide,Tryz.func127.trans (congrArg some (by kernel_rfl))⟩
 f28:=Tryz.func128.trans (congrArg some (by kernel_rfl))
 f29:=Tryz.func129.trans (congrArg some (by kernel_rfl))
 f46:=⟨"slices.siftDownCmpFunc[robotics/evolve.Issue]",by decide,Tryz.func161.trans (congrArg some (by kernel_rfl))⟩
 f47:=Tryz.func162.trans (congrArg some (by kernel_rfl))
 f48:=Tryz.func163.trans (congrArg some (by kernel_rfl))
 f49:=⟨"slices.medianAdjacentCmpFunc[robotics/evolve.Issue]",by decide,Tryz.func164.trans (congrArg some (by kernel_rfl))⟩
 f50:=⟨"slices.medianCmpFunc[robotics/evolve.Issue]",by decide,Tryz.func165.trans (congrArg some (by kernel_rfl))⟩
 f57:=⟨"slices.order2CmpFunc[robotics/evolve.Issue]",by decide,Tryz.func176.trans (congrArg some (by kernel_rfl))⟩
 t0:=Tryz.underlying0
 a0:=Tryz.isAgg0
 z0:=Tryz.sizeOf0
 v0:=Tryz.zeroValue0
 t3:=Tryz.underlying3
 a3:=Tryz.isAgg3
 z3:=Tryz.sizeOf3
 v3:=Tryz.zeroValue3
 t4:=Tryz.underlying4
 a4:=Tryz.isAgg4
 z4:=Tryz.sizeOf4
 v4:=Tryz.zeroValue4
 t5:=Tryz.underlying5
 a5:=Tryz.isAgg5
 z5:=Tryz.sizeOf5
 v5:=Tryz.zeroValue5
 t9:=Tryz.underlying9
 a9:=Tryz.isAgg9
 z9:=Tryz.sizeOf9
 v9:=Tryz.zeroValue9
 t22:=Tryz.underlying51
 a22:=Tryz.isAgg51
 z22:=Tryz.sizeOf51
 v22:=Tryz.zeroValue51
 t25:=Tryz.underlying84
 a25:=Tryz.isAgg84
 z25:=Tryz.sizeOf84
 v25:=Tryz.zeroValue84
 t39:=Tryz.underlying131
 a39:=Tryz.isAgg131
 z39:=Tryz.sizeOf131
 v39:=Tryz.zeroValue131
 t45:=Tryz.underlying157
 a45:=Tryz.isAgg157
 z45:=Tryz.sizeOf157
 v45:=Tryz.zeroValue157
 t46:=Tryz.underlying158
 a46:=Tryz.isAgg158
 z46:=Tryz.sizeOf158
 v46:=Tryz.zeroValue158
 t50:=Tryz.underlying162
 a50:=Tryz.isAgg162
 z50:=Tryz.sizeOf162
 v50:=Tryz.zeroValue162
 t53:=Tryz.underlying165
 a53:=Tryz.isAgg165
 z53:=Tryz.sizeOf165
 v53:=Tryz.zeroValue165
 t55:=Tryz.underlying112
 a55:=Tryz.isAgg112
 z55:=Tryz.sizeOf112
 v55:=Tryz.zeroValue112
 t66:=Tryz.underlying198
 a66:=Tryz.isAgg198
 z66:=Tryz.sizeOf198
 v66:=Tryz.zeroValue198
 t70:=Tryz.underlying201
 a70:=Tryz.isAgg201
 z70:=Tryz.sizeOf201
 v70:=Tryz.zeroValue201
 t76:=Tryz.underlying213
 a76:=Tryz.isAgg213
 z76:=Tryz.sizeOf213
 v76:=Tryz.zeroValue213
 t77:=Tryz.underlying214
 a77:=Tryz.isAgg214
 z77:=Tryz.sizeOf214
 v77:=Tryz.zeroValue214 }
def Tryz.lays106_ren:Go.Shelf.Ren:=⟨fun|106=>38|213=>80|265=>130|n=>n,fun|9=>9|3=>3|n=>n,fun|n=>n⟩
theorem Tryz.lays106:Go.Proofs.Lays.n106 Tryz.prog Tryz.lays106_ren:={
 mixed:=by kernel_rfl
 f106:=Tryz.func38.trans (congrArg some (by kernel_rfl))
 f213:=Tryz.func80.trans (congrArg some (by kernel_rfl))
 f265:=Tryz.func130.trans (congrArg some (by kernel_rfl))
 t3:=Tryz.underlying3
 a3:=Tryz.isAgg3
 z3:=Tryz.sizeOf3
 v3:=Tryz.zeroValue3
 t9:=Tryz.underlying9
 a9:=Tryz.isAgg9
 z9:=Tryz.sizeOf9
 v9:=Tryz.zeroValue9 }
end Go.Proofs
namespace Go.W
open Go.RowKit
structure Stay (w w':World):Prop where
 os:w'.os=w.os
 out:w'.output=w.output
 size:w.heap.size<=w'.heap.size
 keep:∀b:Nat,b<w.heap.size->w'.heap[b]? = w.heap[b]?
theorem Stay.kept {w w':World} (h:Stay w w') (may:MemPlace->Prop):w.keptBut w' may:=by
 refine ⟨h.os,h.out,fun i hi=>?_⟩
 rw[h.keep i hi]
 split
 · rename_i h1 h2;rw[h1] at h2;cases h2;exact ⟨rfl,rfl,rfl,fun _ _=>rfl⟩
 · rename_i h1 h2;rw[h1] at h2;cases h2;exact Or.inr ⟨rfl,rfl⟩
 · rfl
theorem Stay.frozen {w w':World} (h:Stay w w') {a:Addr} (ha:a.block<w.heap.size):w'.frozen? a=w.frozen? a:=by
 unfold World.frozen?;rw[h.keep _ ha]
theorem Stay.cell {w w':World} (h:Stay w w') {a:Addr} (ha:a.block<w.heap.size):w'.cell? a=w.cell? a:=by
 unfold World.cell?;rw[h.keep _ ha]
theorem aPY {w:World} {ro:RO} (h:∀(b off:Nat) (v:Value),ro b off=some v->w.cell? ⟨b,off,none⟩=some v):Rel ⟨w,fL [],ro,gm []⟩ [] ro w where
 own:=fun n g blk h=>by simp at h
 inj:=fun n m gn gm bn bm b h=>by simp at h
 apart:=fun b off v _ n g blk h=>by simp at h
 rd:=h
 ro0:=fun _ _ _ h=>h
 rob:=fun b off v h=>.inl h
 par:=fun n b g blk h=>by simp at h
 gx:=.refl _
 sz:=bE _
 keep:=fun b _ _=>rfl
 os:=rfl
 tape:=rfl
 output:=rfl
theorem Meets.run {P:Program} {f:FuncId} {s:Fun} (hm:Meets P f s.sp) {av:List S} {vs:List Value} {ro:RO} {w:World} {x:A} (hpre:s.pre av) (hval:s.val av=x) (hl:av.length=vs.length)
 (hrel:∀(i:Nat) (x:S) (v:Value),av[i]? = some x->vs[i]? = some v->x.rel (gm []) ro v) (hro:∀(b off:Nat) (v:Value),ro b off=some v->w.cell? ⟨b,off,none⟩=some v) (hG:GR P ro w) :
 Calls P f vs.toArray w fun e w'=>∃v γ ro',e=.returned v/\S.rel γ ro' (.va x) v/\Stay w w':=by
 subst hval
 refine (hm.2 av vs [] ro w (fun r H=>r=.va (s.val av)/\H=[]) hl hrel (aPY hro) ⟨⟨hpre,rfl⟩,rfl,rfl⟩ hG).mono ?_
 rintro e w' ⟨r,v,E',ro',rfl,h1,⟨rfl,h2⟩,h3⟩
 exact ⟨v,_,ro',rfl,h1,h3.os,h3.output,h3.sz,fun b hb=>h3.keep b hb (by simp[fL])⟩
theorem Meets.yes {P:Program} {f:FuncId} {s:Fun} (hm:Meets P f s.sp) {av:List S} {vs:List Value} {ro:RO} {w:World} (hpre:s.pre av) (hval:s.val av=.c1 (.vl (.bool true))) (hl:av.length=vs.length)
 (hrel:∀(i:Nat) (x:S) (v:Value),av[i]? = some x->vs[i]? = some v->x.rel (gm []) ro v) (hro:∀(b off:Nat) (v:Value),ro b off=some v->w.cell? ⟨b,off,none⟩=some v) (hG:GR P ro w) :
 Calls P f vs.toArray w fun e w'=>e=.returned (.bool true)/\Stay w w':=by
 refine (hm.run hpre hval hl hrel hro hG).mono ?_
 rintro e w' ⟨v,γ,ro',rfl,h1,h2⟩
 have:v=.bool true:=h1
 exact ⟨by rw[this],h2⟩
section
variable {H:Type} {enc:TypeId×Value->H} {P:Program}
theorem RD {f:Func} {s:ChangeSpec} {apart fresh handsOn again:Bool} {W W':World} {args:Array Value} {v:Value} {ds gs:List (DataW H)} {before pa pv:List MemPlace}
 (hW:DataW.Whole enc P f.params.toList s.vars apart W args.toList ds gs before)
 (hres:∀(b:Nat) (sp:Nat->Bool) (hd:Bool),DataW.TrodAll enc P W' b sp hd f.resultTypes.toList (v.resultList f.resultTypes.size) (s.fn H (ds++gs)).results [])
 (hargs:∀sp:Nat->Bool,(∀p∈before,sp p.block=true)->DataW.TrodAll enc P W' 0 sp true f.params.toList args.toList (s.fn H (ds++gs)).args pa)
 (hvars:∀sp:Nat->Bool,(∀p∈before,sp p.block=true)->DataW.TrodVars enc P W' sp s.vars (s.fn H (ds++gs)).vars pv)
 (hps:before=pa++pv) (hs:Stay W W')
 (hok:∀(j:Nat) (t:TypeId) (r:Value),f.resultTypes[j]? = some t->(v.resultList f.resultTypes.size)[j]? = some r->Value.okWide P W' .any 0 t r) :
 s.post enc P f apart fresh handsOn again W args v W':=by
 have hlt:∀p∈before,p.block<W.heap.size:=fun p hp=>hW.lt p hp
 have hsp:∀p∈before,(fun b=>decide (b<W.heap.size)) p.block=true:=fun p hp=>by simpa using hlt p hp
 have hall:∀p∈before,(fun _:Nat=>true) p.block=true:=fun _ _=>rfl
 obtain ⟨_,_,_,_,_,hz,hn⟩:=id hW
 refine ⟨ds,gs,before,[],pa,pv,hW,hres _ _ _,hargs _ hsp,hvars _ hsp,World.keptBut_mono (fun p hp=>⟨hp,.inr ?_⟩) (hs.kept (·∈before)),fun _=>⟨hok,_,_,([]++pa)++pv,
  ⟨[]++pa,pv,ChangeShapes.trodAll_append (hargs _ hall) (hres _ _ _),hvars _ hall,rfl,fun b off hp=>?_,fun ha=>?_⟩,fun p hp _=>?_⟩⟩
 · rw[hps,cL] at hp;exact hp
 · have hb:MemPlace.cell b off∈before:=by rw[hps];simpa using hp
   rw[hs.frozen (hlt _ hb)]
   exact hz b off hb
 · have:=hn ha
   rw[hps] at this
   simpa using this
 · rw[hps]
   simpa using hp
end
open Go.RowKit
def uZ (W:World):RO:=fun b off=>W.cell? ⟨b,off,none⟩
theorem aS9 (W:World):∀(b off:Nat) (v:Value),uZ W b off=some v->W.cell? ⟨b,off,none⟩=some v:=fun _ _ _ h=>h
theorem aSS (ro:RO):FzR ro [] (.slice none 0 0):=
 FzR.mk [] 1 none none (fun h=>absurd rfl h) 0 (fun _=>.bool true) (by simp) (by simp) (by simp) (by simp) (by simp) (by simp) (by simp)
def AZ (P:Program):Bool:=(List.range P.types.size).all fun t=>match P.underlying t with|some (.slice e)=>decide (0<P.cellsOf e)|_=>true
section
variable {H:Type} {enc:TypeId×Value->H} {P:Program}
theorem aCL {W W':World} (h:Stay W W') {p:MemPlace} (hp:p.block<W.heap.size):W.sameAt W' p:=by
 cases p with
 |cell b off=>exact h.cell (a:=⟨b,off,none⟩) hp
 |map b=>exact h.keep b hp
theorem CV {W W':World} {sp:Nat->Bool} (hl:laidOutB P=true) (hm:mapsRowed P=true) (hs:AZ P=true) (hst:Stay W W') :
 ∀{ts:List TypeId} {vs:List Value} {ds:List (DataW H)} {ps:List MemPlace},(∀t∈ts,t<P.types.size)->DataW.TrodAll enc P W 0 (fun _=>true) true ts vs ds ps->(∀p∈ps,p.block<W.heap.size)->(∀p∈ps,sp p.block=true)->
  DataW.TrodAll enc P W' 0 sp true ts vs ds ps
 |[],[],[],ps,_,h,_,_=>h
 |t::ts,v::vs,d::ds,ps,ht,h,hb,hp=>by
  obtain ⟨p,q,⟨n,h1⟩,h2,rfl⟩:=h
  have hsz:∀{t e:TypeId},t<P.types.size->P.underlying t=some (.slice e)->0<P.cellsOf e:=fun {t e} ht hu=>by
   have:=List.all_eq_true.1 hs t (List.mem_range.2 ht)
   rw[hu] at this
   simpa using this
  exact ⟨p,q,⟨n,DataW.trod_stays (T:=(· < P.types.size)) (kids_rows hl hm) hsz (fun h=>by cases h) (ht t (by simp)) h1 (fun x hx=>aCL hst (hb x (by simp[hx]))) (fun x hx=>hp x (by simp[hx]))⟩,
   CV hl hm hs hst (fun u hu=>ht u (by simp[hu])) h2 (fun x hx=>hb x (by simp[hx])) (fun x hx=>hp x (by simp[hx])),rfl⟩
 |[],_::_,_,_,_,h,_,_=>h.elim
 |[],[],_::_,_,_,h,_,_=>h.elim
 |_::_,[],_,_,_,h,_,_=>h.elim
 |_::_,_::_,[],_,_,h,_,_=>h.elim
theorem aGX {f:Func} {s:ChangeSpec} {apart fresh handsOn again:Bool} {W W':World} {args:Array Value} {ds gs:List (DataW H)} {before:List MemPlace} {tb:TypeId}
 (hl:laidOutB P=true) (hm:mapsRowed P=true) (hsr:AZ P=true) (hps:∀t∈f.params.toList,t<P.types.size) (hrt:f.resultTypes=#[tb]) (htb:P.underlying tb=some .bool)
 (hvars:s.vars=[]) (hW:DataW.Whole enc P f.params.toList s.vars apart W args.toList ds gs before) (hfn:s.fn H (ds++gs)={ results:=[.lit (.bool true)],args:=ds,vars:=[] }) (hst:Stay W W') :
 s.post enc P f apart fresh handsOn again W args (.bool true) W':=by
 have hlt:∀p∈before,p.block<W.heap.size:=fun p hp=>hW.lt p hp
 obtain ⟨p,q,hA,hV,hb,_,_⟩:=id hW
 have hq:q=[]:=by
  rw[hvars] at hV
  cases gs with
  |nil=>exact hV
  |cons g gs=>exact hV.elim
 subst hq
 have hbp:before=p:=by rw[hb];simp
 refine RD (pa:=p) (pv:=[]) hW (fun b sp hd=>?_) (fun sp hsp=>?_) (fun sp hsp=>?_) hb hst ?_
 · rw[hrt,hfn]
   exact ⟨[],[],⟨1,by simp[DataW.trod,Value.cells,htb]⟩,rfl,rfl⟩
 · rw[hfn]
   rw[hbp] at hlt hsp
   exact CV hl hm hsr hst hps hA hlt hsp
 · rw[hfn,hvars];rfl
 · intro j t r h1 h2
   rw[hrt] at h1 h2
   match j with
   |0=>
    cases h1
    cases h2
    simp[Value.okWide,Cell.okWide,Cell.ok,htb]
   |j+1=>cases h1
end
open Go.Sort Go.Proofs
theorem NT {α β:Type} {f:α->β}:∀{l' l:List β},l'.Perm l->∀{Z:List α},Z.map f=l->∃Z':List α,Z'.map f=l'/\Z'.Perm Z:=by
 intro l' l h
 induction h with
 |nil=>intro Z hZ;exact ⟨Z,hZ,.refl _⟩
 |cons x _ ih=>
  intro Z hZ
  cases Z with
  |nil=>cases hZ
  |cons z Z=>
   simp only[gC,List.cons.injEq] at hZ
   obtain ⟨Z',h1,h2⟩:=ih hZ.2
   exact ⟨z::Z',by simp[h1,hZ.1],h2.cons z⟩
 |swap x y l=>
  intro Z hZ
  match Z,hZ with
  |a::b::Z,hZ=>
   simp only[gC,List.cons.injEq] at hZ
   exact ⟨b::a::Z,by simp[hZ.1,hZ.2.1,hZ.2.2],.swap a b Z⟩
 |trans _ _ ih1 ih2=>
  intro Z hZ
  obtain ⟨Z1,h1,h2⟩:=ih2 hZ
  obtain ⟨Z2,h3,h4⟩:=ih1 h1
  exact ⟨Z2,h3,h4.trans h2⟩
theorem NR {α:Type} {k:Nat}:∀{l:List (List α)},(∀x∈l,x.length=k)->l.flatten.length=l.length*k
 |[],_=>by simp
 |x::l,h=>by
  rw[fA,bW,NR fun y hy=>h y (by simp[hy]),h x (by simp),bP,jU]
  omega
theorem P4 {α:Type} {k:Nat}:∀{l:List (List α)},(∀x∈l,x.length=k)->∀{i j:Nat},i<l.length->j<k->l.flatten[i*k+j]? = (l[i]?).bind (·[j]?)
 |[],_,i,j,hi,_=>by simp at hi
 |x::l,h,i,j,hi,hj=>by
  have hx:=h x (by simp)
  cases i with
  |zero=>simp[List.getElem?_append,hx,hj]
  |succ i=>
   rw[fA,List.getElem?_append_right (by rw[hx,jU];omega),hx,show (i+1)*k+j-k=i*k+j by rw[jU];omega]
   simpa using P4 (fun y hy=>h y (by simp[hy])) (by simpa using hi) hj
theorem IV {α:Type} [Inhabited α] {enc:α->List Value} {k:Nat} (hk:∀x,(enc x).length=k) (h0:0<k) (l:List α):(flatK enc k l.toArray).toList=(l.map enc).flatten:=by
 have hl:∀x∈l.map enc,x.length=k:=fun x hx=>by obtain ⟨a,_,rfl⟩:=dO.1 hx;exact hk a
 refine iF fun t=>?_
 rcases bB t (l.length*k) with ht|ht
 · have hd:t / k<l.length:=Nat.div_lt_of_lt_mul (by rwa [qO])
   have hm:t % k<k:=Nat.mod_lt _ h0
   have e1:=P4 hl (i:=t / k) (j:=t % k) (by simpa using hd) hm
   rw[Nat.div_add_mod' t k] at e1
   rw[e1,b9,aX hd]
   simp only[flatK]
   have hz:t % k<(enc l[t / k]).length:=by rw[hk];exact hm
   simp[ht,hd,hz]
 · rw[iE (by simpa using ht),iE (by rw[NR hl];simpa using ht)]
theorem NH {ro:RO} {α:Type} {enc:α->List Value} {R:α->List C->Prop} {k:Nat} {row:List C->Prop} (hR:∀r vs,row r->All2 (C.fv ro) r vs->∃a,enc a=vs/\R a r) :
 ∀{xs:List (List C)} {vs:List Value},(∀r∈xs,row r)->(∀r∈xs,r.length=k)->All2 (C.fv ro) xs.flatten vs->∃Z:List (α×List C),Z.map Prod.snd=xs/\(Z.map fun z=>enc z.1).flatten=vs/\∀z∈Z,R z.1 z.2/\All2 (C.fv ro) z.2 (enc z.1)
 |[],vs,_,_,h=>⟨[],rfl,by simpa using (All2.nil_inv h).symm,fun z hz=>by cases hz⟩
 |r::xs,vs,h1,h2,h=>by
  rw[fA] at h
  have hr:=h2 r (by simp)
  have ha:All2 (C.fv ro) r (vs.take k):=by
   have:=h.take k
   rwa [List.take_left' hr] at this
  have hb:All2 (C.fv ro) xs.flatten (vs.drop k):=by
   have:=h.drop k
   rwa [List.drop_left' hr] at this
  obtain ⟨a,h3,h4⟩:=hR r _ (h1 r (by simp)) ha
  obtain ⟨Z,h5,h6,h7⟩:=NH hR (fun x hx=>h1 x (by simp[hx])) (fun x hx=>h2 x (by simp[hx])) hb
  refine ⟨(a,r)::Z,by simp[h5],by simp[h6,h3],fun z hz=>?_⟩
  rcases List.mem_cons.1 hz with rfl|hz
  · exact ⟨h4,by rw[h3];exact ha⟩
  · exact h7 z hz
def aGZ (g T k:Nat) (row:List C->Prop) (lt:List C->List C->Bool):W.Spec:=fun av H K=>∃xs:List (List C),av=[.va (.c1 (.sl 0 xs.length)),.va (.c1 (.fn g []))]/\H=[.row xs T k]/\(∀r∈xs,row r)/\xs.length<=1000000000/\∀xs':List (List C),xs'.Perm xs->xs'.Pairwise (fun a b=>lt b a=false)->K (.tu []) [.row xs' T k]
theorem aR4 {ro:RO} {r:List (List C)} {E:List (List Value)} (h:All2 (fun x y=>All2 (C.fv ro) x y) r E):All2 (C.fv ro) r.flatten E.flatten:=by
 induction r generalizing E with
 |nil=>rw[All2.nil_inv h];exact .nil
 |cons x r ih=>
  obtain ⟨y,E',rfl,h1,h2⟩:=All2.cons_inv h
  rw[fA,fA]
  exact h1.app (ih h2)
theorem aA2 {P:Program} {f g T k:Nat} (h0:0<k) (hen:yP P f=true) {α:Type} [Inhabited α] {enc:α->List Value} (hk:∀x,(enc x).length=k) {cf:α->α->Int} {row:List C->Prop} {lt:List C->List C->Bool} {R:α->List C->Prop}
 (hR:∀(ro:RO) (r:List C) (vs:List Value),row r->All2 (C.fv ro) r vs->∃a,enc a=vs/\R a r) (hlt:∀a r b s,R a r->R b s->ltOf cf a b=lt r s)
 (key:∀(blk cap:Nat) (d:Array α) (w:World),HoldsK enc k w blk 0 d->blk<w.heap.size->d.size<4611686018427387904->Calls P f #[.slice (some ⟨blk,0,none⟩) d.size cap,.func (.func g) #[] #[]] w fun e w'=>
   e=.returned (.tuple #[])/\∃d' n os,PermIn 0 d.size d d'/\SortedIn (ltOf cf) 0 d.size d'/\w'=sortWorldK enc k w blk 0 n d' os)
 (key0:∀w:World,Calls P f #[.slice none 0 0,.func (.func g) #[] #[]] w fun e w'=>e=.returned (.tuple #[])/\w'=w):Meets P f (aGZ g T k row lt):=by
 refine ⟨hen,fun av vs E ro w K hlen hrel hR0 hs _=>?_⟩
 obtain ⟨xs,rfl,hH,hrow,hl,hK⟩:=hs
 match E,hH with
 |[(gb,blk)],hH=>
  obtain rfl:blk=.row xs T k:=by simpa[hp] using hH
  match vs,hlen with
  |[v0,v1],_=>
   have r0:=hrel 0 _ _ rfl rfl
   have r1:=hrel 1 _ _ rfl rfl
   obtain ⟨ws,hv1,hws⟩:∃ws:List Value,v1=.func (.func g) #[] ws.toArray/\All2 (CU (gm [(gb,.row xs T k)]) ro) [] ws:=r1
   obtain rfl:=All2.nil_inv hws
   subst hv1
   have hon:=hR0.own 0 gb _ rfl
   obtain ⟨o1,o2,o3,o4,o5,o6,o7⟩:=hon
   obtain ⟨g',hg',_,_,_,hv0⟩:=r0
   obtain rfl:gb=g':=by simpa[gm] using hg'
   obtain rfl:=hv0 o2.symm
   obtain ⟨l1,l2⟩:=o5
   obtain ⟨Z,z1,z2,z3⟩:=NH (hR ro) hrow o3 o6
   rcases l2 with ⟨hn,h1⟩|⟨b,cap,cur,hsl,_,hb,hcap,hmax,hcs,htk⟩
   · obtain rfl:=List.eq_nil_of_length_eq_zero h1
     have hK:=hK [] (.refl _) .nil
     rw[show (Value.slice (bX gb.ob 0) ([]:List (List C)).length gb.cap)=.slice none 0 0 from hn]
     refine (key0 w).mono ?_
     rintro e w' ⟨rfl,rfl⟩
     exact ⟨.tu [],_,[(gb,.row [] T k)],ro,rfl,⟨[],rfl,.nil⟩,hK,hR0⟩
   have hob:gb.ob=some b:=by
    cases hgo:gb.ob with
    |none=>rw[hgo] at hsl;simp[bX] at hsl
    |some b'=>rw[hgo] at hsl;simp[bX] at hsl;rw[hsl.1]
   have hgc:gb.cap=cap:=by simp at hsl;exact hsl.2
   have hbs:b<w.heap.size:=by
    rcases bB b w.heap.size with h'|h'
    · exact h'
    · rw[nT h'] at hb;cases hb
   have hZl:Z.length=xs.length:=by rw[<-z1,cE]
   obtain ⟨d,hd⟩:∃d:List α,d=Z.map Prod.fst:=⟨_,rfl⟩
   have hdl:d.length=xs.length:=by rw[hd,cE,hZl]
   have hfl:(flatK enc k d.toArray).toList=gb.vs:=by
    rw[IV hk h0,hd,fK];exact z2
   have hvl:gb.vs.length=xs.length*k:=l1
   have hcell:HoldsK enc k w b 0 d.toArray:=by
    intro j hj
    have hj':j<xs.length*k:=by simpa[hdl] using hj
    refine ⟨?_,by simp[World.frozen?,hb]⟩
    have e1:(flatK enc k d.toArray)[j]? = gb.vs[j]?:=by rw[<-hfl];simp
    have e2:gb.vs[j]? = cur[j]?:=by
     rw[<-htk,gW,if_pos hj'];simp
    have hj2:j<(flatK enc k d.toArray).size:=by simpa using hj
    rw[gJ]
    simp only[World.cell?,hb]
    rw[<-e2,<-e1,nO hj2,getElem!_pos _ j hj2]
    simp
   rw[hob,hgc]
   have hkey:=key b cap d.toArray w hcell hbs (by simp;omega)
   rw[show d.toArray.size=xs.length by simp[hdl]] at hkey
   refine hkey.mono ?_
   rintro e w' ⟨rfl,d',n,os,⟨hp1,_,hp3⟩,hsrt,rfl⟩
   rw[show (0:Nat)=0 from rfl] at hp3
   have hd's:d'.size=xs.length:=by rw[hp1];simp[hdl]
   have hperm:d'.toList.Perm d:=by
    have e1:d'.extract 0 xs.length=d':=by rw[<-hd's];simp
    have e2:d.toArray.extract 0 xs.length=d.toArray:=by rw[<-hdl];simp
    rw[e1,e2] at hp3
    simpa using hp3
   obtain ⟨Z',y1,y2⟩:=NT hperm hd.symm
   obtain ⟨xs',hx'⟩:∃xs':List (List C),xs'=Z'.map Prod.snd:=⟨_,rfl⟩
   have hxp:xs'.Perm xs:=by rw[hx',<-z1];exact y2.map _
   have hxl:xs'.length=xs.length:=hxp.length_eq
   have y3:∀z∈Z',R z.1 z.2/\All2 (C.fv ro) z.2 (enc z.1):=fun z hz=>z3 z (y2.mem_iff.1 hz)
   have hsx:xs'.Pairwise (fun a b=>lt b a=false):=by
    rw[hx',aC0,List.pairwise_iff_getElem]
    intro i j hi hj hij
    have hz1:=y3 Z'[i] (eM hi)
    have hz2:=y3 Z'[j] (eM hj)
    rw[<-hlt _ _ _ _ hz2.1 hz1.1]
    have hZ'l:Z'.length=xs.length:=by rw[<-hxl,hx',cE]
    have:=hsrt i j (aP _) hij (by omega)
    have ei:d'[i]! = Z'[i].1:=by
     have:d'.toList[i]? = (Z'.map Prod.fst)[i]?:=by rw[y1]
     rw[getElem!_pos d' i (by omega)]
     simpa[hi,show i<d'.size by omega] using this
    have ej:d'[j]! = Z'[j].1:=by
     have:d'.toList[j]? = (Z'.map Prod.fst)[j]?:=by rw[y1]
     rw[getElem!_pos d' j (by omega)]
     simpa[hj,show j<d'.size by omega] using this
    rw[ei,ej] at this
    exact this
   have hK:=hK xs' hxp hsx
   obtain ⟨us,hus⟩:∃us:List Value,us=(flatK enc k d').toList:=⟨_,rfl⟩
   have hul:us.length=xs.length*k:=by rw[hus];simp[hd's]
   have hus2:us=(Z'.map fun z=>enc z.1).flatten:=by
    rw[hus,show d'=d'.toList.toArray by simp,IV hk h0,<-y1,fK];rfl
   have hrel':All2 (C.fv ro) xs'.flatten us:=by
    rw[hus2,hx']
    refine aR4 ⟨by simp,fun i x y hx hy=>?_⟩
    rw[b9] at hx hy
    cases hz:Z'[i]? with
    |none=>rw[hz] at hx;cases hx
    |some z=>
     rw[hz] at hx hy
     cases hx;cases hy
     exact (y3 z (cC hz)).2
   obtain ⟨W',hW⟩:∃W',W'=sortWorldK enc k w b 0 n d' os:=⟨_,rfl⟩
   have hmod:(putRowK enc k (Sort.ahead w n) b 0 d').heap.size=w.heap.size:=by simp[putRowK,putRow,mapBlock,Sort.ahead]
   have hgo:∀{j:Nat},j<w.heap.size->W'.heap[j]? = (putRowK enc k (Sort.ahead w n) b 0 d').heap[j]?:=fun {j} hj=>by
    rw[hW];simp only[sortWorldK,grow];rw[Array.getElem?_append_left (by rw[hmod];exact hj)]
   have hb':W'.heap[b]? = some (.cells (putCells id 0 (flatK enc k d') cur) T (0,0)):=by
    rw[hgo hbs]
    unfold putRowK putRow mapBlock
    simp[qN,Sort.ahead,hb,onCells]
   have hne:∀j,j≠b->j<w.heap.size->W'.heap[j]? = w.heap[j]?:=fun j h1 h2=>by
    rw[hgo h2]
    unfold putRowK putRow mapBlock
    simp[qN,Sort.ahead,Ne.symm h1]
   have hsz:w.heap.size<=W'.heap.size:=by rw[hW];simp[sortWorldK,grow,hmod]
   have hrest:W'.os=w.os/\W'.tape=w.tape/\W'.output=w.output:=by rw[hW];exact ⟨rfl,rfl,rfl⟩
   rw[<-hW]
   clear hW
   have htk':(putCells id 0 (flatK enc k d') cur).toList.take (xs'.length*k)=us:=by
    rw[hxl]
    refine iF fun j=>?_
    rw[gW]
    rcases bB j (xs.length*k) with hj|hj
    · rw[if_pos hj]
      have h1:j<cur.size:=by rw[hcs];exact Nat.lt_of_lt_of_le hj (gD k hcap)
      have h2:j<(flatK enc k d').size:=by simpa[hd's] using hj
      rw[hus]
      simp only[putCells,Array.getElem?_toList,Array.getElem?_mapIdx,nO h1,cQ,aP,true_and,gJ,Nat.sub_zero,id]
      rw[if_pos h2,nO h2,getElem!_pos _ j h2]
    · rw[if_neg (by omega),iE (by omega)]
   have hown:B.On (gm [(⟨some b,true,xs'.length,cap,gb.T,us⟩,.row xs' T k)]) ro W' ⟨some b,true,xs'.length,cap,gb.T,us⟩ (.row xs' T k):=by
    refine ⟨rfl,rfl,fun x hx=>o3 x (hxp.mem_iff.1 hx),fun c hc=>?_,⟨by rw[hxl];exact hul,.inr ⟨b,cap,putCells id 0 (flatK enc k d') cur,by simp[bX],aP _,hb',by rw[hxl];exact hcap,hmax,by simp[putCells,hcs],htk'⟩⟩,hrel',fun b' _=>by have:=o7 b hob;rw[hgc] at this;exact this⟩
    obtain ⟨r,h1,h2⟩:=w8.1 hc
    exact o4 c (w8.2 ⟨r,hxp.mem_iff.1 h1,h2⟩)
   have hpb:b∈fL [(gb,.row xs T k)]:=by
    rcases hR0.par 0 b gb _ rfl hob rfl with h|h
    · exact absurd h (Nat.not_le.2 hbs)
    · exact h
   refine ⟨.tu [],_,[(⟨some b,true,xs'.length,cap,gb.T,us⟩,.row xs' T k)],ro,rfl,⟨[],rfl,.nil⟩,hK,?_⟩
   refine ⟨fun n gn bn hn=>?_,fun n m gn gm' bn bm b' hn hm h1 h2 l1 l2=>?_,fun b' off v hv n gn bn hn hgb=>?_,fun b' off v hv=>?_,hR0.ro0,hR0.rob,fun n b' gn bn hn hgb hl=>?_,?_,hsz,fun j hj hjb=>hne j (fun e=>hjb (e ▸ hpb)) hj,hrest.1,hrest.2.1,hrest.2.2⟩
   · match n,hn with
     |0,hn=>cases hn;exact hown
     |n+1,hn=>cases hn
   · match n,m,hn,hm with
     |0,0,_,_=>rfl
     |n+1,_,hn,_=>cases hn
     |_,m+1,_,hm=>cases hm
   · match n,hn with
     |0,hn=>
      cases hn
      have hbb:b=b':=by simpa using hgb
      subst hbb
      exact absurd (hR0.apart b off v hv 0 gb _ rfl hob) (by simp[B.live])
     |n+1,hn=>cases hn
   · have hne':b'≠b:=fun e=>by
      subst e
      exact absurd (hR0.apart b' off v hv 0 gb _ rfl hob) (by simp[B.live])
     have:=hR0.rd b' off v hv
     rcases bB b' w.heap.size with h'|h'
     · rw[World.cell?_of_block (hne b' hne' h')]
       exact this
     · simp[World.cell?,nT h'] at this
   · match n,hn with
     |0,hn=>
      cases hn
      have:b=b':=by simpa using hgb
      subst this;exact .inr hpb
     |n+1,hn=>cases hn
   · intro n g2 h2
     match n,h2 with
     |0,h2=>
      cases h2
      exact ⟨_,rfl,o1.symm,.inl ⟨hob.symm,by rw[hxl];exact o2.symm,hgc.symm⟩⟩
     |n+1,h2=>cases h2
end Go.W
namespace Go.Proofs.YtblfcdllimkbhaaGreat
open Go.W Go.Sort Go.RowKit
structure BI (x:Is):Prop where
 k:-1000<=x.k/\x.k<=1000
 n:-1000<=x.n/\x.n<=1000
abbrev IsB:={x:Is // BI x}
instance:Inhabited IsB:=⟨⟨⟨0,0,ByteArray.empty⟩,⟨by decide,by decide⟩⟩⟩
def aHY (x:IsB):List Value:=[.int .i64 x.1.k,.int .i64 x.1.n,.string x.1.t]
def cfI (x y:IsB):Int:=NI (Lib.compareBytes (bl x.1.t) (bl y.1.t)) (x.1.k-y.1.k) (x.1.n-y.1.n)
theorem HI:∀a b:List UInt8,(Lib.compareBytes a b<0 ↔ Op.bytesLess a b=true)/\(Lib.compareBytes a b=0 ↔ a=b)
 |[],[]=>by simp[Lib.compareBytes,Op.bytesLess]
 |[],_::_=>by simp[Lib.compareBytes,Op.bytesLess]
 |_::_,[]=>by simp[Lib.compareBytes,Op.bytesLess]
 |x::a,y::b=>by
  have ih:=HI a b
  unfold Lib.compareBytes Op.bytesLess
  by_cases h1:x<y
  · have:x≠y:=fun e=>by subst e;exact UInt8.lt_irrefl _ h1
    simp[h1,this]
  · by_cases h2:y<x
    · have:x≠y:=fun e=>by subst e;exact h1 h2
      simp[h1,h2,this]
    · have:x=y:=UInt8.le_antisymm (UInt8.not_lt.1 h2) (UInt8.not_lt.1 h1)
      subst this
      simp[h1,ih.1,ih.2]
theorem IP (x y:IsB):ltOf cfI x y=n5 x.1 y.1:=by
 obtain ⟨h1,h2⟩:=HI (bl x.1.t) (bl y.1.t)
 rw[fH,iJ]
 have hb:Op.bytesLess (bl x.1.t) (bl y.1.t)=true ↔ FT x.1.t y.1.t:=by rw[EN,fU]
 have h3:=h1.trans hb
 unfold ltOf cfI NI uY
 rw[fU,<-h3]
 by_cases c:Lib.compareBytes (bl x.1.t) (bl y.1.t)=0
 · have e:x.1.t=y.1.t:=mY (h2.1 c)
   rw[c,if_neg (by simp)]
   by_cases d:x.1.k-y.1.k=0
   · rw[d,if_neg (by simp)];simp only[e,true_and];omega
   · rw[if_pos d];simp only[e,true_and];omega
 · have e:x.1.t≠y.1.t:=fun e=>c (h2.2 (by rw[e]))
   rw[if_pos c]
   simp[e]
theorem a86:SWO (ltOf cfI) where
 irrefl x:=by
  rw[IP]
  cases h:n5 x.1 x.1 with
  |false=>rfl
  |true=>exact absurd (iJ.1 h) (uB _)
 trans x y z h1 h2:=by
  rw[IP] at *
  exact iJ.2 (w6 (iJ.1 h1) (iJ.1 h2))
 ntrans x y z h1 h2:=by
  rw[IP] at *
  cases h:n5 x.1 z.1 with
  |false=>rfl
  |true=>
   have h:=iJ.1 h
   have h1:¬ uY x.1 y.1:=fun e=>by rw[iJ.2 e] at h1;cases h1
   have h2:¬ uY y.1 z.1:=fun e=>by rw[iJ.2 e] at h2;cases h2
   by_cases e:x.1=y.1
   · rw[e] at h;exact absurd h h2
   · exact absurd (w6 (CM h1 e) h) h2
noncomputable def C.is:=xP bR
theorem I3 (x:Is):C.is (bR x)=x:=mZ aO3 x
def aX2 (r:List C):Prop:=∃x:Is,r=bR x/\BI x
noncomputable def ltR (r s:List C):Bool:=n5 (C.is r) (C.is s)
theorem aUV (a b:ByteArray) (w:World):Calls Tryz.prog 38 #[.string a,.string b] w fun e w'=>e=.returned (.int .i64 (Lib.compareBytes a.data.toList b.data.toList))/\w'=w:=Any.strings_Compare Tryz.lays106 a b w
theorem aW6:Meets Tryz.prog 35 (aGZ 36 55 3 aX2 ltR):=by
 refine aA2 (α:=IsB) (enc:=aHY) (cf:=cfI) (R:=fun a r=>r=bR a.1) (by decide) (by kernel_rfl) (fun _=>rfl) ?_ ?_ ?_ ?_
 · rintro ro r vs ⟨x,rfl,hx⟩ h
   unfold bR at h
   obtain ⟨v0,vs0,rfl,h0,r0⟩:=All2.cons_inv h
   obtain ⟨v1,vs1,rfl,h1,r1⟩:=All2.cons_inv r0
   obtain ⟨v2,vs2,rfl,h2,r2⟩:=All2.cons_inv r1
   obtain rfl:=All2.nil_inv r2
   cases h0;cases h1;cases h2
   exact ⟨⟨x,hx⟩,rfl,rfl⟩
 · rintro a r b s rfl rfl
   rw[IP];unfold ltR;rw[I3,I3]
 · intro blk cap d w hH hblk hsz
   have eg:∀args w,(callFunc 36 args).run Tryz.prog w=.ok (.enter 36 args) w:=enters_of Tryz.func36 (by kernel_rfl) rfl
   exact AnyQ.slices_SortFunc Tryz.sortIs 3 Tryz.isAgg55 Tryz.sizeOf55 aHY (fun _=>rfl) (fun x v hv=>by simp[aHY] at hv;rcases hv with rfl|rfl|rfl<;>rfl) cfI a86 36 #[] blk 0 cap d w eg
    (fun m os dk _ x y=>aO8 aUV _ _ _ _ _ _ x.2.k x.2.n y.2.k y.2.n _) hH hblk hsz
 · exact fun w=>AnyF.slices_SortFunc_none { Tryz.sortIs with } none 0 _ w
theorem aWJ {l:List Is} {K:S->Hp->Prop} (hl:l.length<=1000000000) (hb:∀x∈l,BI x) (hK:∀l':List Is,l'.Perm l->l'.Pairwise (fun a b=>n5 b a=false)->K (.tu []) [.row (l'.map bR) 55 3]) :
 aGZ 36 55 3 aX2 ltR [.va (.c1 (.sl 0 l.length)),.va (.c1 (.fn 36 []))] [.row (l.map bR) 55 3] K:=by
 refine ⟨l.map bR,by simp,rfl,fun r hr=>?_,by simpa using hl,fun xs' hp hs=>?_⟩
 · obtain ⟨x,hx,rfl⟩:=dO.1 hr
   exact ⟨x,rfl,hb x hx⟩
 · obtain ⟨l',rfl,h2⟩:=NT hp rfl
   refine hK l' h2 ?_
   rw[aC0] at hs
   refine hs.imp fun {a b} h=>?_
   unfold ltR at h
   rwa [I3,I3] at h
end Go.Proofs.YtblfcdllimkbhaaGreat
namespace Go.Proofs.YtblfcdllimkbhaaGreat
open Go.W
theorem aU2 {o n:Sc} (ho:o.fit) (hn:n.fit) (c1:aL o=0) (c2:aL n=0) (x:ByteArray):∀z∈n9 o n x,BI z:=by
 intro z hz
 unfold n9 at hz
 obtain ⟨y,_,hy⟩:=s3.1 hz
 unfold iU at hy
 cases h1:aZ o.ss y != aZ n.ss y with
 |true=>
  rw[h1] at hy
  obtain rfl:z=⟨5,0,y⟩:=by simpa using hy
  exact ⟨by dsimp only;omega,by dsimp only;omega⟩
 |false=>
  rw[h1,aI,cL] at hy
  rcases hy with hy|hy
  · cases h2:aZ o.ss y with
    |false=>rw[h2] at hy;cases hy
    |true=>
     have h3:aZ n.ss y=true:=by rw[h2] at h1;simpa using h1
     obtain ⟨t,e1,_,_,_,e3⟩:=uS ho c1 h2
     obtain ⟨u,e4,_,_,_,e5⟩:=uS hn c2 h3
     rw[h2,e1,e4] at hy
     simp only[aQ,Option.getD_some,lP,cL,s3] at hy
     rcases hy with ⟨f,hf,hy⟩|⟨f,hf,hy⟩
     · have hb:=(e3 f hf).1
       have:z.n=f.num/\1<=z.k/\z.k<=3:=by
        unfold dX at hy
        split at hy
        · cases ho':f.opt<;>rw[ho'] at hy
          · obtain rfl:=dS.1 hy;exact ⟨rfl,by dsimp only;omega,by dsimp only;omega⟩
          · cases hy
        · rename_i g _
          rcases cL.1 hy with hy|hy
          · cases hw:c8 f.ty g.ty<;>rw[hw] at hy
            · obtain rfl:=dS.1 hy;exact ⟨rfl,by dsimp only;omega,by dsimp only;omega⟩
            · cases hy
          · cases hw:f.opt==g.opt<;>rw[hw] at hy
            · obtain rfl:=dS.1 hy;exact ⟨rfl,by dsimp only;omega,by dsimp only;omega⟩
            · cases hy
       exact ⟨by omega,by omega⟩
     · have hb:=(e5 f hf).1
       unfold kT at hy
       cases hw:(fF t.fs f.num).isNone&&!f.opt<;>rw[hw] at hy
       · cases hy
       · obtain rfl:=dS.1 hy
         exact ⟨by dsimp only;omega,by show -1000<=f.num/\f.num<=1000;omega⟩
  · cases h2:cI o.es y&&cI n.es y with
    |false=>rw[h2] at hy;cases hy
    |true=>
     rw[h2,aQ,RI,eT,dO] at hy
     obtain ⟨v,hv,rfl⟩:=hy
     have hv:=(List.mem_filter.1 hv).1
     refine ⟨by show -1000<=(4:Int)/\(4:Int)<=1000;omega,?_⟩
     show -1000<=v/\v<=1000
     cases hf:cO o.es y with
     |none=>rw[hf] at hv;cases hv
     |some e=>
      rw[hf] at hv
      have:=aVB ho c1 hf v hv
      omega
theorem yN {s:Sc} (hf:s.fit) (h:aL s=0) (n:ByteArray):StG ((fS s.ss n).getD default):=by
 cases hs:fS s.ss n with
 |none=>exact ⟨⟨by decide,by decide,fun _ h=>(E4 h).elim⟩,by decide,fun _ h=>(E4 h).elim⟩
 |some t=>
  have hh:aZ s.ss n=true:=by rw[<-oD,hs];rfl
  obtain ⟨u,e1,e2,_,e3,_⟩:=uS hf h hh
  rw[e1] at hs
  cases hs
  exact ⟨hf.ok.ss t e2,by show t.fs.length<=1000;omega,(hf.sm t e2).2⟩
theorem yV {s:Sc} (hf:s.fit) (h:aL s=0) (n:ByteArray):((cO s.es n).getD default).vs.length<=16:=by
 cases hs:cO s.es n with
 |none=>exact aP _
 |some e=>have:=TY hf h hs;show e.vs.length<=16;omega
theorem vD (nm:ByteArray) (vs:List Int) (e:En):(eT nm vs e).length<=vs.length:=by
 unfold eT;rw[cE];exact JQ _ _
theorem aEO {o n:Sc} (ho:o.fit) (hn:n.fit) (c1:aL o=0) (c2:aL n=0) (y:ByteArray):(iU o n y).length<=4000:=by
 unfold iU
 cases aZ o.ss y != aZ n.ss y with
 |true=>simp
 |false=>
  have g1:=(yN ho c1 y).len
  have g2:=(yN hn c2 y).len
  have h1:=tZ (f:=dX y ((fS n.ss y).getD default)) (l:=((fS o.ss y).getD default).fs) fun a _=>MB y _ a
  have h2:=tZ (f:=kT y ((fS o.ss y).getD default)) (l:=((fS n.ss y).getD default).fs) fun a _=>J7 y _ a
  have h3:=yV ho c1 y
  have h4:=vD y ((cO o.es y).getD default).vs ((cO n.es y).getD default)
  rw[aI,bW]
  cases aZ o.ss y<;>cases (cI o.es y&&cI n.es y)<;>simp only[aQ,aI,lP,RI,bW,dZ]<;>omega
theorem CW {vs:List Int} {j:Nat} {v:Int} (h:vs[j]? = some v) (nm:ByteArray) (e:En):eT nm (vs.take (j+1)) e=eT nm (vs.take j) e++(bif l7 e.vs v then [] else [⟨4,v,nm⟩]):=by
 have hI:l7 e.vs v=e.vs.any (fun w=>decide (v=w)):=rfl
 unfold eT
 rw[cM h,aC9,List.map_append,hI]
 cases hh:e.vs.any (fun w=>decide (v=w)) with
 |true=>rw[List.filter_cons_of_neg (by rw[hh];simp)];rfl
 |false=>rw[List.filter_cons_of_pos (by rw[hh];rfl)];rfl
theorem F1 (nm:ByteArray) (e:En):eT nm [] e=[]:=rfl
theorem MW {b:Bool}:(bif b then ([]:List Is) else [])=[]:=by cases b<;>rfl
def aHH:W.Spec:=fun av H K=>∃(o n:Sc) (x:ByteArray),av=[.va (.gs (aA o)),.va (.gs (aA n)),tS x]/\H=[]/\o.fit/\n.fit/\K (.va (.c1 (.fz ((m5 o n x).map bR)))) []
theorem QV {o n:Sc} {x:ByteArray} {K:S->Hp->Prop} (h1:o.fit) (h2:n.fit) (hK:K (.va (.c1 (.fz ((m5 o n x).map bR)))) []):aHH [.va (.gs (aA o)),.va (.gs (aA n)),tS x] [] K:=⟨o,n,x,rfl,rfl,h1,h2,hK⟩
noncomputable def jE (a b:St) (i:Nat):List Is:=(List.range i).flatMap fun (k:Nat)=>BY a.nm a b ((k:Int)+1)
theorem aAA (a b:St) (i:Nat):jE a b (i+1)=jE a b i++BY a.nm a b ((i:Int)+1):=by
 unfold jE;rw[List.range_succ,s4];simp
theorem Q1 (a b:St) (i:Nat):(jE a b i).length<=i*2:=by
 have:=tZ (f:=fun (k:Nat)=>BY a.nm a b ((k:Int)+1)) (l:=List.range i) fun k _=>aN5 _ _ _ _
 rw[List.length_range] at this;exact this
theorem GX (l:List Is) (x:Is):cF l [x]=eR x false l:=rfl
theorem m0 (l:List Is):cF l []=l:=rfl
theorem Z3 {l:List Fl} (h:∀s∈l,s.ok) (k:Int):((fF l k).getD default).ok:=by
 cases hf:fF l k with
 |none=>exact ⟨by unfold cB;decide,by decide,.mk (by unfold cB;decide) (by unfold cB;decide) (by decide) (by decide) (fun _ h=>by cases h)⟩
 |some t=>exact h t (fJ hf)
theorem aO1 (a b:St) (n:Int) (L:List Is) {f g:Fl} {p q:Bool} (hf:(fF a.fs n).getD default=f) (hg:(fF b.fs n).getD default=g) (hp:(fF a.fs n).isSome=p) (hq:(fF b.fs n).isSome=q) :
 cF L (BY a.nm a b n)=cF (cF (cF L (bif p&&q&&!(c8 f.ty g.ty) then [⟨1,n,a.nm⟩] else [])) (bif (p&&!q&&!f.opt)||(q&&!p&&!g.opt) then [⟨2,n,a.nm⟩] else [])) (bif p&&q&&!(f.opt==g.opt) then [⟨3,n,a.nm⟩] else []):=by
 rw[<-rF,<-rF]
 congr 1
 unfold BY
 cases ha:fF a.fs n with
 |none=>
  rw[ha] at hp;subst hp
  cases hb:fF b.fs n with
  |none=>rw[hb] at hq;subst hq;rfl
  |some g'=>
   rw[hb] at hq hg;subst hq
   obtain rfl:g'=g:=hg
   cases ho:g'.opt<;>simp[ho]
 |some f'=>
  rw[ha] at hp hf;subst hp
  obtain rfl:f'=f:=hf
  cases hb:fF b.fs n with
  |none=>
   rw[hb] at hq;subst hq
   cases ho:f'.opt<;>simp[ho]
  |some g'=>
   rw[hb] at hq hg;subst hq
   obtain rfl:g'=g:=hg
   cases hw:c8 f'.ty g'.ty<;>cases he:(f'.opt==g'.opt)<;>simp[hw,he]
def aVP:W.Spec:=fun av H K=>∃(a b:St) (l:List Is),av=[.va (.c1 (.fz (l.map bR))),.va (.gs (aD a)),.va (.gs (aD b))]/\H=[]/\StG a/\StG b/\l.length<=900000/\K (.va (.c1 (.fz ((cF l (CB a.nm a b)).map bR)))) []
theorem aWD {a b:St} {l:List Is} {K:S->Hp->Prop} (h1:StG a) (h2:StG b) (h3:l.length<=900000) (hK:K (.va (.c1 (.fz ((cF l (CB a.nm a b)).map bR)))) []):aVP [.va (.c1 (.fz (l.map bR))),.va (.gs (aD a)),.va (.gs (aD b))] [] K:=⟨a,b,l,rfl,rfl,h1,h2,h3,hK⟩
theorem aCN:Meets Tryz.prog 145 aVP:=by
 refine aF Tryz.func145 a2B 3 (by rw[Tryz.ntmps145];decide) (aE aJF (aE OH (aG aFB (aB _)))) (fun av H K h=>by obtain ⟨_,_,_,rfl,_⟩:=h;rfl) ?_
 rintro av H K ⟨a,b,l,rfl,rfl,ga,gb,hl,hK⟩
 have hS:CB a.nm a b=jE a b 127:=rfl
 rw[hS] at hK
 simp(maxSteps:=9^7)-dsimp only[go_sem,aD,aJK,aJZ]
 refine aO (α:=Nat) (fun i=>[(0,.va (.c1 (.fz ((cF l (jE a b i)).map bR)))),(4,.va (.c1 (.pt 0 0))),(5,.va (.c1 (.pt 1 0))),(7,iS .i64 ((i:Int)+1))]) (fun _=>[.cells (aD a) 50,.cells (aD b) 50])
  (fun i=>i<=127) (fun i=>127-i) 0 2 (aP _) ?_ ?_ ?_
 · simp -dsimp only[go_sem,jE,List.range_zero,vX,m0]<;>simp
 · simp -dsimp only[go_sem,aD]<;>simp
 intro i hi
 have hbi:(cF l (jE a b i)).length<=900300:=by
  have h1:=vH (jE a b i) l
  have h2:=Q1 a b i
  omega
 rcases bB i 127 with hlt|hge
 · have hg:decide (((i:Int)+1)<=127)=true:=by simp;omega
   have hi2:((i+1:Nat):Int)=(i:Int)+1:=by omega
   have hnx:cF l (jE a b (i+1))=cF (cF l (jE a b i)) (BY a.nm a b ((i:Int)+1)):=by rw[aAA,rF]
   rw[aO1 a b ((i:Int)+1) (cF l (jE a b i)) rfl rfl rfl rfl] at hnx
   generalize hL:cF l (jE a b i)=L at *
   simp(maxSteps:=9^7)-dsimp only[go_sem,hg,aD]
   refine nA (t:=a) ga.ok ga.sm ?_
   have hfo:=Z3 ga.ok.fs ((i:Int)+1)
   have hgo:=Z3 gb.ok.fs ((i:Int)+1)
   generalize (fF a.fs ((i:Int)+1)).getD default=f at *
   generalize (fF a.fs ((i:Int)+1)).isSome=p at *
   simp(maxSteps:=9^7)-dsimp only[go_sem,aN]
   refine bZ (up:=[(0,.va (.c1 (.fz (L.map bR)))),(4,.va (.c1 (.pt 0 0))),(5,.va (.c1 (.pt 1 0))),(7,iS .i64 ((i:Int)+1)),(8,.va (.c1 (.pt 2 0))),(9,bS p)]) (Hs:=[.cells (aD a) 50,.cells (aD b) 50,.cells (aN f) 47]) 3 ?_ ?_ ?_
   rotate_left
   · simp -dsimp only[go_sem]<;>simp
   · simp -dsimp only[go_sem,aD,aN]<;>simp
   simp(maxSteps:=9^7)-dsimp only[go_sem,aD,aN,LK]
   refine nA (t:=b) gb.ok gb.sm ?_
   generalize (fF b.fs ((i:Int)+1)).getD default=g at *
   generalize (fF b.fs ((i:Int)+1)).isSome=q at *
   simp(maxSteps:=9^7)-dsimp only[go_sem,aN]
   refine bZ (up:=[(0,.va (.c1 (.fz (L.map bR)))),(4,.va (.c1 (.pt 0 0))),(5,.va (.c1 (.pt 1 0))),(7,iS .i64 ((i:Int)+1)),(8,.va (.c1 (.pt 2 0))),(9,bS p),(10,.va (.c1 (.pt 3 0))),(11,bS q)]) (Hs:=[.cells (aD a) 50,.cells (aD b) 50,.cells (aN f) 47,.cells (aN g) 47]) 4 ?_ ?_ ?_
   rotate_left
   · simp -dsimp only[go_sem]<;>simp
   · simp -dsimp only[go_sem,aD,aN]<;>simp
   have hft:=AH hfo
   have hfd:=D8 f
   have hgt:=AH hgo
   have hgd:=D8 g
   have eo:(f.opt != g.opt)=!(f.opt==g.opt):=rfl
   cases p with
   |true=>
    cases q with
    |true=>
     cases hw:c8 f.ty g.ty with
     |true=>
      rw[hw] at hnx
      simp(maxSteps:=9^7)-dsimp only[go_sem,aD,aN,qZ,hft,hfd,hgt,hgd,hw,bN]
      refine bZ (up:=[(0,.va (.c1 (.fz (L.map bR)))),(4,.va (.c1 (.pt 0 0))),(5,.va (.c1 (.pt 1 0))),(7,iS .i64 ((i:Int)+1)),(8,.va (.c1 (.pt 2 0))),(9,bS true),(10,.va (.c1 (.pt 3 0))),(11,bS true)]) (Hs:=[.cells (aD a) 50,.cells (aD b) 50,.cells (aN f) 47,.cells (aN g) 47]) 4 ?_ ?_ ?_
      rotate_left
      · simp -dsimp only[go_sem]<;>simp
      · simp -dsimp only[go_sem,aD,aN]<;>simp
      simp(maxSteps:=9^7)-dsimp only[go_sem,aD,aN,m8,bN]
      refine bZ (up:=[(0,.va (.c1 (.fz (L.map bR)))),(4,.va (.c1 (.pt 0 0))),(5,.va (.c1 (.pt 1 0))),(7,iS .i64 ((i:Int)+1)),(8,.va (.c1 (.pt 2 0))),(9,bS true),(10,.va (.c1 (.pt 3 0))),(11,bS true)]) (Hs:=[.cells (aD a) 50,.cells (aD b) 50,.cells (aN f) 47,.cells (aN g) 47]) 4 ?_ ?_ ?_
      rotate_left
      · simp -dsimp only[go_sem]<;>simp
      · simp -dsimp only[go_sem,aD,aN]<;>simp
      cases he:f.opt==g.opt with
      |true=>
       rw[he] at hnx
       simp(maxSteps:=9^7)-dsimp only[go_sem,aD,aN,jH,he,bN]
       have hnx:cF l (jE a b (i+1))=L:=hnx
       refine ⟨by omega,aC (i+1) 2 (by omega) (by omega) ?_ ?_⟩
       · simp -dsimp only[go_sem,hnx,hi2]<;>simp
       · simp -dsimp only[go_sem,aD]<;>simp
      |false=>
       rw[he] at hnx
       simp(maxSteps:=9^7)-dsimp only[go_sem,aD,aN,jH,he,bV]
       refine pH (l:=L) (x:=⟨3,(i:Int)+1,a.nm⟩) (by omega) ?_
       simp(maxSteps:=9^7)-dsimp only[go_sem]
       have hnx:cF l (jE a b (i+1))=eR ⟨3,(i:Int)+1,a.nm⟩ false L:=hnx
       refine ⟨by omega,aC (i+1) 2 (by omega) (by omega) ?_ ?_⟩
       · simp -dsimp only[go_sem,hnx,hi2]<;>simp
       · simp -dsimp only[go_sem,aD]<;>simp
     |false=>
      rw[hw] at hnx
      simp(maxSteps:=9^7)-dsimp only[go_sem,aD,aN,qZ,hft,hfd,hgt,hgd,hw,bV]
      have hl1:=AM ⟨1,(i:Int)+1,a.nm⟩ false L
      refine pH (l:=L) (x:=⟨1,(i:Int)+1,a.nm⟩) (by omega) ?_
      simp(maxSteps:=9^7)-dsimp only[go_sem]
      refine bZ (up:=[(0,.va (.c1 (.fz ((eR ⟨1,(i:Int)+1,a.nm⟩ false L).map bR)))),(4,.va (.c1 (.pt 0 0))),(5,.va (.c1 (.pt 1 0))),(7,iS .i64 ((i:Int)+1)),(8,.va (.c1 (.pt 2 0))),(9,bS true),(10,.va (.c1 (.pt 3 0))),(11,bS true)]) (Hs:=[.cells (aD a) 50,.cells (aD b) 50,.cells (aN f) 47,.cells (aN g) 47]) 4 ?_ ?_ ?_
      rotate_left
      · simp -dsimp only[go_sem]<;>simp
      · simp -dsimp only[go_sem,aD,aN]<;>simp
      simp(maxSteps:=9^7)-dsimp only[go_sem,aD,aN,m8,bN]
      refine bZ (up:=[(0,.va (.c1 (.fz ((eR ⟨1,(i:Int)+1,a.nm⟩ false L).map bR)))),(4,.va (.c1 (.pt 0 0))),(5,.va (.c1 (.pt 1 0))),(7,iS .i64 ((i:Int)+1)),(8,.va (.c1 (.pt 2 0))),(9,bS true),(10,.va (.c1 (.pt 3 0))),(11,bS true)]) (Hs:=[.cells (aD a) 50,.cells (aD b) 50,.cells (aN f) 47,.cells (aN g) 47]) 4 ?_ ?_ ?_
      rotate_left
      · simp -dsimp only[go_sem]<;>simp
      · simp -dsimp only[go_sem,aD,aN]<;>simp
      cases he:f.opt==g.opt with
      |true=>
       rw[he] at hnx
       simp(maxSteps:=9^7)-dsimp only[go_sem,aD,aN,jH,he,bN]
       have hnx:cF l (jE a b (i+1))=eR ⟨1,(i:Int)+1,a.nm⟩ false L:=hnx
       refine ⟨by omega,aC (i+1) 2 (by omega) (by omega) ?_ ?_⟩
       · simp -dsimp only[go_sem,hnx,hi2]<;>simp
       · simp -dsimp only[go_sem,aD]<;>simp
      |false=>
       rw[he] at hnx
       simp(maxSteps:=9^7)-dsimp only[go_sem,aD,aN,jH,he,bV]
       refine pH (l:=(eR ⟨1,(i:Int)+1,a.nm⟩ false L)) (x:=⟨3,(i:Int)+1,a.nm⟩) (by omega) ?_
       simp(maxSteps:=9^7)-dsimp only[go_sem]
       have hnx:cF l (jE a b (i+1))=eR ⟨3,(i:Int)+1,a.nm⟩ false (eR ⟨1,(i:Int)+1,a.nm⟩ false L):=hnx
       refine ⟨by omega,aC (i+1) 2 (by omega) (by omega) ?_ ?_⟩
       · simp -dsimp only[go_sem,hnx,hi2]<;>simp
       · simp -dsimp only[go_sem,aD]<;>simp
    |false=>
     simp(maxSteps:=9^7)-dsimp only[go_sem,aD,aN,qZ,hft,hfd,hgt,hgd]
     refine bZ (up:=[(0,.va (.c1 (.fz (L.map bR)))),(4,.va (.c1 (.pt 0 0))),(5,.va (.c1 (.pt 1 0))),(7,iS .i64 ((i:Int)+1)),(8,.va (.c1 (.pt 2 0))),(9,bS true),(10,.va (.c1 (.pt 3 0))),(11,bS false)]) (Hs:=[.cells (aD a) 50,.cells (aD b) 50,.cells (aN f) 47,.cells (aN g) 47]) 4 ?_ ?_ ?_
     rotate_left
     · simp -dsimp only[go_sem]<;>simp
     · simp -dsimp only[go_sem,aD,aN]<;>simp
     cases ho:f.opt with
     |true=>
      rw[ho] at hnx
      simp(maxSteps:=9^7)-dsimp only[go_sem,aD,aN,m8,ho,bN,bV]
      refine bZ (up:=[(0,.va (.c1 (.fz (L.map bR)))),(4,.va (.c1 (.pt 0 0))),(5,.va (.c1 (.pt 1 0))),(7,iS .i64 ((i:Int)+1)),(8,.va (.c1 (.pt 2 0))),(9,bS true),(10,.va (.c1 (.pt 3 0))),(11,bS false)]) (Hs:=[.cells (aD a) 50,.cells (aD b) 50,.cells (aN f) 47,.cells (aN g) 47]) 4 ?_ ?_ ?_
      rotate_left
      · simp -dsimp only[go_sem]<;>simp
      · simp -dsimp only[go_sem,aD,aN]<;>simp[ho]
      simp(maxSteps:=9^7)-dsimp only[go_sem,aD,aN,jH]
      have hnx:cF l (jE a b (i+1))=L:=hnx
      refine ⟨by omega,aC (i+1) 2 (by omega) (by omega) ?_ ?_⟩
      · simp -dsimp only[go_sem,hnx,hi2]<;>simp
      · simp -dsimp only[go_sem,aD]<;>simp
     |false=>
      rw[ho] at hnx
      simp(maxSteps:=9^7)-dsimp only[go_sem,aD,aN,m8,ho,bN,bV]
      refine pH (l:=L) (x:=⟨2,(i:Int)+1,a.nm⟩) (by omega) ?_
      simp(maxSteps:=9^7)-dsimp only[go_sem]
      refine bZ (up:=[(0,.va (.c1 (.fz ((eR ⟨2,(i:Int)+1,a.nm⟩ false L).map bR)))),(4,.va (.c1 (.pt 0 0))),(5,.va (.c1 (.pt 1 0))),(7,iS .i64 ((i:Int)+1)),(8,.va (.c1 (.pt 2 0))),(9,bS true),(10,.va (.c1 (.pt 3 0))),(11,bS false)]) (Hs:=[.cells (aD a) 50,.cells (aD b) 50,.cells (aN f) 47,.cells (aN g) 47]) 4 ?_ ?_ ?_
      rotate_left
      · simp -dsimp only[go_sem]<;>simp
      · simp -dsimp only[go_sem,aD,aN]<;>simp[ho]
      simp(maxSteps:=9^7)-dsimp only[go_sem,aD,aN,jH]
      have hnx:cF l (jE a b (i+1))=eR ⟨2,(i:Int)+1,a.nm⟩ false L:=hnx
      refine ⟨by omega,aC (i+1) 2 (by omega) (by omega) ?_ ?_⟩
      · simp -dsimp only[go_sem,hnx,hi2]<;>simp
      · simp -dsimp only[go_sem,aD]<;>simp
   |false=>
    cases q with
    |true=>
     simp(maxSteps:=9^7)-dsimp only[go_sem,aD,aN,qZ,hft,hfd,hgt,hgd]
     refine bZ (up:=[(0,.va (.c1 (.fz (L.map bR)))),(4,.va (.c1 (.pt 0 0))),(5,.va (.c1 (.pt 1 0))),(7,iS .i64 ((i:Int)+1)),(8,.va (.c1 (.pt 2 0))),(9,bS false),(10,.va (.c1 (.pt 3 0))),(11,bS true)]) (Hs:=[.cells (aD a) 50,.cells (aD b) 50,.cells (aN f) 47,.cells (aN g) 47]) 4 ?_ ?_ ?_
     rotate_left
     · simp -dsimp only[go_sem]<;>simp
     · simp -dsimp only[go_sem,aD,aN]<;>simp
     cases ho:g.opt with
     |true=>
      rw[ho] at hnx
      simp(maxSteps:=9^7)-dsimp only[go_sem,aD,aN,m8,ho,bN,bV]
      refine bZ (up:=[(0,.va (.c1 (.fz (L.map bR)))),(4,.va (.c1 (.pt 0 0))),(5,.va (.c1 (.pt 1 0))),(7,iS .i64 ((i:Int)+1)),(8,.va (.c1 (.pt 2 0))),(9,bS false),(10,.va (.c1 (.pt 3 0))),(11,bS true)]) (Hs:=[.cells (aD a) 50,.cells (aD b) 50,.cells (aN f) 47,.cells (aN g) 47]) 4 ?_ ?_ ?_
      rotate_left
      · simp -dsimp only[go_sem]<;>simp
      · simp -dsimp only[go_sem,aD,aN]<;>simp[ho]
      simp(maxSteps:=9^7)-dsimp only[go_sem,aD,aN,jH]
      have hnx:cF l (jE a b (i+1))=L:=hnx
      refine ⟨by omega,aC (i+1) 2 (by omega) (by omega) ?_ ?_⟩
      · simp -dsimp only[go_sem,hnx,hi2]<;>simp
      · simp -dsimp only[go_sem,aD]<;>simp
     |false=>
      rw[ho] at hnx
      simp(maxSteps:=9^7)-dsimp only[go_sem,aD,aN,m8,ho,bN,bV]
      refine pH (l:=L) (x:=⟨2,(i:Int)+1,a.nm⟩) (by omega) ?_
      simp(maxSteps:=9^7)-dsimp only[go_sem]
      refine bZ (up:=[(0,.va (.c1 (.fz ((eR ⟨2,(i:Int)+1,a.nm⟩ false L).map bR)))),(4,.va (.c1 (.pt 0 0))),(5,.va (.c1 (.pt 1 0))),(7,iS .i64 ((i:Int)+1)),(8,.va (.c1 (.pt 2 0))),(9,bS false),(10,.va (.c1 (.pt 3 0))),(11,bS true)]) (Hs:=[.cells (aD a) 50,.cells (aD b) 50,.cells (aN f) 47,.cells (aN g) 47]) 4 ?_ ?_ ?_
      rotate_left
      · simp -dsimp only[go_sem]<;>simp
      · simp -dsimp only[go_sem,aD,aN]<;>simp[ho]
      simp(maxSteps:=9^7)-dsimp only[go_sem,aD,aN,jH]
      have hnx:cF l (jE a b (i+1))=eR ⟨2,(i:Int)+1,a.nm⟩ false L:=hnx
      refine ⟨by omega,aC (i+1) 2 (by omega) (by omega) ?_ ?_⟩
      · simp -dsimp only[go_sem,hnx,hi2]<;>simp
      · simp -dsimp only[go_sem,aD]<;>simp
    |false=>
     simp(maxSteps:=9^7)-dsimp only[go_sem,aD,aN,qZ,hft,hfd,hgt,hgd]
     refine bZ (up:=[(0,.va (.c1 (.fz (L.map bR)))),(4,.va (.c1 (.pt 0 0))),(5,.va (.c1 (.pt 1 0))),(7,iS .i64 ((i:Int)+1)),(8,.va (.c1 (.pt 2 0))),(9,bS false),(10,.va (.c1 (.pt 3 0))),(11,bS false)]) (Hs:=[.cells (aD a) 50,.cells (aD b) 50,.cells (aN f) 47,.cells (aN g) 47]) 4 ?_ ?_ ?_
     rotate_left
     · simp -dsimp only[go_sem]<;>simp
     · simp -dsimp only[go_sem,aD,aN]<;>simp
     simp(maxSteps:=9^7)-dsimp only[go_sem,aD,aN,m8,bV]
     refine bZ (up:=[(0,.va (.c1 (.fz (L.map bR)))),(4,.va (.c1 (.pt 0 0))),(5,.va (.c1 (.pt 1 0))),(7,iS .i64 ((i:Int)+1)),(8,.va (.c1 (.pt 2 0))),(9,bS false),(10,.va (.c1 (.pt 3 0))),(11,bS false)]) (Hs:=[.cells (aD a) 50,.cells (aD b) 50,.cells (aN f) 47,.cells (aN g) 47]) 4 ?_ ?_ ?_
     rotate_left
     · simp -dsimp only[go_sem]<;>simp
     · simp -dsimp only[go_sem,aD,aN]<;>simp
     simp(maxSteps:=9^7)-dsimp only[go_sem,aD,aN,jH]
     have hnx:cF l (jE a b (i+1))=L:=hnx
     refine ⟨by omega,aC (i+1) 2 (by omega) (by omega) ?_ ?_⟩
     · simp -dsimp only[go_sem,hnx,hi2]<;>simp
     · simp -dsimp only[go_sem,aD]<;>simp
 · have hg:decide (((i:Int)+1)<=127)=false:=by simp;omega
   obtain rfl:i=127:=by omega
   simp(maxSteps:=9^7)-dsimp only[go_sem,hg,aD]
   exact .z ((by simpa[go_sem] using hK))
def pc4:PC:=.S [.z 1 25 0,.F 2] (.R [.n 3 3 1,.u 4 12 [lW],.t 5 4,.v 2 5])
def rs4:List RV:=[.mv (.t 2)]
theorem ok4:aU Tryz.prog true ⟨fun r k=>if r=1/\k=1 then .q else .own [],fun _=>false⟩ Tryz.f4=some (pc4,rs4):=by kernel_rfl
def pc8:PC:=.S [.z 4 25 0,.z 5 25 1,.z 7 29 3,.A 8 gO 29,.c 9 0] (.seq (.S [.n 15 3 4,.u 16 19 [jR],.v 10 16] (.S [.v 17 10,.h 18 .neq 17 0] (.I 18 (.R [.q 19 (.bd [(.int .i64 0),(.int .i64 0),(.string (mk [])),(.slice none 0 0),(.slice none 0 0)] []),.v 20 10,.w 5 8 19,.v 9 20])))) (.seq (.S [.n 21 3 5,.u 22 19 [hJ],.v 11 22] (.S [.v 23 11,.h 24 .neq 23 0] (.I 24 (.R [.q 25 (.bd [(.int .i64 0),(.int .i64 0),(.string (mk [])),(.slice none 0 0),(.slice none 0 0)] []),.v 26 11,.w 5 8 25,.v 9 26])))) (.seq (.S [.n 28 3 4,.v 29 2,.j 30 20 [g7,lB],.v 27 30,.y 31 27 0,.y 32 27 1,.A 12 #[(.string (mk [])),(.slice none 0 0)] 50,.w 2 12 31,.v 13 32] (.S [.v 33 13,.t 34 33] (.I 34 (.R [.q 35 (.bd [(.int .i64 0),(.int .i64 0),(.string (mk [])),(.slice none 0 0),(.slice none 0 0)] []),.w 5 8 35,.c 9 6])))) (.seq (.S [.n 36 3 4,.v 37 2,.q 38 (.bd [(.int .i64 0),(.int .i64 0),(.string (mk [])),(.slice none 0 0)] [(0,1,(.i 6)),(2,1,mI)]),.n 39 5 7,.u 40 21 [kX,mL,kY],.v 14 40] (.S [.v 41 14,.h 42 .neq 41 0] (.I 42 (.R [.q 43 (.bd [(.int .i64 0),(.int .i64 0),(.string (mk [])),(.slice none 0 0),(.slice none 0 0)] []),.v 44 14,.w 5 8 43,.v 9 44])))) (.seq (.S [.n 45 3 4,.n 46 3 5,.v 47 2,.u 48 22 [(.t 45),p7,nJ],.t 49 48] (.I 49 (.R [.q 50 (.bd [(.int .i64 0),(.int .i64 0),(.string (mk [])),(.slice none 0 0),(.slice none 0 0)] []),.w 5 8 50,.c 9 14]))) (.R [.n 51 3 5,.v 52 2,.n 53 5 7,.j 54 23 [(.t 51),pU,tV],.w 5 8 54,.c 9 0]))))))
def rs8:List RV:=[.ld (.ldn 5 (.t 8)),.mv (.t 9)]
theorem ok8:aU Tryz.prog true ⟨fun r k=>if r=1/\k=1 then .q else if r=4/\k=1 then .q else if r=10/\k=4 then .q else if r=13/\k=3 then .q else .own [],fun _=>false⟩ Tryz.f8=some (pc8,rs8):=by kernel_rfl
def uT:PC:=.seq (.gh (.reg [.v 23 8,.v 24 23,.Y 25 24 (.v 10),.p 26 24 25,.v 27 26,.Y 28 27 (.n 3 3),.Y 29 27 (.cq 19 [g7]),.Y 30 27 (.h .eql 29 0),.p 31 27 30,.v 32 31,.Y 33 32 (.n 3 4),.Y 34 32 (.cq 19 [mJ]),.Y 35 32 (.h .eql 34 0),.p 36 32 35,.v 37 36,.Y 38 37 (.n 3 3),.Y 39 37 (.n 3 4),.Y 40 37 (.v 2),.Y 41 37 (.cl 58 [mL,kY,nL] []),.Y 42 37 (.m 41),.Y 43 37 (.h .eql 42 0),.p 44 37 43,.v 6 44])) .ret
@[go_sem ↓] theorem bAO:a7 uT:=a8 _
def TS:PC:=.seq (.gh (.reg [.n 18 3 4,.v 19 2,.j 20 20 [iV,gT],.v 17 20,.y 21 17 0,.y 22 17 1,.A 9 #[(.string (mk [])),(.slice none 0 0)] 50,.w 2 9 21,.v 10 22])) uT
@[go_sem ↓] theorem a7V:a7 TS:=a8 _
def aWN:PC:=.S [.z 3 25 0,.z 4 25 1,.F 6] (.S [.n 12 3 3,.v 13 2,.j 14 20 [kB,kW],.v 11 14,.y 15 11 0,.y 16 11 1,.A 7 #[(.string (mk [])),(.slice none 0 0)] 50,.w 2 7 15,.v 8 16] TS)
def aS7:List RV:=[.mv (.t 6)]
theorem a52:aU Tryz.prog true ⟨fun r k=>if r=3/\k=6 then .q else if r=3/\k=11 then .q else .own [],fun r=>[2,3].contains r⟩ Tryz.f22=some (aWN,aS7):=by kernel_rfl
def Q7:PC:=.seq (.gh (.ord [.q (.n 23 3 3),.q (.v 24 2),.q (.n 26 3 4),.q (.v 27 2),.m (.j 25 103 [jP,kQ]),.rc (.n 26 3 4),.rc (.v 27 2),.m (.j 28 103 [j7,oN]),.m (.v 8 25),.m (.v 9 28)])) (.seq (.S [.c 10 0] (.block 0 (.loop (.seq (.S [.v 29 10,.v 30 8,.m 31 30,.k 32 .lss 29 31] (.C 32 .skip (.exit 0))) (.seq (.block 1 (.S [.v 35 9,.v 36 8,.v 37 10,.x 38 1 36 37,.r 39 38,.u 40 104 [qG,kY]] (.I 40 (.reg [.v 41 7,.n 42 3 3,.n 43 3 4,.v 44 8,.v 45 10,.x 46 1 44 45,.r 47 46,.j 48 102 [nB,tP,mM,nJ],.v 7 48])))) (.reg [.v 33 10,.h 34 .add 33 1,.v 10 34])))))) (.R [.v 49 7,.v 6 49]))
@[go_sem ↓] theorem bAB:a7 Q7:=a8 _
def X7:PC:=.S [.z 3 25 0,.z 4 25 1,.q 6 (.mv gH)] (.seq (.S [.n 11 3 3,.u 12 19 [kJ],.h 13 .neq 12 0,.v 14 13,.N 15 14 (.n 3 4),.N 16 14 (.cq 19 [jR]),.N 17 14 (.h .neq 16 0),.o 18 14 17] (.I 18 (.R [.q 6 (.mv gH)]))) (.S [.n 19 3 3,.n 20 3 4,.v 21 2,.j 22 102 [gH,gT,jS,hJ],.v 7 22] Q7))
def XX:List RV:=[.mv (.t 6)]
theorem a95:aU Tryz.prog true ⟨fun r k=>if r=1/\k=1 then .q else if r=1/\k=5 then .q else if r=8/\k=5 then .q else .own [],fun r=>[4].contains r⟩ Tryz.f58=some (X7,XX):=by kernel_rfl
def uN:PC:=.seq (.seq (.gh (.reg [.v 30 10,.v 31 12,.q 32 (.eqB true oO pV)])) (.I 32 (.R [.v 33 0,.v 34 3,.q 35 (.bd [(.int .i64 0),(.int .i64 0),(.string (mk []))] [(0,1,(.i 5)),(2,1,rZ)]),.j 36 144 [mJ,qG],.v 8 36]))) (.seq (.S [.v 37 10] (.I 37 (.R [.v 38 0,.n 39 2 9,.n 40 2 11,.j 41 145 [mL,kY,nL],.v 8 41]))) (.S [.n 43 3 5,.v 44 3,.j 45 93 [mM,m7],.v 42 45,.y 46 42 0,.y 47 42 1,.A 13 #[(.string (mk [])),(.slice none 0 0),(.slice none 0 0)] 70,.w 3 13 46,.v 14 47] (.S [.n 49 3 6,.v 50 3,.j 51 93 [pX,oP],.v 48 51,.y 52 48 0,.y 53 48 1,.A 15 #[(.string (mk [])),(.slice none 0 0),(.slice none 0 0)] 70,.w 3 15 52,.v 16 53] (.seq (.S [.c 17 0] (.block 0 (.loop (.seq (.S [.v 54 14,.v 55 54,.Y 56 55 (.v 16),.p 57 55 56,.v 58 57,.Y 59 58 (.v 17),.Y 60 58 (.f 2 13),.Y 61 58 (.r 60),.Y 62 58 (.m 61),.Y 63 58 (.k .lss 59 62),.p 64 58 63] (.C 64 .skip (.exit 0))) (.seq (.block 1 (.S [.n 67 3 15,.f 68 2 13,.r 69 68,.v 70 17,.x 71 1 69 70,.r 72 71,.u 73 146 [AU,AP],.t 74 73] (.I 74 (.reg [.v 75 0,.f 76 2 13,.r 77 76,.v 78 17,.x 79 1 77 78,.r 80 79,.v 81 3,.q 82 (.bd [(.int .i64 0),(.int .i64 0),(.string (mk []))] [(0,1,(.i 4)),(1,1,(.t 80)),(2,1,(.t 81))]),.j 83 144 [AB,(.t 82)],.v 0 83])))) (.reg [.v 65 17,.h 66 .add 65 1,.v 17 66])))))) (.R [.v 84 0,.v 8 84])))))
@[go_sem ↓] theorem a34:a7 uN:=a8 _
def L6:PC:=.seq (.gh (.reg [.n 25 3 6,.v 26 3,.j 27 20 [kI,j7],.v 24 27,.y 28 24 0,.y 29 24 1,.A 11 #[(.string (mk [])),(.slice none 0 0)] 50,.w 2 11 28,.v 12 29])) uN
@[go_sem ↓] theorem a3R:a7 L6:=a8 _
def aJM:PC:=.S [.z 5 25 1,.z 6 25 2,.q 8 (.mv gH)] (.S [.n 19 3 5,.v 20 3,.j 21 20 [gT,jS],.v 18 21,.y 22 18 0,.y 23 18 1,.A 9 #[(.string (mk [])),(.slice none 0 0)] 50,.w 2 9 22,.v 10 23] L6)
def aLW:List RV:=[.mv (.t 8)]
theorem a10:aU Tryz.prog true ⟨fun r k=>if r=12/\k=6 then .q else .own [],fun r=>[2,3].contains r⟩ Tryz.f102=some (aJM,aLW):=by kernel_rfl
structure ScG (s:Sc):Prop where
 fit:s.fit
 chk:aL s=0
theorem QM {o n:Sc} (ho:ScG o) (y:ByteArray):(gX o n y).length<=4000:=by
 unfold gX
 cases aZ o.ss y != aZ n.ss y with
 |true=>simp
 |false=>
  rw[aI]
  cases aZ o.ss y with
  |true=>
   have:=Q1 ((fS o.ss y).getD default) ((fS n.ss y).getD default) 127
   rw[aQ]
   show (jE ((fS o.ss y).getD default) ((fS n.ss y).getD default) 127).length<=4000
   omega
  |false=>
   have h3:=yV ho.fit ho.chk y
   have h4:=vD y ((cO o.es y).getD default).vs ((cO n.es y).getD default)
   rw[aI]
   cases (cI o.es y&&cI n.es y)<;>simp only[aQ,aI,RI,dZ]<;>omega
def aRQ:W.Spec:=fun av H K=>∃(o n:Sc) (x:ByteArray) (l:List Is),av=[.va (.c1 (.fz (l.map bR))),.va (.gs (aA o)),.va (.gs (aA n)),tS x]/\H=[]/\ScG o/\ScG n/\l.length<=800000/\K (.va (.c1 (.fz ((cF l (gX o n x)).map bR)))) []
theorem aCJ {o n:Sc} {x:ByteArray} {l:List Is} {K:S->Hp->Prop} (h1:ScG o) (h2:ScG n) (h3:l.length<=800000) (hK:K (.va (.c1 (.fz ((cF l (gX o n x)).map bR)))) []):aRQ [.va (.c1 (.fz (l.map bR))),.va (.gs (aA o)),.va (.gs (aA n)),tS x] [] K:=⟨o,n,x,l,rfl,rfl,h1,h2,h3,hK⟩
theorem aN2 {s:Sc} (hf:s.fit) (n:ByteArray):((cO s.es n).getD default).ok:=by
 cases hs:cO s.es n with
 |none=>exact ⟨by decide,by decide,by decide,fun _ h=>(E4 h).elim,fun _ h=>(E4 h).elim⟩
 |some t=>exact hf.ok.es t (y8 hs).1
theorem a7X:Meets Tryz.prog 102 aRQ:=by
 refine aF Tryz.func102 a10 4 (by rw[Tryz.ntmps102];decide) (aE mR (aE SB (aE aJF (aE aCN (aG aP9 (aB _)))))) (fun av H K h=>by obtain ⟨_,_,_,_,rfl,_⟩:=h;rfl) ?_
 rintro av H K ⟨o,n,y,l,rfl,rfl,go,gn,hl,hK⟩
 have ho:=go.fit
 have hn:=gn.fit
 have ga:=yN ho go.chk y
 have gb:=yN hn gn.chk y
 have hdl:=yV ho go.chk y
 have hel:=yV hn gn.chk y
 have heo:=aN2 hn y
 have fin:∀(m:List Is) (R:Hp),cF l (gX o n y)=m->W.Fin 0 K (.va (.c1 (.fz (m.map bR)))) R:=fun m R h1=>by
  rw[h1] at hK
  exact .z ((by simpa[go_sem] using hK))
 have hR:gX o n y=bif aZ o.ss y != aZ n.ss y then [⟨5,0,y⟩] else bif aZ o.ss y then CB ((fS o.ss y).getD default).nm ((fS o.ss y).getD default) ((fS n.ss y).getD default) else (bif cI o.es y&&cI n.es y then eT y ((cO o.es y).getD default).vs ((cO n.es y).getD default) else []):=rfl
 simp(maxSteps:=9^7)-dsimp only[go_sem,aA,aJM,aLW]
 refine dJ ho ?_
 generalize (fS o.ss y).getD default=a at *
 simp(maxSteps:=9^7)-dsimp only[go_sem,aD]
 refine bZ (up:=[(0,.va (.c1 (.fz (l.map bR)))),(3,tS y),(5,.va (.c1 (.pt 0 0))),(6,.va (.c1 (.pt 1 0))),(9,.va (.c1 (.pt 2 0))),(10,bS (aZ o.ss y))]) (Hs:=[.cells (aA o) 25,.cells (aA n) 25,.cells (aD a) 50]) 3 ?_ ?_ ?_
 rotate_left
 · simp -dsimp only[go_sem]<;>simp
 · simp -dsimp only[go_sem,aA,aD]<;>simp
 simp(maxSteps:=9^7)-dsimp only[go_sem,aA,aD,L6]
 refine dJ hn ?_
 generalize (fS n.ss y).getD default=b at *
 simp(maxSteps:=9^7)-dsimp only[go_sem,aD]
 refine bZ (up:=[(0,.va (.c1 (.fz (l.map bR)))),(3,tS y),(5,.va (.c1 (.pt 0 0))),(6,.va (.c1 (.pt 1 0))),(9,.va (.c1 (.pt 2 0))),(10,bS (aZ o.ss y)),(11,.va (.c1 (.pt 3 0))),(12,bS (aZ n.ss y))]) (Hs:=[.cells (aA o) 25,.cells (aA n) 25,.cells (aD a) 50,.cells (aD b) 50]) 4 ?_ ?_ ?_
 rotate_left
 · simp -dsimp only[go_sem]<;>simp
 · simp -dsimp only[go_sem,aA,aD]<;>simp
 cases s1:aZ o.ss y with
 |true=>
  cases s2:aZ n.ss y with
  |false=>
   rw[s1,s2] at hR
   have hR:gX o n y=[⟨5,0,y⟩]:=hR
   simp(maxSteps:=9^7)-dsimp only[go_sem,aA,aD,uN]
   refine pH (l:=l) (x:=⟨5,0,y⟩) (by omega) ?_
   simp(maxSteps:=9^7)-dsimp only[go_sem]
   exact fin _ _ (by rw[hR,GX])
  |true=>
   rw[s1,s2] at hR
   have hR:gX o n y=CB a.nm a b:=hR
   simp(maxSteps:=9^7)-dsimp only[go_sem,aA,aD,uN]
   refine aWD (l:=l) ga gb (by omega) ?_
   simp(maxSteps:=9^7)-dsimp only[go_sem]
   exact fin _ _ (by rw[hR])
 |false=>
  cases s2:aZ n.ss y with
  |true=>
   rw[s1,s2] at hR
   have hR:gX o n y=[⟨5,0,y⟩]:=hR
   simp(maxSteps:=9^7)-dsimp only[go_sem,aA,aD,uN]
   refine pH (l:=l) (x:=⟨5,0,y⟩) (by omega) ?_
   simp(maxSteps:=9^7)-dsimp only[go_sem]
   exact fin _ _ (by rw[hR,GX])
  |false=>
   rw[s1,s2] at hR
   have hR:gX o n y=bif cI o.es y&&cI n.es y then eT y ((cO o.es y).getD default).vs ((cO n.es y).getD default) else []:=hR
   simp(maxSteps:=9^7)-dsimp only[go_sem,aA,aD,uN]
   refine j9 ho ?_
   generalize (cO o.es y).getD default=d at *
   simp(maxSteps:=9^7)-dsimp only[go_sem,aV]
   refine j9 hn ?_
   generalize (cO n.es y).getD default=e at *
   simp(maxSteps:=9^7)-dsimp only[go_sem,aV]
   generalize cI o.es y=p at *
   generalize cI n.es y=q at *
   have hne:=V6 heo
   have dne:=aA6 e
   rw[aV] at hne dne
   have hbj:∀j,(cF l (bif p&&q then eT y (d.vs.take j) e else [])).length<=810000:=fun j=>by
    have h1:=vH (bif p&&q then eT y (d.vs.take j) e else []) l
    have h2:=vD y (d.vs.take j) e
    rw[eJ] at h2
    have h3:(bif p&&q then eT y (d.vs.take j) e else []).length<=16:=by cases p&&q<;>simp only[aQ,aI,dZ]<;>omega
    omega
   refine aO (α:=Nat) (fun j=>[(0,.va (.c1 (.fz ((cF l (bif p&&q then eT y (d.vs.take j) e else [])).map bR)))),(3,tS y),(13,.va (.c1 (.pt 4 0))),(14,bS p),(15,.va (.c1 (.pt 5 0))),(16,bS q),(17,iS .i64 j)])
    (fun _=>[.cells (aA o) 25,.cells (aA n) 25,.cells (aD a) 50,.cells (aD b) 50,.cells (aV d) 70,.cells (aV e) 70])
    (fun j=>j<=d.vs.length) (fun j=>d.vs.length-j) 0 6 (aP _) ?_ ?_ ?_
   · simp -dsimp only[go_sem,eH,F1,MW,m0]<;>simp
   · simp -dsimp only[go_sem,aA,aD,aV]<;>simp
   intro j hj
   have hbjj:=hbj j
   cases p with
   |false=>
    simp only[bL,aI,m0] at hbjj hR ⊢
    simp(maxSteps:=9^7)-dsimp only[go_sem,aA,aD,aV]
    exact fin _ _ (by rw[hR,m0])
   |true=>
   cases q with
   |false=>
    simp only[dF,aI,m0] at hbjj hR ⊢
    simp(maxSteps:=9^7)-dsimp only[go_sem,aA,aD,aV]
    exact fin _ _ (by rw[hR,m0])
   |true=>
   simp only[JX,aQ] at hbjj hR ⊢
   rcases bB j d.vs.length with hltj|hgej
   · have hgj:decide ((j:Int)<(d.vs.length:Int))=true:=by simp;omega
     obtain ⟨v,hv⟩:∃t,d.vs[j]? = some t:=⟨_,aX hltj⟩
     have q3:=aS (row:=cV) hv
     have hjn:cF l (eT y (d.vs.take (j+1)) e)=cF (cF l (eT y (d.vs.take j) e)) (bif l7 e.vs v then [] else [⟨4,v,y⟩]):=by rw[CW hv,rF]
     generalize hM:cF l (eT y (d.vs.take j) e)=M at *
     cases hc:l7 e.vs v with
     |true=>
      rw[hc,aQ,m0] at hjn
      simp(maxSteps:=9^7)-dsimp only[go_sem,hgj,↓q3,aA,aD,aV,hne,dne,hc]
      refine ⟨by omega,by omega,aC (j+1) 6 (by omega) (by omega) ?_ ?_⟩
      · simp -dsimp only[go_sem,hjn]<;>simp
      · simp -dsimp only[go_sem,aA,aD,aV]<;>simp
     |false=>
      rw[hc,aI,GX] at hjn
      simp(maxSteps:=9^7)-dsimp only[go_sem,hgj,↓q3,aA,aD,aV,hne,dne,hc]
      refine ⟨by omega,by omega,pH (l:=M) (x:=⟨4,v,y⟩) (by omega) ?_⟩
      simp(maxSteps:=9^7)-dsimp only[go_sem]
      refine ⟨by omega,aC (j+1) 6 (by omega) (by omega) ?_ ?_⟩
      · simp -dsimp only[go_sem,hjn]<;>simp
      · simp -dsimp only[go_sem,aA,aD,aV]<;>simp
   · have hgj:decide ((j:Int)<(d.vs.length:Int))=false:=by simp;omega
     obtain rfl:j=d.vs.length:=by omega
     simp only[eC]
     simp(maxSteps:=9^7)-dsimp only[go_sem,hgj,aA,aD,aV]
     exact fin _ _ (by rw[hR])
theorem W0:Meets Tryz.prog 13 aHH:=by
 refine aF Tryz.func13 a7U 3 (by rw[Tryz.ntmps13];decide) (aG yO (aE aQH (aE jJ (aE IX (aE aXX (aE aG0 (aG YH (aE aW6 (aB _)))))))))
  (fun av H K h=>by obtain ⟨_,_,_,rfl,_⟩:=h;rfl) ?_
 rintro av H K ⟨o,n,x,rfl,rfl,ho,hn,hK⟩
 have hso:=cN ho
 have hsn:=cN hn
 have hdo:=cT o
 have hdn:=cT n
 rw[aA] at hso hsn hdo hdn
 have fin:∀(l:List Is) (R:Hp),m5 o n x=l->W.Fin 0 K (.va (.c1 (.fz (l.map bR)))) R:=fun l R h1=>by
  rw[h1] at hK
  exact .z ((by simpa[go_sem] using hK))
 by_cases c1:aL o=0
 rotate_left
 · have e1:(aL o != 0)=true:=by simpa using c1
   simp(maxSteps:=9^7)-dsimp only[go_sem,aA,XS,XG,hso,hsn,hdo,hdn,e1]
   exact fin [] _ (by unfold m5;rw[e1];rfl)
 have e1:(aL o != 0)=false:=by simp[c1]
 by_cases c2:aL n=0
 rotate_left
 · have e2:(aL n != 0)=true:=by simpa using c2
   simp(maxSteps:=9^7)-dsimp only[go_sem,aA,XS,XG,hso,hsn,hdo,hdn,e1,e2]
   exact fin [] _ (by unfold m5;rw[e1,e2];rfl)
 have e2:(aL n != 0)=false:=by simp[c2]
 have hiss:m5 o n x=cF [] (n9 o n x):=by unfold m5;rw[e1,e2];rfl
 have hlen:(mF o n x).length<=33:=by
  unfold mF
  have h1:=JQ (bJ (jY n x)) (jY o x)
  have h2:=EB ho x
  rw[bP];omega
 simp(maxSteps:=9^7)-dsimp only[go_sem,aA,XS,XG,hso,hsn,hdo,hdn,e1,e2]
 refine aRU ho hn ?_
 have hbd:∀i,(b8 [] (((mF o n x).take i).flatMap (iU o n))).length<=140000:=fun i=>by
  have h1:=oY (((mF o n x).take i).flatMap (iU o n)) []
  have h2:=tZ (f:=iU o n) (l:=(mF o n x).take i) fun y _=>aEO ho hn c1 c2 y
  have h3:((mF o n x).take i).length<=33:=by rw[eJ];omega
  have h4:=gD 4000 h3
  simp only[dZ] at h1
  omega
 have hraw:n9 o n x=(mF o n x).flatMap (iU o n):=rfl
 have hBI:∀z∈b8 [] (n9 o n x),BI z:=fun z hz=>by
  rw[FZ] at hz
  rcases hz with hz|hz
  · cases hz
  · exact aU2 ho hn c1 c2 x z hz
 generalize hns:mF o n x=ns at *
 simp(maxSteps:=9^7)-dsimp only[go_sem]
 refine dL (α:=Nat) (fun i=>[(3,.va (.c1 (.pt 0 0))),(4,.va (.c1 (.pt 1 0))),(7,.va (.c1 (.pt 2 0))),(33,.va (.c1 (.fz (ns.map bH)))),(34,iS .i64 ns.length),(35,iS .i64 i)]) (fun i=>[.cells (aA o) 25,.cells (aA n) 25,.cells [.sl 3 (b8 [] ((ns.take i).flatMap (iU o n))).length] 74,.row ((b8 [] ((ns.take i).flatMap (iU o n))).map bR) 55 3])
  (fun i=>i<=ns.length) (fun i=>ns.length-i) (.nilc 2 0 55 3 [.vl (.slice none 0 0)] 74 rfl rfl (lA 0 4 (aP _) ?_ ?_)) ?_
 · simp -dsimp only[go_sem]<;>simp
 · simp -dsimp only[go_sem,aA]<;>simp[b8]
 intro i hi
 have hbi:=hbd i
 rcases bB i ns.length with hlt|hge
 · have hg:decide ((i:Int)<(ns.length:Int))=true:=by simp;omega
   obtain ⟨y,hx⟩:∃t,ns[i]? = some t:=⟨_,aX hlt⟩
   have q1:=aS (row:=bH) hx
   have hnx:b8 [] ((ns.take (i+1)).flatMap (iU o n))=b8 (b8 [] ((ns.take i).flatMap (iU o n))) (iU o n y):=by rw[MS hx,oZ]
   clear hns hraw hBI hiss hbd
   generalize hL:b8 [] ((ns.take i).flatMap (iU o n))=L0 at *
   have ga:=yN ho c1 y
   have gb:=yN hn c2 y
   have hdl:=yV ho c1 y
   have hel:=yV hn c2 y
   have hcN:iU o n y=bif aZ o.ss y != aZ n.ss y then [⟨5,0,y⟩] else (bif aZ o.ss y then lP y ((fS o.ss y).getD default) ((fS n.ss y).getD default) else [])++(bif cI o.es y&&cI n.es y then eT y ((cO o.es y).getD default).vs ((cO n.es y).getD default) else []):=rfl
   rw[hcN] at hnx
   clear hcN
   generalize hd:(cO o.es y).getD default=d at *
   generalize he:(cO n.es y).getD default=e at *
   simp(maxSteps:=9^7)-dsimp only[go_sem,hg,↓q1,aA]
   refine ⟨by omega,dJ (s:=o) ho ?_⟩
   generalize (fS o.ss y).getD default=a at *
   simp(maxSteps:=9^7)-dsimp only[go_sem,aD]
   refine dJ (s:=n) hn ?_
   generalize (fS n.ss y).getD default=b at *
   cases s1:aZ o.ss y with
   |true=>
    cases s2:aZ n.ss y with
    |true=>
     rw[s1,s2] at hnx
     simp only[bne_self_eq_false,aI,aQ,oZ] at hnx
     simp(maxSteps:=9^7)-dsimp only[go_sem,aD]
     refine aPI (l:=L0) ga gb (by omega) ?_
     simp(maxSteps:=9^7)-dsimp only[go_sem]
     have hbL:(b8 L0 (lP y a b)).length<=150000:=by
      have h1:=oY (lP y a b) L0
      have h2:=tZ (f:=dX y b) (l:=a.fs) fun f _=>MB y _ f
      have h3:=tZ (f:=kT y a) (l:=b.fs) fun f _=>J7 y _ f
      have:=ga.len
      have:=gb.len
      unfold lP at h1 ⊢
      rw[bW] at h1
      omega
     refine bZ (up:=[(3,.va (.c1 (.pt 0 0))),(4,.va (.c1 (.pt 1 0))),(7,.va (.c1 (.pt 2 0))),(9,tS y),(33,.va (.c1 (.fz (ns.map bH)))),(34,iS .i64 ns.length),(35,iS .i64 i)]) (Hs:=[.cells (aA o) 25,.cells (aA n) 25,.cells [.sl 3 (b8 L0 (lP y a b)).length] 74,.row ((b8 L0 (lP y a b)).map bR) 55 3]) 4 ?_ ?_ ?_
     rotate_left
     · simp -dsimp only[go_sem]<;>simp
     · simp -dsimp only[go_sem,aA]<;>simp
     generalize b8 L0 (lP y a b)=L at *
     simp(maxSteps:=9^7)-dsimp only[go_sem,aA,ET]
     refine j9 (s:=o) ho ?_
     rw[show (cO o.es y).getD default=d from hd]
     simp(maxSteps:=9^7)-dsimp only[go_sem,aV]
     refine j9 (s:=n) hn ?_
     rw[show (cO n.es y).getD default=e from he]
     simp(maxSteps:=9^7)-dsimp only[go_sem,aV]
     have hii:YX (e.vs.map cV):=J1 (by omega)
     have dii:=yA e.vs
     generalize cI o.es y=p at *
     generalize cI n.es y=q at *
     have hbj:∀j,(b8 L (bif p&&q then eT y (d.vs.take j) e else [])).length<=160000:=fun j=>by
      have h1:=oY (bif p&&q then eT y (d.vs.take j) e else []) L
      have h2:=vD y (d.vs.take j) e
      rw[eJ] at h2
      have h3:(bif p&&q then eT y (d.vs.take j) e else []).length<=16:=by cases p&&q<;>simp only[aQ,aI,dZ]<;>omega
      omega
     refine aO (α:=Nat) (fun j=>[(3,.va (.c1 (.pt 0 0))),(4,.va (.c1 (.pt 1 0))),(7,.va (.c1 (.pt 2 0))),(9,tS y),(15,bS p),(16,.va (.c1 (.pt 5 0))),(17,bS q),(33,.va (.c1 (.fz (ns.map bH)))),(34,iS .i64 ns.length),(35,iS .i64 i),(78,.va (.c1 (.fz (d.vs.map cV)))),(79,iS .i64 d.vs.length),(80,iS .i64 j)])
      (fun j=>[.cells (aA o) 25,.cells (aA n) 25,.cells [.sl 3 (b8 L (bif p&&q then eT y (d.vs.take j) e else [])).length] 74,.row ((b8 L (bif p&&q then eT y (d.vs.take j) e else [])).map bR) 55 3,.cells (aV d) 70,.cells (aV e) 70])
      (fun j=>j<=d.vs.length) (fun j=>d.vs.length-j) 0 6 (aP _) ?_ ?_ ?_
     · simp -dsimp only[go_sem]<;>simp
     · simp -dsimp only[go_sem,aA,aV,eH,F1,MW,iH]<;>simp
     intro j hj
     have hbjj:=hbj j
     rcases bB j d.vs.length with hltj|hgej
     · have hgj:decide ((j:Int)<(d.vs.length:Int))=true:=by simp;omega
       obtain ⟨v,hv⟩:∃t,d.vs[j]? = some t:=⟨_,aX hltj⟩
       have q3:=aS (row:=cV) hv
       have hcn:=CW hv y e
       cases p with
       |false=>
        simp only[bL,aI,iH] at hbjj ⊢
        simp(maxSteps:=9^7)-dsimp only[go_sem,hgj,↓q3,aA,aV]
        refine ⟨by omega,by omega,aC (j+1) 6 (by omega) (by omega) ?_ ?_⟩
        · simp -dsimp only[go_sem]<;>simp
        · simp -dsimp only[go_sem,aA,aV]<;>simp
       |true=>
       cases q with
       |false=>
        simp only[dF,aI,iH] at hbjj ⊢
        simp(maxSteps:=9^7)-dsimp only[go_sem,hgj,↓q3,aA,aV]
        refine ⟨by omega,by omega,aC (j+1) 6 (by omega) (by omega) ?_ ?_⟩
        · simp -dsimp only[go_sem]<;>simp
        · simp -dsimp only[go_sem,aA,aV]<;>simp
       |true=>
        simp only[JX,aQ] at hbjj ⊢
        have hjn:b8 L (eT y (d.vs.take (j+1)) e)=b8 (b8 L (eT y (d.vs.take j) e)) (bif l7 e.vs v then [] else [⟨4,v,y⟩]):=by rw[hcn,oZ]
        generalize hM:b8 L (eT y (d.vs.take j) e)=M at *
        cases hc:l7 e.vs v with
        |true=>
         rw[hc,aQ,iH] at hjn
         simp(maxSteps:=9^7)-dsimp only[go_sem,hgj,↓q3,aA,aV,hii,dii,hc]
         refine ⟨by omega,by omega,aC (j+1) 6 (by omega) (by omega) ?_ ?_⟩
         · simp -dsimp only[go_sem]<;>simp
         · simp -dsimp only[go_sem,aA,aV,hjn]<;>simp
        |false=>
         rw[hc,aI,mW] at hjn
         simp(maxSteps:=9^7)-dsimp only[go_sem,hgj,↓q3,aA,aV,hii,dii,hc]
         refine ⟨by omega,oH (l:=M) (by omega) ?_⟩
         simp(maxSteps:=9^7)-dsimp only[go_sem]
         refine ⟨by omega,aC (j+1) 6 (by omega) (by omega) ?_ ?_⟩
         · simp -dsimp only[go_sem]<;>simp
         · simp -dsimp only[go_sem,aA,aV,hjn]<;>simp
     · have hgj:decide ((j:Int)<(d.vs.length:Int))=false:=by simp;omega
       obtain rfl:j=d.vs.length:=by omega
       simp only[eC]
       rw[<-hnx]
       simp(maxSteps:=9^7)-dsimp only[go_sem,hgj,aA,aV]
       refine ⟨by omega,aC (i+1) 4 (by omega) (by omega) ?_ ?_⟩
       · simp -dsimp only[go_sem]<;>simp
       · simp -dsimp only[go_sem,aA]<;>simp
    |false=>
     rw[s1,s2] at hnx
     simp only[Bool.true_bne,bV,aQ,mW] at hnx
     simp(maxSteps:=9^7)-dsimp only[go_sem,aD]
     refine oH (l:=L0) (by omega) ?_
     simp(maxSteps:=9^7)-dsimp only[go_sem]
     refine ⟨by omega,aC (i+1) 4 (by omega) (by omega) ?_ ?_⟩
     · simp -dsimp only[go_sem]<;>simp
     · simp -dsimp only[go_sem,aA,hnx]<;>simp
   |false=>
    cases s2:aZ n.ss y with
    |true=>
     rw[s1,s2] at hnx
     simp only[Bool.false_bne,aQ,mW] at hnx
     simp(maxSteps:=9^7)-dsimp only[go_sem,aD]
     refine oH (l:=L0) (by omega) ?_
     simp(maxSteps:=9^7)-dsimp only[go_sem]
     refine ⟨by omega,aC (i+1) 4 (by omega) (by omega) ?_ ?_⟩
     · simp -dsimp only[go_sem]<;>simp
     · simp -dsimp only[go_sem,aA,hnx]<;>simp
    |false=>
     rw[s1,s2] at hnx
     simp only[bne_self_eq_false,aI,jT] at hnx
     simp(maxSteps:=9^7)-dsimp only[go_sem,aD]
     have hbL:L0.length<=150000:=by omega
     refine bZ (up:=[(3,.va (.c1 (.pt 0 0))),(4,.va (.c1 (.pt 1 0))),(7,.va (.c1 (.pt 2 0))),(9,tS y),(33,.va (.c1 (.fz (ns.map bH)))),(34,iS .i64 ns.length),(35,iS .i64 i)]) (Hs:=[.cells (aA o) 25,.cells (aA n) 25,.cells [.sl 3 L0.length] 74,.row (L0.map bR) 55 3]) 4 ?_ ?_ ?_
     rotate_left
     · simp -dsimp only[go_sem]<;>simp
     · simp -dsimp only[go_sem,aA]<;>simp
     generalize L0=L at *
     simp(maxSteps:=9^7)-dsimp only[go_sem,aA,ET]
     refine j9 (s:=o) ho ?_
     rw[show (cO o.es y).getD default=d from hd]
     simp(maxSteps:=9^7)-dsimp only[go_sem,aV]
     refine j9 (s:=n) hn ?_
     rw[show (cO n.es y).getD default=e from he]
     simp(maxSteps:=9^7)-dsimp only[go_sem,aV]
     have hii:YX (e.vs.map cV):=J1 (by omega)
     have dii:=yA e.vs
     generalize cI o.es y=p at *
     generalize cI n.es y=q at *
     have hbj:∀j,(b8 L (bif p&&q then eT y (d.vs.take j) e else [])).length<=160000:=fun j=>by
      have h1:=oY (bif p&&q then eT y (d.vs.take j) e else []) L
      have h2:=vD y (d.vs.take j) e
      rw[eJ] at h2
      have h3:(bif p&&q then eT y (d.vs.take j) e else []).length<=16:=by cases p&&q<;>simp only[aQ,aI,dZ]<;>omega
      omega
     refine aO (α:=Nat) (fun j=>[(3,.va (.c1 (.pt 0 0))),(4,.va (.c1 (.pt 1 0))),(7,.va (.c1 (.pt 2 0))),(9,tS y),(15,bS p),(16,.va (.c1 (.pt 5 0))),(17,bS q),(33,.va (.c1 (.fz (ns.map bH)))),(34,iS .i64 ns.length),(35,iS .i64 i),(78,.va (.c1 (.fz (d.vs.map cV)))),(79,iS .i64 d.vs.length),(80,iS .i64 j)])
      (fun j=>[.cells (aA o) 25,.cells (aA n) 25,.cells [.sl 3 (b8 L (bif p&&q then eT y (d.vs.take j) e else [])).length] 74,.row ((b8 L (bif p&&q then eT y (d.vs.take j) e else [])).map bR) 55 3,.cells (aV d) 70,.cells (aV e) 70])
      (fun j=>j<=d.vs.length) (fun j=>d.vs.length-j) 0 6 (aP _) ?_ ?_ ?_
     · simp -dsimp only[go_sem]<;>simp
     · simp -dsimp only[go_sem,aA,aV,eH,F1,MW,iH]<;>simp
     intro j hj
     have hbjj:=hbj j
     rcases bB j d.vs.length with hltj|hgej
     · have hgj:decide ((j:Int)<(d.vs.length:Int))=true:=by simp;omega
       obtain ⟨v,hv⟩:∃t,d.vs[j]? = some t:=⟨_,aX hltj⟩
       have q3:=aS (row:=cV) hv
       have hcn:=CW hv y e
       cases p with
       |false=>
        simp only[bL,aI,iH] at hbjj ⊢
        simp(maxSteps:=9^7)-dsimp only[go_sem,hgj,↓q3,aA,aV]
        refine ⟨by omega,by omega,aC (j+1) 6 (by omega) (by omega) ?_ ?_⟩
        · simp -dsimp only[go_sem]<;>simp
        · simp -dsimp only[go_sem,aA,aV]<;>simp
       |true=>
       cases q with
       |false=>
        simp only[dF,aI,iH] at hbjj ⊢
        simp(maxSteps:=9^7)-dsimp only[go_sem,hgj,↓q3,aA,aV]
        refine ⟨by omega,by omega,aC (j+1) 6 (by omega) (by omega) ?_ ?_⟩
        · simp -dsimp only[go_sem]<;>simp
        · simp -dsimp only[go_sem,aA,aV]<;>simp
       |true=>
        simp only[JX,aQ] at hbjj ⊢
        have hjn:b8 L (eT y (d.vs.take (j+1)) e)=b8 (b8 L (eT y (d.vs.take j) e)) (bif l7 e.vs v then [] else [⟨4,v,y⟩]):=by rw[hcn,oZ]
        generalize hM:b8 L (eT y (d.vs.take j) e)=M at *
        cases hc:l7 e.vs v with
        |true=>
         rw[hc,aQ,iH] at hjn
         simp(maxSteps:=9^7)-dsimp only[go_sem,hgj,↓q3,aA,aV,hii,dii,hc]
         refine ⟨by omega,by omega,aC (j+1) 6 (by omega) (by omega) ?_ ?_⟩
         · simp -dsimp only[go_sem]<;>simp
         · simp -dsimp only[go_sem,aA,aV,hjn]<;>simp
        |false=>
         rw[hc,aI,mW] at hjn
         simp(maxSteps:=9^7)-dsimp only[go_sem,hgj,↓q3,aA,aV,hii,dii,hc]
         refine ⟨by omega,oH (l:=M) (by omega) ?_⟩
         simp(maxSteps:=9^7)-dsimp only[go_sem]
         refine ⟨by omega,aC (j+1) 6 (by omega) (by omega) ?_ ?_⟩
         · simp -dsimp only[go_sem]<;>simp
         · simp -dsimp only[go_sem,aA,aV,hjn]<;>simp
     · have hgj:decide ((j:Int)<(d.vs.length:Int))=false:=by simp;omega
       obtain rfl:j=d.vs.length:=by omega
       simp only[eC]
       rw[<-hnx]
       simp(maxSteps:=9^7)-dsimp only[go_sem,hgj,aA,aV]
       refine ⟨by omega,aC (i+1) 4 (by omega) (by omega) ?_ ?_⟩
       · simp -dsimp only[go_sem]<;>simp
       · simp -dsimp only[go_sem,aA]<;>simp
 · have hg:decide ((i:Int)<(ns.length:Int))=false:=by simp;omega
   obtain rfl:i=ns.length:=by omega
   rw[eC] at hbi ⊢
   rw[<-hraw] at hbi ⊢
   simp(maxSteps:=9^7)-dsimp only[go_sem,hg,aA]
   refine aWJ (l:=b8 [] (n9 o n x)) (by omega) hBI fun l' hp hs=>?_
   have hr:=XY hp hs
   rw[<-hp.length_eq]
   simp(maxSteps:=9^7)-dsimp only[go_sem]
   rw[show l'.length=(l'.map bR).length by simp]
   refine .pub 3 _ _ _ rfl (.sel [] (by simp) (by simp[cS]) rfl (.done ?_))
   simp -dsimp only[go_sem,cS]
   rw[hiss,<-hr] at hK
   simpa using hK
def P0:List S->Prop:=fun av=>match av with
 |[.va (.gs r),.va (.gs q),.va (.c1 (.vl (.string _)))]=>kF r/\kF q
 |_=>False
theorem tK {av:List S} (h:P0 av):∃(o n:Sc) (x:ByteArray),av=[.va (.gs (aA o)),.va (.gs (aA n)),tS x]/\o.fit/\n.fit:=by
 unfold P0 at h
 split at h
 · obtain ⟨⟨o,rfl,ho⟩,⟨n,rfl,hn⟩⟩:=h;exact ⟨o,n,_,rfl,ho,hn⟩
 · exact h.elim
noncomputable def aIM:List S->A:=fun av=>match av with
 |[.va (.gs r),.va (.gs q),.va (.c1 (.vl (.string x)))]=>bA (l0 (C.sc r) (C.sc q) x)
 |_=>.gs []
noncomputable def coFn:Fun:=⟨P0,aIM,fun av h=>by obtain ⟨o,n,x,rfl,_⟩:=tK h;trivial⟩
theorem RU:∀av H K,coFn.sp av H K->av.length=3:=fun av H K h=>by obtain ⟨o,n,x,rfl,_⟩:=tK h.1.1;rfl
attribute [go_sem] coFn P0 aIM
theorem FB:Meets Tryz.prog 14 coFn.sp:=by
 refine aF Tryz.func14 a8T 3 (by rw[Tryz.ntmps14];decide) (aG yO (aE jJ (aE W0 (aB _)))) RU ?_
 rintro av H K ⟨⟨h,rfl⟩,hK⟩
 obtain ⟨o,n,x,rfl,ho,hn⟩:=tK h
 replace hK:K (bS (l0 o n x)) []:=by
  have:coFn.val [.va (.gs (aA o)),.va (.gs (aA n)),tS x]=bA (l0 o n x):=by simp -dsimp only[go_sem]
  rw[this] at hK;exact hK
 clear h
 have hso:=cN ho
 have hsn:=cN hn
 have hdo:=cT o
 have hdn:=cT n
 rw[aA] at hso hsn hdo hdn
 have fin:∀(b:Bool) (R:Hp),l0 o n x=b->W.Fin 0 K (bS b) R:=fun b R h1=>by
  rw[h1] at hK
  exact .z ((by simpa[go_sem] using hK))
 by_cases c1:aL o=0
 rotate_left
 · have e1:(aL o != 0)=true:=by simpa using c1
   simp(maxSteps:=9^7)-dsimp only[go_sem,aA,YG,YL,hso,hsn,hdo,hdn,e1]
   exact fin false _ (by unfold l0;rw[e1];rfl)
 have e1:(aL o != 0)=false:=by simp[c1]
 by_cases c2:aL n=0
 rotate_left
 · have e2:(aL n != 0)=true:=by simpa using c2
   simp(maxSteps:=9^7)-dsimp only[go_sem,aA,YG,YL,hso,hsn,hdo,hdn,e1,e2]
   exact fin false _ (by unfold l0;rw[e1,e2];rfl)
 have e2:(aL n != 0)=false:=by simp[c2]
 have hco:l0 o n x=(aZ o.ss x&&aZ n.ss x&&(((m5 o n x).length:Int)==0)):=by unfold l0;rw[e1,e2];rfl
 simp(maxSteps:=9^7)-dsimp only[go_sem,aA,YG,YL,hso,hsn,hdo,hdn,e1,e2]
 refine dJ ho ?_
 generalize (fS o.ss x).getD default=a
 simp(maxSteps:=9^7)-dsimp only[go_sem,aD]
 refine bZ (up:=[(2,tS x),(3,.va (.c1 (.pt 0 0))),(4,.va (.c1 (.pt 1 0))),(8,bS (aZ o.ss x))]) (Hs:=[.cells (aA o) 25,.cells (aA n) 25]) 2 ?_ ?_ ?_
 rotate_left
 · simp -dsimp only[go_sem]<;>simp
 · simp -dsimp only[go_sem,aA]<;>simp
 simp(maxSteps:=9^7)-dsimp only[go_sem,aA,SM]
 refine dJ hn ?_
 generalize (fS n.ss x).getD default=b
 simp(maxSteps:=9^7)-dsimp only[go_sem,aD]
 refine bZ (up:=[(2,tS x),(3,.va (.c1 (.pt 0 0))),(4,.va (.c1 (.pt 1 0))),(8,bS (aZ o.ss x)),(10,bS (aZ n.ss x))]) (Hs:=[.cells (aA o) 25,.cells (aA n) 25]) 2 ?_ ?_ ?_
 rotate_left
 · simp -dsimp only[go_sem]<;>simp
 · simp -dsimp only[go_sem,aA]<;>simp
 cases s1:aZ o.ss x with
 |false=>
  rw[s1] at hco
  simp(maxSteps:=9^7)-dsimp only[go_sem,aA,CN]
  exact fin false _ (by rw[hco];rfl)
 |true=>
  cases s2:aZ n.ss x with
  |false=>
   rw[s1,s2] at hco
   simp(maxSteps:=9^7)-dsimp only[go_sem,aA,CN]
   exact fin false _ (by rw[hco];rfl)
  |true=>
   rw[s1,s2] at hco
   simp(maxSteps:=9^7)-dsimp only[go_sem,aA,CN]
   refine QV ho hn ?_
   simp(maxSteps:=9^7)-dsimp only[go_sem]
   exact fin _ _ (by rw[hco];rfl)
theorem aE6:Meets Tryz.prog 58 aHH:=by
 refine aF Tryz.func58 a95 3 (by rw[Tryz.ntmps58];decide) (aG y6 (aE a7X (aE aVA (aG aZT (aB _))))) (fun av H K h=>by obtain ⟨_,_,_,rfl,_⟩:=h;rfl) ?_
 rintro av H K ⟨o,n,x,rfl,rfl,ho,hn,hK⟩
 rw[aFZ ho hn] at hK
 have hso:=cN ho
 have hsn:=cN hn
 have hdo:=cT o
 have hdn:=cT n
 rw[aA] at hso hsn hdo hdn
 by_cases c1:aL o=0
 rotate_left
 · have e1:(aL o != 0)=true:=by simpa using c1
   rw[e1,cR,aQ] at hK
   simp(maxSteps:=9^7)-dsimp only[go_sem,aA,X7,XX,hso,hsn,hdo,hdn,e1]
   exact .z ((by simpa[go_sem] using hK))
 have e1:(aL o != 0)=false:=by simp[c1]
 by_cases c2:aL n=0
 rotate_left
 · have e2:(aL n != 0)=true:=by simpa using c2
   rw[e2,oU,aQ] at hK
   simp(maxSteps:=9^7)-dsimp only[go_sem,aA,X7,XX,hso,hsn,hdo,hdn,e1,e2]
   exact .z ((by simpa[go_sem] using hK))
 have e2:(aL n != 0)=false:=by simp[c2]
 have go:ScG o:=⟨ho,c1⟩
 have gn:ScG n:=⟨hn,c2⟩
 rw[e1,e2] at hK
 have hraw:aD7 o n x=gX o n x++((jY o x).filter (bJ (jY n x))).flatMap (gX o n):=rfl
 simp only[uG,aI,hraw,rF] at hK
 have h0:(cF [] (gX o n x)).length<=4000:=by
  have h1:=vH (gX o n x) []
  have h2:=QM (n:=n) go x
  simp only[dZ] at h1
  omega
 have ub:=aB2 hn x
 have ul:=EB ho x
 have dbs:=aCQ (jY n x)
 simp(maxSteps:=9^7)-dsimp only[go_sem,aA,X7,XX,hso,hsn,hdo,hdn,e1,e2]
 refine aCJ (l:=[]) (x:=x) go gn (aP _) ?_
 generalize cF [] (gX o n x)=L0 at *
 simp(maxSteps:=9^7)-dsimp only[go_sem]
 refine bZ (up:=[(2,tS x),(3,.va (.c1 (.pt 0 0))),(4,.va (.c1 (.pt 1 0))),(7,.va (.c1 (.fz (L0.map bR))))]) (Hs:=[.cells (aA o) 25,.cells (aA n) 25]) 2 ?_ ?_ ?_
 rotate_left
 · simp -dsimp only[go_sem]<;>simp
 · simp -dsimp only[go_sem,aA]<;>simp
 simp(maxSteps:=9^7)-dsimp only[go_sem,aA,Q7]
 refine EE ho ?_
 generalize jY o x=l at *
 simp(maxSteps:=9^7)-dsimp only[go_sem]
 refine EE hn ?_
 generalize jY n x=O at *
 simp(maxSteps:=9^7)-dsimp only[go_sem]
 have hbd:∀i,(cF L0 (((l.take i).filter (bJ O)).flatMap (gX o n))).length<=200000:=fun i=>by
  have h1:=vH (((l.take i).filter (bJ O)).flatMap (gX o n)) L0
  have h2:=tZ (f:=gX o n) (l:=(l.take i).filter (bJ O)) fun y _=>QM go y
  have h3:((l.take i).filter (bJ O)).length<=32:=by have:=JQ (bJ O) (l.take i);rw[eJ] at this;omega
  have h4:=gD 4000 h3
  omega
 refine aO (α:=Nat) (fun i=>[(3,.va (.c1 (.pt 0 0))),(4,.va (.c1 (.pt 1 0))),(7,.va (.c1 (.fz ((cF L0 (((l.take i).filter (bJ O)).flatMap (gX o n))).map bR)))),(8,.va (.c1 (.fz (l.map bH)))),(9,.va (.c1 (.fz (O.map bH)))),(10,iS .i64 i)]) (fun _=>[.cells (aA o) 25,.cells (aA n) 25])
  (fun i=>i<=l.length) (fun i=>l.length-i) 0 2 (aP _) ?_ ?_ ?_
 · simp -dsimp only[go_sem,eH,List.filter_nil,vX,m0]<;>simp
 · simp -dsimp only[go_sem,aA]<;>simp
 intro i hi
 have hbi:=hbd i
 rcases bB i l.length with hlt|hge
 · have hg:decide ((i:Int)<(l.length:Int))=true:=by simp;omega
   obtain ⟨y,hx⟩:∃t,l[i]? = some t:=⟨_,aX hlt⟩
   have q1:=aS (row:=bH) hx
   cases c:bJ O y with
   |true=>
    have hnx:cF L0 (((l.take (i+1)).filter (bJ O)).flatMap (gX o n))=cF (cF L0 (((l.take i).filter (bJ O)).flatMap (gX o n))) (gX o n y):=by
     rw[cM hx,aC9,s4,rF];simp[c]
    generalize hL:cF L0 (((l.take i).filter (bJ O)).flatMap (gX o n))=L at *
    simp(maxSteps:=9^7)-dsimp only[go_sem,hg,↓q1,ub,dbs,c,aA]
    refine ⟨by omega,by omega,aCJ (l:=L) (o:=o) (n:=n) go gn (by omega) ?_⟩
    simp(maxSteps:=9^7)-dsimp only[go_sem]
    refine ⟨by omega,aC (i+1) 2 (by omega) (by omega) ?_ ?_⟩
    · simp -dsimp only[go_sem,hnx]<;>simp
    · simp -dsimp only[go_sem,aA]<;>simp
   |false=>
    have hnx:(l.take (i+1)).filter (bJ O)=(l.take i).filter (bJ O):=by rw[cM hx];simp[c]
    simp(maxSteps:=9^7)-dsimp only[go_sem,hg,↓q1,ub,dbs,c,aA]
    refine ⟨by omega,by omega,aC (i+1) 2 (by omega) (by omega) ?_ ?_⟩
    · simp -dsimp only[go_sem,hnx]<;>simp
    · simp -dsimp only[go_sem,aA]<;>simp
 · have hg:decide ((i:Int)<(l.length:Int))=false:=by simp;omega
   obtain rfl:i=l.length:=by omega
   rw[eC]
   simp(maxSteps:=9^7)-dsimp only[go_sem,hg,aA]
   exact .z ((by simpa[go_sem] using hK))
theorem QX:Meets Tryz.prog 22 coFn.sp:=by
 refine aF Tryz.func22 a52 3 (by rw[Tryz.ntmps22];decide) (aG y6 (aE mR (aE aE6 (aB _)))) RU ?_
 rintro av H K ⟨⟨h,rfl⟩,hK⟩
 obtain ⟨o,n,x,rfl,ho,hn⟩:=tK h
 replace hK:K (bS (l0 o n x)) []:=by
  have:coFn.val [.va (.gs (aA o)),.va (.gs (aA n)),tS x]=bA (l0 o n x):=by simp -dsimp only[go_sem]
  rw[this] at hK;exact hK
 clear h
 have hso:=cN ho
 have hsn:=cN hn
 have hdo:=cT o
 have hdn:=cT n
 rw[aA] at hso hsn hdo hdn
 have fin:∀(b:Bool) (R:Hp),l0 o n x=b->W.Fin 0 K (bS b) R:=fun b R h1=>by
  rw[h1] at hK
  exact .z ((by simpa[go_sem] using hK))
 have hco:l0 o n x=(bif (aL o != 0)||(aL n != 0) then false else aZ o.ss x&&aZ n.ss x&&(((m5 o n x).length:Int)==0)):=rfl
 simp(maxSteps:=9^7)-dsimp only[go_sem,aA,aWN,aS7]
 refine dJ ho ?_
 generalize (fS o.ss x).getD default=a
 simp(maxSteps:=9^7)-dsimp only[go_sem,aD]
 refine bZ (up:=[(2,tS x),(3,.va (.c1 (.pt 0 0))),(4,.va (.c1 (.pt 1 0))),(8,bS (aZ o.ss x))]) (Hs:=[.cells (aA o) 25,.cells (aA n) 25]) 2 ?_ ?_ ?_
 rotate_left
 · simp -dsimp only[go_sem]<;>simp
 · simp -dsimp only[go_sem,aA]<;>simp
 simp(maxSteps:=9^7)-dsimp only[go_sem,aA,TS]
 refine dJ hn ?_
 generalize (fS n.ss x).getD default=b
 simp(maxSteps:=9^7)-dsimp only[go_sem,aD]
 refine bZ (up:=[(2,tS x),(3,.va (.c1 (.pt 0 0))),(4,.va (.c1 (.pt 1 0))),(8,bS (aZ o.ss x)),(10,bS (aZ n.ss x))]) (Hs:=[.cells (aA o) 25,.cells (aA n) 25]) 2 ?_ ?_ ?_
 rotate_left
 · simp -dsimp only[go_sem]<;>simp
 · simp -dsimp only[go_sem,aA]<;>simp
 by_cases c1:aL o=0
 rotate_left
 · have e1:(aL o==0)=false:=by simpa using c1
   have e1':(aL o != 0)=true:=by simpa using c1
   have hco:l0 o n x=false:=by rw[hco,e1'];rfl
   cases s1:aZ o.ss x<;>cases s2:aZ n.ss x <;>
   (simp(maxSteps:=9^7)-dsimp only[go_sem,aA,uT,hso,hsn,hdo,hdn,e1]
    exact fin _ _ hco)
 have e1:(aL o==0)=true:=by simp[c1]
 have e1':(aL o != 0)=false:=by simp[c1]
 by_cases c2:aL n=0
 rotate_left
 · have e2:(aL n==0)=false:=by simpa using c2
   have e2':(aL n != 0)=true:=by simpa using c2
   have hco:l0 o n x=false:=by rw[hco,e2',oU];rfl
   cases s1:aZ o.ss x<;>cases s2:aZ n.ss x <;>
   (simp(maxSteps:=9^7)-dsimp only[go_sem,aA,uT,hso,hsn,hdo,hdn,e1,e2]
    exact fin _ _ hco)
 have e2:(aL n==0)=true:=by simp[c2]
 have e2':(aL n != 0)=false:=by simp[c2]
 rw[e1',e2'] at hco
 cases s1:aZ o.ss x with
 |false=>
  rw[s1] at hco
  cases s2:aZ n.ss x <;>
  (simp(maxSteps:=9^7)-dsimp only[go_sem,aA,uT,hso,hsn,hdo,hdn,e1,e2]
   exact fin _ _ hco)
 |true=>
  cases s2:aZ n.ss x with
  |false=>
   rw[s1,s2] at hco
   simp(maxSteps:=9^7)-dsimp only[go_sem,aA,uT,hso,hsn,hdo,hdn,e1,e2]
   exact fin _ _ hco
  |true=>
   rw[s1,s2] at hco
   simp(maxSteps:=9^7)-dsimp only[go_sem,aA,uT,hso,hsn,hdo,hdn,e1,e2]
   refine QV ho hn ?_
   simp(maxSteps:=9^7)-dsimp only[go_sem]
   exact fin _ _ (by rw[hco];rfl)
noncomputable def lgFn:Fun:=uV rH C.sc fun s=>.bool (!rK s)
attribute [go_sem] lgFn
theorem aFN:Meets Tryz.prog 4 lgFn.sp:=by
 refine aF Tryz.func4 ok4 1 (by rw[Tryz.ntmps4];decide) (aG a9Z (aB _)) pE ?_
 rintro av H K ⟨⟨h,rfl⟩,hK⟩
 obtain ⟨_,rfl,s,rfl,hs⟩:=fR h
 replace hK:K (bS (!rK s)) []:=by
  have:lgFn.val [.va (.gs (aA s))]=bA (!rK s):=by simp -dsimp only[go_sem]
  rw[this] at hK;exact hK
 clear h
 have hsc:=yI hs
 have hdc:=cT s
 rw[aA] at hsc hdc
 simp(maxSteps:=9^7)-dsimp only[go_sem,aA,pc4,rs4,hsc,hdc]
 exact .z ((by simpa[go_sem] using hK))
noncomputable def mC (s m:Sc) (n:ByteArray) (v:Vl):Vl×Int:=bif aL s != 0 then (v0,aL s) else bif aL m != 0 then (v0,aL m) else bif !(aZ s.ss n) then (v0,6) else bif lN s (sN n) v != 0 then (v0,lN s (sN n) v) else bif !(l0 s m n) then (v0,14) else (qI m n v,0)
def YK:W.Spec:=fun av H K=>∃(s m:Sc) (n:ByteArray) (v:Vl),av=[.va (.gs (aA s)),.va (.gs (aA m)),tS n,.va (.gs (aW v))]/\H=[]/\s.fit/\m.fit/\n.size<=9223372036854775807/\VlOk v/\v.h<=1000000/\K (.tu [.gs (aW (mC s m n v).1),iA .i64 (mC s m n v).2]) []
theorem aO9 {s m:Sc} {n:ByteArray} {v:Vl} {K:S->Hp->Prop} (h1:s.fit) (h2:m.fit) (h3:n.size<=9223372036854775807) (h4:VlOk v) (h5:v.h<=1000000)
 (hK:K (.tu [.gs [.vl (.int .i64 (mC s m n v).1.k),.vl (.int .i64 (mC s m n v).1.n),.vl (.string (mC s m n v).1.s),.fz ((mC s m n v).1.l.map aW),.fz ((mC s m n v).1.f.map bG)],iA .i64 (mC s m n v).2]) []) :
 YK [.va (.gs [.vl (.int .i64 s.ver),.fz (s.es.map aV),.fz (s.ss.map aD)]),.va (.gs [.vl (.int .i64 m.ver),.fz (m.es.map aV),.fz (m.ss.map aD)]),tS n,.va (.gs [.vl (.int .i64 v.k),.vl (.int .i64 v.n),.vl (.string v.s),.fz (v.l.map aW),.fz (v.f.map bG)])] [] K:=⟨s,m,n,v,by rw[aJ];rfl,rfl,h1,h2,h3,h4,h5,by rw[aJ];exact hK⟩
theorem aD6:Meets Tryz.prog 7 YK:=by
 refine aF Tryz.func7 ok7 4 (by rw[Tryz.ntmps7];decide) (aG yO (aE jJ (aG VM (aG FB (aE aHG (aB _)))))) (fun av H K h=>by obtain ⟨_,_,_,_,rfl,_⟩:=h;rfl) ?_
 rintro av H K ⟨s,m,n,v,rfl,rfl,hs,hm,hn,hv,hh,hK⟩
 have fin:∀(x:Vl) (e:Int) (R:Hp),mC s m n v=(x,e)->W.Fin 0 K (.tu [.gs [.vl (.int .i64 x.k),.vl (.int .i64 x.n),.vl (.string x.s),.fz (x.l.map aW),.fz (x.f.map bG)],iA .i64 e]) R:=fun x e R h=>by
  rw[h] at hK;exact .z ((by rw[aJ] at hK;simpa[go_sem] using hK))
 clear hK
 unfold mC at fin
 have k1:=dE hv
 have k2:=fV v
 have k4:dG [.vl (.int .i64 6),.vl (.int .i64 0),.vl (.string n),.fz []]:=iL (IM hn)
 have k5:C.ty [.vl (.int .i64 6),.vl (.int .i64 0),.vl (.string n),.fz []]=sN n:=n7 (sN n)
 have s1:=fZ hs
 have s2:=kL s
 have m1:=fZ hm
 have m2:=kL m
 cases c1:aL s != 0 with
 |true=>
  rw[c1,aQ] at fin
  simp(maxSteps:=9^7)-dsimp only[go_sem,aA,aJ v,pc7,rs7,s1,s2,c1]
  exact fin v0 _ _ rfl
 |false=>
 rw[c1,aI] at fin
 cases c2:aL m != 0 with
 |true=>
  rw[c2,aQ] at fin
  simp(maxSteps:=9^7)-dsimp only[go_sem,aA,aJ v,pc7,rs7,s1,s2,m1,m2,c1,c2]
  exact fin v0 _ _ rfl
 |false=>
 rw[c2,aI] at fin
 simp(maxSteps:=9^7)-dsimp only[go_sem,aA,aJ v,pc7,rs7,s1,s2,m1,m2,c1,c2]
 refine dJ (s:=s) hs ?_
 generalize (fS s.ss n).getD default=u
 cases c3:aZ s.ss n with
 |false=>
  rw[c3,bV,aQ] at fin
  simp(maxSteps:=9^7)-dsimp only[go_sem,aD]
  exact fin v0 _ _ rfl
 |true=>
 rw[c3,bN,aI] at fin
 cases c4:lN s (sN n) v != 0 with
 |true=>
  rw[c4,aQ] at fin
  simp(maxSteps:=9^7)-dsimp only[go_sem,aD,k1,k2,k4,k5,s1,s2,c4]
  exact fin v0 _ _ rfl
 |false=>
 rw[c4,aI] at fin
 cases c5:l0 s m n with
 |false=>
  rw[c5,bV,aQ] at fin
  simp(maxSteps:=9^7)-dsimp only[go_sem,aD,k1,k2,k4,k5,s1,s2,m1,m2,c4,c5]
  exact fin v0 _ _ rfl
 |true=>
 rw[c5,bN,aI] at fin
 simp(maxSteps:=9^7)-dsimp only[go_sem,aD,k1,k2,k4,k5,s1,s2,m1,m2,c4,c5]
 refine Z4 (s:=m) hm hn hv ?_
 simp(maxSteps:=9^7)-dsimp only[go_sem]
 exact fin _ _ _ rfl
theorem ZO:Meets Tryz.prog 8 YK:=by
 refine aF Tryz.func8 ok8 4 (by rw[Tryz.ntmps8];decide) (aG y6 (aE mR (aG (aOE 1000000 (bE _)) (aG QX (aE aAI (aB _)))))) (fun av H K h=>by obtain ⟨_,_,_,_,rfl,_⟩:=h;rfl) ?_
 rintro av H K ⟨s,m,n,v,rfl,rfl,hs,hm,hn,hv,hh,hK⟩
 have fin:∀(x:Vl) (e:Int) (R:Hp),mC s m n v=(x,e)->W.Fin 0 K (.tu [.gs [.vl (.int .i64 x.k),.vl (.int .i64 x.n),.vl (.string x.s),.fz (x.l.map aW),.fz (x.f.map bG)],iA .i64 e]) R:=fun x e R h=>by
  rw[h] at hK;exact .z ((by rw[aJ] at hK;simpa[go_sem] using hK))
 clear hK
 unfold mC at fin
 have k1:=dE hv
 have k2:=fV v
 have k4:dG [.vl (.int .i64 6),.vl (.int .i64 0),.vl (.string n),.fz []]:=iL (IM hn)
 have k5:C.ty [.vl (.int .i64 6),.vl (.int .i64 0),.vl (.string n),.fz []]=sN n:=n7 (sN n)
 have s1:=fZ hs
 have s2:=kL s
 have m1:=fZ hm
 have m2:=kL m
 have k6:FS 1000000 s (sN n) v:=hh
 cases c1:aL s != 0 with
 |true=>
  rw[c1,aQ] at fin
  simp(maxSteps:=9^7)-dsimp only[go_sem,aA,aJ v,pc8,rs8,s1,s2,c1]
  exact fin v0 _ _ rfl
 |false=>
 rw[c1,aI] at fin
 cases c2:aL m != 0 with
 |true=>
  rw[c2,aQ] at fin
  simp(maxSteps:=9^7)-dsimp only[go_sem,aA,aJ v,pc8,rs8,s1,s2,m1,m2,c1,c2]
  exact fin v0 _ _ rfl
 |false=>
 rw[c2,aI] at fin
 simp(maxSteps:=9^7)-dsimp only[go_sem,aA,aJ v,pc8,rs8,s1,s2,m1,m2,c1,c2]
 refine dJ (s:=s) hs ?_
 generalize (fS s.ss n).getD default=u
 cases c3:aZ s.ss n with
 |false=>
  rw[c3,bV,aQ] at fin
  simp(maxSteps:=9^7)-dsimp only[go_sem,aD]
  exact fin v0 _ _ rfl
 |true=>
 rw[c3,bN,aI] at fin
 cases c4:lN s (sN n) v != 0 with
 |true=>
  rw[c4,aQ] at fin
  simp(maxSteps:=9^7)-dsimp only[go_sem,aD,k1,k2,k4,k5,k6,s1,s2,c4]
  exact fin v0 _ _ rfl
 |false=>
 rw[c4,aI] at fin
 cases c5:l0 s m n with
 |false=>
  rw[c5,bV,aQ] at fin
  simp(maxSteps:=9^7)-dsimp only[go_sem,aD,k1,k2,k4,k5,k6,s1,s2,m1,m2,c4,c5]
  exact fin v0 _ _ rfl
 |true=>
 rw[c5,bN,aI] at fin
 simp(maxSteps:=9^7)-dsimp only[go_sem,aD,k1,k2,k4,k5,k6,s1,s2,m1,m2,c4,c5]
 refine Z4 (s:=m) hm hn hv ?_
 simp(maxSteps:=9^7)-dsimp only[go_sem]
 exact fin _ _ _ rfl
def HO:PC:=.seq (.gh (.reg [.n 29 3 3,.n 30 2 8,.n 31 5 5,.u 32 27 [lB,oO,pV],.v 11 32])) (.seq (.S [.v 33 11,.q 34 (.lnS mJ),.h 35 .gtr 34 2000] (.I 35 (.R [.q 6 (.mv d8),.c 7 3]))) (.R [.v 36 11,.v 6 36,.c 7 0]))
@[go_sem ↓] theorem bAU:a7 HO:=a8 _
def HG:PC:=.seq (.seq (.gh (.ord [.q (.n 21 3 3),.q (.v 22 1),.q (.n 24 5 5),.m (.j 23 26 [jO]),.rc (.n 21 3 3),.rc (.n 24 5 5),.m (.u 25 17 [hJ,jP,kQ]),.m (.v 10 25)])) (.S [.v 26 10,.h 27 .neq 26 0] (.I 27 (.R [.v 28 10,.q 6 (.mv d8),.v 7 28])))) HO
@[go_sem ↓] theorem a60:a7 HG:=a8 _
def yH:PC:=.seq (.seq (.gh (.reg [.v 18 9,.h 19 .neq 18 0])) (.I 19 (.R [.v 20 9,.q 6 (.mv d8),.v 7 20]))) HG
@[go_sem ↓] theorem a9E:a7 yH:=a8 _
def aQV:PC:=.S [.z 3 25 0,.z 5 29 2,.q 6 (.mv d8),.c 7 0] (.S [.n 13 3 3,.v 14 1,.j 15 25 [kW,oL],.v 12 15,.y 16 12 0,.y 17 12 1,.A 8 #[(.string (mk [])),(.slice none 0 0)] 50,.w 2 8 16,.v 9 17] yH)
def aXB:List RV:=[.mv (.t 6),.mv (.t 7)]
theorem a58:aU Tryz.prog true ⟨fun r k=>if r=4/\k=4 then .q else if r=7/\k=3 then .q else .own [],fun r=>[2,4,7].contains r⟩ Tryz.f10=some (aQV,aXB):=by kernel_rfl
def SZ:PC:=.seq (.gh (.reg [.n 24 3 3,.n 25 2 8,.v 26 2,.j 27 28 [kQ,kI,j7],.y 28 27 0,.y 29 27 1,.w 5 6 28,.v 7 29])) .ret
@[go_sem ↓] theorem a8A:a7 SZ:=a8 _
def xN:PC:=.seq (.seq (.gh (.reg [.v 16 9,.h 17 .neq 16 0])) (.I 17 (.R [.q 18 (.bd [(.int .i64 0),(.int .i64 0),(.string (mk [])),(.slice none 0 0),(.slice none 0 0)] []),.v 19 9,.w 5 6 18,.v 7 19]))) (.seq (.S [.v 20 2,.q 21 (.lnS jS),.h 22 .gtr 21 2000] (.I 22 (.R [.q 23 (.bd [(.int .i64 0),(.int .i64 0),(.string (mk [])),(.slice none 0 0),(.slice none 0 0)] []),.w 5 6 23,.c 7 3]))) SZ)
@[go_sem ↓] theorem a78:a7 xN:=a8 _
def aUY:PC:=.S [.z 3 25 0,.A 6 gO 29,.c 7 0] (.S [.n 11 3 3,.v 12 1,.j 13 25 [kJ,kB],.v 10 13,.y 14 10 0,.y 15 10 1,.A 8 #[(.string (mk [])),(.slice none 0 0)] 50,.w 2 8 14,.v 9 15] xN)
def aQ4:List RV:=[.ld (.ldn 5 (.t 6)),.mv (.t 7)]
theorem a9Q:aU Tryz.prog true ⟨fun _ _=>.own [],fun r=>[2,6].contains r⟩ Tryz.f11=some (aUY,aQ4):=by kernel_rfl
def JI:PC:=.seq (.gh (.reg [.v 11 6,.h 12 .neq 11 0])) (.I 12 (.R [.q 13 (.bd [(.string (mk [])),(.slice none 0 0)] []),.v 14 6,.w 2 4 13,.v 5 14]))
@[go_sem ↓] theorem bAA:a7 JI:=a8 _
def HJ:PC:=.seq (.seq (.gh (.reg [.v 21 8,.t 22 21])) (.I 22 (.R [.q 23 (.bd [(.string (mk [])),(.slice none 0 0)] []),.w 2 4 23,.c 5 6]))) (.R [.n 24 2 7,.w 2 4 24,.c 5 0])
@[go_sem ↓] theorem a8C:a7 HJ:=a8 _
def S9:PC:=.seq (.gh (.reg [.n 16 3 2,.v 17 1,.j 18 16 [lC,mH],.v 15 18,.y 19 15 0,.y 20 15 1,.A 7 #[(.string (mk [])),(.slice none 0 0)] 50,.w 2 7 19,.v 8 20])) HJ
@[go_sem ↓] theorem a75:a7 S9:=a8 _
def aX4:PC:=.S [.z 2 25 0,.A 4 #[(.string (mk [])),(.slice none 0 0)] 50,.c 5 0] (.seq (.S [.n 9 3 2,.u 10 15 [iR],.v 6 10] JI) S9)
def aR8:List RV:=[.ld (.ldn 2 (.t 4)),.mv (.t 5)]
theorem bAD:aU Tryz.prog true ⟨fun r k=>if r=1/\k=1 then .q else .own [],fun r=>[2,4,5].contains r⟩ Tryz.f25=some (aX4,aR8):=by kernel_rfl
def aUU:PC:=.S [.A 2 #[(.int .i64 0),(.int .i64 0),(.string (mk [])),(.slice none 0 0)] 45] (.R [.v 3 0,.q 4 (.bd [(.int .i64 0),(.int .i64 0),(.string (mk [])),(.slice none 0 0)] [(0,1,(.i 6)),(2,1,lW)]),.w 4 2 4])
def aW9:List RV:=[.ld (.ldn 4 (.t 2))]
theorem bAJ:aU Tryz.prog true ⟨fun _ _=>.own [],fun _=>false⟩ Tryz.f26=some (aUU,aW9):=by kernel_rfl
def JC:PC:=.gh (.reg [.v 41 7,.f 42 0 9,.r 43 42,.q 44 (.cvt .u64 mM),.u 45 65 [m7],.n 46 3 3,.f 47 2 9,.n 48 4 47,.n 49 5 10,.u 50 67 [p7,r8,pX],.u 51 66 [oP],.k 52 .add 45 51,.k 53 .add 41 52,.v 7 53])
@[go_sem ↓] theorem a9L:a7 JC:=a8 _
def B7:PC:=.seq (.seq (.gh (.ord [.q (.v 26 11),.q (.t 27 26),.q (.v 28 27),.q ⟨some 29,(some (28,false)),.q (.fa 6 iR)⟩,.q ⟨some 30,(some (28,false)),.l (.ld1 lB)⟩,.q ⟨some 31,(some (28,false)),.q (.not oO)⟩,.q ⟨some 32,(some (28,false)),.q (.mv pV)⟩,.q ⟨some 33,(some (32,true)),.l (.ldn 5 jK)⟩,.q ⟨some 34,(some (32,true)),.l (.ldn 3 lW)⟩,.q ⟨some 35,(some (32,true)),.q (.fa 2 iR)⟩,.q ⟨some 36,(some (32,true)),.l (.ldn 4 qG)⟩,.m ⟨some 37,(some (32,true)),.cl 64 [rZ,kX] []⟩,.rc ⟨some 33,(some (32,true)),.l (.ldn 5 jK)⟩,.m ⟨some 38,(some (32,true)),.cq 63 [mJ,mI]⟩,.q ⟨some 39,(some (28,false)),.pick qA mL (.k (.bool false))⟩,.q (.o 40 28 39)])) (.I 40 (.exit 1))) JC
@[go_sem ↓] theorem a6S:a7 B7:=a8 _
def aR5:PC:=.S [.z 3 25 0,.z 4 50 1,.z 5 29 2,.q 6 (.mv d8)] (.S [.q 7 (.mv d8)] (.seq (.S [.f 12 1 4,.r 13 12,.m 14 13,.c 15 0] (.L 0 16 15 14 1 54 (.S [.x 17 7 13 15,.n 18 7 17,.A 9 #[(.int .i64 0),(.string (mk [])),(.int .i64 0),(.int .i64 0),(.string (mk [])),(.slice none 0 0),(.bool false)] 47,.w 7 9 18] (.S [.n 20 5 5,.f 21 0 9,.r 22 21,.j 23 62 [jS,jO],.v 19 23,.y 24 19 0,.y 25 19 1,.A 10 gO 29,.w 5 10 24,.v 11 25] B7)))) (.R [.v 55 7,.v 6 55])))
def aYD:List RV:=[.mv (.t 6)]
theorem a7C:aU Tryz.prog true ⟨fun r k=>if r=6/\k=12 then .q else if r=7/\k=4 then .q else if r=7/\k=9 then .q else if r=7/\k=10 then .q else .own [],fun r=>[6,7].contains r⟩ Tryz.f27=some (aR5,aYD):=by kernel_rfl
def o8:List OJ:=[.rc ⟨some 64,(some (63,true)),.l (.ldn 5 (.t 15))⟩,.m ⟨some 69,(some (63,true)),.cq 63 [(.t 64),(.t 68)]⟩,.q (.a 70 (.pick (.t 63) (.t 69) (.k (.bool false)))),.q (.v 71 70),.q ⟨some 72,(some (71,true)),.q (.fa 2 (.t 13))⟩,.q ⟨some 73,(some (71,true)),.q (.fa 0 (.t 72))⟩,.q ⟨some 74,(some (71,true)),.l (.ld1 (.t 73))⟩,.q ⟨some 75,(some (71,true)),.q (.bin .neq true (.t 74) (.i 6))⟩,.q ⟨some 76,(some (71,true)),.q (.mv (.t 75))⟩,.q ⟨some 77,(some (76,false)),.q (.fa 1 (.t 10))⟩,.q ⟨some 78,(some (76,false)),.l (.ld1 (.t 77))⟩,.q ⟨some 79,(some (76,false)),.q (.bin .eql true (.t 78) (.k (.string (mk []))))⟩,.q ⟨some 80,(some (71,true)),.pick (.t 76) (.k (.bool true)) (.t 79)⟩,.q (.a 81 (.pick (.t 71) (.t 80) (.k (.bool false))))]
def y5:PC:=.gh (.reg [.v 86 8,.f 87 0 10,.r 88 87,.n 89 5 15,.s (.mu (.int .i64) (.t 86) (.t 88) (.t 89))])
@[go_sem ↓] theorem a4N:a7 y5:=a8 _
def pK:PC:=.seq (.seq (.gh (.reg [.v 82 12,.h 83 .neq 82 0])) (.I 83 (.R [.q 84 (.bd [(.int .i64 0),(.int .i64 0),(.string (mk [])),(.slice none 0 0),(.slice none 0 0)] []),.v 85 12,.w 5 6 84,.v 7 85]))) y5
@[go_sem ↓] theorem a3M:a7 pK:=a8 _
def y7:PC:=.seq (.seq (.gh (.ord (.q (.v 56 12)::.q (.h 57 .eql 56 0)::.q (.v 58 57)::.q ⟨some 59,(some (58,true)),.q (.fa 6 kW)⟩::.q ⟨some 60,(some (58,true)),.l (.ld1 rR)⟩::.q ⟨some 61,(some (58,true)),.q (.not sA)⟩::.q (.p 62 58 61)::.q (.v 63 62)::.q ⟨some 64,(some (63,true)),.l (.ldn 5 jR)⟩::.q ⟨some 65,(some (63,true)),.l (.ldn 3 lW)⟩::.q ⟨some 66,(some (63,true)),.q (.fa 2 kW)⟩::.q ⟨some 67,(some (63,true)),.l (.ldn 4 (.t 66))⟩::.m ⟨some 68,(some (63,true)),.cl 64 [wG,AU] []⟩::o8))) (.I 81 (.reg [.c 12 2]))) pK
@[go_sem ↓] theorem a3D:a7 y7:=a8 _
def L4:PC:=.seq (.gh (.reg [.n 48 3 3,.f 49 2 13,.n 50 4 49,.f 51 1 10,.r 52 51,.j 53 70 [r8,oP,pU],.v 47 53,.y 54 47 0,.y 55 47 1,.A 15 gO 29,.w 5 15 54,.v 12 55])) y7
@[go_sem ↓] theorem a3Z:a7 L4:=a8 _
def HF:PC:=.seq (.seq (.gh (.reg [.v 45 14,.t 46 45])) (.I 46 (.exit 1))) L4
@[go_sem ↓] theorem bAK:a7 HF:=a8 _
def TW:PC:=.seq (.gh (.reg [.n 39 2 4,.f 40 0 10,.r 41 40,.j 42 69 [kY,nB],.v 38 42,.y 43 38 0,.y 44 38 1,.A 13 #[(.int .i64 0),(.string (mk [])),(.int .i64 0),(.int .i64 0),(.string (mk [])),(.slice none 0 0),(.bool false)] 47,.w 7 13 43,.v 14 44])) HF
@[go_sem ↓] theorem a9D:a7 TW:=a8 _
def S7:PC:=.seq (.gh (.reg [.f 35 0 10,.r 36 35,.v 37 11,.v 9 36,.v 2 37])) TW
@[go_sem ↓] theorem a6V:a7 S7:=a8 _
def IN:PC:=.seq (.seq (.gh (.reg [.v 31 12,.h 32 .neq 31 0])) (.I 32 (.R [.q 33 (.bd [(.int .i64 0),(.int .i64 0),(.string (mk [])),(.slice none 0 0),(.slice none 0 0)] []),.v 34 12,.w 5 6 33,.v 7 34]))) S7
@[go_sem ↓] theorem a59:a7 IN:=a8 _
def R6:PC:=.seq (.gh (.reg [.v 25 2,.v 26 9,.j 27 68 [kI,j7],.v 24 27,.y 28 24 0,.y 29 24 1,.y 30 24 2,.A 10 #[(.int .i64 0),(.string (mk []))] 117,.w 2 10 28,.v 11 29,.v 12 30])) IN
@[go_sem ↓] theorem a73:a7 R6:=a8 _
def KY:PC:=.gh (.reg [.n 113 3 3,.f 114 2 18,.n 115 4 114,.j 116 64 [(.t 113),(.t 115)],.w 5 19 116])
@[go_sem ↓] theorem a3T:a7 KY:=a8 _
def EV:PC:=.gh (.reg [.f 117 4 16,.r 118 117,.f 119 0 18,.r 120 119,.n 121 5 19,.q 122 (.bd [(.int .i64 0),(.int .i64 0),(.int .i64 0),(.string (mk [])),(.slice none 0 0),(.slice none 0 0)] [(0,1,(.t 120)),(1,5,(.t 121))]),.e 123 (.bsl 42 6 [(.t 122)]),.e 124 (.ap 42 6 88 (.t 118) (.t 123)),.f 125 4 16,.w 1 125 124])
@[go_sem ↓] theorem a3V:a7 EV:=a8 _
def EP:PC:=.seq (.seq (.gh (.reg [.v 111 20,.t 112 111])) (.I 112 KY)) EV
@[go_sem ↓] theorem a4R:a7 EP:=a8 _
def yT:PC:=.seq (.seq (.gh (.reg [.v 105 20,.t 106 105,.v 107 106,.Y 108 107 (.f 6 18),.Y 109 107 (.r 108),.p 110 107 109])) (.I 110 (.exit 3))) EP
@[go_sem ↓] theorem a4G:a7 yT:=a8 _
def DS:PC:=.seq (.gh (.reg [.v 99 8,.f 100 0 18,.r 101 100,.l 102 (.lk (.int .i64) (.agg gO) true (.t 99) (.t 101)),.v 98 102,.y 103 98 0,.y 104 98 1,.A 19 gO 29,.w 5 19 103,.v 20 104])) yT
@[go_sem ↓] theorem a4K:a7 DS:=a8 _
def M0:PC:=.seq (.seq (.gh (.reg [.f 91 1 4,.r 92 91,.m 93 92,.c 94 0])) (.L 2 95 94 93 3 126 (.S [.x 96 7 92 94,.n 97 7 96,.A 18 #[(.int .i64 0),(.string (mk [])),(.int .i64 0),(.int .i64 0),(.string (mk [])),(.slice none 0 0),(.bool false)] 47,.w 7 18 97] DS))) (.R [.n 127 5 16,.w 5 6 127,.c 7 0])
@[go_sem ↓] theorem a5C:a7 M0:=a8 _
def KP:PC:=.seq (.gh (.reg [.q 90 (.bd [(.int .i64 0),(.int .i64 0),(.string (mk [])),(.slice none 0 0),(.slice none 0 0)] [(0,1,(.i 6))]),.A 16 gO 29,.w 5 16 90])) M0
@[go_sem ↓] theorem a4A:a7 KP:=a8 _
def aTG:PC:=.S [.z 3 25 0,.z 4 50 1,.A 6 gO 29,.c 7 0] (.S [.e 21 (.mm (.int .i64)),.v 8 21] (.S [.c 9 0] (.seq (.block 0 (.loop (.seq (.S [.v 22 2,.b 23 .neq jO d8] (.C 23 .skip (.exit 0))) (.block 1 R6)))) KP)))
def aTJ:List RV:=[.ld (.ldn 5 (.t 6)),.mv (.t 7)]
theorem a6Y:aU Tryz.prog true ⟨fun r k=>if r=11/\k=13 then .q else .own [],fun r=>[4,5,7,8,9,10,11,13,16,17,20,21,22,15,23,24].contains r⟩ Tryz.f28=some (aTG,aTJ):=by kernel_rfl
def MJ:PC:=.gh (.reg [.v 47 8,.n 48 5 10,.a 49 (.ca nJ [r8] [3,0,1])])
@[go_sem ↓] theorem a3Q:a7 MJ:=a8 _
def KU:PC:=.seq (.gh (.reg [.r 51 7,.v 6 51])) .ret
@[go_sem ↓] theorem a3G:a7 KU:=a8 _
def KN:PC:=.seq (.gh (.reg [.f 34 3 5,.r 35 34,.m 36 35,.q 37 (.cvt .u64 kX),.u 38 65 [mI],.e 7 (.al (.string (mk [])) 9),.w 1 7 38])) (.S [.q 39 (.mf 111 [iX,lW,(.t 4)]),.v 8 39] (.seq (.S [.f 40 3 5,.r 41 40,.m 42 41,.c 43 0] (.L 1 44 43 42 2 50 (.S [.x 45 5 41 43,.n 46 5 45,.A 10 gO 29,.w 5 10 46] MJ))) KU))
@[go_sem ↓] theorem a3S:a7 KN:=a8 _
def vB:PC:=.seq (.seq (.gh (.reg [.h 16 .eql 14 1,.v 15 16])) (.C 15 .skip (.S [.h 17 .eql 14 3,.v 15 17] (.C 15 .skip (.reg [.h 18 .eql 14 7,.v 15 18]))))) (.C 15 (.R [.f 19 1 5,.r 20 19,.q 21 (.cvt .u64 jS),.u 22 65 [hJ],.v 6 22]) (.S [.h 24 .eql 14 2,.v 23 24] (.C 23 (.R [.f 25 1 5,.r 26 25,.u 27 110 [j7],.v 6 27]) (.S [.h 29 .eql 14 4,.v 28 29] (.C 28 (.R [.f 30 2 5,.r 31 30,.v 6 31]) (.S [.h 33 .eql 14 5,.v 32 33] (.I 32 KN)))))))
@[go_sem ↓] theorem a7I:a7 vB:=a8 _
def L2:PC:=.seq (.gh (.reg [.n 59 3 3,.n 60 2 11,.n 61 5 5,.u 62 27 [rR,sA,tT],.v 6 62])) .ret
@[go_sem ↓] theorem a4L:a7 L2:=a8 _
def MH:PC:=.seq (.gh (.reg [.n 53 3 3,.f 54 2 4,.r 55 54,.j 56 16 [tV,tN],.v 52 56,.y 57 52 0,.y 58 52 1,.A 11 #[(.string (mk [])),(.slice none 0 0)] 50,.w 2 11 57,.v 12 58])) L2
@[go_sem ↓] theorem a42:a7 MH:=a8 _
def aRA:PC:=.S [.z 3 25 0,.z 4 45 1,.z 5 29 2,.q 6 (.mv d8)] (.seq (.S [.f 13 0 4,.r 14 13] (.block 0 vB)) MH)
def aV7:List RV:=[.mv (.t 6)]
theorem a9S:aU Tryz.prog true ⟨fun r k=>if r=5/\k=3 then .q else if r=7/\k=2 then .q else if r=11/\k=4 then .q else if r=16/\k=2 then .own [3,0,1] else if r=20/\k=3 then .q else .own [],fun r=>[2,11,18,19,20,16].contains r⟩ Tryz.f67=some (aRA,aV7):=by kernel_rfl
def TL:PC:=.seq (.gh (.reg [.v 38 7,.q 39 (.cvt .i64 mL),.v 40 10,.q 41 (.bd [(.int .i64 0),(.string (mk []))] [(0,1,kY),(1,1,nL)]),.v 42 8,.v 43 9,.w 2 4 41,.v 5 42,.v 6 43])) .ret
@[go_sem ↓] theorem a92:a7 TL:=a8 _
def aW0:PC:=.S [.A 4 #[(.int .i64 0),(.string (mk []))] 117,.q 5 (.mv d8),.c 6 0] (.S [.v 12 0,.j 13 112 [kB],.v 11 13,.y 14 11 0,.y 15 11 1,.y 16 11 2,.v 7 14,.v 8 15,.v 9 16] (.seq (.block 0 (.S [.v 18 9,.h 19 .neq 18 0,.v 17 19] (.C 17 (.R [.q 20 (.bd [(.int .i64 0),(.string (mk []))] []),.v 21 9,.w 2 4 20,.q 5 (.mv d8),.v 6 21]) (.S [.v 23 7,.b 24 .gtr jP (.k (.int .u64 2147483647)),.v 22 24] (.C 22 (.R [.q 25 (.bd [(.int .i64 0),(.string (mk []))] []),.w 2 4 25,.q 5 (.mv d8),.c 6 4]) (.S [.v 27 7,.q 28 (.cvt .i64 oN),.v 29 1,.k 30 .leq 28 29,.v 26 30] (.I 26 (.R [.q 31 (.bd [(.int .i64 0),(.string (mk []))] []),.w 2 4 31,.q 5 (.mv d8),.c 6 2])))))))) (.S [.v 33 8,.j 34 113 [mJ],.v 32 34,.y 35 32 0,.y 36 32 1,.y 37 32 2,.v 10 35,.v 8 36,.v 9 37] TL)))
def aUW:List RV:=[.ld (.ldn 2 (.t 4)),.mv (.t 5),.mv (.t 6)]
theorem a9C:aU Tryz.prog true ⟨fun _ _=>.own [],fun r=>[9].contains r⟩ Tryz.f68=some (aW0,aUW):=by kernel_rfl
def sR:PC:=.seq (.gh (.reg [.h 13 .eql 11 1,.v 12 13])) (.C 12 (.R [.v 14 2,.j 15 114 [oL],.y 16 15 0,.y 17 15 1,.w 5 6 16,.v 7 17]) (.seq (.S [.h 19 .eql 11 2,.v 18 19] (.C 18 .skip (.S [.h 20 .eql 11 3,.v 18 20] (.C 18 .skip (.reg [.h 21 .eql 11 7,.v 18 21]))))) (.C 18 (.R [.n 22 3 3,.n 23 4 4,.v 24 2,.j 25 115 [jO,jP,kQ],.y 26 25 0,.y 27 25 1,.w 5 6 26,.v 7 27]) (.S [.h 29 .eql 11 4,.v 28 29] (.C 28 (.seq (.S [.v 30 2,.q 31 (.lnS oO),.f 32 1 4,.r 33 32,.k 34 .gtr 31 33] (.I 34 (.R [.q 35 (.bd [(.int .i64 0),(.int .i64 0),(.string (mk [])),(.slice none 0 0),(.slice none 0 0)] []),.w 5 6 35,.c 7 3]))) (.R [.v 36 2,.q 37 (.bd [(.int .i64 0),(.int .i64 0),(.string (mk [])),(.slice none 0 0),(.slice none 0 0)] [(0,1,(.i 4)),(2,1,kX)]),.w 5 6 37,.c 7 0])) (.S [.h 39 .eql 11 5,.v 38 39] (.I 38 (.R [.n 40 3 3,.n 41 4 4,.v 42 2,.j 43 116 [nL,nB,tP],.y 44 43 0,.y 45 43 1,.w 5 6 44,.v 7 45]))))))))
@[go_sem ↓] theorem a8Z:a7 sR:=a8 _
def LZ:PC:=.seq (.gh (.reg [.n 53 3 3,.n 54 2 8,.v 55 2,.j 56 28 [tV,wN,tN],.y 57 56 0,.y 58 56 1,.w 5 6 57,.v 7 58])) .ret
@[go_sem ↓] theorem a44:a7 LZ:=a8 _
def K7:PC:=.seq (.gh (.reg [.n 47 3 3,.f 48 2 4,.r 49 48,.j 50 16 [nJ,pX],.v 46 50,.y 51 46 0,.y 52 46 1,.A 8 #[(.string (mk [])),(.slice none 0 0)] 50,.w 2 8 51,.v 9 52])) LZ
@[go_sem ↓] theorem a3E:a7 K7:=a8 _
def aYC:PC:=.S [.z 3 25 0,.z 4 45 1,.A 6 gO 29,.c 7 0] (.seq (.S [.f 10 0 4,.r 11 10] (.block 0 sR)) K7)
def aWU:List RV:=[.ld (.ldn 5 (.t 6)),.mv (.t 7)]
theorem a69:aU Tryz.prog true ⟨fun _ _=>.own [],fun r=>[2,14,15].contains r⟩ Tryz.f70=some (aYC,aWU):=by kernel_rfl
def aJ3:PC:=.S [.z 4 29 0] (.reg [.r 5 1,.n 6 3 2,.f 7 3 3,.r 8 7,.l 9 (.ia 4 rS gZ),.n 10 4 9,.n 11 5 4,.u 12 67 [jZ,jK,kJ],.u 13 66 [kB],.k 14 .add 5 13,.w 1 1 14])
def aID:List RV:=[]
theorem a2Y:aU Tryz.prog true ⟨fun r k=>if r=1/\k=7 then .q else if r=1/\k=8 then .q else .own [],fun _=>false⟩ Tryz.f111=some (aJ3,aID):=by kernel_rfl
def DT:PC:=.seq (.gh (.reg [.v 14 7,.h 15 .neq 14 0])) (.I 15 (.R [.v 16 7,.q 2 (.mv pZ),.q 3 (.mv d8),.v 4 16]))
@[go_sem ↓] theorem a4M:a7 DT:=a8 _
def K0:PC:=.seq (.gh (.ord [.q (.v 17 6),.q (.v 18 0),.q (.v 19 0),.q (.q 20 (.lnS gT)),.q (.v 21 5),.m (.a 22 (.cl 158 [hJ] [0])),.rc (.v 17 6),.rc (.v 18 0),.rc (.v 19 0),.rc (.q 20 (.lnS gT)),.q (.k 23 .sub 20 22),.q (.q 24 (.ss iV (some jP) none)),.m (.v 2 17),.rc (.v 18 0),.rc (.v 19 0),.rc (.q 20 (.lnS gT)),.rc (.k 23 .sub 20 22),.rc (.q 24 (.ss iV (some jP) none)),.m (.v 3 24),.m (.c 4 0)])) .ret
@[go_sem ↓] theorem a49:a7 K0:=a8 _
def MI:PC:=.seq (.seq (.gh (.reg [.v 12 5,.a 13 (.cl 157 [kB] [0]),.v 7 13])) DT) K0
@[go_sem ↓] theorem a3A:a7 MI:=a8 _
def KA:PC:=.seq (.gh (.reg [.v 10 5,.a 11 (.cl 156 [jK] [0]),.v 6 11])) MI
@[go_sem ↓] theorem a36:a7 KA:=a8 _
def aJT:PC:=.S [.q 2 (.mv pZ),.q 3 (.mv d8),.c 4 0] (.S [.v 8 0,.j 9 155 [rS],.v 5 9] KA)
def aMP:List RV:=[.mv (.t 2),.mv (.t 3),.mv (.t 4)]
theorem a1P:aU Tryz.prog true ⟨fun r k=>if r=2/\k=1 then .own [0] else if r=3/\k=1 then .own [0] else if r=6/\k=5 then .own [0] else .own [],fun r=>[2,3,4,6].contains r⟩ Tryz.f112=some (aJT,aMP):=by kernel_rfl
def yC:PC:=.seq (.seq (.gh (.reg [.v 12 4,.h 13 .neq 12 0])) (.I 13 (.R [.v 14 4,.q 2 (.mv d8),.q 3 (.mv d8),.v 4 14]))) (.seq (.S [.v 15 5,.v 16 0,.q 17 (.lnS lC),.q 18 (.cvt .u64 mH),.k 19 .gtr 15 18] (.I 19 (.R [.q 2 (.mv d8),.q 3 (.mv d8),.c 4 1]))) (.R [.v 20 0,.v 21 5,.q 22 (.ss jS none (some hJ)),.v 23 0,.v 24 5,.q 25 (.ss jP (some kQ) none),.v 2 22,.v 3 25,.c 4 0]))
@[go_sem ↓] theorem a3C:a7 yC:=a8 _
def aL6:PC:=.S [.q 2 (.mv d8),.q 3 (.mv d8),.c 4 0] (.S [.v 7 0,.j 8 112 [iX],.v 6 8,.y 9 6 0,.y 10 6 1,.y 11 6 2,.v 5 9,.v 0 10,.v 4 11] yC)
def aL5:List RV:=[.mv (.t 2),.mv (.t 3),.mv (.t 4)]
theorem a0I:aU Tryz.prog true ⟨fun _ _=>.own [],fun r=>[2].contains r⟩ Tryz.f113=some (aL6,aL5):=by kernel_rfl
def XV:PC:=.S [.A 2 gO 29,.c 3 0] (.seq (.block 0 (.S [.v 5 0,.b 6 .eql kM d8,.v 4 6] (.C 4 (.R [.q 7 (.bd [(.int .i64 0),(.int .i64 0),(.string (mk [])),(.slice none 0 0),(.slice none 0 0)] []),.w 5 2 7,.c 3 1]) (.S [.v 9 0,.a 10 (.ix iR gZ),.b 11 .gtr jK (.k (.int .u8 1)),.v 12 11,.N 13 12 (.v 0),.N 14 12 (.q (.lnS kW)),.N 15 12 (.h .gtr 14 1),.o 16 12 15,.v 8 16] (.I 8 (.R [.q 17 (.bd [(.int .i64 0),(.int .i64 0),(.string (mk [])),(.slice none 0 0),(.slice none 0 0)] []),.w 5 2 17,.c 3 2])))))) (.R [.v 18 0,.a 19 (.ix iV gZ),.q 20 (.cvt .i64 gT),.q 21 (.bd [(.int .i64 0),(.int .i64 0),(.string (mk [])),(.slice none 0 0),(.slice none 0 0)] [(0,1,lR),(1,1,jS)]),.w 5 2 21,.c 3 0]))
def X9:List RV:=[.ld (.ldn 5 (.t 2)),.mv (.t 3)]
theorem a2G:aU Tryz.prog true ⟨fun _ _=>.own [],fun _=>false⟩ Tryz.f114=some (XV,X9):=by kernel_rfl
def D0:PC:=.gh (.reg [.f 19 1 4,.r 20 19,.h 21 .eql 20 64,.v 22 21,.N 23 22 (.v 9),.N 24 22 (.f 1 4),.N 25 22 (.r 24),.N 26 22 (.h .sub 25 1),.N 27 22 (.b .shl (.i (-1)) j7),.N 28 22 (.k .geq 23 27),.N 29 22 (.v 28),.Y 30 29 (.v 9),.Y 31 29 (.f 1 4),.Y 32 29 (.r 31),.Y 33 29 (.h .sub 32 1),.Y 34 29 (.b .shl lR mJ),.Y 35 29 (.k .lss 30 34),.N 36 22 (.p 29 35),.o 37 22 36,.v 10 37])
@[go_sem ↓] theorem a3U:a7 D0:=a8 _
def zP:PC:=.gh (.reg [.v 48 10,.v 49 48,.Y 50 49 (.v 9),.Y 51 49 (.f 1 4),.Y 52 49 (.r 51),.Y 53 49 (.b .shl lR pU),.Y 54 49 (.k .lss 50 53),.p 55 49 54,.v 10 55])
@[go_sem ↓] theorem a2W:a7 zP:=a8 _
def zL:PC:=.gh (.reg [.v 56 10,.v 57 56,.Y 58 57 (.n 3 3),.Y 59 57 (.f 2 4),.Y 60 57 (.r 59),.Y 61 57 (.v 9),.Y 62 57 (.cq 160 [(.t 58),sA,tT]),.p 63 57 62,.v 10 63])
@[go_sem ↓] theorem aZY:a7 zL:=a8 _
def q9:PC:=.seq (.gh (.reg [.f 45 0 4,.r 46 45,.h 47 .eql 46 3])) (.C 47 zP zL)
@[go_sem ↓] theorem a0J:a7 q9:=a8 _
def LL:PC:=.seq (.gh (.reg [.v 42 11,.b 43 .and tP (.k (.int .u64 4294967295)),.q 44 (.cvt .i64 mM),.v 9 44])) q9
@[go_sem ↓] theorem a4W:a7 LL:=a8 _
def L1:PC:=.seq (.gh (.reg [.v 40 11,.b 41 .lss nL (.k (.int .u64 4294967296)),.v 10 41])) LL
@[go_sem ↓] theorem a4O:a7 L1:=a8 _
def zK:PC:=.seq (.gh (.reg [.v 77 10,.t 78 77,.v 76 78])) (.I 76 (.R [.q 79 (.bd [(.int .i64 0),(.int .i64 0),(.string (mk [])),(.slice none 0 0),(.slice none 0 0)] []),.w 5 6 79,.c 7 4]))
@[go_sem ↓] theorem aY0:a7 zK:=a8 _
def GF:PC:=.seq (.gh (.reg [.v 72 8,.a 73 (.cl 158 [AP] [3]),.h 74 .gtr 73 0,.v 71 74])) (.C 71 (.R [.q 75 (.bd [(.int .i64 0),(.int .i64 0),(.string (mk [])),(.slice none 0 0),(.slice none 0 0)] []),.w 5 6 75,.c 7 2]) zK)
@[go_sem ↓] theorem a0H:a7 GF:=a8 _
def pc115_13:PC:=.seq (.gh (.reg [.v 65 8,.a 66 (.cl 157 [wG] [3]),.h 67 .neq 66 0,.v 64 67])) (.C 64 (.R [.q 68 (.bd [(.int .i64 0),(.int .i64 0),(.string (mk [])),(.slice none 0 0),(.slice none 0 0)] []),.v 69 8,.a 70 (.cl 157 [v6] [3]),.w 5 6 68,.v 7 70]) GF)
@[go_sem ↓] theorem a21:a7 pc115_13:=a8 _
def vS:PC:=.seq (.gh (.reg [.f 80 0 4,.r 81 80,.v 82 9,.q 83 (.bd [(.int .i64 0),(.int .i64 0),(.string (mk [])),(.slice none 0 0),(.slice none 0 0)] [(0,1,(.t 81)),(1,1,(.t 82))]),.w 5 6 83,.c 7 0])) .ret
@[go_sem ↓] theorem a1J:a7 vS:=a8 _
def DZ:PC:=.seq (.seq (.gh (.reg [.f 14 0 4,.r 15 14,.h 16 .eql 15 2])) (.C 16 (.S [.v 17 8,.a 18 (.cl 159 [mH] [3]),.v 9 18] D0) (.S [.v 38 8,.a 39 (.cl 156 [mL] [3]),.v 11 39] L1))) (.seq (.block 0 pc115_13) vS)
@[go_sem ↓] theorem a47:a7 DZ:=a8 _
def K4:PC:=.seq (.gh (.reg [.T 10])) DZ
@[go_sem ↓] theorem a4V:a7 K4:=a8 _
def MX:PC:=.seq (.gh (.reg [.c 9 0])) K4
@[go_sem ↓] theorem a3L:a7 MX:=a8 _
def aKM:PC:=.S [.z 3 25 0,.z 4 45 1,.A 6 gO 29,.c 7 0] (.S [.v 12 2,.j 13 155 [kB],.v 8 13] MX)
def w3:List RV:=[.ld (.ldn 5 (.t 6)),.mv (.t 7)]
theorem a0F:aU Tryz.prog true ⟨fun r k=>if r=5/\k=1 then .own [3] else if r=7/\k=1 then .own [3] else if r=12/\k=6 then .q else if r=13/\k=1 then .own [3] else if r=14/\k=2 then .own [3] else if r=15/\k=1 then .own [3] else .own [],fun r=>[2,3,4,6,8,9,10,13,15,17,19,6,11,12].contains r⟩ Tryz.f115=some (aKM,w3):=by kernel_rfl
def F4:PC:=.seq (.gh (.reg [.f 59 3 10,.r 60 59,.n 61 5 14,.e 62 (.bsl 29 5 [tT]),.e 63 (.ap 29 5 80 sA (.t 62)),.f 64 3 10,.w 1 64 63])) (.reg [.v 65 12,.v 2 65])
@[go_sem ↓] theorem a1S:a7 F4:=a8 _
def zZ:PC:=.seq (.seq (.gh (.reg [.v 55 13,.h 56 .neq 55 0])) (.I 56 (.R [.q 57 (.bd [(.int .i64 0),(.int .i64 0),(.string (mk [])),(.slice none 0 0),(.slice none 0 0)] []),.v 58 13,.w 5 6 57,.v 7 58]))) F4
@[go_sem ↓] theorem a2A:a7 zZ:=a8 _
def F5:PC:=.seq (.gh (.ord [.q (.n 46 3 3),.q (.f 47 3 4),.q (.r 48 47),.q (.l 49 (.ia 4 r8 gZ)),.q (.n 50 4 49),.q (.v 51 11),.m (.j 52 70 [p7,oP,(.t 51)]),.q (.v 45 52),.q (.y 53 45 0),.q (.y 54 45 1),.m (.A 14 gO 29),.rc (.v 45 52),.rc (.y 53 45 0),.rc (.y 54 45 1),.m (.w 5 14 53),.rc (.y 54 45 1),.m (.v 13 54)])) zZ
@[go_sem ↓] theorem aZ5:a7 F5:=a8 _
def zN:PC:=.seq (.seq (.gh (.reg [.v 41 13,.h 42 .neq 41 0])) (.I 42 (.R [.q 43 (.bd [(.int .i64 0),(.int .i64 0),(.string (mk [])),(.slice none 0 0),(.slice none 0 0)] []),.v 44 13,.w 5 6 43,.v 7 44]))) F5
@[go_sem ↓] theorem a0Y:a7 zN:=a8 _
def LW:PC:=.seq (.gh (.reg [.v 36 2,.j 37 113 [kX],.v 35 37,.y 38 35 0,.y 39 35 1,.y 40 35 2,.v 11 38,.v 12 39,.v 13 40])) zN
@[go_sem ↓] theorem a38:a7 LW:=a8 _
def AD:PC:=.seq (.seq (.gh (.reg [.v 67 2,.b 68 .neq AU d8])) (.I 68 (.R [.q 69 (.bd [(.int .i64 0),(.int .i64 0),(.string (mk [])),(.slice none 0 0),(.slice none 0 0)] []),.w 5 6 69,.c 7 2]))) (.R [.n 70 5 10,.w 5 6 70,.c 7 0])
@[go_sem ↓] theorem a0K:a7 AD:=a8 _
def LM:PC:=.seq (.seq (.gh (.reg [.v 32 8,.q 33 (.mv pZ)])) (.block 0 (.loop (.S [.k 34 .lss 33 32] (.seq (.C 34 .skip (.exit 0)) (.seq (.block 1 LW) (.reg [.b 66 .add mJ O1,.v 33 66]))))))) AD
@[go_sem ↓] theorem a3H:a7 LM:=a8 _
def KQ:PC:=.seq (.gh (.reg [.q 31 (.bd [(.int .i64 0),(.int .i64 0),(.string (mk [])),(.slice none 0 0),(.slice none 0 0)] [(0,1,(.i 5))]),.A 10 gO 29,.w 5 10 31])) LM
@[go_sem ↓] theorem a3J:a7 KQ:=a8 _
def DW:PC:=.seq (.seq (.gh (.reg [.v 25 8,.f 26 1 4,.r 27 26,.q 28 (.cvt .u64 oN),.k 29 .gtr 25 28])) (.I 29 (.R [.q 30 (.bd [(.int .i64 0),(.int .i64 0),(.string (mk [])),(.slice none 0 0),(.slice none 0 0)] []),.w 5 6 30,.c 7 3]))) KQ
@[go_sem ↓] theorem a30:a7 DW:=a8 _
def EQ:PC:=.seq (.seq (.gh (.reg [.v 21 9,.h 22 .neq 21 0])) (.I 22 (.R [.q 23 (.bd [(.int .i64 0),(.int .i64 0),(.string (mk [])),(.slice none 0 0),(.slice none 0 0)] []),.v 24 9,.w 5 6 23,.v 7 24]))) DW
@[go_sem ↓] theorem a41:a7 EQ:=a8 _
def aJV:PC:=.S [.z 3 25 0,.z 4 45 1,.A 6 gO 29,.c 7 0] (.S [.v 16 2,.j 17 112 [lC],.v 15 17,.y 18 15 0,.y 19 15 1,.y 20 15 2,.v 8 18,.v 2 19,.v 9 20] EQ)
def aLA:List RV:=[.ld (.ldn 5 (.t 6)),.mv (.t 7)]
theorem aZW:aU Tryz.prog true ⟨fun _ _=>.own [],fun r=>[2,4,6,7,9,10,12,13,15,18].contains r⟩ Tryz.f116=some (aJV,aLA):=by kernel_rfl
def KC:PC:=.seq (.seq (.gh (.reg [.f 17 2 7,.r 18 17,.m 19 18,.c 20 0])) (.L 0 21 20 19 1 27 (.S [.x 22 1 18 20,.r 23 22,.v 10 23] (.S [.v 24 10,.v 25 2,.k 26 .eql 24 25] (.I 26 (.R [.T 6])))))) (.R [.F 6])
@[go_sem ↓] theorem a32:a7 KC:=a8 _
def aL9:PC:=.S [.z 3 25 0,.F 6] (.S [.n 12 3 3,.v 13 1,.j 14 33 [kB,kW],.v 11 14,.y 15 11 0,.y 16 11 1,.A 7 #[(.string (mk [])),(.slice none 0 0),(.slice none 0 0)] 70,.w 3 7 15,.v 8 16] KC)
def aIL:List RV:=[.mv (.t 6)]
theorem a0G:aU Tryz.prog true ⟨fun _ _=>.own [],fun r=>[2].contains r⟩ Tryz.f160=some (aL9,aIL):=by kernel_rfl
abbrev uA (n:Nat):A:=.c1 (.vl (.int .u64 n))
theorem aU3:∀x:Nat,x<256->IntKind.u8.wrap ((BitVec.ofInt IntKind.u8.bits (x:Int) &&& BitVec.ofInt IntKind.u8.bits 127).toNat:Int)=((x % 128:Nat):Int):=by decide +kernel
theorem aNE (c:UInt8):IntKind.u8.wrap ((BitVec.ofInt IntKind.u8.bits (c.toNat:Int) &&& BitVec.ofInt IntKind.u8.bits 127).toNat:Int)=((c.toNat % 128:Nat):Int):=aU3 _ c.toNat_lt
theorem A5 {n:Nat} (h:n<18446744073709551616):IntKind.u64.wrap (n:Int)=n:=by
 have h2:IntKind.u64.wrap (n:Int)=(n:Int) % 18446744073709551616:=by simp[IntKind.wrap,IntKind.signed,IntKind.bits]
 rw[h2];omega
theorem aVF {n m i:Nat} (hn:n<128 ^ i) (hs:n+m*128 ^ i<18446744073709551616) (hi:i<=9) :
 IntKind.u64.wrap ((BitVec.ofInt IntKind.u64.bits (n:Int) ||| BitVec.ofInt IntKind.u64.bits (IntKind.u64.wrap ((m:Int)*2 ^ (min ((7:Int)*(i:Int)).toNat 64)))).toNat:Int)=((n+m*128 ^ i:Nat):Int):=by
 have hb:IntKind.u64.bits=64:=rfl
 have e1:((7:Int)*(i:Int)).toNat=7*i:=by omega
 have e2:min (7*i) 64=7*i:=by omega
 have e3:(2:Nat) ^ (7*i)=128 ^ i:=by rw[Nat.pow_mul]
 have e4:(m:Int)*2 ^ (7*i)=((m*128 ^ i:Nat):Int):=by
  rw[<-e3];simp
 rw[hb,e1,e2,e4,A5 (n:=m*128 ^ i) (by omega)]
 have e5:(BitVec.ofInt 64 (n:Int)).toNat=n:=by
  rw[BitVec.ofInt_natCast,BitVec.toNat_ofNat];exact w7 (by omega)
 have e6:(BitVec.ofInt 64 ((m*128 ^ i:Nat):Int)).toNat=m*128 ^ i:=by
  rw[BitVec.ofInt_natCast,BitVec.toNat_ofNat];exact w7 (by omega)
 rw[BitVec.toNat_or,e5,e6]
 have e7:n ||| m*128 ^ i=n+m*128 ^ i:=by
  rw[Nat.or_comm,<-e3,<-Nat.shiftLeft_eq,<-Nat.shiftLeft_add_eq_or_of_lt (by rw[e3];exact hn),Nat.add_comm]
 rw[e7,A5 hs]
def aTU:W.Spec:=fun av H K=>∃x:ByteArray,av=[tS x]/\H=[]/\x.size<=9223372036854775807/\K (.tu [uA (vr (bl x)).1,iA .i64 (vr (bl x)).2.1,iA .i64 (vr (bl x)).2.2]) []
theorem aWG {x:ByteArray} {K:S->Hp->Prop} (h:x.size<=9223372036854775807) (hK:K (.tu [uA (vr (bl x)).1,iA .i64 (vr (bl x)).2.1,iA .i64 (vr (bl x)).2.2]) []):aTU [tS x] [] K:=⟨x,rfl,rfl,h,hK⟩
theorem aEL:Meets Tryz.prog 175 aTU:=by
 refine aF Tryz.func175 aZS 1 (by rw[Tryz.ntmps175];decide) (aB _) (fun av H K h=>by obtain ⟨_,rfl,_⟩:=h;rfl) ?_
 rintro av H K ⟨x,rfl,rfl,hx,hK⟩
 obtain ⟨l,rfl⟩:∃l,x=mk l:=⟨bl x,(qC x).symm⟩
 rw[jA,BG] at hx
 rw[BG] at hK
 have fin:∀(n k:Nat) (e:Int),vr l=(n,k,e)->W.Fin 0 K (.tu [uA n,iA .i64 k,iA .i64 e]) []:=fun n k e h=>by
  rw[h] at hK;exact .done hK
 clear hK
 simp(maxSteps:=9^7)-dsimp only[go_sem,aML,aLI]
 refine aO (α:=Nat×Nat) (fun z=>[(0,tS (mk l)),(5,iS .u64 z.2),(8,iS .i64 z.1)]) (fun _=>[])
  (fun z=>z.1<=9/\z.2<128 ^ z.1/\z.1<=l.length/\BU z.1 z.2 (l.drop z.1)=vr l) (fun z=>10-z.1) (0,0) 0 ⟨by decide,by decide,aP _,rfl⟩ ?_ ?_ ?_
 · simp -dsimp only[go_sem]<;>simp
 · simp[go_sem]
 rintro ⟨i,n⟩ ⟨hi,hn,hil,ho⟩
 simp only at hi hn hil ho ⊢
 have hg:decide ((i:Int)<10)=true:=by simp;omega
 rcases bB i l.length with hlt|hge
 · have hg2:((i:Int)==(l.length:Int))=false:=by simp;omega
   obtain ⟨c,hc⟩:∃c,l[i]? = some c:=⟨_,aX hlt⟩
   have hd:l.drop i=c::l.drop (i+1):=by
    obtain ⟨h,rfl⟩:=bT.1 hc
    exact cG h
   rw[hd,A1] at ho
   have e9:((i:Int)==9)=(i==9):=by rw[fH];simp;omega
   have e1:decide ((1:Int)<(c.toNat:Int))=decide (1<c.toNat):=by rw[fH];simp;omega
   have e128:decide ((128:Int)<=(c.toNat:Int))=decide (128<=c.toNat):=by rw[fH];simp;omega
   have e0:((c.toNat:Int)==0)=(c.toNat==0):=by rw[fH];simp
   have ei:decide ((0:Int)<(i:Int))=decide (0<i):=by rw[fH];simp
   have hc256:=c.toNat_lt
   cases c1:i==9&&decide (1<c.toNat) with
   |true=>
    rw[c1] at ho
    rw[bI] at c1
    simp(maxSteps:=9^7)-dsimp only[go_sem,hg,hg2,hc,aM,forall_eq',e9,e1,c1.1,c1.2]
    exact ⟨by omega,fin 0 0 2 ho.symm⟩
   |false=>
    rw[c1,aI] at ho
    have key:n+c.toNat % 128*128 ^ i<18446744073709551616:=by
     rcases bB i 9 with h9|h9
     · have h1:128 ^ (i+1)<=128 ^ 9:=Nat.pow_le_pow_right (by decide) (by omega)
       have h2:c.toNat % 128*128 ^ i<=127*128 ^ i:=gD _ (by omega)
       have h3:(128:Nat) ^ 9=9223372036854775808:=by decide
       have h4:128 ^ (i+1)=128*128 ^ i:=by rw[DC,qO]
       omega
     · obtain rfl:i=9:=by omega
       rw[show ((9:Nat)==9)=true from rfl,bF] at c1
       have h1:=gL c1
       have h3:(128:Nat) ^ 9=9223372036854775808:=by decide
       rw[h3] at hn ⊢
       have:c.toNat % 128<=1:=by omega
       have h2:c.toNat % 128*9223372036854775808<=1*9223372036854775808:=gD _ this
       omega
    have hos:=aVF hn key hi
    have c1':((i==9)=false\/decide (1<c.toNat)=false):=by rw[Bool.and_eq_false_iff] at c1;exact c1
    have g9:∀(P Q:Prop),(((bif i==9 then decide (1<c.toNat) else false)=true->P)/\((bif i==9 then decide (1<c.toNat) else false)=false->Q))=Q:=fun P Q=>by
     have:(bif i==9 then decide (1<c.toNat) else false)=false:=by rw[S1];exact c1
     rw[this];simp
    simp(maxSteps:=9^7)-dsimp only[go_sem,hg,hg2,hc,aM,forall_eq',e9,e1,c1,aNE,e128,e0,ei]
    have hw:IntKind.u64.wrap ((c.toNat % 128:Nat):Int)=((c.toNat % 128:Nat):Int):=A5 (by omega)
    simp only[hw,hos]
    refine ⟨by omega,by omega,by omega,fun h1=>?_,fun h1=>⟨fun h2=>?_,fun h2=>?_⟩⟩
    · rw[h1,aQ] at ho
      have h128:=iO h1
      have hi9:i≠9:=fun e=>by
       subst e
       rcases c1' with h|h
       · cases h
       · have:=gL h;omega
      have hm:c.toNat % 128*128 ^ i<=127*128 ^ i:=gD _ (by omega)
      have hp:128 ^ (i+1)=128*128 ^ i:=by rw[DC,qO]
      refine ⟨by omega,aC (i+1,n+c.toNat % 128*128 ^ i) 0 ⟨by simp only;omega,by simp only;rw[hp];omega,by simp only;omega,ho⟩ (by simp only;omega) ?_ ?_⟩
      · simp -dsimp only[go_sem,hw,hos]<;>simp[hw,hos]
      · simp[go_sem]
    · rw[h1,aI,h2,aQ] at ho
      exact fin 0 0 2 ho.symm
    · rw[h1,aI,h2,aI] at ho
      refine ⟨by omega,fin (n+c.toNat % 128*128 ^ i) (i+1) 0 ho.symm⟩
 · have hg2:((i:Int)==(l.length:Int))=true:=by simp;omega
   have hd:l.drop i=[]:=iD.2 hge
   rw[hd,VH] at ho
   simp(maxSteps:=9^7)-dsimp only[go_sem,hg,hg2]
   exact fin 0 0 1 ho.symm
def g4 (x:List UInt8) (a:Nat) (e:Int):List C:=[.vl (.string (mk x)),.vl (.int .i64 a),.vl (.int .i64 e)]
abbrev mT (x:List UInt8) (a:Nat) (e:Int):B:=.cells (g4 x a e) 208
abbrev NN (n:Nat):B:=.cells [.vl (.int .u64 n)] 112
def Y1:W.Spec:=fun av H K=>∃x:List UInt8,av=[tS (mk x)]/\H=[]/\K (.va (.c1 (.pt 0 0))) [mT x 0 0]
theorem aCV {x:List UInt8} {K:S->Hp->Prop} (hK:K (.va (.c1 (.pt 0 0))) [mT x 0 0]):Y1 [tS (mk x)] [] K:=⟨x,rfl,rfl,hK⟩
theorem JF:Meets Tryz.prog 155 Y1:=by
 refine aF Tryz.func155 a23 1 (by rw[Tryz.ntmps155];decide) (aB _) (fun av H K h=>by obtain ⟨_,rfl,_⟩:=h;rfl) ?_
 rintro av H K ⟨x,rfl,rfl,hK⟩
 simp(maxSteps:=9^7)-dsimp only[go_sem,aKC,aJO]
 exact .done hK
def PL:W.Spec:=fun av H K=>∃(x:List UInt8) (a:Nat) (e:Int),av=[.va (.c1 (.pt 0 0))]/\H=[mT x a e]/\K (iS .i64 e) [mT x a e]
theorem KX {x:List UInt8} {a:Nat} {e:Int} {K:S->Hp->Prop} (hK:K (iS .i64 e) [mT x a e]):PL [.va (.c1 (.pt 0 0))] [mT x a e] K:=⟨x,a,e,rfl,rfl,hK⟩
theorem aXP:Meets Tryz.prog 157 PL:=by
 refine aF Tryz.func157 a2V 1 (by rw[Tryz.ntmps157];decide) (aB _) (fun av H K h=>by obtain ⟨_,_,_,rfl,_⟩:=h;rfl) ?_
 rintro av H K ⟨x,a,e,rfl,rfl,hK⟩
 simp(maxSteps:=9^7)-dsimp only[go_sem,g4,aIJ,aMA]
 exact .done hK
def PH:W.Spec:=fun av H K=>∃(x:List UInt8) (a:Nat) (e:Int),av=[.va (.c1 (.pt 0 0))]/\H=[mT x a e]/\a<=x.length/\x.length<=9223372036854775807/\K (iS .i64 ((x.length:Int)-a)) [mT x a e]
theorem W2 {x:List UInt8} {a:Nat} {e:Int} {K:S->Hp->Prop} (h1:a<=x.length) (h2:x.length<=9223372036854775807) (hK:K (iS .i64 ((x.length:Int)-a)) [mT x a e]):PH [.va (.c1 (.pt 0 0))] [mT x a e] K:=⟨x,a,e,rfl,rfl,h1,h2,hK⟩
theorem aH5:Meets Tryz.prog 158 PH:=by
 refine aF Tryz.func158 a2M 1 (by rw[Tryz.ntmps158];decide) (aB _) (fun av H K h=>by obtain ⟨_,_,_,rfl,_⟩:=h;rfl) ?_
 rintro av H K ⟨x,a,e,rfl,rfl,h1,h2,hK⟩
 simp(maxSteps:=9^7)-dsimp only[go_sem,g4,aNB,aMO]
 exact ⟨by omega,.done hK⟩
def aVV:W.Spec:=fun av H K=>∃(x:List UInt8) (m:Nat),av=[tS (mk x),.va (.c1 (.pt 0 0))]/\H=[NN m]/\x.length<=9223372036854775807/\K (.tu [iA .i64 (vr x).2.1,iA .i64 (vr x).2.2]) [NN (vr x).1]
theorem aVW {x:List UInt8} {m:Nat} {K:S->Hp->Prop} (h:x.length<=9223372036854775807) (hK:K (.tu [iA .i64 (vr x).2.1,iA .i64 (vr x).2.2]) [NN (vr x).1]):aVV [tS (mk x),.va (.c1 (.pt 0 0))] [NN m] K:=⟨x,m,rfl,rfl,h,hK⟩
theorem aTH:Meets Tryz.prog 174 aVV:=by
 refine aF Tryz.func174 a1R 2 (by rw[Tryz.ntmps174];decide) (aE aEL (aB _)) (fun av H K h=>by obtain ⟨_,_,rfl,_⟩:=h;rfl) ?_
 rintro av H K ⟨x,m,rfl,rfl,h,hK⟩
 simp(maxSteps:=9^7)-dsimp only[go_sem,aIS,aLM]
 refine aWG (by rw[jA,BG];exact h) ?_
 rw[BG]
 simp(maxSteps:=9^7)-dsimp only[go_sem]
 refine aH rfl (.done ?_)
 simp(maxSteps:=9^7)-dsimp only[go_sem,MP]
 exact .done hK
def aJ1:W.Spec:=fun av H K=>∃(x:List UInt8) (m:Nat),av=[.va (.c1 (.pt 0 0)),.va (.c1 (.fn 174 [(false,[.pt 1 0])]))]/\H=[mT x 0 0,NN m]/\x.length<=9223372036854775807/\K (.tu []) [mT x (vr x).2.1 (vr x).2.2,NN (vr x).1]
theorem aPZ {x:List UInt8} {m:Nat} {K:S->Hp->Prop} (h:x.length<=9223372036854775807) (hK:K (.tu []) [mT x (vr x).2.1 (vr x).2.2,NN (vr x).1]):aJ1 [.va (.c1 (.pt 0 0)),.va (.c1 (.fn 174 [(false,[.pt 1 0])]))] [mT x 0 0,NN m] K:=⟨x,m,rfl,rfl,h,hK⟩
theorem aV1:Meets Tryz.prog 173 aJ1:=by
 refine aF Tryz.func173 aZ1 2 (by rw[Tryz.ntmps173];decide) (aE aTH (aB _)) (fun av H K h=>by obtain ⟨_,_,rfl,_⟩:=h;rfl) ?_
 rintro av H K ⟨x,m,rfl,rfl,h,hK⟩
 simp(maxSteps:=9^7)-dsimp only[go_sem,g4,aMU,aMJ,bne_self_eq_false]
 refine aH rfl (.done ?_)
 have z0:(0:Int)<=((0:Nat):Int):=by decide
 have z1:((0:Nat):Int)<=(x.length:Int):=by omega
 simp(maxSteps:=9^7)-dsimp only[go_sem,g4,KS,eC,zA,z0,z1]
 refine ⟨by omega,aVW h ?_⟩
 simp(maxSteps:=9^7)-dsimp only[go_sem]
 refine aH rfl (.done ?_)
 rcases D5 x with ⟨h0,h1,h2,_⟩|⟨h0,h1,h2,h3,_,_⟩
 · have hne:((vr x).2.2 != 0)=true:=by simpa using h0
   rw[h1,h2] at hK ⊢
   simp(maxSteps:=9^7)-dsimp only[go_sem,g4,DU,hne]
   exact .done hK
 · rw[h0] at hK ⊢
   simp(maxSteps:=9^7)-dsimp only[go_sem,g4,DU,bne_self_eq_false]
   refine ⟨by omega,.done ?_⟩
   rw[show ((0:Nat):Int)+((vr x).2.1:Int)=((vr x).2.1:Int) by omega]
   exact hK
def YP:W.Spec:=fun av H K=>∃x:List UInt8,av=[.va (.c1 (.pt 0 0))]/\H=[mT x 0 0]/\x.length<=9223372036854775807/\K (iS .u64 (vr x).1) [mT x (vr x).2.1 (vr x).2.2]
theorem S2 {x:List UInt8} {K:S->Hp->Prop} (h:x.length<=9223372036854775807) (hK:K (iS .u64 (vr x).1) [mT x (vr x).2.1 (vr x).2.2]):YP [.va (.c1 (.pt 0 0))] [mT x 0 0] K:=⟨x,rfl,rfl,h,hK⟩
theorem RJ:Meets Tryz.prog 156 YP:=by
 refine aF Tryz.func156 a2X 1 (by rw[Tryz.ntmps156];decide) (aE aV1 (aB _)) (fun av H K h=>by obtain ⟨_,rfl,_⟩:=h;rfl) ?_
 rintro av H K ⟨x,rfl,rfl,h,hK⟩
 simp(maxSteps:=9^7)-dsimp only[go_sem,aLG,aJQ]
 refine aH rfl (.done ?_)
 simp(maxSteps:=9^7)-dsimp only[go_sem,J5]
 refine aPZ (m:=0) h ?_
 simp(maxSteps:=9^7)-dsimp only[go_sem]
 refine aH rfl (.done ?_)
 simp(maxSteps:=9^7)-dsimp only[go_sem,J3]
 refine .sel [0] (by simp) (by simp) rfl (.done ?_)
 simp -dsimp only[go_sem,g4]
 exact hK
theorem a7T (n:Nat):IntKind.u64.wrap ((BitVec.ofInt IntKind.u64.bits (n:Int) &&& BitVec.ofInt IntKind.u64.bits 1).toNat:Int)=((n % 2:Nat):Int):=by
 have hb:IntKind.u64.bits=64:=rfl
 have e:(BitVec.ofInt 64 (n:Int) &&& BitVec.ofInt 64 1).toNat=n % 2:=by
  rw[BitVec.toNat_and,BitVec.ofInt_natCast,BitVec.toNat_ofNat,show (BitVec.ofInt 64 1).toNat=1 from rfl,Nat.and_one_is_mod]
  omega
 rw[hb,e,A5 (by omega)]
theorem MM {n:Int} (h:cB n):IntKind.i64.wrap n=n:=by
 unfold cB at h
 exact AC (aL2 h.1 h.2)
theorem aG6 (n:Nat) (h:n<18446744073709551616):IntKind.i64.wrap (n:Int)=if n<9223372036854775808 then (n:Int) else (n:Int)-18446744073709551616:=by
 simp[IntKind.wrap,IntKind.signed,IntKind.bits]
 split<;>omega
theorem aS3 {n:Nat} (h:n<18446744073709551616):IntKind.i64.wrap ((BitVec.ofInt IntKind.i64.bits (IntKind.i64.wrap ((n:Int).fdiv (2 ^ min 1 64))) ^^^ BitVec.ofInt IntKind.i64.bits (IntKind.i64.wrap (0-IntKind.i64.wrap ((n % 2:Nat):Int)))).toNat:Int)=CE n:=by
 have hb:IntKind.i64.bits=64:=rfl
 have e1:(n:Int).fdiv (2 ^ min 1 64)=((n / 2:Nat):Int):=by
  rw[show (2:Int) ^ min 1 64=2 from rfl,aD4 _ (by decide)];omega
 have e2:IntKind.i64.wrap ((n / 2:Nat):Int)=((n / 2:Nat):Int):=MM ⟨by omega,by omega⟩
 have e3:IntKind.i64.wrap ((n % 2:Nat):Int)=((n % 2:Nat):Int):=MM ⟨by omega,by omega⟩
 have e4:IntKind.i64.wrap (0-((n % 2:Nat):Int))=0-((n % 2:Nat):Int):=MM ⟨by omega,by omega⟩
 rw[hb,e1,e2,e3,e4]
 have e5:BitVec.ofInt 64 ((n / 2:Nat):Int)=BitVec.ofNat 64 (n / 2):=BitVec.ofInt_natCast ..
 rw[e5]
 unfold CE
 rcases Nat.mod_two_eq_zero_or_one n with h0|h0
 · rw[h0,if_neg (by decide),show (0:Int)-((0:Nat):Int)=0 from rfl,show BitVec.ofInt 64 0=0#64 from rfl,BitVec.xor_zero,BitVec.toNat_ofNat,w7 (by omega)]
   exact e2
 · rw[h0,if_pos rfl,show (0:Int)-((1:Nat):Int)=-1 from rfl,show BitVec.ofInt 64 (-1)=BitVec.allOnes 64 from rfl,BitVec.xor_allOnes,BitVec.toNat_not,BitVec.toNat_ofNat,w7 (show n / 2<2 ^ 64 by omega),aG6 _ (by omega)]
   rw[if_neg (by omega)]
   omega
theorem aQ6 {n:Int} (h:cB n):IntKind.u64.wrap ((BitVec.ofInt IntKind.u64.bits (IntKind.u64.wrap (IntKind.u64.wrap n*2 ^ min 1 64)) ^^^ BitVec.ofInt IntKind.u64.bits (IntKind.u64.wrap (n.fdiv (2 ^ min 63 64)))).toNat:Int)=(B3 n:Int):=by
 unfold cB at h
 have hb:IntKind.u64.bits=64:=rfl
 have hw:∀x:Int,IntKind.u64.wrap x=x % 18446744073709551616:=fun x=>by simp[IntKind.wrap,IntKind.signed,IntKind.bits]
 have hp:(2:Int) ^ min 63 64=9223372036854775808:=by decide
 rw[hb,hp,show (2:Int) ^ min 1 64=2 from rfl,aD4 _ (by decide)]
 unfold B3
 by_cases h0:n<0
 · have e1:n / 9223372036854775808=-1:=by omega
   have e2:IntKind.u64.wrap (IntKind.u64.wrap n*2)=((n*2+18446744073709551616).toNat:Int):=by rw[hw,hw];omega
   rw[if_pos h0,e1,e2,show BitVec.ofInt 64 (IntKind.u64.wrap (-1))=BitVec.allOnes 64 from rfl,BitVec.xor_allOnes,BitVec.toNat_not,BitVec.ofInt_natCast,BitVec.toNat_ofNat,w7 (show (n*2+18446744073709551616).toNat<2 ^ 64 by omega),A5 (by omega)]
   omega
 · have e1:n / 9223372036854775808=0:=by omega
   have e2:IntKind.u64.wrap (IntKind.u64.wrap n*2)=((n*2).toNat:Int):=by rw[hw,hw];omega
   rw[if_neg h0,e1,e2,show BitVec.ofInt 64 (IntKind.u64.wrap 0)=0#64 from rfl,BitVec.xor_zero,BitVec.ofInt_natCast,BitVec.toNat_ofNat,w7 (show (n*2).toNat<2 ^ 64 by omega),A5 (by omega)]
   omega
def PJ:W.Spec:=fun av H K=>∃x:List UInt8,av=[.va (.c1 (.pt 0 0))]/\H=[mT x 0 0]/\x.length<=9223372036854775807/\K (iS .i64 (CE (vr x).1)) [mT x (vr x).2.1 (vr x).2.2]
theorem aPH {x:List UInt8} {K:S->Hp->Prop} (h:x.length<=9223372036854775807) (hK:K (iS .i64 (CE (vr x).1)) [mT x (vr x).2.1 (vr x).2.2]):PJ [.va (.c1 (.pt 0 0))] [mT x 0 0] K:=⟨x,rfl,rfl,h,hK⟩
theorem a1T:Meets Tryz.prog 159 PJ:=by
 refine aF Tryz.func159 a0Q 1 (by rw[Tryz.ntmps159];decide) (aE RJ (aB _)) (fun av H K h=>by obtain ⟨_,rfl,_⟩:=h;rfl) ?_
 rintro av H K ⟨x,rfl,rfl,h,hK⟩
 simp(maxSteps:=9^7)-dsimp only[go_sem,aMI,aJ8]
 refine S2 h ?_
 simp(maxSteps:=9^7)-dsimp only[go_sem]
 refine aH rfl (.done ?_)
 simp(maxSteps:=9^7)-dsimp only[go_sem,LA,a7T]
 have hlt:(vr x).1<18446744073709551616:=by
  rcases D5 x with ⟨_,h,_⟩|⟨_,_,_,_,_,h⟩
  · rw[h];decide
  · exact h
 rw[aS3 hlt]
 refine ⟨by decide,.done ?_⟩
 simp -dsimp only[go_sem,g4]
 exact hK
def O4:List S->Prop:=fun av=>match av with
 |[.va (.c1 (.vl (.int .i64 n)))]=>cB n
 |_=>False
theorem AT {av:List S} (h:O4 av):∃n:Int,av=[iS .i64 n]/\cB n:=by
 unfold O4 at h
 split at h
 · exact ⟨_,rfl,h⟩
 · exact h.elim
def aHI (f:Int->Value):Fun:=⟨O4,aJC f,fun av h=>by obtain ⟨n,rfl,_⟩:=AT h;trivial⟩
theorem aHS {f:Int->Value}:∀av H K,(aHI f).sp av H K->av.length=1:=fun av H K h=>by obtain ⟨n,rfl,_⟩:=AT h.1.1;rfl
attribute [go_sem] aHI O4
theorem a0W:Meets Tryz.prog 110 (aHI fun n=>.string (mk (vi (B3 n)))).sp:=by
 refine aF Tryz.func110 aYY 1 (by rw[Tryz.ntmps110];decide) (aG I6 (aB _)) aHS ?_
 rintro av H K ⟨⟨h,rfl⟩,hK⟩
 obtain ⟨n,rfl,hn⟩:=AT h
 have hK:K (tS (mk (vi (B3 n)))) []:=hK
 clear h
 simp(maxSteps:=9^7)-dsimp only[go_sem,aJE,aLY]
 have hz:B3 n<18446744073709551616:=by
  unfold cB at hn
  unfold B3
  split<;>omega
 rw[aQ6 hn]
 exact ⟨by decide,by decide,by omega,.done hK⟩
def aKE:W.Spec:=fun av H K=>∃x:List UInt8,av=[tS (mk x)]/\H=[]/\x.length<=9223372036854775807/\K (.tu [uA (bY x).1,tA (mk (bY x).2.1),iA .i64 (bY x).2.2]) []
theorem J2 {x:List UInt8} {K:S->Hp->Prop} (h:x.length<=9223372036854775807) (hK:K (.tu [uA (bY x).1,tA (mk (bY x).2.1),iA .i64 (bY x).2.2]) []):aKE [tS (mk x)] [] K:=⟨x,rfl,rfl,h,hK⟩
theorem F8:Meets Tryz.prog 112 aKE:=by
 refine aF Tryz.func112 a1P 1 (by rw[Tryz.ntmps112];decide) (aE JF (aE RJ (aE aXP (aE aH5 (aB _))))) (fun av H K h=>by obtain ⟨_,rfl,_⟩:=h;rfl) ?_
 rintro av H K ⟨x,rfl,rfl,hx,hK⟩
 have fin:∀(n:Nat) (r:List UInt8) (e:Int) (R:Hp),bY x=(n,r,e)->W.Fin 0 K (.tu [uA n,tA (mk r),iA .i64 e]) R:=fun n r e R h=>by
  rw[h] at hK;exact .z ((by simpa[go_sem] using hK))
 clear hK
 unfold bY at fin
 simp(maxSteps:=9^7)-dsimp only[go_sem,aJT,aMP]
 refine aCV ?_
 simp(maxSteps:=9^7)-dsimp only[go_sem,g4]
 refine aH rfl (.done ?_)
 simp(maxSteps:=9^7)-dsimp only[go_sem,KA]
 refine S2 hx ?_
 simp(maxSteps:=9^7)-dsimp only[go_sem,g4]
 refine aH rfl (.done ?_)
 simp(maxSteps:=9^7)-dsimp only[go_sem,MI]
 refine KX ?_
 simp(maxSteps:=9^7)-dsimp only[go_sem,g4]
 refine aH rfl (.done ?_)
 have hlt:=D5 x
 cases c1:(vr x).2.2 != 0 with
 |true=>
  rw[c1,aQ] at fin
  simp(maxSteps:=9^7)-dsimp only[go_sem,DT,c1]
  exact fin _ _ _ _ rfl
 |false=>
  rw[c1,aI] at fin
  simp(maxSteps:=9^7)-dsimp only[go_sem,DT,c1]
  obtain ⟨h0,h1,h2,h3,_⟩:(vr x).2.2=0/\(vr x).2.1=(vi (vr x).1).length/\0<(vr x).2.1/\(vr x).2.1<=x.length/\True:=by
   rcases hlt with ⟨h,_⟩|⟨a,b,c,d,_⟩
   · exact absurd (wW c1) h
   · exact ⟨a,b,c,d,trivial⟩
  have e1:((x.length:Int)-((x.length:Int)-((vr x).2.1:Int)))=((vr x).2.1:Int):=by omega
  refine aH rfl (.done ?_)
  simp(maxSteps:=9^7)-dsimp only[go_sem,K0]
  refine W2 h3 hx ?_
  simp(maxSteps:=9^7)-dsimp only[go_sem,g4,e1,eC]
  refine ⟨by omega,by omega,by omega,by omega,?_⟩
  exact fin _ _ _ _ rfl
def aKQ:W.Spec:=fun av H K=>∃x:List UInt8,av=[tS (mk x)]/\H=[]/\x.length<=9223372036854775807/\K (.tu [tA (mk (cU x).1),tA (mk (cU x).2.1),iA .i64 (cU x).2.2]) []
theorem VY {x:List UInt8} {K:S->Hp->Prop} (h:x.length<=9223372036854775807) (hK:K (.tu [tA (mk (cU x).1),tA (mk (cU x).2.1),iA .i64 (cU x).2.2]) []):aKQ [tS (mk x)] [] K:=⟨x,rfl,rfl,h,hK⟩
theorem aAM:Meets Tryz.prog 113 aKQ:=by
 refine aF Tryz.func113 a0I 1 (by rw[Tryz.ntmps113];decide) (aE F8 (aB _)) (fun av H K h=>by obtain ⟨_,rfl,_⟩:=h;rfl) ?_
 rintro av H K ⟨x,rfl,rfl,hx,hK⟩
 have fin:∀(n r:List UInt8) (e:Int) (R:Hp),cU x=(n,r,e)->W.Fin 0 K (.tu [tA (mk n),tA (mk r),iA .i64 e]) R:=fun n r e R h=>by
  rw[h] at hK;exact .z ((by simpa[go_sem] using hK))
 clear hK
 unfold cU at fin
 have hl:=(C2 x).1
 simp(maxSteps:=9^7)-dsimp only[go_sem,aL6,aL5]
 refine J2 hx ?_
 simp(maxSteps:=9^7)-dsimp only[go_sem]
 refine aH rfl (.done ?_)
 generalize bY x=z at *
 obtain ⟨n,r,e⟩:=z
 simp only at fin hl ⊢
 cases c1:e != 0 with
 |true=>
  rw[c1,aQ] at fin
  simp(maxSteps:=9^7)-dsimp only[go_sem,yC,c1]
  exact fin _ _ _ _ rfl
 |false=>
 rw[c1,aI] at fin
 have hu:IntKind.u64.wrap (r.length:Int)=(r.length:Int):=A5 (by omega)
 have hd:decide ((r.length:Int)<(n:Int))=decide (r.length<n):=by rw[fH];simp
 cases c2:decide (r.length<n) with
 |true=>
  rw[c2,aQ] at fin
  simp(maxSteps:=9^7)-dsimp only[go_sem,yC,c1,hu,hd,c2]
  exact fin _ _ _ _ rfl
 |false=>
  rw[c2,aI] at fin
  have c2':=gL c2
  simp(maxSteps:=9^7)-dsimp only[go_sem,yC,c1,hu,hd,c2,zA,eC]
  refine ⟨by omega,by omega,?_⟩
  exact fin _ _ _ _ rfl
def fdC (x:Int×List UInt8):List C:=[.vl (.int .i64 x.1),.vl (.string (mk x.2))]
def PG:W.Spec:=fun av H K=>∃(x:List UInt8) (last:Int),av=[tS (mk x),iS .i64 last]/\H=[]/\x.length<=9223372036854775807/\K (.tu [.gs (fdC (cH x last).1),tA (mk (cH x last).2.1),iA .i64 (cH x last).2.2]) []
theorem aP6 {x:List UInt8} {last:Int} {K:S->Hp->Prop} (h:x.length<=9223372036854775807) (hK:K (.tu [.gs [.vl (.int .i64 (cH x last).1.1),.vl (.string (mk (cH x last).1.2))],tA (mk (cH x last).2.1),iA .i64 (cH x last).2.2]) []):PG [tS (mk x),iS .i64 last] [] K:=⟨x,last,rfl,rfl,h,hK⟩
theorem aOU:Meets Tryz.prog 68 PG:=by
 refine aF Tryz.func68 a9C 2 (by rw[Tryz.ntmps68];decide) (aE F8 (aE aAM (aB _))) (fun av H K h=>by obtain ⟨_,_,rfl,_⟩:=h;rfl) ?_
 rintro av H K ⟨x,last,rfl,rfl,hx,hK⟩
 have fin:∀(a:Int) (c r:List UInt8) (e:Int) (R:Hp),cH x last=((a,c),r,e)->W.Fin 0 K (.tu [.gs [.vl (.int .i64 a),.vl (.string (mk c))],tA (mk r),iA .i64 e]) R:=fun a c r e R h=>by
  rw[h] at hK;exact .z ((by simpa[go_sem,fdC] using hK))
 clear hK
 unfold cH at fin
 have hl:=(C2 x).1
 simp(maxSteps:=9^7)-dsimp only[go_sem,aW0,aUW]
 refine J2 hx ?_
 generalize bY x=z at *
 obtain ⟨n,r,e⟩:=z
 simp only at fin hl ⊢
 have hd:decide ((2147483647:Int)<(n:Int))=decide (2147483647<n):=by rw[fH];simp;omega
 cases c1:e != 0 with
 |true=>
  rw[c1,aQ] at fin
  simp(maxSteps:=9^7)-dsimp only[go_sem,c1]
  exact fin _ _ _ _ _ rfl
 |false=>
 rw[c1,aI] at fin
 cases c2:decide (2147483647<n) with
 |true=>
  rw[c2,aQ] at fin
  simp(maxSteps:=9^7)-dsimp only[go_sem,c1,hd,c2]
  exact fin _ _ _ _ _ rfl
 |false=>
 rw[c2,aI] at fin
 have c2':=gL c2
 have hw:IntKind.i64.wrap (n:Int)=(n:Int):=MM ⟨by omega,by omega⟩
 cases c3:decide ((n:Int)<=last) with
 |true=>
  rw[c3,aQ] at fin
  simp(maxSteps:=9^7)-dsimp only[go_sem,c1,hd,c2,hw,c3]
  exact fin _ _ _ _ _ rfl
 |false=>
  rw[c3,aI] at fin
  simp(maxSteps:=9^7)-dsimp only[go_sem,c1,hd,c2,hw,c3]
  refine VY (by omega) ?_
  simp(maxSteps:=9^7)-dsimp only[go_sem]
  refine aH rfl (.done ?_)
  simp(maxSteps:=9^7)-dsimp only[go_sem,TL,hw]
  exact fin _ _ _ _ _ rfl
def aXU:W.Spec:=fun av H K=>∃b:List UInt8,av=[tS (mk b)]/\H=[]/\b.length<=9223372036854775807/\K (.tu [.gs (aW (BN b).1),iA .i64 (BN b).2]) []
theorem aYF {b:List UInt8} {K:S->Hp->Prop} (h:b.length<=9223372036854775807) (hK:K (.tu [.gs (aW (BN b).1),iA .i64 (BN b).2]) []):aXU [tS (mk b)] [] K:=⟨b,rfl,rfl,h,hK⟩
theorem UR:Meets Tryz.prog 114 aXU:=by
 refine aF Tryz.func114 a2G 1 (by rw[Tryz.ntmps114];decide) (aB _) (fun av H K h=>by obtain ⟨_,rfl,_⟩:=h;rfl) ?_
 rintro av H K ⟨b,rfl,rfl,hb,hK⟩
 have fin:∀(v:Vl) (e:Int) (R:Hp),BN b=(v,e)->W.Fin 0 K (.tu [.gs (aW v),iA .i64 e]) R:=fun v e R h=>by
  rw[h] at hK;exact .z ((by rw[aJ] at hK ⊢;simpa[go_sem] using hK))
 clear hK
 unfold BN at fin
 cases b with
 |nil=>
  have e0:(([]:List UInt8)==[])=true:=rfl
  simp(maxSteps:=9^7)-dsimp only[go_sem,XV,X9,e0]
  exact fin v0 1 _ rfl
 |cons c r=>
  have e0:(c::r==[])=false:=rfl
  rw[e0,aI,List.headD_cons,bP] at fin
  have e1:decide ((1:Int)<(c.toNat:Int))=decide (1<c.toNat):=by rw[fH];simp;omega
  have e2:decide ((1:Int)<((r.length+1:Nat):Int))=decide (1<r.length+1):=by rw[fH];simp;omega
  have e3:IntKind.i64.wrap (c.toNat:Int)=(c.toNat:Int):=MM ⟨by omega,by have:=c.toNat_lt;omega⟩
  have z0:(0:Int)<((r.length+1:Nat):Int):=by omega
  have z1:(c::r)[0]? = some c:=rfl
  have z2:(0:Int)<=0:=by decide
  cases c1:decide (1<c.toNat)<;>cases c2:decide (1<r.length+1)<;>rw[c1,c2] at fin <;>
  · simp(maxSteps:=9^7)-dsimp only[go_sem,XV,X9,e0,e1,e2,c1,c2,z0,z1,z2,aM,forall_eq',bK,cR,uG]
    try simp only[e3]
    first
     |exact fin v0 2 _ rfl
     |exact fin (.mk 1 (c.toNat:Int) (mk []) [] []) 0 _ rfl
def PW:List S->Prop:=fun av=>match av with
 |[.va (.gs r),.va (.c1 (.vl (.string _))),.va (.c1 (.vl (.int .i64 _)))]=>kF r
 |_=>False
theorem BH {av:List S} (h:PW av):∃(s:Sc) (nm:ByteArray) (n:Int),av=[.va (.gs (aA s)),tS nm,iS .i64 n]/\s.fit:=by
 unfold PW at h
 split at h
 · obtain ⟨s,rfl,hs⟩:=h;exact ⟨s,_,_,rfl,hs⟩
 · exact h.elim
noncomputable def aI3:List S->A:=fun av=>match av with
 |[.va (.gs r),.va (.c1 (.vl (.string nm))),.va (.c1 (.vl (.int .i64 n)))]=>bA (((cO (C.sc r).es nm).getD default).vs.any fun x=>x==n)
 |_=>.gs []
noncomputable def n3Fn:Fun:=⟨PW,aI3,fun av h=>by obtain ⟨_,_,_,rfl,_⟩:=BH h;trivial⟩
theorem aF5:∀av H K,n3Fn.sp av H K->av.length=3:=fun av H K h=>by obtain ⟨_,_,_,rfl,_⟩:=BH h.1.1;rfl
attribute [go_sem] n3Fn PW aI3
theorem aAK:Meets Tryz.prog 160 n3Fn.sp:=by
 refine aF Tryz.func160 a0G 3 (by rw[Tryz.ntmps160];decide) (aE IX (aB _)) aF5 ?_
 rintro av H K ⟨⟨h,rfl⟩,hK⟩
 obtain ⟨s,nm,n,rfl,hs⟩:=BH h
 have hK:K (bS (((cO (C.sc (aA s)).es nm).getD default).vs.any fun x=>x==n)) []:=hK
 rw[cT] at hK
 clear h
 have heo:((cO s.es nm).getD default).vs.length<=1000000000:=by
  cases hf:cO s.es nm with
  |none=>exact aP _
  |some e=>exact (hs.en e (y8 hf).1).2
 simp(maxSteps:=9^7)-dsimp only[go_sem,aA,aL9,aIL]
 refine j9 hs ?_
 generalize (cO s.es nm).getD default=e at *
 simp(maxSteps:=9^7)-dsimp only[go_sem,aV]
 refine aH rfl (.done ?_)
 have fin:∀(b:Bool) (R:Hp),(e.vs.any fun x=>x==n)=b->W.Fin 0 K (bS b) R:=fun b R h=>by
  rw[h] at hK;exact .z ((by simpa[go_sem] using hK))
 simp(maxSteps:=9^7)-dsimp only[go_sem,KC]
 refine aO (α:=Nat) (fun i=>[(2,iS .i64 n),(18,.va (.c1 (.fz (e.vs.map cV)))),(19,iS .i64 e.vs.length),(20,iS .i64 i)]) (fun _=>[])
  (fun i=>i<=e.vs.length/\(e.vs.drop i).any (fun x=>x==n)=e.vs.any fun x=>x==n) (fun i=>e.vs.length-i) 0 0 ⟨aP _,rfl⟩ ?_ ?_ ?_
 · simp -dsimp only[go_sem]<;>simp
 · simp -dsimp only[go_sem]<;>simp
 rintro i ⟨hi,ho⟩
 rcases bB i e.vs.length with hlt|hge
 · have hg:decide ((i:Int)<(e.vs.length:Int))=true:=by simp;omega
   have hx:e.vs[i]? = some e.vs[i]:=aX hlt
   have q2:=aS (row:=cV) hx
   rw[cG hlt,sZ] at ho
   generalize e.vs[i]=y at *
   cases hc:y==n with
   |true=>
    rw[hc,cR] at ho
    simp(maxSteps:=9^7)-dsimp only[go_sem,hg,↓q2,hc]
    exact ⟨by omega,fin _ _ ho.symm⟩
   |false=>
    rw[hc,bK] at ho
    simp(maxSteps:=9^7)-dsimp only[go_sem,hg,↓q2,hc]
    refine ⟨by omega,by omega,aC (i+1) 0 ⟨by omega,ho⟩ (by omega) ?_ ?_⟩
    · simp -dsimp only[go_sem]<;>simp
    · simp -dsimp only[go_sem]<;>simp
 · have hg:decide ((i:Int)<(e.vs.length:Int))=false:=by simp;omega
   have:e.vs.drop i=[]:=iD.2 (by omega)
   rw[this] at ho
   simp(maxSteps:=9^7)-dsimp only[go_sem,hg]
   exact fin _ _ ho.symm
def aR1:W.Spec:=fun av H K=>∃(s:Sc) (t:Ty) (b:List UInt8),av=[.va (.gs (aA s)),.va (.gs (aK t)),tS (mk b)]/\H=[]/\Dg s/\s.fit/\TyOk t/\valF s.ss s.es t=true/\(t.k==2||(t.k==3||t.k==7))=true/\b.length<=9223372036854775807/\K (.tu [.gs (aW (BX s t b).1),iA .i64 (BX s t b).2]) []
theorem aSN {s:Sc} {t:Ty} {b:List UInt8} {K:S->Hp->Prop} (hd:Dg s) (hs:s.fit) (ht:TyOk t) (hv:valF s.ss s.es t=true) (hk:(t.k==2||(t.k==3||t.k==7))=true) (hb:b.length<=9223372036854775807)
 (hK:K (.tu [.gs (aW (BX s t b).1),iA .i64 (BX s t b).2]) []) :
 aR1 [.va (.gs [.vl (.int .i64 s.ver),.fz (s.es.map aV),.fz (s.ss.map aD)]),.va (.gs [.vl (.int .i64 t.k),.vl (.int .i64 t.s),.vl (.string t.n),.fz (t.e.map aK)]),tS (mk b)] [] K:=⟨s,t,b,by rw[aY];rfl,rfl,hd,hs,ht,hv,hk,hb,hK⟩
theorem a9P (n:Nat):IntKind.u64.wrap ((BitVec.ofInt IntKind.u64.bits (n:Int) &&& BitVec.ofInt IntKind.u64.bits 4294967295).toNat:Int)=((n % 4294967296:Nat):Int):=by
 have hb:IntKind.u64.bits=64:=rfl
 have e:(BitVec.ofInt 64 (n:Int) &&& BitVec.ofInt 64 4294967295).toNat=n % 4294967296:=by
  rw[BitVec.toNat_and,BitVec.ofInt_natCast,BitVec.toNat_ofNat,show (BitVec.ofInt 64 4294967295).toNat=2 ^ 32-1 from rfl,Nat.and_two_pow_sub_one_eq_mod]
  omega
 rw[hb,e,A5 (by omega)]
noncomputable def E9:eX:=[(155,.s Y1),(159,.s PJ),(156,.s YP),(157,.s PL),(158,.s PH),(160,.f n3Fn)]
theorem aRE:sp E9 155=Y1:=rfl
theorem aTK:sp E9 159=PJ:=rfl
theorem aX5:sp E9 156=YP:=rfl
theorem aBI:sp E9 157=PL:=rfl
theorem aV3:sp E9 158=PH:=rfl
theorem aAB:A6 E9 160=some n3Fn:=rfl
theorem OT:Meets Tryz.prog 115 aR1:=by
 refine aF (Γ:=E9) Tryz.func115 a0F 3 (by rw[Tryz.ntmps115];decide) (aE JF (aE a1T (aE RJ (aE aXP (aE aH5 (aG aAK (aB _))))))) (fun av H K h=>by obtain ⟨_,_,_,rfl,_⟩:=h;rfl) ?_
 rintro av H K ⟨s,t,b,rfl,rfl,hd,hs,ht,hv,hk,hb,hK⟩
 have fin:∀(v:Vl) (e:Int) (R:Hp),BX s t b=(v,e)->W.Fin 0 K (.tu [.gs (aW v),iA .i64 e]) R:=fun v e R h=>by
  rw[h] at hK;exact .z ((by rw[aJ] at hK ⊢;simpa[go_sem] using hK))
 clear hK
 unfold BX at fin
 have hvr:=D5 b
 have hnr:(vr b).2.2=0->jX s t (oE t.k (vr b).1)=true->cB (oE t.k (vr b).1)/\((t.k==2)=false->oE t.k (vr b).1=(vr b).1/\(vr b).1<4294967296):=fun _=>aIV hd hv hk (XW b)
 have hlt:=XW b
 have tail:∀(n:Int) (ok:Bool),((vr b).2.2=0->(ok=jX s t (oE t.k (vr b).1)/\(ok=true->n=oE t.k (vr b).1)))->
  vc E9 0 pc115_13.ungh (gY [(4,.va (.c1 (.pt 1 0))),(6,.va (.c1 (.pt 2 0))),(8,.va (.c1 (.pt 3 0))),(9,iS .i64 n),(10,bS ok)])
   [.cells [.vl (.int .i64 s.ver),.fz (s.es.map aV),.fz (s.ss.map aD)] 25,.cells [.vl (.int .i64 t.k),.vl (.int .i64 t.s),.vl (.string t.n),.fz (t.e.map aK)] 45,.cells [.vl (.int .i64 0),.vl (.int .i64 0),.vl (.string (mk [])),.vl (.slice none 0 0),.vl (.slice none 0 0)] 29,mT b (vr b).2.1 (vr b).2.2]
   (fun e fr' H'=>match e with
     |.e j=>if j=0 then vc E9 0 vS fr' H' (pY 0 w3 K) else pY 0 w3 K (.e j) fr' H'
     |e=>match e with
      |.n=>vc E9 0 vS fr' H' (pY 0 w3 K)
      |e=>pY 0 w3 K e fr' H'):=by
  intro n ok hnk
  simp(maxSteps:=9^7)-dsimp only[go_sem,pc115_13,w3,aBI,g4]
  refine KX ?_
  cases c1:(vr b).2.2 != 0 with
  |true=>
   rw[c1,aQ] at fin
   simp(maxSteps:=9^7)-dsimp only[go_sem,aBI,g4,c1]
   refine KX ?_
   simp(maxSteps:=9^7)-dsimp only[go_sem,g4]
   exact fin v0 _ _ rfl
  |false=>
   rw[c1,aI] at fin
   obtain ⟨h0,hle⟩:(vr b).2.2=0/\(vr b).2.1<=b.length:=by
    rcases hvr with ⟨h,_⟩|⟨a,_,_,d,_⟩
    · exact absurd (wW c1) h
    · exact ⟨a,d⟩
   obtain ⟨hok,hn⟩:=hnk h0
   simp(maxSteps:=9^7)-dsimp only[go_sem,g4,c1]
   refine aH rfl (.done ?_)
   simp(maxSteps:=9^7)-dsimp only[go_sem,GF,aV3,g4]
   refine W2 hle hb ?_
   have e1:decide ((0:Int)<(b.length:Int)-((vr b).2.1:Int))=decide ((vr b).2.1<b.length):=by rw[fH,decide_eq_true_iff,decide_eq_true_iff];omega
   cases c2:decide ((vr b).2.1<b.length) with
   |true=>
    rw[c2,aQ] at fin
    simp(maxSteps:=9^7)-dsimp only[go_sem,g4,e1,c2]
    exact fin v0 _ _ rfl
   |false=>
    rw[c2,aI] at fin
    simp(maxSteps:=9^7)-dsimp only[go_sem,g4,e1,c2]
    refine aH rfl (.done ?_)
    rw[<-hok] at fin
    cases ok with
    |false=>
     simp(maxSteps:=9^7)-dsimp only[go_sem,zK,bV]
     exact fin v0 _ _ rfl
    |true=>
     rw[hn rfl]
     simp(maxSteps:=9^7)-dsimp only[go_sem,zK,bN]
     refine aH rfl (.done ?_)
     simp(maxSteps:=9^7)-dsimp only[go_sem,vS,w3]
     exact fin (.mk t.k (oE t.k (vr b).1) (mk []) [] []) 0 _ rfl
 simp(maxSteps:=9^7)-dsimp only[go_sem,aA,aY t,aKM,w3,aRE]
 refine aCV ?_
 simp(maxSteps:=9^7)-dsimp only[go_sem,g4]
 refine aH rfl (.done ?_)
 simp(maxSteps:=9^7)-dsimp only[go_sem,MX]
 refine aH rfl (.done ?_)
 simp(maxSteps:=9^7)-dsimp only[go_sem,K4]
 refine aH rfl (.done ?_)
 cases c2:t.k==2 with
 |true=>
  simp(maxSteps:=9^7)-dsimp only[go_sem,DZ,c2,aTK]
  refine aPH hb ?_
  simp(maxSteps:=9^7)-dsimp only[go_sem,g4]
  refine aH rfl (.done ?_)
  have hnu:oE t.k (vr b).1=CE (vr b).1:=by unfold oE;rw[c2,aQ]
  have hrg:∀n:Int,jX s t n=(t.s==64||(decide (-(2 ^ (t.s.toNat-1):Int)<=n)&&decide (n<(2 ^ (t.s.toNat-1):Int)))):=fun n=>by
   unfold jX;rw[fN c2 (b:=1) (by decide),c2];rfl
  generalize hN:CE (vr b).1=n at *
  cases h64:t.s==64 with
  |true=>
   simp(maxSteps:=9^7)-dsimp only[go_sem,D0,h64,bL]
   refine bZ 4 (tail n true fun h0=>⟨by rw[hrg,h64];rfl,fun _=>hnu.symm⟩) ?_ ?_
   · simp -dsimp only[go_sem,nF]<;>simp
   · simp -dsimp only[go_sem,g4]<;>simp[g4]
  |false=>
   obtain ⟨b1,b2,e1,e2⟩:8<=t.s/\t.s<=32/\IntKind.i64.wrap (-1*2 ^ min (t.s-1).toNat 64)=-(2 ^ (t.s.toNat-1):Int)/\IntKind.i64.wrap (1*2 ^ min (t.s-1).toNat 64)=(2 ^ (t.s.toNat-1):Int):=by
    rcases aUK hv c2 with hz|hz|hz|hz
    · rw[hz];decide
    · rw[hz];decide
    · rw[hz];decide
    · rw[hz] at h64;simp at h64
   have f1:(0<=t.s-1)=True:=eq_true (by omega)
   have f2:(-9223372036854775808<=t.s-1)=True:=eq_true (by omega)
   have f3:(t.s-1<=9223372036854775807)=True:=eq_true (by omega)
   have hrg':=hrg n
   rw[h64,bK] at hrg'
   generalize (2 ^ (t.s.toNat-1):Int)=hi at *
   cases h4:decide (-hi<=n)<;>cases h5:decide (n<hi) <;>
   · rw[h4,h5] at hrg'
     simp(maxSteps:=9^7)-dsimp only[go_sem,D0,h64,h4,h5,f1,f2,f3,e1,e2,JX,eZ,dF,bF,bL]
     rw[<-hnu] at hrg'
     refine bZ 4 (tail n _ fun h0=>⟨hrg'.symm,fun _=>hnu.symm⟩) ?_ ?_
     · simp -dsimp only[go_sem,nF]<;>simp
     · simp -dsimp only[go_sem,g4]<;>simp[g4]
 |false=>
  simp(maxSteps:=9^7)-dsimp only[go_sem,DZ,c2,aX5]
  refine S2 hb ?_
  simp(maxSteps:=9^7)-dsimp only[go_sem,g4]
  refine aH rfl (.done ?_)
  simp(maxSteps:=9^7)-dsimp only[go_sem,L1]
  refine aH rfl (.done ?_)
  simp(maxSteps:=9^7)-dsimp only[go_sem,LL,a9P]
  refine aH rfl (.done ?_)
  generalize hU:(vr b).1=U at *
  have hnu:oE t.k U=U:=by unfold oE;rw[c2,aI]
  have hw:IntKind.i64.wrap ((U % 4294967296:Nat):Int)=((U % 4294967296:Nat):Int):=MM ⟨by omega,by omega⟩
  have e0:decide ((U:Int)<4294967296)=decide (U<4294967296):=by rw[fH,decide_eq_true_iff,decide_eq_true_iff];omega
  rw[hnu] at hnr
  have hbig:(vr b).2.2=0->decide (U<4294967296)=false->jX s t U=false:=fun h0 h1=>by
   cases h:jX s t U with
   |false=>rfl
   |true=>have:=((hnr h0 h).2 c2).2;have:=gL h1;omega
  cases c3:t.k==3 with
  |true=>
   obtain ⟨b1,b2,e1⟩:8<=t.s/\t.s<=32/\IntKind.i64.wrap (1*2 ^ min t.s.toNat 64)=(2 ^ t.s.toNat:Int):=by
    rcases aE3 hv c3 with hz|hz|hz<;>rw[hz]<;>decide
   have f1:(0<=t.s)=True:=eq_true (by omega)
   have hrg:=rg3 (s:=s) (n:=(U:Int)) c3
   rw[eE (show (0:Int)<=(U:Int) by omega),bF] at hrg
   generalize (2 ^ t.s.toNat:Int)=hi at *
   cases h4:decide (U<4294967296) with
   |true=>
    have hm:U % 4294967296=U:=w7 (iO h4)
    rw[hm] at hw ⊢
    cases h5:decide ((U:Int)<hi) <;>
    · rw[h5] at hrg
      simp(maxSteps:=9^7)-dsimp only[go_sem,q9,c3,hw,e0,h4]
      refine aH rfl (.done ?_)
      simp(maxSteps:=9^7)-dsimp only[go_sem,zP,f1,e1,h5]
      have hx:=hrg
      rw[<-hnu] at hx
      refine bZ 4 (tail U _ fun h0=>⟨hx.symm,fun _=>hnu.symm⟩) ?_ ?_
      · simp -dsimp only[go_sem,nF]<;>simp
      · simp -dsimp only[go_sem,g4]<;>simp[g4,hU]
   |false=>
    simp(maxSteps:=9^7)-dsimp only[go_sem,q9,c3,hw,e0,h4]
    refine aH rfl (.done ?_)
    simp(maxSteps:=9^7)-dsimp only[go_sem,zP,f1,e1]
    refine bZ 4 (tail ((U % 4294967296:Nat):Int) false fun h0=>⟨by rw[hnu];exact (hbig h0 h4).symm,fun h=>(by cases h)⟩) ?_ ?_
    · simp -dsimp only[go_sem,nF]<;>simp
    · simp -dsimp only[go_sem,g4]<;>simp[g4,hU]
  |false=>
   have c7:(t.k==7)=true:=by rw[c2,c3] at hk;simpa using hk
   have hrg:=rg7 (s:=s) (n:=(U:Int)) c7
   have k6:=fZ hs
   have k7:=kL s
   have heo:(cO s.es t.n).getD default=enOf s t:=rfl
   cases h4:decide (U<4294967296) with
   |true=>
    have hm:U % 4294967296=U:=w7 (iO h4)
    rw[hm] at hw ⊢
    simp(maxSteps:=9^7)-dsimp only[go_sem,q9,c3,hw,e0,h4]
    refine aH rfl (.done ?_)
    simp(maxSteps:=9^7)-dsimp only[go_sem,zL,aAB,k6,k7,heo]
    have hx:jX s t (oE t.k U)=(enOf s t).vs.any (fun x=>x==(U:Int)):=by rw[hnu];exact hrg
    refine bZ 4 (tail U _ fun h0=>⟨hx.symm,fun _=>hnu.symm⟩) ?_ ?_
    · simp -dsimp only[go_sem,nF]<;>simp
    · simp -dsimp only[go_sem,g4]<;>simp[g4,hU]
   |false=>
    simp(maxSteps:=9^7)-dsimp only[go_sem,q9,c3,hw,e0,h4]
    refine aH rfl (.done ?_)
    simp(maxSteps:=9^7)-dsimp only[go_sem,zL,aAB,k6,k7,heo]
    refine bZ 4 (tail ((U % 4294967296:Nat):Int) false fun h0=>⟨by rw[hnu];exact (hbig h0 h4).symm,fun h=>(by cases h)⟩) ?_ ?_
    · simp -dsimp only[go_sem,nF]<;>simp
    · simp -dsimp only[go_sem,g4]<;>simp[g4,hU]
def leS (a b:List UInt8):Prop:=a.length<=b.length/\(a.length=b.length->a=b)
structure Can (s:Sc) (t:Ty) (v:Vl) (b:List UInt8):Prop where
 ck:gB s t v=0
 rl:eU v<=pS s t
 le:∀N,v.h<=N->N<=8->leS (eV s N t v) b
theorem aVG {s:Sc} (hd:Dg s) {nm:ByteArray} (h:aZ s.ss nm=true):pS s (.mk 6 0 nm [])<=6/\valF s.ss s.es (.mk 6 0 nm [])=true:=by
 have hv:valF s.ss s.es (.mk 6 0 nm [])=true:=by rw[valF.eq_def];simp[h]
 have:=(rV hd hv rfl).2.1
 rw[u5 rfl]
 exact ⟨this,hv⟩
def LS (N:Nat):W.Spec:=fun av H K=>∃(s:Sc) (t:Ty) (b:List UInt8),av=[.va (.gs (aA s)),.va (.gs (aK t)),tS (mk b)]/\H=[]/\Dg s/\s.fit/\TyOk t/\valF s.ss s.es t=true/\pS s t<N/\b.length<=1000000000/\K (.tu [.gs (aW (d9 s N t b).1),iA .i64 (d9 s N t b).2]) []
theorem aB4 {N:Nat} {s:Sc} {t:Ty} {b:List UInt8} {K:S->Hp->Prop} (hd:Dg s) (hs:s.fit) (ht:TyOk t) (hv:valF s.ss s.es t=true) (hf:pS s t<N) (hb:b.length<=1000000000)
 (hK:K (.tu [.gs [.vl (.int .i64 (d9 s N t b).1.k),.vl (.int .i64 (d9 s N t b).1.n),.vl (.string (d9 s N t b).1.s),.fz ((d9 s N t b).1.l.map aW),.fz ((d9 s N t b).1.f.map bG)],iA .i64 (d9 s N t b).2]) []) :
 LS N [.va (.gs [.vl (.int .i64 s.ver),.fz (s.es.map aV),.fz (s.ss.map aD)]),.va (.gs [.vl (.int .i64 t.k),.vl (.int .i64 t.s),.vl (.string t.n),.fz (t.e.map aK)]),tS (mk b)] [] K:=⟨s,t,b,by rw[aY];rfl,rfl,hd,hs,ht,hv,hf,hb,by rw[aJ];exact hK⟩
def FJ (acc:List Vl) (q:(List Vl×List UInt8)×Int):(List Vl×List UInt8)×Int:=bif q.2 != 0 then (([],[]),q.2) else ((acc++q.1.1,q.1.2),0)
theorem aQ2 (a b:List Vl) (q:(List Vl×List UInt8)×Int):FJ a (FJ b q)=FJ (a++b) q:=by
 unfold FJ
 cases hq:q.2 != 0 with
 |true=>simp only[aQ,hq]
 |false=>simp only[aI];rw[show ((0:Int) != 0)=false from rfl,aI,gV]
theorem XA (a:List Vl) {e:Int} (h:(e != 0)=true) (x:List Vl×List UInt8):FJ a (x,e)=(([],[]),e):=by unfold FJ;rw[h];rfl
theorem a16 {R:List UInt8->Vl×Int}:∀(n:Nat) (b:List UInt8),(jN R n b).2≠0->(jN R n b).1=([],[])
 |0,_,h=>absurd rfl h
 |n+1,b,h=>by
  rw[BC] at h ⊢
  cases c1:(cU b).2.2 != 0 with
  |true=>rfl
  |false=>
  rw[c1,aI] at h
  rw[aI]
  cases c2:(R (cU b).1).2 != 0 with
  |true=>rfl
  |false=>
  rw[c2,aI] at h
  rw[aI]
  cases c:(jN R n (cU b).2.1).2 != 0 with
  |true=>rfl
  |false=>rw[c] at h;exact absurd rfl h
theorem aF6 (R:List UInt8->Vl×Int) (n:Nat) (b:List UInt8):jN R (n+1) b=bif (cU b).2.2 != 0 then (([],[]),(cU b).2.2) else bif (R (cU b).1).2 != 0 then (([],[]),(R (cU b).1).2) else FJ [(R (cU b).1).1] (jN R n (cU b).2.1):=by
 rw[BC];rfl
theorem aNS {R:List UInt8->Vl×Int} (n:Nat) (b:List UInt8):FJ [] (jN R n b)=jN R n b:=by
 have h:=a16 (R:=R) n b
 unfold FJ
 generalize jN R n b=q at *
 obtain ⟨⟨x,y⟩,e⟩:=q
 cases hq:e != 0 with
 |true=>
  have h2:(x,y)=([],[]):=h (N6 hq)
  rw[aQ,h2]
 |false=>
  have:=wW hq
  subst this;rfl
def aUM (N:Nat):W.Spec:=fun av H K=>∃(s:Sc) (t:Ty) (b:List UInt8),av=[.va (.gs (aA s)),.va (.gs (aK t)),tS (mk b)]/\H=[]/\Dg s/\s.fit/\TyOk t/\valF s.ss s.es t=true/\(t.k==5)=true/\pS s t<N+1/\b.length<=1000000000/\
 K (.tu [.gs (aW (sU (d9 s N (t.e.headD default)) t.s b).1),iA .i64 (sU (d9 s N (t.e.headD default)) t.s b).2]) []
theorem aYM {N:Nat} {s:Sc} {t:Ty} {b:List UInt8} {K:S->Hp->Prop} (hd:Dg s) (hs:s.fit) (ht:TyOk t) (hv:valF s.ss s.es t=true) (h5:(t.k==5)=true) (hf:pS s t<N+1) (hb:b.length<=1000000000)
 (hK:K (.tu [.gs (aW (sU (d9 s N (t.e.headD default)) t.s b).1),iA .i64 (sU (d9 s N (t.e.headD default)) t.s b).2]) []) :
 aUM N [.va (.gs [.vl (.int .i64 s.ver),.fz (s.es.map aV),.fz (s.ss.map aD)]),.va (.gs [.vl (.int .i64 t.k),.vl (.int .i64 t.s),.vl (.string t.n),.fz (t.e.map aK)]),tS (mk b)] [] K:=⟨s,t,b,by rw[aY];rfl,rfl,hd,hs,ht,hv,h5,hf,hb,hK⟩
theorem UO {N:Nat} (hD:Meets Tryz.prog 70 (LS N)):Meets Tryz.prog 116 (aUM N):=by
 refine aF Tryz.func116 aZW 3 (by rw[Tryz.ntmps116];decide) (aE F8 (aE aAM (aE hD (aB _)))) (fun av H K h=>by obtain ⟨_,_,_,rfl,_⟩:=h;rfl) ?_
 rintro av H K ⟨s,t,b,rfl,rfl,hd,hs,ht,hv,h5,hf,hb,hK⟩
 obtain ⟨u,he,hu⟩:=GU hv h5
 have hto:=ht.e u (by rw[he];exact dS.2 rfl)
 have hfd:=WJ (s:=s) h5 he
 have h32:=(yY hv).2 h5
 have h45:=a68 hv (.inr h5)
 rw[he] at hK
 have fin:∀(v:Vl) (e:Int) (R:Hp),sU (d9 s N u) t.s b=(v,e)->W.Fin 0 K (.tu [.gs (aW v),iA .i64 e]) R:=fun v e R h=>by
  have hK:K (.tu [.gs (aW (sU (d9 s N u) t.s b).1),iA .i64 (sU (d9 s N u) t.s b).2]) []:=hK
  rw[h] at hK;exact .z ((by rw[aJ] at hK ⊢;simpa[go_sem] using hK))
 have fin2:∀(l:List Vl),sU (d9 s N u) t.s b=(.mk 5 0 (mk []) l [],0)->K (.tu [.gs (aW (.mk 5 0 (mk []) l [])),iA .i64 0]) []:=fun l h=>by
  have hK:K (.tu [.gs (aW (sU (d9 s N u) t.s b).1),iA .i64 (sU (d9 s N u) t.s b).2]) []:=hK
  rw[h] at hK;exact hK
 clear hK
 unfold sU at fin fin2
 have hcl:=C2 b
 have hcn:=a15 b
 simp(maxSteps:=9^7)-dsimp only[go_sem,aA,aY t,aJV,aLA]
 refine J2 (by omega) ?_
 generalize bY b=z at *
 obtain ⟨n,r,e⟩:=z
 simp only at fin fin2 hcl hcn ⊢
 simp(maxSteps:=9^7)-dsimp only[go_sem]
 refine aH rfl (.done ?_)
 cases c1:e != 0 with
 |true=>
  rw[c1,aQ] at fin
  simp(maxSteps:=9^7)-dsimp only[go_sem,EQ,c1]
  exact fin v0 _ _ rfl
 |false=>
 rw[c1,aI] at fin fin2
 simp(maxSteps:=9^7)-dsimp only[go_sem,EQ,c1]
 refine aH rfl (.done ?_)
 have hw:IntKind.u64.wrap t.s=t.s:=by
  have:=A5 (n:=t.s.toNat) (by omega)
  rwa [Int.toNat_of_nonneg (by omega)] at this
 cases c2:decide (t.s<(n:Int)) with
 |true=>
  rw[c2,aQ] at fin
  simp(maxSteps:=9^7)-dsimp only[go_sem,DW,hw,c2]
  exact fin v0 _ _ rfl
 |false=>
 rw[c2,aI] at fin fin2
 have c2':=gL c2
 simp(maxSteps:=9^7)-dsimp only[go_sem,DW,hw,c2]
 refine aH rfl (.done ?_)
 simp(maxSteps:=9^7)-dsimp only[go_sem,KQ]
 refine aH rfl (.done ?_)
 simp(maxSteps:=9^7)-dsimp only[go_sem,LM]
 refine dL (α:=Nat×List UInt8×List Vl) (fun z=>[(2,tS (mk z.2.1)),(3,.va (.c1 (.pt 0 0))),(4,.va (.c1 (.pt 1 0))),(6,.va (.c1 (.pt 2 0))),(10,.va (.c1 (.pt 3 0))),(32,iS .u64 n),(33,iS .u64 z.1)])
  (fun z=>[.cells [.vl (.int .i64 s.ver),.fz (s.es.map aV),.fz (s.ss.map aD)] 25,.cells [.vl (.int .i64 t.k),.vl (.int .i64 t.s),.vl (.string t.n),.fz (t.e.map aK)] 45,.cells [.vl (.int .i64 0),.vl (.int .i64 0),.vl (.string (mk [])),.vl (.slice none 0 0),.vl (.slice none 0 0)] 29,
    .cells [.vl (.int .i64 5),.vl (.int .i64 0),.vl (.string (mk [])),.sl 4 z.2.2.length,.vl (.slice none 0 0)] 29,.row (z.2.2.map aW) 29 5])
  (fun z=>z.1<=n/\z.2.2.length=z.1/\z.2.1.length<=b.length/\FJ z.2.2 (jN (d9 s N u) (n-z.1) z.2.1)=jN (d9 s N u) n r) (fun z=>n-z.1)
  (.nilc 3 3 29 5 [.vl (.int .i64 5),.vl (.int .i64 0),.vl (.string (mk [])),.vl (.slice none 0 0),.vl (.slice none 0 0)] 29 rfl rfl (lA (0,r,[]) 5 ⟨aP _,rfl,hcl.1,by rw[Nat.sub_zero];exact aNS _ _⟩ ?_ ?_)) ?_
 · simp -dsimp only[go_sem]<;>simp
 · simp -dsimp only[go_sem]<;>simp
 rintro ⟨i,x,acc⟩ ⟨hi,hal,hxl,ho⟩
 simp only at hi hal hxl ho ⊢
 rcases bB i n with hlt|hge
 · have hg:decide ((i:Int)<(n:Int))=true:=by simp;omega
   obtain ⟨m,hm⟩:∃m,n-i=m+1:=⟨n-i-1,by omega⟩
   have hm':m=n-(i+1):=by omega
   rw[hm,aF6] at ho
   have htl:=RK x
   simp(maxSteps:=9^7)-dsimp only[go_sem,hg]
   refine aH rfl (.done ?_)
   simp(maxSteps:=9^7)-dsimp only[go_sem,LW]
   refine VY (by omega) ?_
   generalize cU x=z at *
   obtain ⟨c,q,e2⟩:=z
   simp only at ho htl ⊢
   simp(maxSteps:=9^7)-dsimp only[go_sem]
   refine aH rfl (.done ?_)
   cases d1:e2 != 0 with
   |true=>
    rw[d1,aQ,XA acc d1] at ho
    rw[<-ho] at fin
    simp only[d1,aQ] at fin
    simp(maxSteps:=9^7)-dsimp only[go_sem,zN,d1]
    exact fin v0 _ _ rfl
   |false=>
    rw[d1,aI] at ho
    simp(maxSteps:=9^7)-dsimp only[go_sem,zN,d1]
    refine aH rfl (.done ?_)
    have z0:(0:Int)<((1:Nat):Int):=by decide
    have z1:(0:Int)<=0:=by decide
    have hvo:=D6 hs hd N u c hto hu (by omega)
    simp(maxSteps:=9^7)-dsimp only[go_sem,F5,he,aY u,forall_eq',z0,z1,bP,dZ,eG,eH]
    refine aB4 hd hs hto hu (by omega) (by omega) ?_
    generalize d9 s N u c=w at *
    obtain ⟨y,e3⟩:=w
    simp only at ho hvo ⊢
    simp(maxSteps:=9^7)-dsimp only[go_sem]
    refine aH rfl (.done ?_)
    cases d2:e3 != 0 with
    |true=>
     rw[d2,aQ,XA acc d2] at ho
     rw[<-ho] at fin
     simp only[d2,aQ] at fin
     simp(maxSteps:=9^7)-dsimp only[go_sem,zZ,d2]
     exact fin v0 _ _ rfl
    |false=>
     rw[d2,aI,aQ2,hm'] at ho
     simp(maxSteps:=9^7)-dsimp only[go_sem,zZ,d2]
     refine aH rfl (.done ?_)
     simp(maxSteps:=9^7)-dsimp only[go_sem,F4,eG,eH,bP,dZ]
     refine ⟨by omega,by omega,aC (i+1,q,acc++[y]) 5 ⟨by simp only;omega,by simp only[bW,JW];omega,by simp only;omega,ho⟩ (by simp only;omega) ?_ ?_⟩
     · simp -dsimp only[go_sem]<;>simp
     · simp -dsimp only[go_sem,he,aY u]<;>simp[he,aY u,aJ y]
 · have hg:decide ((i:Int)<(n:Int))=false:=by simp;omega
   obtain rfl:i=n:=by omega
   rw[Nat.sub_self] at ho
   have ho:((acc++[],x),(0:Int))=jN (d9 s N u) i r:=ho
   rw[fI] at ho
   rw[<-ho] at fin fin2
   simp only[bne_self_eq_false,aI] at fin fin2
   simp(maxSteps:=9^7)-dsimp only[go_sem,hg]
   refine aH rfl (.done ?_)
   cases d1:x==[] with
   |false=>
    rw[d1] at fin
    simp(maxSteps:=9^7)-dsimp only[go_sem,AD,d1,bV]
    exact fin v0 _ _ rfl
   |true=>
    rw[d1] at fin2
    simp(maxSteps:=9^7)-dsimp only[go_sem,AD,d1,bN]
    refine .pub 4 _ _ _ rfl (.sel [] (by simp) (by simp[cS]) rfl (.done ?_))
    have:=fin2 acc rfl
    rw[aJ] at this
    simp -dsimp only[go_sem,cS]
    simpa[Vl.k,Vl.n,Vl.s,Vl.l,Vl.f,hal] using this
end Go.Proofs.YtblfcdllimkbhaaGreat
