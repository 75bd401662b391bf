/- Lemmas and walks for the proof. -/
import Derived.Test.YtkpohmhenegkiaaGreatDoorHc
import Derived.Shelf.Slices.Clone
import Derived.Test.YtkpohmhenegkiaaGreatDoorProg
set_option maxRecDepth 100000
set_option maxHeartbeats 8000000
namespace Go.Proofs.YtkpohmhenegkiaaGreatDoor
open Go.W
def j6 (s:Sc) (i:Nat):Int:=match s.es[i]? with
 | some e=>bif !(w9 (bl e.nm)) then 5 else bif gJ (s.es.take i) e.nm then 7 else DZ e
 | none=>0
def kL (s:Sc) (i:Nat):Int:=match s.ss[i]? with
 | some t=>bif pG s i t.nm != 0 then pG s i t.nm else DU s.ss s.es t
 | none=>0
def KQ (s:Sc):Int:=fE (j6 s) (s.es.length - 0) 0
def FN (s:Sc):Int:=fE (kL s) (s.ss.length - 0) 0
def eR (s:Sc):Int:=bif decide (s.ver < 1) || decide (999 < s.ver) then 4 else bif eW s then 3 else bif KQ s != 0 then KQ s else bif FN s != 0 then FN s else u7 s.ss
inductive TySm:Ty->Prop
 | mk {k s:Int} {n:ByteArray} {e:List Ty}:e.length<=1000000000->(∀ t ∈ e,TySm t)->TySm (.mk k s n e)
structure Sc.fit (s:Sc):Prop where
 ok:s.ok
 lv:∀ t ∈ s.ss,∀ f ∈ t.fs,(cP f.ty).1<=1000000000
 sm:∀ t ∈ s.ss,t.fs.length<=1000000000/\∀ f ∈ t.fs,TySm f.ty
 en:∀ e ∈ s.es,e.ns.length<=1000000000/\e.vs.length<=1000000000
theorem RB {f:Nat->Int} {m:Nat}:∀ (k i:Nat),i + k=m->fE f (m - i) i=0->∀ j,i<=j->j < m->f j=0
 | 0,i,h,_=>fun j h1 h2=>by omega
 | k + 1,i,h,h0=>fun j h1 h2=>by
  have hi:i < m:=by omega
  by_cases e:f i=0
  · rw [yZ hi e] at h0
    rcases bF i j with h3 | h3
    · exact RB k (i + 1) (by omega) h0 j h3 h2
    · obtain rfl:i=j:=by omega
      exact e
  · rw [t8 hi e] at h0; exact absurd h0 e
theorem lW {f:Nat->Int} {m:Nat} (h:fE f (m - 0) 0=0):∀ j,j < m->f j=0:=fun j hj=>RB m 0 (by omega) h j (Nat.zero_le _) hj
theorem VR {ss:List St} {i:Nat} {t:St} (hx:ss[i]? = some t) (h:gK (ss.take i) t.nm=false):fS ss t.nm=some t:=by
 obtain ⟨hl,ht⟩:=a6.1 hx
 have h1:(ss.take i).find? (fun s=>decide (s.nm=t.nm))=none:=by
  rw [List.find?_eq_none]
  intro x hx
  have:=fT h x hx
  simpa using this
 have h2:ss=ss.take i ++ (t :: ss.drop (i + 1)):=by rw [<-ht,<-List.drop_eq_getElem_cons hl,List.take_append_drop]
 unfold fS
 rw [h2,List.find?_append,h1]
 simp
theorem aBX {ss:List St} {es:List En} {t:St} (h:DU ss es t=0):∀ f ∈ t.fs,(1<=f.num/\f.num<=127)/\cC (bl f.nm)=true/\valF ss es f.ty=true:=fun f hf=>by
 obtain ⟨i,hi⟩:=List.mem_iff_getElem?.1 hf
 have:=lW h i (a6.1 hi).1
 unfold pT at this
 rw [hi] at this
 simp only at this
 cases c1:decide (f.num < 1) || decide (127 < f.num) with
 | true=>rw [c1] at this; simp at this
 | false=>
 rw [c1] at this
 simp only [aD] at this
 revert this
 generalize (decide (0 < (i:Int)) && (match t.fs[i - 1]? with | some g=>decide (f.num<=g.num) | none=>false))=b
 intro this
 cases b with
 | true=>simp at this
 | false=>
 simp only [aD] at this
 simp only [Bool.or_eq_false_iff,decide_eq_false_iff_not] at c1
 refine ⟨by omega,?_⟩
 cases c2:cC (bl f.nm) with
 | false=>rw [c2] at this; simp at this
 | true=>
 rw [c2] at this
 cases c3:(t.fs.take i).any (fun g=>decide (g.nm=f.nm)) with
 | true=>rw [c3] at this; simp at this
 | false=>
 rw [c3] at this
 cases c4:valF ss es f.ty with
 | false=>rw [c4] at this; simp at this
 | true=>exact ⟨rfl,rfl⟩
theorem aB4 {s:Sc} {i:Nat} {n:ByteArray} (h:pG s i n=0):w9 (bl n)=true/\gJ s.es n=false/\gK (s.ss.take i) n=false:=by
 unfold pG at h
 cases c1:w9 (bl n) with
 | false=>rw [c1] at h; simp at h
 | true=>
 rw [c1] at h
 cases c2:gJ s.es n with
 | true=>rw [c2] at h; simp at h
 | false=>
 rw [c2] at h
 cases c3:gK (s.ss.take i) n with
 | true=>rw [c3] at h; simp at h
 | false=>exact ⟨rfl,rfl,rfl⟩
theorem LL {s:Sc} {i:Nat} {t:St} (hx:s.ss[i]? = some t) (h:kL s i=0):pG s i t.nm=0/\DU s.ss s.es t=0:=by
 unfold kL at h
 rw [hx] at h
 simp only at h
 by_cases e:pG s i t.nm=0
 · rw [e] at h; exact ⟨e,by simpa using h⟩
 · rw [show (pG s i t.nm != 0)=true by simpa using e] at h
   exact absurd h e
theorem MW {s:Sc} {i:Nat} {t:En} (hx:s.es[i]? = some t) (h:j6 s i=0):w9 (bl t.nm)=true/\gJ (s.es.take i) t.nm=false/\DZ t=0:=by
 unfold j6 at h
 rw [hx] at h
 simp only at h
 cases c1:w9 (bl t.nm) with
 | false=>rw [c1] at h; simp at h
 | true=>
 rw [c1] at h
 cases c2:gJ (s.es.take i) t.nm with
 | true=>rw [c2] at h; simp at h
 | false=>
 rw [c2] at h
 exact ⟨rfl,rfl,by simpa using h⟩
theorem wY {s:Sc} (h:eW s=false):s.es.length<=16/\s.es.length + s.ss.length<=16/\(∀ e ∈ s.es,e.ns.length<=16)/\∀ t ∈ s.ss,t.fs.length<=16:=by
 unfold eW at h
 simp only [Bool.or_eq_false_iff,decide_eq_false_iff_not] at h
 obtain ⟨⟨⟨h1,h2⟩,h3⟩,h4⟩:=h
 refine ⟨by omega,by omega,fun e he=>?_,fun t ht=>?_⟩
 · have:=fT h3 e he; simp at this; exact this
 · have:=fT h4 t ht; simp at this; exact this
theorem MO {s:Sc} (hf:s.fit) (h1:eW s=false) (h2:FN s=0):Gd s.ss s.es:=by
 obtain ⟨l1,l2,l3,l4⟩:=wY h1
 have key:∀ t ∈ s.ss,∃ i,s.ss[i]? = some t/\pG s i t.nm=0/\DU s.ss s.es t=0:=fun t ht=>by
  obtain ⟨i,hi⟩:=List.mem_iff_getElem?.1 ht
  exact ⟨i,hi,LL hi (lW h2 i (a6.1 hi).1)⟩
 refine ⟨hf.ok.ss,by omega,by omega,fun t ht f hm=>?_,hf.lv,fun t ht=>?_⟩
 · obtain ⟨i,hi,c1,c2⟩:=key t ht
   exact (aBX c2 f hm).2.2
 · obtain ⟨i,hi,c1,c2⟩:=key t ht
   exact VR hi (aB4 c1).2.2
def lE (r:List C):Prop:=∃ s:Sc,r=aG s/\s.fit
theorem gA {s:Sc} (h:s.fit):lE (aG s):=⟨s,rfl,h⟩
noncomputable def ckFn:Fun:=wN lE C.sc fun s=>.int .i64 (eR s)
attribute [go_sem] ckFn
theorem KI {a b:Int} (h:a ≠ 0):(bif a != 0 then a else b)=a:=by rw [bne,beq_eq_false_iff_ne.2 h]; rfl
theorem NC {a b:Int} (h:a=0):(bif a != 0 then a else b)=b:=by rw [h]; rfl
def okS (s:Sc) (n:ByteArray):Bool:=eR s == 0 && gK s.ss n
def aIO (N:Nat):W.Spec:=fun av H K=>∃ t:Ty,av=[.va (.gs (aN t))]/\H=[]/\TyOk t/\TySm t/\t.h<=N/\K (.va (.gs (aN t))) []
theorem RN {N:Nat} {t:Ty} {K:S->Hp->Prop} (h1:TyOk t) (h2:TySm t) (h3:t.h<=N) (hK:K (.va (.gs (aN t))) []):aIO N [.va (.gs (aN t))] [] K:=⟨t,rfl,rfl,h1,h2,h3,hK⟩
theorem gQ {α:Type} {l:List α} {i:Nat} {x:α} (h:l[i]? = some x):l.take (i + 1)=l.take i ++ [x]:=by rw [List.take_add_one,h]; rfl
theorem R9 (t:Ty):∀ c ∈ aN t,c.shut=true/\c.one:=by rw [aO]; simp [go_sem,C.shut]
theorem D5:∀ N,Meets Tryz.prog 149 (aIO N)
 | 0=>⟨by kernel_rfl,by rintro xs vs E ro w K _ _ _ ⟨t,_,_,_,_,h,_⟩; have:=t.h_pos; omega⟩
 | N + 1=>by
  refine aE Tryz.func149 aJW 1 (by rw [Tryz.ntmps149]; decide) (aB (D5 N) (aA _)) (fun av H K h=>by obtain ⟨_,rfl,_⟩:=h; rfl) ?_
  rintro av H K ⟨⟨k,s,n,e⟩,rfl,rfl,h1,h2,h3,hK⟩
  have hle:=h1.len
  have hoe:=h1.e
  obtain ⟨hl,hse⟩:e.length<=1000000000/\∀ t ∈ e,TySm t:=by cases h2; exact ⟨by assumption,by assumption⟩
  simp only [Ty.e] at hle hoe
  simp (maxSteps:=1000000) -dsimp only [go_sem,aN,aV,YH,ZK]
  refine dX (α:=Nat) (fun i=>[(2,.va (.c1 (.pt 1 0))),(3,.va (.c1 (.pt 2 0))),(14,.va (.c1 (.fz (e.map aN)))),(15,iS .i64 e.length),(16,iS .i64 i)]) (fun i=>[.cells (aN (.mk k s n e)) 28,.cells [.vl (.int .i64 0),.vl (.int .i64 0),.vl (.string (mk [])),.vl (.slice none 0 0)] 28,.cells [.vl (.int .i64 k),.vl (.int .i64 s),.vl (.string n),.sl 3 i] 28,.row ((e.take i).map aN) 28 4])
   (fun i=>i<=e.length) (fun i=>e.length - i) (.nilc 2 3 28 4 [.vl (.int .i64 k),.vl (.int .i64 s),.vl (.string n),.vl (.slice none 0 0)] 28 rfl rfl (l9 0 4 (Nat.zero_le _) ?_ ?_)) ?_
  · simp -dsimp only [go_sem]<;>simp
  · simp -dsimp only [go_sem,aN,aV]<;>simp
  intro i hi
  have hz:(e.take i).length=i:=by rw [List.length_take]; omega
  rcases bF i e.length with hlt | hge
  · have hg:decide ((i:Int) < (e.length:Int))=true:=by simp; omega
    obtain ⟨u,hx⟩:∃ t,e[i]? = some t:=⟨_,aW hlt⟩
    have q1:=aY (row:=aN) hx
    have hu:=bJ hx
    simp (maxSteps:=1000000) -dsimp only [go_sem,hg,↓q1,i6]
    refine ⟨by omega,aA3 u,RN (hoe u hu) (hse u hu) ?_ ?_⟩
    · have:=Ty.hs_mem hu; rw [Ty.h] at h3; omega
    simp (maxSteps:=1000000) -dsimp only [go_sem,i6]
    refine ⟨R9 u,R9 u,hz,by omega,by omega,aC (i + 1) 4 (by omega) (by omega) ?_ ?_⟩
    · simp -dsimp only [go_sem]<;>simp
    · simp -dsimp only [go_sem,aN,aV,gQ hx]<;>simp
  · have hg:decide ((i:Int) < (e.length:Int))=false:=by simp; omega
    obtain rfl:i=e.length:=by omega
    rw [List.take_length]
    simp (maxSteps:=1000000) -dsimp only [go_sem,hg]
    refine .pub 3 _ _ _ rfl (.sel [] (by simp) (by simp [cW]) rfl (.done ?_))
    simp -dsimp only [go_sem,cW]
    simpa [aN,aV] using hK
def aGK:W.Spec:=fun av H K=>∃ f:Fl,av=[.va (.gs (aZ f))]/\H=[]/\f.ok/\TySm f.ty/\K (.va (.gs (aZ f))) []
theorem RF {f:Fl} {K:S->Hp->Prop} (h1:f.ok) (h2:TySm f.ty) (hK:K (.va (.gs (aZ f))) []):aGK [.va (.gs (aZ f))] [] K:=⟨f,rfl,rfl,h1,h2,hK⟩
theorem y7:Meets Tryz.prog 130 aGK:=by
 refine eU 0 (t:=fun N=>fun av H K=>∃ f:Fl,av=[.va (.gs (aZ f))]/\H=[]/\f.ok/\TySm f.ty/\f.ty.h=N/\K (.va (.gs (aZ f))) []) (fun N=>?_) fun av H K ⟨f,e1,e2,h1,h2,hK⟩=>⟨f.ty.h,f,e1,e2,h1,h2,rfl,hK⟩
 refine aE Tryz.func130 aKV 1 (by rw [Tryz.ntmps130]; decide) (aB (D5 N) (aA _)) (fun av H K h=>by obtain ⟨_,rfl,_⟩:=h; rfl) ?_
 rintro av H K ⟨f,rfl,rfl,h1,h2,rfl,hK⟩
 simp (maxSteps:=1000000) -dsimp only [go_sem,aZ,XF,ZN,wE]
 refine RN h1.ty h2 (Nat.le_refl _) ?_
 simp (maxSteps:=1000000) -dsimp only [go_sem,aO]
 exact .sel [] (by simp) (by simp) rfl (.done (by simpa [go_sem,aZ] using hK))
def YJ:W.Spec:=fun av H K=>∃ t:St,av=[.va (.gs (aP t))]/\H=[]/\t.ok/\(t.fs.length<=1000000000/\∀ f ∈ t.fs,TySm f.ty)/\K (.va (.gs (aP t))) []
theorem aFC {t:St} {K:S->Hp->Prop} (h1:t.ok) (h2:t.fs.length<=1000000000/\∀ f ∈ t.fs,TySm f.ty) (hK:K (.va (.gs (aP t))) []):YJ [.va (.gs (aP t))] [] K:=⟨t,rfl,rfl,h1,h2,hK⟩
theorem LE:Meets Tryz.prog 129 YJ:=by
 refine aE Tryz.func129 aJG 1 (by rw [Tryz.ntmps129]; decide) (aB y7 (aA _)) (fun av H K h=>by obtain ⟨_,rfl,_⟩:=h; rfl) ?_
 rintro av H K ⟨⟨n,l⟩,rfl,rfl,h1,⟨hl,hse⟩,hK⟩
 obtain ⟨hn,_,hfs⟩:=h1
 simp only at hn hl hse hfs
 simp (maxSteps:=1000000) -dsimp only [go_sem,aP,Y5,XC]
 refine dX (α:=Nat) (fun i=>[(2,.va (.c1 (.pt 1 0))),(3,.va (.c1 (.pt 2 0))),(10,.va (.c1 (.fz (l.map aZ)))),(11,iS .i64 l.length),(12,iS .i64 i)]) (fun i=>[.cells (aP ⟨n,l⟩) 95,.cells [.vl (.string (mk [])),.vl (.slice none 0 0)] 95,.cells [.vl (.string n),.sl 3 i] 95,.row ((l.take i).map aZ) 97 7])
  (fun i=>i<=l.length) (fun i=>l.length - i) (.nilc 2 1 97 7 [.vl (.string n),.vl (.slice none 0 0)] 95 rfl rfl (l9 0 4 (Nat.zero_le _) ?_ ?_)) ?_
 · simp -dsimp only [go_sem]<;>simp
 · simp -dsimp only [go_sem,aP]<;>simp
 intro i hi
 have hz:(l.take i).length=i:=by rw [List.length_take]; omega
 rcases bF i l.length with hlt | hge
 · have hg:decide ((i:Int) < (l.length:Int))=true:=by simp; omega
   obtain ⟨u,hx⟩:∃ t,l[i]? = some t:=⟨_,aW hlt⟩
   have q1:=aY (row:=aZ) hx
   have hu:=bJ hx
   have hcd:aZ u=[.vl (.int .i64 u.num),.vl (.string u.nm),.vl (.int .i64 u.ty.k),.vl (.int .i64 u.ty.s),.vl (.string u.ty.n),.fz (u.ty.e.map aN),.vl (.bool u.opt)]:=rfl
   simp (maxSteps:=1000000) -dsimp only [go_sem,hg,↓q1,aZ]
   refine ⟨by omega,RF (hfs u hu) (hse u hu) ?_⟩
   simp (maxSteps:=1000000) -dsimp only [go_sem,aZ]
   refine ⟨hz,by omega,by omega,aC (i + 1) 4 (by omega) (by omega) ?_ ?_⟩
   · simp -dsimp only [go_sem]<;>simp
   · simp -dsimp only [go_sem,aP,gQ hx]<;>simp [aZ]
 · have hg:decide ((i:Int) < (l.length:Int))=false:=by simp; omega
   obtain rfl:i=l.length:=by omega
   rw [List.take_length]
   simp (maxSteps:=1000000) -dsimp only [go_sem,hg]
   refine .pub 3 _ _ _ rfl (.sel [] (by simp) (by simp [cW]) rfl (.done ?_))
   simp -dsimp only [go_sem,cW]
   simpa [aP] using hK
theorem oL {α:Type} {l:List α} {i:Nat} {x:α} (hx:l[i]? = some x) (p:α->Bool):(l.drop i).find? p=bif p x then some x else (l.drop (i + 1)).find? p:=by
 obtain ⟨h,rfl⟩:=a6.1 hx
 rw [List.drop_eq_getElem_cons h,List.find?_cons]
 cases p l[i]<;>rfl
def zB:W.Spec:=fun av H K=>∃ (s:Sc) (n:ByteArray),av=[.va (.gs (aG s)),tS n]/\H=[]/\s.fit/\K (.tu [.gs (aP ((fS s.ss n).getD default)),bA (gK s.ss n)]) []
theorem lS {s:Sc} {n:ByteArray} {K:S->Hp->Prop} (h:s.fit) (hK:K (.tu [.gs (aP ((fS s.ss n).getD default)),bA (gK s.ss n)]) []):zB [.va (.gs (aG s)),tS n] [] K:=⟨s,n,rfl,rfl,h,hK⟩
theorem LN:aP default=[.vl (.string (mk [])),.fz []]:=rfl
theorem L1:aZ default=[.vl (.int .i64 0),.vl (.string (mk [])),.vl (.int .i64 0),.vl (.int .i64 0),.vl (.string (mk [])),.fz [],.vl (.bool false)]:=rfl
theorem oI:Meets Tryz.prog 103 zB:=by
 refine aE Tryz.func103 aJB 2 (by rw [Tryz.ntmps103]; decide) (aB LE (aA _)) (fun av H K h=>by obtain ⟨_,_,rfl,_⟩:=h; rfl) ?_
 rintro av H K ⟨s,n,rfl,rfl,hs,hK⟩
 rw [<-AA] at hK
 have hl:=hs.ok.ls
 simp -dsimp only [go_sem,aG,ZH,YG]
 refine aL (α:=Nat) (fun i=>[(1,tS n),(2,.va (.c1 (.pt 0 0))),(4,.va (.c1 (.pt 1 0))),(9,.va (.c1 (.fz (s.ss.map aP)))),(10,iS .i64 s.ss.length),(11,iS .i64 i)]) (fun _=>[.cells (aG s) 25,.cells [.vl (.string (mk [])),.vl (.slice none 0 0)] 95])
  (fun i=>i<=s.ss.length/\fS (s.ss.drop i) n=fS s.ss n) (fun i=>s.ss.length - i) 0 2 ⟨Nat.zero_le _,rfl⟩ ?_ ?_ ?_
 · simp [go_sem]
 · simp [go_sem,aG]
 rintro i ⟨hi,ho⟩
 rcases bF i s.ss.length with hlt | hge
 · have hg:decide ((i:Int) < (s.ss.length:Int))=true:=by simp; omega
   obtain ⟨t,hx⟩:∃ e,s.ss[i]? = some e:=⟨_,aW hlt⟩
   have q2:=aY (row:=aP) hx
   have htm:=bJ hx
   rw [fS,oL hx] at ho
   cases hc:decide (t.nm=n) with
   | true=>
    rw [hc,aI] at ho
    rw [<-ho] at hK
    simp (maxSteps:=1000000) -dsimp only [go_sem,hg,↓q2,aP,aG,eT,hc]
    refine ⟨by omega,aFC (hs.ok.ss t htm) (hs.sm t htm) ?_⟩
    simp (maxSteps:=1000000) -dsimp only [go_sem,aP]
    exact .sel [] (by simp) (by simp) rfl (.done (by simpa [go_sem,aP] using hK))
   | false=>
    rw [hc,aD] at ho
    simp (maxSteps:=1000000) -dsimp only [go_sem,hg,↓q2,aP,aG,eT,hc]
    refine ⟨by omega,by omega,aC (i + 1) 2 ⟨by omega,ho⟩ (by omega) ?_ ?_⟩
    · simp [go_sem]
    · simp [go_sem,aG]
 · have hg:decide ((i:Int) < (s.ss.length:Int))=false:=by simp; omega
   obtain rfl:i=s.ss.length:=by omega
   rw [List.drop_length] at ho
   rw [<-ho] at hK
   simp -dsimp only [go_sem,hg,aG]
   exact .sel [] (by simp) (by simp) rfl (.done (by simpa [go_sem,fS,LN] using hK))
def fF (l:List Fl) (k:Int):Option Fl:=l.find? fun f=>decide (f.num=k)
def BS:W.Spec:=fun av H K=>∃ (t:St) (k:Int),av=[.va (.gs (aP t)),iS .i64 k]/\H=[]/\t.ok/\(∀ f ∈ t.fs,TySm f.ty)/\K (.tu [.gs (aZ ((fF t.fs k).getD default)),bA (fF t.fs k).isSome]) []
theorem MI {t:St} {k:Int} {K:S->Hp->Prop} (h:t.ok) (h2:∀ f ∈ t.fs,TySm f.ty) (hK:K (.tu [.gs (aZ ((fF t.fs k).getD default)),bA (fF t.fs k).isSome]) []):BS [.va (.gs (aP t)),iS .i64 k] [] K:=⟨t,k,rfl,rfl,h,h2,hK⟩
theorem s9:Meets Tryz.prog 104 BS:=by
 refine aE Tryz.func104 aJS 2 (by rw [Tryz.ntmps104]; decide) (aB y7 (aA _)) (fun av H K h=>by obtain ⟨_,_,rfl,_⟩:=h; rfl) ?_
 rintro av H K ⟨s,n,rfl,rfl,hs,hsm,hK⟩
 have hl:=hs.len
 simp -dsimp only [go_sem,aP,ZZ,YL]
 refine aL (α:=Nat) (fun i=>[(1,iS .i64 n),(2,.va (.c1 (.pt 0 0))),(4,.va (.c1 (.pt 1 0))),(9,.va (.c1 (.fz (s.fs.map aZ)))),(10,iS .i64 s.fs.length),(11,iS .i64 i)]) (fun _=>[.cells (aP s) 95,.cells [.vl (.int .i64 0),.vl (.string (mk [])),.vl (.int .i64 0),.vl (.int .i64 0),.vl (.string (mk [])),.vl (.slice none 0 0),.vl (.bool false)] 97])
  (fun i=>i<=s.fs.length/\fF (s.fs.drop i) n=fF s.fs n) (fun i=>s.fs.length - i) 0 2 ⟨Nat.zero_le _,rfl⟩ ?_ ?_ ?_
 · simp [go_sem]
 · simp [go_sem,aP]
 rintro i ⟨hi,ho⟩
 rcases bF i s.fs.length with hlt | hge
 · have hg:decide ((i:Int) < (s.fs.length:Int))=true:=by simp; omega
   obtain ⟨t,hx⟩:∃ e,s.fs[i]? = some e:=⟨_,aW hlt⟩
   have q2:=aY (row:=aZ) hx
   have htm:=bJ hx
   rw [fF,oL hx] at ho
   have hq:(t.num == n)=decide (t.num=n):=rfl
   cases hc:decide (t.num=n) with
   | true=>
    rw [hc,aI] at ho
    rw [<-ho] at hK
    simp (maxSteps:=1000000) -dsimp only [go_sem,hg,↓q2,aZ,aP,hq,hc]
    refine ⟨by omega,RF (hs.fs t htm) (hsm t htm) ?_⟩
    simp (maxSteps:=1000000) -dsimp only [go_sem,aZ]
    exact .sel [] (by simp) (by simp) rfl (.done (by simpa [go_sem,aZ] using hK))
   | false=>
    rw [hc,aD] at ho
    simp (maxSteps:=1000000) -dsimp only [go_sem,hg,↓q2,aZ,aP,hq,hc]
    refine ⟨by omega,by omega,aC (i + 1) 2 ⟨by omega,ho⟩ (by omega) ?_ ?_⟩
    · simp [go_sem]
    · simp [go_sem,aP]
 · have hg:decide ((i:Int) < (s.fs.length:Int))=false:=by simp; omega
   obtain rfl:i=s.fs.length:=by omega
   rw [List.drop_length] at ho
   rw [<-ho] at hK
   simp -dsimp only [go_sem,hg,aP]
   exact .sel [] (by simp) (by simp) rfl (.done (by simpa [go_sem,fF,L1] using hK))
@[go_sem] theorem aS7 (t:Ty) (H:Hp):(aN t).map (C.bor H)=aN t:=by rw [aO]; rfl
theorem yF:Meets Tryz.prog 86 (u6 fun l=>.bool (cC l)).sp:=by
 refine aE Tryz.func86 aQQ 1 (by rw [Tryz.ntmps86]; decide) (aA _) pH ?_
 rintro xs H K ⟨⟨h,rfl⟩,hK⟩
 obtain ⟨s,rfl⟩:=iZ h
 simp -dsimp only [go_sem,aIR,aI3] at hK ⊢
 refine ⟨fun h1=>?_,fun h1=>?_⟩
 · refine bW hK ?_
   have:cC (bl s)=false:=by
    simp at h1
    rcases h1 with h1 | h1
    · have:bl s=[]:=List.length_eq_zero_iff.1 (by omega)
      rw [this]; rfl
    · exact pD (by omega)
   rw [this]
 · have hlen:0 < (bl s).length/\(bl s).length<=16:=by simp at h1; omega
   obtain ⟨hl0,hl⟩:=hlen
   refine aL (α:=Nat) (fun i=>[(0,tS s),(3,iS .i64 i)]) (fun i=>[]) (fun i=>i<=(bl s).length/\(∀ (j:Nat) (x:UInt8),j < i->(bl s)[j]? = some x->aU x=true)/\(0 < i->∀ x,(bl s)[0]? = some x->bD x.toNat=true)) (fun i=>(bl s).length - i) 0 0 ⟨by omega,by omega,by omega⟩ ?_ ?_ ?_
   · simp -dsimp only [go_sem]; simp
   · simp [go_sem]
   rintro i ⟨hi,ha,hb⟩
   rcases bF i (bl s).length with hlt | hge
   · have hg:decide ((i:Int) < ((bl s).length:Int))=true:=by simp; omega
     obtain ⟨c,hc⟩:∃ c,(bl s)[i]? = some c:=⟨_,aW hlt⟩
     have bad:(i=0/\bD c.toNat=false)\/aU c=false->W.Fin 0 K (bS false) []:=fun h=>bW hK (by
      rcases h with ⟨rfl,h⟩ | h
      · rw [rK hc h]
      · rw [C9 hc h])
     have bN:aU c=true->(i=0->bD c.toNat=true)->(i + 1<=(bl s).length/\(∀ (j:Nat) (x:UInt8),j < i + 1->(bl s)[j]? = some x->aU x=true)/\(0 < i + 1->∀ x,(bl s)[0]? = some x->bD x.toNat=true)):=fun h1 h2=>⟨by omega,fun j x hj hx=>by
      rcases bF j i with h4 | h4
      · exact ha j x h4 hx
      · obtain rfl:j=i:=by omega
        rw [hc] at hx; obtain rfl:=bG hx; exact h1,fun _ x hx=>by
      rcases Nat.eq_zero_or_pos i with h0 | h0
      · subst h0; rw [hc] at hx; obtain rfl:=bG hx; exact h2 rfl
      · exact hb h0 x hx⟩
     have hb255:=c.toNat_lt
     have hcs:(0<=(c.toNat:Int)/\(c.toNat:Int)<=47)\/(48<=(c.toNat:Int)/\(c.toNat:Int)<=57)\/(58<=(c.toNat:Int)/\(c.toNat:Int)<=64)\/(65<=(c.toNat:Int)/\(c.toNat:Int)<=90)\/(91<=(c.toNat:Int)/\(c.toNat:Int)<=94)\/(95<=(c.toNat:Int)/\(c.toNat:Int)<=95)\/(96<=(c.toNat:Int)/\(c.toNat:Int)<=96)\/(97<=(c.toNat:Int)/\(c.toNat:Int)<=122)\/(123<=(c.toNat:Int)/\(c.toNat:Int)<=255):=by omega
     rcases hcs with h2 | h2 | h2 | h2 | h2 | h2 | h2 | h2 | h2
     · have d1:decide (97<=(c.toNat:Int))=false:=decide_eq_false (by omega)
       have d2:decide ((c.toNat:Int)<=122)=true:=decide_eq_true (by omega)
       have d3:decide (65<=(c.toNat:Int))=false:=decide_eq_false (by omega)
       have d4:decide ((c.toNat:Int)<=90)=true:=decide_eq_true (by omega)
       have d5:((c.toNat:Int) == 95)=false:=by simp; omega
       have d6:decide (48<=(c.toNat:Int))=false:=decide_eq_false (by omega)
       have d7:decide ((c.toNat:Int)<=57)=true:=decide_eq_true (by omega)
       have hL:bD c.toNat=false:=by unfold bD; rw [d1,d2,d3,d4]; rfl
       have hW:aU c=false:=by unfold aU eQ gC; rw [hL,d5,d6,d7]; rfl
       rcases Nat.eq_zero_or_pos i with h0 | h0
       · have hz:((i:Int) == 0)=true:=by simp; omega
         simp (maxSteps:=1000000) -dsimp only [go_sem,hg,hc,aJ,forall_eq',Int.toNat_natCast,d1,d3,d5,d6,hz,Bool.true_and,Bool.and_true,Bool.false_and,Bool.and_false,Bool.not_true,Bool.not_false]
         repeat' first | intro _ | apply And.intro
         all_goals first | omega | (rename_i h9; simp at h9; done) | skip
         all_goals exact bad (by rw [hL,hW]; exact .inl ⟨h0,rfl⟩)
       · have hz:((i:Int) == 0)=false:=by simp; omega
         simp (maxSteps:=1000000) -dsimp only [go_sem,hg,hc,aJ,forall_eq',Int.toNat_natCast,d1,d3,d5,d6,hz,Bool.true_and,Bool.and_true,Bool.false_and,Bool.not_false]
         repeat' first | intro _ | apply And.intro
         all_goals first | omega | (rename_i h9; simp at h9; done) | skip
         all_goals exact bad (by rw [hL,hW]; exact .inr rfl)
     · have d1:decide (97<=(c.toNat:Int))=false:=decide_eq_false (by omega)
       have d2:decide ((c.toNat:Int)<=122)=true:=decide_eq_true (by omega)
       have d3:decide (65<=(c.toNat:Int))=false:=decide_eq_false (by omega)
       have d4:decide ((c.toNat:Int)<=90)=true:=decide_eq_true (by omega)
       have d5:((c.toNat:Int) == 95)=false:=by simp; omega
       have d6:decide (48<=(c.toNat:Int))=true:=decide_eq_true (by omega)
       have d7:decide ((c.toNat:Int)<=57)=true:=decide_eq_true (by omega)
       have hL:bD c.toNat=false:=by unfold bD; rw [d1,d2,d3,d4]; rfl
       have hW:aU c=true:=by unfold aU eQ gC; rw [hL,d5,d6,d7]; rfl
       rcases Nat.eq_zero_or_pos i with h0 | h0
       · have hz:((i:Int) == 0)=true:=by simp; omega
         simp (maxSteps:=1000000) -dsimp only [go_sem,hg,hc,aJ,forall_eq',Int.toNat_natCast,d1,d3,d5,d6,hz,Bool.true_and,Bool.and_true,Bool.false_and,Bool.and_false,Bool.not_true,Bool.not_false]
         repeat' first | intro _ | apply And.intro
         all_goals first | omega | (rename_i h9; simp at h9; done) | skip
         all_goals exact bad (by rw [hL,hW]; exact .inl ⟨h0,rfl⟩)
       · have hz:((i:Int) == 0)=false:=by simp; omega
         simp (maxSteps:=1000000) -dsimp only [go_sem,hg,hc,aJ,forall_eq',Int.toNat_natCast,d1,d3,d5,d6,d7,hz,Bool.true_and,Bool.and_true,Bool.false_and,Bool.not_false]
         repeat' first | intro _ | apply And.intro
         all_goals first | omega | (rename_i h9; simp at h9; done) | skip
         all_goals exact aC (i + 1) 0 (bN (by rw [hW]) (fun h3=>by omega)) (by omega) (by simp -dsimp only [go_sem]; simp) (by simp [go_sem])
     · have d1:decide (97<=(c.toNat:Int))=false:=decide_eq_false (by omega)
       have d2:decide ((c.toNat:Int)<=122)=true:=decide_eq_true (by omega)
       have d3:decide (65<=(c.toNat:Int))=false:=decide_eq_false (by omega)
       have d4:decide ((c.toNat:Int)<=90)=true:=decide_eq_true (by omega)
       have d5:((c.toNat:Int) == 95)=false:=by simp; omega
       have d6:decide (48<=(c.toNat:Int))=true:=decide_eq_true (by omega)
       have d7:decide ((c.toNat:Int)<=57)=false:=decide_eq_false (by omega)
       have hL:bD c.toNat=false:=by unfold bD; rw [d1,d2,d3,d4]; rfl
       have hW:aU c=false:=by unfold aU eQ gC; rw [hL,d5,d6,d7]; rfl
       rcases Nat.eq_zero_or_pos i with h0 | h0
       · have hz:((i:Int) == 0)=true:=by simp; omega
         simp (maxSteps:=1000000) -dsimp only [go_sem,hg,hc,aJ,forall_eq',Int.toNat_natCast,d1,d3,d5,d6,hz,Bool.true_and,Bool.and_true,Bool.false_and,Bool.and_false,Bool.not_true,Bool.not_false]
         repeat' first | intro _ | apply And.intro
         all_goals first | omega | (rename_i h9; simp at h9; done) | skip
         all_goals exact bad (by rw [hL,hW]; exact .inl ⟨h0,rfl⟩)
       · have hz:((i:Int) == 0)=false:=by simp; omega
         simp (maxSteps:=1000000) -dsimp only [go_sem,hg,hc,aJ,forall_eq',Int.toNat_natCast,d1,d3,d5,d6,d7,hz,Bool.true_and,Bool.and_true,Bool.false_and,Bool.not_false]
         repeat' first | intro _ | apply And.intro
         all_goals first | omega | (rename_i h9; simp at h9; done) | skip
         all_goals exact bad (by rw [hL,hW]; exact .inr rfl)
     · have d1:decide (97<=(c.toNat:Int))=false:=decide_eq_false (by omega)
       have d2:decide ((c.toNat:Int)<=122)=true:=decide_eq_true (by omega)
       have d3:decide (65<=(c.toNat:Int))=true:=decide_eq_true (by omega)
       have d4:decide ((c.toNat:Int)<=90)=true:=decide_eq_true (by omega)
       have d5:((c.toNat:Int) == 95)=false:=by simp; omega
       have d6:decide (48<=(c.toNat:Int))=true:=decide_eq_true (by omega)
       have d7:decide ((c.toNat:Int)<=57)=false:=decide_eq_false (by omega)
       have hL:bD c.toNat=true:=by unfold bD; rw [d1,d2,d3,d4]; rfl
       have hW:aU c=true:=by unfold aU eQ gC; rw [hL,d5,d6,d7]; rfl
       rcases Nat.eq_zero_or_pos i with h0 | h0
       · have hz:((i:Int) == 0)=true:=by simp; omega
         simp (maxSteps:=1000000) -dsimp only [go_sem,hg,hc,aJ,forall_eq',Int.toNat_natCast,d1,d3,d4,d5,d6,hz,Bool.true_and,Bool.and_true,Bool.false_and,Bool.and_false,Bool.not_true,Bool.not_false]
         repeat' first | intro _ | apply And.intro
         all_goals first | omega | (rename_i h9; simp at h9; done) | skip
         all_goals exact aC (i + 1) 0 (bN (by rw [hW]) (fun h3=>by rw [hL])) (by omega) (by simp -dsimp only [go_sem]; simp) (by simp [go_sem])
       · have hz:((i:Int) == 0)=false:=by simp; omega
         simp (maxSteps:=1000000) -dsimp only [go_sem,hg,hc,aJ,forall_eq',Int.toNat_natCast,d1,d3,d4,d5,d6,d7,hz,Bool.true_and,Bool.and_true,Bool.false_and,Bool.not_false]
         repeat' first | intro _ | apply And.intro
         all_goals first | omega | (rename_i h9; simp at h9; done) | skip
         all_goals exact aC (i + 1) 0 (bN (by rw [hW]) (fun h3=>by rw [hL])) (by omega) (by simp -dsimp only [go_sem]; simp) (by simp [go_sem])
     · have d1:decide (97<=(c.toNat:Int))=false:=decide_eq_false (by omega)
       have d2:decide ((c.toNat:Int)<=122)=true:=decide_eq_true (by omega)
       have d3:decide (65<=(c.toNat:Int))=true:=decide_eq_true (by omega)
       have d4:decide ((c.toNat:Int)<=90)=false:=decide_eq_false (by omega)
       have d5:((c.toNat:Int) == 95)=false:=by simp; omega
       have d6:decide (48<=(c.toNat:Int))=true:=decide_eq_true (by omega)
       have d7:decide ((c.toNat:Int)<=57)=false:=decide_eq_false (by omega)
       have hL:bD c.toNat=false:=by unfold bD; rw [d1,d2,d3,d4]; rfl
       have hW:aU c=false:=by unfold aU eQ gC; rw [hL,d5,d6,d7]; rfl
       rcases Nat.eq_zero_or_pos i with h0 | h0
       · have hz:((i:Int) == 0)=true:=by simp; omega
         simp (maxSteps:=1000000) -dsimp only [go_sem,hg,hc,aJ,forall_eq',Int.toNat_natCast,d1,d3,d4,d5,d6,hz,Bool.true_and,Bool.and_true,Bool.false_and,Bool.and_false,Bool.not_true,Bool.not_false]
         repeat' first | intro _ | apply And.intro
         all_goals first | omega | (rename_i h9; simp at h9; done) | skip
         all_goals exact bad (by rw [hL,hW]; exact .inl ⟨h0,rfl⟩)
       · have hz:((i:Int) == 0)=false:=by simp; omega
         simp (maxSteps:=1000000) -dsimp only [go_sem,hg,hc,aJ,forall_eq',Int.toNat_natCast,d1,d3,d4,d5,d6,d7,hz,Bool.true_and,Bool.and_true,Bool.false_and,Bool.not_false]
         repeat' first | intro _ | apply And.intro
         all_goals first | omega | (rename_i h9; simp at h9; done) | skip
         all_goals exact bad (by rw [hL,hW]; exact .inr rfl)
     · have d1:decide (97<=(c.toNat:Int))=false:=decide_eq_false (by omega)
       have d2:decide ((c.toNat:Int)<=122)=true:=decide_eq_true (by omega)
       have d3:decide (65<=(c.toNat:Int))=true:=decide_eq_true (by omega)
       have d4:decide ((c.toNat:Int)<=90)=false:=decide_eq_false (by omega)
       have d5:((c.toNat:Int) == 95)=true:=by simp; omega
       have d6:decide (48<=(c.toNat:Int))=true:=decide_eq_true (by omega)
       have d7:decide ((c.toNat:Int)<=57)=false:=decide_eq_false (by omega)
       have hL:bD c.toNat=false:=by unfold bD; rw [d1,d2,d3,d4]; rfl
       have hW:aU c=true:=by unfold aU eQ gC; rw [hL,d5,d6,d7]; rfl
       rcases Nat.eq_zero_or_pos i with h0 | h0
       · have hz:((i:Int) == 0)=true:=by simp; omega
         simp (maxSteps:=1000000) -dsimp only [go_sem,hg,hc,aJ,forall_eq',Int.toNat_natCast,d1,d3,d4,d5,hz,Bool.true_and,Bool.and_true,Bool.false_and,Bool.and_false,Bool.not_true,Bool.not_false]
         repeat' first | intro _ | apply And.intro
         all_goals first | omega | (rename_i h9; simp at h9; done) | skip
         all_goals exact bad (by rw [hL,hW]; exact .inl ⟨h0,rfl⟩)
       · have hz:((i:Int) == 0)=false:=by simp; omega
         simp (maxSteps:=1000000) -dsimp only [go_sem,hg,hc,aJ,forall_eq',Int.toNat_natCast,d1,d3,d4,d5,hz,Bool.true_and,Bool.and_true,Bool.false_and,Bool.not_true,Bool.not_false]
         repeat' first | intro _ | apply And.intro
         all_goals first | omega | (rename_i h9; simp at h9; done) | skip
         all_goals exact aC (i + 1) 0 (bN (by rw [hW]) (fun h3=>by omega)) (by omega) (by simp -dsimp only [go_sem]; simp) (by simp [go_sem])
     · have d1:decide (97<=(c.toNat:Int))=false:=decide_eq_false (by omega)
       have d2:decide ((c.toNat:Int)<=122)=true:=decide_eq_true (by omega)
       have d3:decide (65<=(c.toNat:Int))=true:=decide_eq_true (by omega)
       have d4:decide ((c.toNat:Int)<=90)=false:=decide_eq_false (by omega)
       have d5:((c.toNat:Int) == 95)=false:=by simp; omega
       have d6:decide (48<=(c.toNat:Int))=true:=decide_eq_true (by omega)
       have d7:decide ((c.toNat:Int)<=57)=false:=decide_eq_false (by omega)
       have hL:bD c.toNat=false:=by unfold bD; rw [d1,d2,d3,d4]; rfl
       have hW:aU c=false:=by unfold aU eQ gC; rw [hL,d5,d6,d7]; rfl
       rcases Nat.eq_zero_or_pos i with h0 | h0
       · have hz:((i:Int) == 0)=true:=by simp; omega
         simp (maxSteps:=1000000) -dsimp only [go_sem,hg,hc,aJ,forall_eq',Int.toNat_natCast,d1,d3,d4,d5,d6,hz,Bool.true_and,Bool.and_true,Bool.false_and,Bool.and_false,Bool.not_true,Bool.not_false]
         repeat' first | intro _ | apply And.intro
         all_goals first | omega | (rename_i h9; simp at h9; done) | skip
         all_goals exact bad (by rw [hL,hW]; exact .inl ⟨h0,rfl⟩)
       · have hz:((i:Int) == 0)=false:=by simp; omega
         simp (maxSteps:=1000000) -dsimp only [go_sem,hg,hc,aJ,forall_eq',Int.toNat_natCast,d1,d3,d4,d5,d6,d7,hz,Bool.true_and,Bool.and_true,Bool.false_and,Bool.not_false]
         repeat' first | intro _ | apply And.intro
         all_goals first | omega | (rename_i h9; simp at h9; done) | skip
         all_goals exact bad (by rw [hL,hW]; exact .inr rfl)
     · have d1:decide (97<=(c.toNat:Int))=true:=decide_eq_true (by omega)
       have d2:decide ((c.toNat:Int)<=122)=true:=decide_eq_true (by omega)
       have d3:decide (65<=(c.toNat:Int))=true:=decide_eq_true (by omega)
       have d4:decide ((c.toNat:Int)<=90)=false:=decide_eq_false (by omega)
       have d5:((c.toNat:Int) == 95)=false:=by simp; omega
       have d6:decide (48<=(c.toNat:Int))=true:=decide_eq_true (by omega)
       have d7:decide ((c.toNat:Int)<=57)=false:=decide_eq_false (by omega)
       have hL:bD c.toNat=true:=by unfold bD; rw [d1,d2,d3,d4]; rfl
       have hW:aU c=true:=by unfold aU eQ gC; rw [hL,d5,d6,d7]; rfl
       rcases Nat.eq_zero_or_pos i with h0 | h0
       · have hz:((i:Int) == 0)=true:=by simp; omega
         simp (maxSteps:=1000000) -dsimp only [go_sem,hg,hc,aJ,forall_eq',Int.toNat_natCast,d1,d2,d5,d6,hz,Bool.true_and,Bool.and_true,Bool.false_and,Bool.and_false,Bool.not_true,Bool.not_false]
         repeat' first | intro _ | apply And.intro
         all_goals first | omega | (rename_i h9; simp at h9; done) | skip
         all_goals exact aC (i + 1) 0 (bN (by rw [hW]) (fun h3=>by rw [hL])) (by omega) (by simp -dsimp only [go_sem]; simp) (by simp [go_sem])
       · have hz:((i:Int) == 0)=false:=by simp; omega
         simp (maxSteps:=1000000) -dsimp only [go_sem,hg,hc,aJ,forall_eq',Int.toNat_natCast,d1,d2,d5,d6,d7,hz,Bool.true_and,Bool.and_true,Bool.false_and,Bool.not_true,Bool.not_false]
         repeat' first | intro _ | apply And.intro
         all_goals first | omega | (rename_i h9; simp at h9; done) | skip
         all_goals exact aC (i + 1) 0 (bN (by rw [hW]) (fun h3=>by rw [hL])) (by omega) (by simp -dsimp only [go_sem]; simp) (by simp [go_sem])
     · have d1:decide (97<=(c.toNat:Int))=true:=decide_eq_true (by omega)
       have d2:decide ((c.toNat:Int)<=122)=false:=decide_eq_false (by omega)
       have d3:decide (65<=(c.toNat:Int))=true:=decide_eq_true (by omega)
       have d4:decide ((c.toNat:Int)<=90)=false:=decide_eq_false (by omega)
       have d5:((c.toNat:Int) == 95)=false:=by simp; omega
       have d6:decide (48<=(c.toNat:Int))=true:=decide_eq_true (by omega)
       have d7:decide ((c.toNat:Int)<=57)=false:=decide_eq_false (by omega)
       have hL:bD c.toNat=false:=by unfold bD; rw [d1,d2,d3,d4]; rfl
       have hW:aU c=false:=by unfold aU eQ gC; rw [hL,d5,d6,d7]; rfl
       rcases Nat.eq_zero_or_pos i with h0 | h0
       · have hz:((i:Int) == 0)=true:=by simp; omega
         simp (maxSteps:=1000000) -dsimp only [go_sem,hg,hc,aJ,forall_eq',Int.toNat_natCast,d1,d2,d3,d4,d5,d6,hz,Bool.true_and,Bool.and_true,Bool.and_false,Bool.not_true,Bool.not_false]
         repeat' first | intro _ | apply And.intro
         all_goals first | omega | (rename_i h9; simp at h9; done) | skip
         all_goals exact bad (by rw [hL,hW]; exact .inl ⟨h0,rfl⟩)
       · have hz:((i:Int) == 0)=false:=by simp; omega
         simp (maxSteps:=1000000) -dsimp only [go_sem,hg,hc,aJ,forall_eq',Int.toNat_natCast,d1,d2,d3,d4,d5,d6,d7,hz,Bool.true_and,Bool.and_true,Bool.not_false]
         repeat' first | intro _ | apply And.intro
         all_goals first | omega | (rename_i h9; simp at h9; done) | skip
         all_goals exact bad (by rw [hL,hW]; exact .inr rfl)
   · have hg:decide ((i:Int) < ((bl s).length:Int))=false:=by simp; omega
     obtain rfl:i=(bl s).length:=by omega
     obtain ⟨c,hc⟩:∃ c,(bl s)[0]? = some c:=⟨_,aW hl0⟩
     simp (maxSteps:=1000000) -dsimp only [go_sem,hg]
     refine bW hK ?_
     rw [uX hc hl (hb hl0 c hc) fun j x hx=>ha j x (a6.1 hx).1 hx]
theorem JU:Meets Tryz.prog 85 (u6 fun l=>.bool (w9 l)).sp:=by
 refine aE Tryz.func85 aN7 1 (by rw [Tryz.ntmps85]; decide) (aH yF (aA _)) pH ?_
 rintro xs H K ⟨⟨h,rfl⟩,hK⟩
 obtain ⟨s,rfl⟩:=iZ h
 have hK':K (.va (.c1 (.vl (.bool (w9 (bl s)))))) []:=hK
 clear hK h
 unfold w9 at hK'
 cases hn:cC (bl s) with
 | false=>
  rw [hn] at hK'
  simp -dsimp only [go_sem,WP,VV,hn]
  exact .done hK'
 | true=>
  cases hl:bl s with
  | nil=>rw [hl] at hn; cases hn
  | cons c r=>
   rw [hl] at hn hK'
   rw [hn] at hK'
   simp -dsimp only [go_sem,WP,VV,hl,hn]
   refine ⟨by omega,fun d hd=>⟨fun _=>by omega,fun e he=>?_⟩⟩
   subst hd
   cases hc:decide (65<=(c.toNat:Int)) with
   | false=>simp only [hc,Bool.true_and,Bool.false_and] at hK'; exact .done hK'
   | true=>
    obtain rfl:=he hc
    simp only [hc,Bool.true_and] at hK'; exact .done hK'
theorem aCY:Meets Tryz.prog 116 (wN fL C.ty fun t=>.bool ((t.e.length:Int) == 0)).sp:=by
 refine aE Tryz.func116 aJT 1 (by rw [Tryz.ntmps116]; decide) (aA _) u2 ?_
 rintro av H K ⟨⟨h,rfl⟩,hK⟩
 obtain ⟨_,rfl,t,rfl,ht⟩:=jN h
 have hK:K (bS ((t.e.length:Int) == 0)) []:=by
  have:(wN fL C.ty fun t=>.bool ((t.e.length:Int) == 0)).val [.va (.gs (aN t))]=bA ((t.e.length:Int) == 0):=by simp -dsimp only [go_sem]
  rw [this] at hK; exact hK
 simp (maxSteps:=1000000) -dsimp only [go_sem,aO,YF,Y9]
 exact .sel [] (by simp) (by simp) rfl (.done (by simpa [go_sem] using hK))
def FW:List S->Prop:=fun av=>match av with
 | [.va (.c1 (.fz rs)),.va (.c1 (.vl (.int .i64 k))),.va (.c1 (.vl (.string _)))]=>DB rs/\0<=k/\k<=9223372036854775807
 | _=>False
theorem rF {av:List S} (h:FW av):∃ (l:List ByteArray) (n:Nat) (x:ByteArray),av=[.va (.c1 (.fz (l.map bQ))),iS .i64 n,tS x]/\l.length<=9223372036854775807/\(n:Int)<=9223372036854775807:=by
 unfold FW at h
 split at h
 · obtain ⟨⟨l,rfl,h1⟩,h2,h3⟩:=h
   rename_i k x
   exact ⟨l,k.toNat,x,by rw [Int.toNat_of_nonneg h2],h1,by omega⟩
 · exact h.elim
noncomputable def aAY:List S->A:=fun av=>match av with
 | [.va (.c1 (.fz rs)),.va (.c1 (.vl (.int .i64 k))),.va (.c1 (.vl (.string x)))]=>bA (dG ((rs.map C.bs).take k.toNat) x)
 | _=>.gs []
noncomputable def inFn:Fun:=⟨FW,aAY,fun av h=>by obtain ⟨l,n,x,rfl,_⟩:=rF h; trivial⟩
theorem UB:∀ av H K,inFn.sp av H K->av.length=3:=fun av H K h=>by obtain ⟨l,n,x,rfl,_⟩:=rF h.1.1; rfl
attribute [go_sem] inFn FW aAY
theorem UL:Meets Tryz.prog 50 inFn.sp:=by
 refine aE Tryz.func50 aRZ 3 (by rw [Tryz.ntmps50]; decide) (aA _) UB ?_
 rintro av H K ⟨⟨h,rfl⟩,hK⟩
 obtain ⟨l,n,x,rfl,hl,hn⟩:=rF h
 have hK:K (bS (dG (l.take n) x)) []:=by
  have:inFn.val [.va (.c1 (.fz (l.map bQ))),iS .i64 n,tS x]=bA (dG (l.take n) x):=by simp -dsimp only [go_sem,Int.toNat_natCast]
  rw [this] at hK; exact hK
 clear h
 simp (maxSteps:=1000000) -dsimp only [go_sem,aDH,aGO]
 refine aL (α:=Nat) (fun i=>[(0,.va (.c1 (.fz (l.map bQ)))),(1,iS .i64 n),(2,tS x),(7,iS .i64 i)]) (fun _=>[])
  (fun i=>i<=(l.take n).length/\dG ((l.take n).drop i) x=dG (l.take n) x) (fun i=>l.length - i) 0 0 ⟨Nat.zero_le _,rfl⟩ ?_ ?_ ?_
 · simp [go_sem]
 · simp [go_sem]
 rintro i ⟨hi,ho⟩
 have hlt0:(l.take n).length=min n l.length:=by simp
 rcases bF i (l.take n).length with hlt | hge
 · have g1:decide ((i:Int) < (n:Int))=true:=by simp; omega
   have g2:decide ((i:Int) < (l.length:Int))=true:=by simp; omega
   obtain ⟨y,hx⟩:∃ y,l[i]? = some y:=⟨_,aW (by omega)⟩
   have hx':(l.take n)[i]? = some y:=by rw [List.getElem?_take,if_pos (by omega)]; exact hx
   have q2:=aY (row:=bQ) hx
   rw [dG,iR hx'] at ho
   simp (maxSteps:=1000000) -dsimp only [go_sem,g1,g2,↓q2,eT]
   have hsy:decide (y=x)=decide (x=y):=by simp [eq_comm]
   refine ⟨by omega,fun hc=>?_,fun hc=>⟨by omega,aC (i + 1) 0 ⟨by omega,?_⟩ (by omega) ?_ ?_⟩⟩
   · rw [<-hsy,hc,Bool.true_or] at ho
     rw [<-ho] at hK
     exact .done hK
   · rw [<-hsy,hc,Bool.false_or] at ho
     exact ho
   · simp [go_sem]
   · simp [go_sem]
 · obtain rfl:i=(l.take n).length:=by omega
   rw [dG,qG] at ho
   rw [<-ho] at hK
   generalize hm:(l.take n).length=m at *
   rcases bF m n with h1 | h1
   · have g1:decide ((m:Int) < (n:Int))=true:=by simp; omega
     have g2:decide ((m:Int) < (l.length:Int))=false:=by simp; omega
     simp (maxSteps:=1000000) -dsimp only [go_sem,g1,g2]
     exact .done hK
   · have g1:decide ((m:Int) < (n:Int))=false:=by simp; omega
     simp (maxSteps:=1000000) -dsimp only [go_sem,g1]
     exact .done hK
theorem HD:Meets Tryz.prog 69 zB:=by
 refine aE Tryz.func69 aQL 2 (by rw [Tryz.ntmps69]; decide) (aA _) (fun av H K h=>by obtain ⟨_,_,rfl,_⟩:=h; rfl) ?_
 rintro av H K ⟨s,n,rfl,rfl,hs,hK⟩
 rw [<-AA] at hK
 have hl:=hs.ok.ls
 simp -dsimp only [go_sem,aG,aGR,aC1]
 refine aL (α:=Nat) (fun i=>[(1,tS n),(2,.va (.c1 (.pt 0 0))),(4,.va (.c1 (.pt 1 0))),(6,iS .i64 i)]) (fun _=>[.cells (aG s) 25,.cells [.vl (.string (mk [])),.vl (.slice none 0 0)] 95])
  (fun i=>i<=s.ss.length/\fS (s.ss.drop i) n=fS s.ss n) (fun i=>s.ss.length - i) 0 2 ⟨Nat.zero_le _,rfl⟩ ?_ ?_ ?_
 · simp [go_sem]
 · simp [go_sem,aG]
 rintro i ⟨hi,ho⟩
 rcases bF i s.ss.length with hlt | hge
 · have hg:decide ((i:Int) < (s.ss.length:Int))=true:=by simp; omega
   obtain ⟨t,hx⟩:∃ e,s.ss[i]? = some e:=⟨_,aW hlt⟩
   have q2:=aY (row:=aP) hx
   rw [fS,oL hx] at ho
   cases hc:decide (t.nm=n) with
   | true=>
    rw [hc,aI] at ho
    rw [<-ho] at hK
    simp (maxSteps:=1000000) -dsimp only [go_sem,hg,↓q2,aP,aG,eT,hc]
    refine ⟨by omega,by omega,.sel [] (by simp) (by simp) rfl (.done (by simpa [go_sem,aP] using hK))⟩
   | false=>
    rw [hc,aD] at ho
    simp (maxSteps:=1000000) -dsimp only [go_sem,hg,↓q2,aP,aG,eT,hc]
    refine ⟨by omega,by omega,aC (i + 1) 2 ⟨by omega,ho⟩ (by omega) ?_ ?_⟩
    · simp [go_sem]
    · simp [go_sem,aG]
 · have hg:decide ((i:Int) < (s.ss.length:Int))=false:=by simp; omega
   obtain rfl:i=s.ss.length:=by omega
   rw [List.drop_length] at ho
   rw [<-ho] at hK
   simp -dsimp only [go_sem,hg,aG]
   exact .sel [] (by simp) (by simp) rfl (.done (by simpa [go_sem,fS,LN] using hK))
def O1:W.Spec:=fun av H K=>∃ (s:Sc) (n:ByteArray),av=[.va (.gs (aG s)),tS n]/\H=[]/\s.fit/\K (.tu [.gs (bL ((fU s.es n).getD default)),bA (gJ s.es n)]) []
theorem nU {s:Sc} {n:ByteArray} {K:S->Hp->Prop} (h:s.fit) (hK:K (.tu [.gs (bL ((fU s.es n).getD default)),bA (gJ s.es n)]) []):O1 [.va (.gs (aG s)),tS n] [] K:=⟨s,n,rfl,rfl,h,hK⟩
theorem NT:bL default=[.vl (.string (mk [])),.fz [],.fz []]:=rfl
theorem RY:Meets Tryz.prog 76 O1:=by
 refine aE Tryz.func76 aPO 2 (by rw [Tryz.ntmps76]; decide) (aA _) (fun av H K h=>by obtain ⟨_,_,rfl,_⟩:=h; rfl) ?_
 rintro av H K ⟨s,n,rfl,rfl,hs,hK⟩
 rw [<-DG] at hK
 have hl:=hs.ok.le
 simp -dsimp only [go_sem,aG,aG6,aG5]
 refine aL (α:=Nat) (fun i=>[(1,tS n),(2,.va (.c1 (.pt 0 0))),(4,.va (.c1 (.pt 1 0))),(6,iS .i64 i)]) (fun _=>[.cells (aG s) 25,.cells [.vl (.string (mk [])),.vl (.slice none 0 0),.vl (.slice none 0 0)] 92])
  (fun i=>i<=s.es.length/\fU (s.es.drop i) n=fU s.es n) (fun i=>s.es.length - i) 0 2 ⟨Nat.zero_le _,rfl⟩ ?_ ?_ ?_
 · simp [go_sem]
 · simp [go_sem,aG]
 rintro i ⟨hi,ho⟩
 rcases bF i s.es.length with hlt | hge
 · have hg:decide ((i:Int) < (s.es.length:Int))=true:=by simp; omega
   obtain ⟨t,hx⟩:∃ e,s.es[i]? = some e:=⟨_,aW hlt⟩
   have q2:=aY (row:=bL) hx
   rw [fU,oL hx] at ho
   cases hc:decide (t.nm=n) with
   | true=>
    rw [hc,aI] at ho
    rw [<-ho] at hK
    simp (maxSteps:=1000000) -dsimp only [go_sem,hg,↓q2,bL,aG,eT,hc]
    refine ⟨by omega,by omega,.sel [] (by simp) (by simp) rfl (.done (by simpa [go_sem,bL] using hK))⟩
   | false=>
    rw [hc,aD] at ho
    simp (maxSteps:=1000000) -dsimp only [go_sem,hg,↓q2,bL,aG,eT,hc]
    refine ⟨by omega,by omega,aC (i + 1) 2 ⟨by omega,ho⟩ (by omega) ?_ ?_⟩
    · simp [go_sem]
    · simp [go_sem,aG]
 · have hg:decide ((i:Int) < (s.es.length:Int))=false:=by simp; omega
   obtain rfl:i=s.es.length:=by omega
   rw [List.drop_length] at ho
   rw [<-ho] at hK
   simp -dsimp only [go_sem,hg,aG]
   exact .sel [] (by simp) (by simp) rfl (.done (by simpa [go_sem,fU,NT] using hK))
end Go.Proofs.YtkpohmhenegkiaaGreatDoor
namespace Go.Proofs
open Go.Shelf
def Tryz.lays16_ren:Go.Shelf.Ren:=⟨fun | 16=>126 | n=>n,fun | 24=>89 | n=>n,fun | n=>n⟩
theorem Tryz.lays16:Go.Proofs.Lays2.n16 Tryz.prog Tryz.lays16_ren:={
 mixed:=by kernel_rfl
 f16:=Tryz.func126.trans (congrArg some (by kernel_rfl))
 t4:=Tryz.underlying4
 a4:=Tryz.isAgg4
 z4:=Tryz.sizeOf4
 v4:=Tryz.zeroValue4
 t9:=Tryz.underlying9
 a9:=Tryz.isAgg9
 z9:=Tryz.sizeOf9
 v9:=Tryz.zeroValue9
 t24:=Tryz.underlying89
 a24:=Tryz.isAgg89
 z24:=Tryz.sizeOf89
 v24:=Tryz.zeroValue89
 i9:=by kernel_rfl }
def Tryz.lays15_ren:Go.Shelf.Ren:=⟨fun | 15=>127 | n=>n,fun | 22=>90 | n=>n,fun | n=>n⟩
theorem Tryz.lays15:Go.Proofs.Lays2.n15 Tryz.prog Tryz.lays15_ren:={
 mixed:=by kernel_rfl
 f15:=Tryz.func127.trans (congrArg some (by kernel_rfl))
 t3:=Tryz.underlying3
 a3:=Tryz.isAgg3
 z3:=Tryz.sizeOf3
 v3:=Tryz.zeroValue3
 t4:=Tryz.underlying4
 a4:=Tryz.isAgg4
 z4:=Tryz.sizeOf4
 v4:=Tryz.zeroValue4
 t22:=Tryz.underlying90
 a22:=Tryz.isAgg90
 z22:=Tryz.sizeOf90
 v22:=Tryz.zeroValue90
 i3:=by kernel_rfl }
end Go.Proofs
namespace Go.Proofs.YtkpohmhenegkiaaGreatDoor
open Go.W Go.RowKit
theorem aA7 {X:Ctx} {E:Es} {ro:RO} {w w':World} (h:Rel X E ro w) {blk:B} {g:Gb} (hb:∀ k,k < w.heap.size->w'.heap[k]? = w.heap[k]?) (hsz:w.heap.size<=w'.heap.size)
 (h1:w'.os=w.os) (h2:w'.tape=w.tape) (h3:w'.output=w.output) (hob:∀ b,g.ob=some b->w.heap.size<=b) (hon:blk.On (gm (E ++ [(g,blk)])) ro w' g):Rel X (E ++ [(g,blk)]) ro w':=by
 have hext:GExt (gm E) (gm (E ++ [(g,blk)])):=cZ _
 have hget:∀ (n:Nat) (y:Gb × B),(E ++ [(g,blk)])[n]? = some y->(n=E.length/\y=(g,blk))\/(n < E.length/\E[n]? = some y):=by
  intro n y hy
  rw [List.getElem?_append] at hy
  split at hy
  · exact .inr ⟨by assumption,hy⟩
  · have:n - E.length=0:=by
     rcases Nat.eq_zero_or_pos (n - E.length) with h0 | h0
     · exact h0
     · rw [List.getElem?_eq_none (by simp; omega)] at hy; cases hy
    rw [this] at hy
    exact .inl ⟨by omega,by simpa using hy.symm⟩
 have old:∀ (n k:Nat) (gn:Gb) (bk:B),E[n]? = some (gn,bk)->gn.ob=some k->bk.live=true->k < w.heap.size:=fun n k gn bk hy hk hl=>(h.own n _ bk hy).lt hl hk
 refine ⟨fun n g' bk hy=>?_,fun n m gn gm bn bm k hy hz en em ln lm=>?_,fun k off c hc n gn bk hy en=>?_,fun k off c hc=>?_,h.ro0,h.rob,fun n k gn bk hy en ln=>?_,h.gx.trans hext,Nat.le_trans h.sz hsz,fun k hk hp=>?_,by rw [h1]; exact h.os,by rw [h2]; exact h.tape,by rw [h3]; exact h.output⟩
 · rcases hget n _ hy with ⟨rfl,he⟩ | ⟨hlt,hy'⟩
   · simp only [Prod.mk.injEq] at he; obtain ⟨rfl,rfl⟩:=he; exact hon
   · by_cases hlv:bk.live=true
     · exact (h.own n g' bk hy').same hext (Ext.refl _) fun k hk=>hb k (old n k g' bk hy' hk hlv)
     · cases bk<;>simp [B.live] at hlv; trivial
 · rcases hget n _ hy with ⟨rfl,he⟩ | ⟨hlt,hy'⟩<;>rcases hget m _ hz with ⟨rfl,he2⟩ | ⟨hlt2,hz'⟩
   · rfl
   · simp only [Prod.mk.injEq] at he; obtain ⟨rfl,rfl⟩:=he; have:=old m k gm bm hz' em lm; have:=hob k en; omega
   · simp only [Prod.mk.injEq] at he2; obtain ⟨rfl,rfl⟩:=he2; have:=old n k gn bn hy' en ln; have:=hob k em; omega
   · exact h.inj n m gn gm bn bm k hy' hz' en em ln lm
 · rcases hget n _ hy with ⟨rfl,he⟩ | ⟨hlt,hy'⟩
   · simp only [Prod.mk.injEq] at he; obtain ⟨rfl,rfl⟩:=he; have:=h.cell_lt hc; have:=hob k en; omega
   · exact h.apart k off c hc n gn bk hy' en
 · have:=h.rd k off c hc
   rw [<-this]
   simp only [World.cell?,hb k (h.cell_lt hc)]
 · rcases hget n _ hy with ⟨rfl,he⟩ | ⟨hlt,hy'⟩
   · simp only [Prod.mk.injEq] at he; obtain ⟨rfl,rfl⟩:=he; have:=hob k en; have:=h.sz; exact .inl (by omega)
   · exact h.par n k gn bk hy' en ln
 · rw [hb k (by have:=h.sz; omega)]
   exact h.keep k hk hp
theorem MX {X:Ctx} {ro:RO} {w w':World} (h:Rel X [] ro w) (hX:X.g0.length=0) {T:TypeId} {v:Value} {cs:List Value} (hne:cs ≠ []) (_hone:∀ u ∈ cs,u.oneCell'=true) (ho:w'.ownsRow w.heap.size T 1 v cs.length cs) (hb:Below w.heap.size w w') {K:S->Hp->Prop} (hK:K (.va (.c1 (.fz (cs.map fun u=>[C.vl u])))) []) :
 ∃ r' E' ro',K r' (hp E')/\r'.rel (gm E') ro' v/\Rel X E' ro' w':=by
 have hlen:0 < cs.length:=List.length_pos_iff.2 hne
 obtain ⟨h1,h2⟩:=ho
 rcases h2 with ⟨_,h0⟩ | ⟨b,cap,cur,rfl,hbb,hcell,hcap,hmax,hcs,htk⟩
 · omega
 have hfl:(cs.map fun u=>[C.vl u]).flatten=cs.map C.vl:=by
  clear h1 hlen hcap htk hK hne _hone
  induction cs with
  | nil=>rfl
  | cons x l ih=>rw [List.map_cons,List.flatten_cons,ih]; rfl
 let g:Gb:=⟨some b,true,cs.length,cap,T,cs⟩
 have hR:Rel X ([] ++ [(g,.row (cs.map fun u=>[C.vl u]) T 1)]) ro w':=by
  refine aA7 h (fun k hk=>hb.block k hk) hb.size hb.os hb.tape hb.output (fun b' hb'=>by cases hb'; exact hbb) ⟨rfl,by simp [g],fun x hx=>?_,fun c hc=>?_,⟨by simp [g],.inr ⟨b,cap,cur,?_,Nat.zero_le _,hcell,by simp; exact hcap,hmax,hcs,?_⟩⟩,?_,fun b' _=>(by show 0 < cap; omega)⟩
  · obtain ⟨y,_,rfl⟩:=List.mem_map.1 hx; rfl
  · rw [hfl] at hc; obtain ⟨y,_,rfl⟩:=List.mem_map.1 hc; rfl
  · simp [bE,g]
  · rw [List.length_map]; exact htk
  · rw [hfl]
    refine ⟨by simp [g],fun i x y hx hy=>?_⟩
    rw [List.getElem?_map] at hx
    have hy:cs[i]? = some y:=hy
    rw [hy] at hx
    cases hx; rfl
 refine E7 (X:=X) (k0:=0) hX (r:=.va (.c1 (.sl 0 (cs.map fun u=>[C.vl u]).length))) (.pub 0 _ T 1 (by rfl) (.sel [] (by simp) (by simp [cW]) rfl (.done ?_))) rfl ?_ hR
 · simp -dsimp only [go_sem,cW]; simpa using hK
 · refine ⟨g,rfl,rfl,by simp [g],⟨_,_,_,rfl⟩,fun _=>?_⟩
   simp [g,bE]
theorem o9 {X:Ctx} {ro:RO} {w w':World} (h:Rel X [] ro w) {o:Option Addr} {c:Nat} (hb:Below w.heap.size w w') {K:S->Hp->Prop} (hK:K (.va (.c1 (.fz []))) []) :
 ∃ r' E' ro',K r' (hp E')/\r'.rel (gm E') ro' (.slice o 0 c)/\Rel X E' ro' w':=
 ⟨.va (.c1 (.fz [])),[],ro,hK,FzR.mk (ro:=ro) [] 1 none o (fun h=>absurd rfl h) c (fun _=>undef) (by simp) (Nat.zero_le _) (by simp) (by simp) (by simp) (by simp) (by simp),h.aside (fun k hk=>hb.block k hk) hb.size hb.os hb.tape hb.output⟩
def XU:W.Spec:=fun av H K=>∃ l:List ByteArray,av=[.va (.c1 (.fz (l.map bQ)))]/\H=[]/\l.length<=1000000000/\K (.va (.c1 (.fz (l.map bQ)))) []
theorem aCR {l:List ByteArray} {K:S->Hp->Prop} (h:l.length<=1000000000) (hK:K (.va (.c1 (.fz (l.map bQ)))) []):XU [.va (.c1 (.fz (l.map bQ)))] [] K:=⟨l,rfl,rfl,h,hK⟩
theorem T9 (l:List ByteArray):(l.map bQ).flatten=(l.map Value.string).map C.vl:=by
 induction l with
 | nil=>rfl
 | cons x l ih=>rw [List.map_cons,List.flatten_cons,ih]; rfl
theorem TY (l:List ByteArray):(l.map Value.string).map (fun u=>[C.vl u])=l.map bQ:=by rw [List.map_map]; rfl
theorem aP5:Meets Tryz.prog 126 XU:=by
 refine ⟨by kernel_rfl,fun av vs E ro w K hlen hrel hR hs _=>?_⟩
 obtain ⟨l,rfl,hH,hl,hK⟩:=hs
 match E,hH with
 | [],_=>
  match vs,hlen with
  | [v0],_=>
   have r0:FzR ro (l.map bQ) v0:=hrel 0 _ _ rfl rfl
   cases hl0:l with
   | nil=>
    subst hl0
    generalize hx:([]:List ByteArray).map bQ=xs at r0
    cases r0 with
    | mk xs sz o oa hoa cap us hz hc ho h1 h2 h3 h4=>
     subst hx
     have hK:K (.va (.c1 (.fz []))) []:=hK
     cases oa with
     | none=>
      refine (Any.slices_Clone_string_nil Tryz.lays16 0 cap w).mono ?_
      rintro e w' ⟨rfl,rfl⟩
      obtain ⟨r',E',ro',a1,a2,a3⟩:=o9 (o:=none) (c:=0) hR (Below.refl _ _) hK
      exact ⟨r',_,E',ro',rfl,a2,a1,a3⟩
     | some a=>
      refine (Any.slices_Clone_string_zero Tryz.lays16 a cap w).mono ?_
      rintro e w' ⟨v',rfl,hown,_,hb⟩
      obtain ⟨o',c',rfl⟩:∃ o' c',v'=.slice o' 0 c':=by
       rcases hown.2 with ⟨rfl,_⟩ | ⟨b,c',cur,rfl,_⟩
       · exact ⟨none,0,rfl⟩
       · exact ⟨_,c',rfl⟩
      obtain ⟨r',E',ro',a1,a2,a3⟩:=o9 (o:=o') (c:=c') hR hb hK
      exact ⟨r',_,E',ro',rfl,a2,a1,a3⟩
   | cons x0 lt=>
    have hne:l ≠ []:=by rw [hl0]; exact List.cons_ne_nil _ _
    clear hl0
    generalize hx:l.map bQ=xs at r0
    cases r0 with
    | mk xs sz o oa hoa cap us hz hc ho h1 h2 h3 h4=>
     subst hx
     have hne2:l.map bQ ≠ []:=by simpa using hne
     obtain ⟨⟨b,off⟩,rfl⟩:=Option.isSome_iff_exists.1 (ho hne2)
     obtain rfl:=hoa hne2
     have hcell:∀ j,j < l.length->w.cell? ⟨b,off + j,none⟩=some (Value.string (l.getD j ByteArray.empty)):=fun j hj=>by
      have hf:(l.map bQ).flatten[j]? = some (.vl (Value.string (l.getD j ByteArray.empty))):=by
       rw [T9,List.getElem?_map,List.getElem?_map,aW hj]
       simp [hj]
      have e1:=h1 j _ hf
      have e2:=h2 j _ hf
      rw [e2] at e1
      exact hR.rd b (off + j) _ e1
     have key:=Any.slices_Clone_string Tryz.lays16 b off l.length cap l w (Nat.le_refl _) (by omega) hcell
     rw [List.take_length] at key
     rw [List.length_map]
     refine key.mono ?_
     rintro e w' ⟨v',rfl,hown,_,hb⟩
     rw [<-List.length_map (f:=Value.string)] at hown
     obtain ⟨r',E',ro',a1,a2,a3⟩:=MX hR rfl (cs:=l.map Value.string) (by simpa using hne) (fun u hu=>by obtain ⟨y,_,rfl⟩:=List.mem_map.1 hu; rfl) hown hb (by rw [TY]; exact hK)
     exact ⟨r',_,E',ro',rfl,a2,a1,a3⟩
def ZX:W.Spec:=fun av H K=>∃ l:List Int,av=[.va (.c1 (.fz (l.map cU)))]/\H=[]/\l.length<=1000000000/\K (.va (.c1 (.fz (l.map cU)))) []
theorem aA0 {l:List Int} {K:S->Hp->Prop} (h:l.length<=1000000000) (hK:K (.va (.c1 (.fz (l.map cU)))) []):ZX [.va (.c1 (.fz (l.map cU)))] [] K:=⟨l,rfl,rfl,h,hK⟩
theorem WX (l:List Int):(l.map cU).flatten=(l.map (Value.int .i64)).map C.vl:=by
 induction l with
 | nil=>rfl
 | cons x l ih=>rw [List.map_cons,List.flatten_cons,ih]; rfl
theorem WO (l:List Int):(l.map (Value.int .i64)).map (fun u=>[C.vl u])=l.map cU:=by rw [List.map_map]; rfl
theorem aQC:Meets Tryz.prog 127 ZX:=by
 refine ⟨by kernel_rfl,fun av vs E ro w K hlen hrel hR hs _=>?_⟩
 obtain ⟨l,rfl,hH,hl,hK⟩:=hs
 match E,hH with
 | [],_=>
  match vs,hlen with
  | [v0],_=>
   have r0:FzR ro (l.map cU) v0:=hrel 0 _ _ rfl rfl
   cases hl0:l with
   | nil=>
    subst hl0
    generalize hx:([]:List Int).map cU=xs at r0
    cases r0 with
    | mk xs sz o oa hoa cap us hz hc ho h1 h2 h3 h4=>
     subst hx
     have hK:K (.va (.c1 (.fz []))) []:=hK
     cases oa with
     | none=>
      refine (Any.slices_Clone_int_nil Tryz.lays15 0 cap w).mono ?_
      rintro e w' ⟨rfl,rfl⟩
      obtain ⟨r',E',ro',a1,a2,a3⟩:=o9 (o:=none) (c:=0) hR (Below.refl _ _) hK
      exact ⟨r',_,E',ro',rfl,a2,a1,a3⟩
     | some a=>
      refine (Any.slices_Clone_int_zero Tryz.lays15 a cap w).mono ?_
      rintro e w' ⟨v',rfl,hown,_,hb⟩
      obtain ⟨o',c',rfl⟩:∃ o' c',v'=.slice o' 0 c':=by
       rcases hown.2 with ⟨rfl,_⟩ | ⟨b,c',cur,rfl,_⟩
       · exact ⟨none,0,rfl⟩
       · exact ⟨_,c',rfl⟩
      obtain ⟨r',E',ro',a1,a2,a3⟩:=o9 (o:=o') (c:=c') hR hb hK
      exact ⟨r',_,E',ro',rfl,a2,a1,a3⟩
   | cons x0 lt=>
    have hne:l ≠ []:=by rw [hl0]; exact List.cons_ne_nil _ _
    clear hl0
    generalize hx:l.map cU=xs at r0
    cases r0 with
    | mk xs sz o oa hoa cap us hz hc ho h1 h2 h3 h4=>
     subst hx
     have hne2:l.map cU ≠ []:=by simpa using hne
     obtain ⟨⟨b,off⟩,rfl⟩:=Option.isSome_iff_exists.1 (ho hne2)
     obtain rfl:=hoa hne2
     have hcell:∀ j,j < l.length->w.cell? ⟨b,off + j,none⟩=some (Value.int .i64 (l.getD j 0)):=fun j hj=>by
      have hf:(l.map cU).flatten[j]? = some (.vl (Value.int .i64 (l.getD j 0))):=by
       rw [WX,List.getElem?_map,List.getElem?_map,aW hj]
       simp [hj]
      have e1:=h1 j _ hf
      have e2:=h2 j _ hf
      rw [e2] at e1
      exact hR.rd b (off + j) _ e1
     have key:=Any.slices_Clone_int Tryz.lays15 b off l.length cap l w (Nat.le_refl _) (by omega) hcell
     rw [List.take_length] at key
     rw [List.length_map]
     refine key.mono ?_
     rintro e w' ⟨v',rfl,hown,_,hb⟩
     rw [<-List.length_map (f:=(Value.int .i64))] at hown
     obtain ⟨r',E',ro',a1,a2,a3⟩:=MX hR rfl (cs:=l.map (Value.int .i64)) (by simpa using hne) (fun u hu=>by obtain ⟨y,_,rfl⟩:=List.mem_map.1 hu; rfl) hown hb (by rw [WO]; exact hK)
     exact ⟨r',_,E',ro',rfl,a2,a1,a3⟩
end Go.Proofs.YtkpohmhenegkiaaGreatDoor
namespace Go.Proofs.YtkpohmhenegkiaaGreatDoor
open Go.W
theorem A8:Meets Tryz.prog 98 O1:=by
 refine aE Tryz.func98 aQO 2 (by rw [Tryz.ntmps98]; decide) (aB aP5 (aB aQC (aA _))) (fun av H K h=>by obtain ⟨_,_,rfl,_⟩:=h; rfl) ?_
 rintro av H K ⟨s,n,rfl,rfl,hs,hK⟩
 rw [<-DG] at hK
 have hl:=hs.ok.le
 simp -dsimp only [go_sem,aG,aFR,aF7]
 refine aL (α:=Nat) (fun i=>[(1,tS n),(2,.va (.c1 (.pt 0 0))),(4,.va (.c1 (.pt 1 0))),(9,.va (.c1 (.fz (s.es.map bL)))),(10,iS .i64 s.es.length),(11,iS .i64 i)]) (fun _=>[.cells (aG s) 25,.cells [.vl (.string (mk [])),.vl (.slice none 0 0),.vl (.slice none 0 0)] 92])
  (fun i=>i<=s.es.length/\fU (s.es.drop i) n=fU s.es n) (fun i=>s.es.length - i) 0 2 ⟨Nat.zero_le _,rfl⟩ ?_ ?_ ?_
 · simp [go_sem]
 · simp [go_sem,aG]
 rintro i ⟨hi,ho⟩
 rcases bF i s.es.length with hlt | hge
 · have hg:decide ((i:Int) < (s.es.length:Int))=true:=by simp; omega
   obtain ⟨t,hx⟩:∃ e,s.es[i]? = some e:=⟨_,aW hlt⟩
   have q2:=aY (row:=bL) hx
   have htm:=bJ hx
   rw [fU,oL hx] at ho
   cases hc:decide (t.nm=n) with
   | true=>
    rw [hc,aI] at ho
    rw [<-ho] at hK
    simp (maxSteps:=1000000) -dsimp only [go_sem,hg,↓q2,bL,aG,eT,hc]
    refine ⟨by omega,aCR (hs.en t htm).1 ?_⟩
    simp (maxSteps:=1000000) -dsimp only [go_sem]
    refine aA0 (hs.en t htm).2 ?_
    simp (maxSteps:=1000000) -dsimp only [go_sem]
    exact .sel [] (by simp) (by simp) rfl (.done (by simpa [go_sem,bL] using hK))
   | false=>
    rw [hc,aD] at ho
    simp (maxSteps:=1000000) -dsimp only [go_sem,hg,↓q2,bL,aG,eT,hc]
    refine ⟨by omega,by omega,aC (i + 1) 2 ⟨by omega,ho⟩ (by omega) ?_ ?_⟩
    · simp [go_sem]
    · simp [go_sem,aG]
 · have hg:decide ((i:Int) < (s.es.length:Int))=false:=by simp; omega
   obtain rfl:i=s.es.length:=by omega
   rw [List.drop_length] at ho
   rw [<-ho] at hK
   simp -dsimp only [go_sem,hg,aG]
   exact .sel [] (by simp) (by simp) rfl (.done (by simpa [go_sem,fU,NT] using hK))
noncomputable def eqB {α:Type} (a b:α):Bool:=@decide (a=b) (Classical.propDecidable _)
theorem aGB:Meets Tryz.prog 46 (wN r8 C.sc fun s=>.bool (eW s)).sp:=by
 refine aE Tryz.func46 aM5 1 (by rw [Tryz.ntmps46]; decide) (aA _) u2 ?_
 rintro av H K ⟨⟨h,rfl⟩,hK⟩
 obtain ⟨_,rfl,s,rfl,hs⟩:=jN h
 have hK:K (bS (eW s)) []:=by
  have:(wN r8 C.sc fun s=>.bool (eW s)).val [.va (.gs (aG s))]=bA (eW s):=by simp -dsimp only [go_sem]
  rw [this] at hK; exact hK
 obtain ⟨hv,hle,hls,hes,hss⟩:=hs
 have big:eW s=true->∀ R:Hp,W.Fin 0 K (bS true) R:=fun h R=>by
  rw [h] at hK
  exact .sel [] (by simp) (by simp) rfl (.done (by simpa [go_sem] using hK))
 cases d1:decide (16 < (s.es.length:Int)) with
 | true=>
  simp (maxSteps:=1000000) -dsimp only [go_sem,aG,J2,H0,d1]
  exact big (by unfold eW; rw [show decide (16 < s.es.length)=true by simp at d1 ⊢; omega]; simp) _
 | false=>
 cases d2:decide (16 < (s.ss.length:Int)) with
 | true=>
  simp (maxSteps:=1000000) -dsimp only [go_sem,aG,J2,H0,d1,d2]
  exact big (by unfold eW; rw [show decide (16 < s.es.length + s.ss.length)=true by simp at d2 ⊢; omega]; simp) _
 | false=>
 cases d3:decide (16 < (s.es.length:Int) + (s.ss.length:Int)) with
 | true=>
  simp (maxSteps:=1000000) -dsimp only [go_sem,aG,J2,H0,d1,d2,d3]
  exact ⟨by simp at d1 d2; omega,big (by unfold eW; rw [show decide (16 < s.es.length + s.ss.length)=true by simp at d3 ⊢; omega]; simp) _⟩
 | false=>
 simp (maxSteps:=1000000) -dsimp only [go_sem,aG,J2,H0,d1,d2,d3]
 simp only [decide_eq_false_iff_not] at d1 d2 d3
 refine ⟨by omega,?_⟩
 have hL:eW s=(s.es.any (fun e=>decide (16 < e.ns.length)) || s.ss.any (fun t=>decide (16 < t.fs.length))):=by
  unfold eW; rw [decide_eq_false (by omega),decide_eq_false (by omega)]; rfl
 refine aL (α:=Nat) (fun i=>[(1,.va (.c1 (.pt 0 0))),(3,iS .i64 i)]) (fun _=>[.cells (aG s) 25])
  (fun i=>i<=s.es.length/\(s.es.drop i).any (fun e=>decide (16 < e.ns.length))=s.es.any (fun e=>decide (16 < e.ns.length))) (fun i=>s.es.length - i) 0 1 ⟨Nat.zero_le _,rfl⟩ ?_ ?_ ?_
 · simp [go_sem]
 · simp [go_sem,aG]
 rintro i ⟨hi,ho⟩
 rcases bF i s.es.length with hlt | hge
 · have hg:decide ((i:Int) < (s.es.length:Int))=true:=by simp; omega
   obtain ⟨e,hx⟩:∃ e,s.es[i]? = some e:=⟨_,aW hlt⟩
   have q2:=aY (row:=bL) hx
   rw [iR hx] at ho
   simp (maxSteps:=1000000) -dsimp only [go_sem,hg,↓q2,bL,aG]
   and_intros
   all_goals first
    | omega
    | skip
   · intro hc
     have hc':decide (16 < e.ns.length)=true:=by simp at hc; simp; omega
     have:eW s=true:=by simp only [hL,<-ho,hc',Bool.true_or]
     rw [this] at hK
     exact .sel [] (by simp) (by simp) rfl (.done (by simpa [go_sem] using hK))
   · intro hc
     refine ⟨by omega,aC (i + 1) 1 ⟨by omega,?_⟩ (by omega) ?_ ?_⟩
     · have hc':decide (16 < e.ns.length)=false:=by simp at hc; simp; omega
       rw [<-ho,hc',Bool.false_or]
     · simp [go_sem]
     · simp [go_sem,aG]
 · have hg:decide ((i:Int) < (s.es.length:Int))=false:=by simp; omega
   obtain rfl:i=s.es.length:=by omega
   rw [qG] at ho
   rw [<-ho,Bool.false_or] at hL
   simp (maxSteps:=1000000) -dsimp only [go_sem,hg,aG]
   refine aL (α:=Nat) (fun i=>[(1,.va (.c1 (.pt 0 0))),(4,iS .i64 i)]) (fun _=>[.cells (aG s) 25])
    (fun i=>i<=s.ss.length/\(s.ss.drop i).any (fun e=>decide (16 < e.fs.length))=s.ss.any (fun e=>decide (16 < e.fs.length))) (fun i=>s.ss.length - i) 0 1 ⟨Nat.zero_le _,rfl⟩ ?_ ?_ ?_
   · simp [go_sem]
   · simp [go_sem,aG]
   clear hi ho hge hg
   rintro i ⟨hi,ho⟩
   rcases bF i s.ss.length with hlt | hge
   · have hg:decide ((i:Int) < (s.ss.length:Int))=true:=by simp; omega
     obtain ⟨e,hx⟩:∃ e,s.ss[i]? = some e:=⟨_,aW hlt⟩
     have q2:=aY (row:=aP) hx
     rw [iR hx] at ho
     simp (maxSteps:=1000000) -dsimp only [go_sem,hg,↓q2,aP,aG]
     and_intros
     all_goals first
      | omega
      | skip
     · intro hc
       have hc':decide (16 < e.fs.length)=true:=by simp at hc; simp; omega
       have:eW s=true:=by simp only [hL,<-ho,hc',Bool.true_or]
       rw [this] at hK
       exact .sel [] (by simp) (by simp) rfl (.done (by simpa [go_sem] using hK))
     · intro hc
       refine ⟨by omega,aC (i + 1) 1 ⟨by omega,?_⟩ (by omega) ?_ ?_⟩
       · have hc':decide (16 < e.fs.length)=false:=by simp at hc; simp; omega
         rw [<-ho,hc',Bool.false_or]
       · simp [go_sem]
       · simp [go_sem,aG]
   · have hg:decide ((i:Int) < (s.ss.length:Int))=false:=by simp; omega
     obtain rfl:i=s.ss.length:=by omega
     rw [qG] at ho
     simp (maxSteps:=1000000) -dsimp only [go_sem,hg,aG]
     rw [hL,<-ho] at hK
     exact .sel [] (by simp) (by simp) rfl (.done (by simpa [go_sem] using hK))
def GM (len:Sc->Nat):List S->Prop:=fun av=>match av with
 | [.va (.gs r),.va (.c1 (.vl (.int .i64 i)))]=>lE r/\0<=i/\i < (len (C.sc r):Int)
 | _=>False
theorem nC {len:Sc->Nat} {av:List S} (h:GM len av):∃ (s:Sc) (i:Nat),av=[.va (.gs (aG s)),iS .i64 i]/\s.fit/\i < len s:=by
 unfold GM at h
 split at h
 · obtain ⟨⟨a,rfl,ha⟩,h1,h2⟩:=h
   rw [gT] at h2
   rename_i i
   exact ⟨a,i.toNat,by rw [Int.toNat_of_nonneg h1],ha,by omega⟩
 · exact h.elim
noncomputable def XH (f:Sc->Nat->Int):List S->A:=fun av=>match av with
 | [.va (.gs r),.va (.c1 (.vl (.int .i64 i)))]=>iA .i64 (f (C.sc r) i.toNat)
 | _=>.gs []
noncomputable def CB (len:Sc->Nat) (f:Sc->Nat->Int):Fun:=⟨GM len,XH f,fun av h=>by obtain ⟨a,b,rfl,_⟩:=nC h; trivial⟩
theorem I9 {len:Sc->Nat} {f:Sc->Nat->Int}:∀ av H K,(CB len f).sp av H K->av.length=2:=fun av H K h=>by obtain ⟨a,b,rfl,_⟩:=nC h.1.1; rfl
attribute [go_sem] CB GM XH
theorem aBT:Meets Tryz.prog 47 (CB (fun s=>s.es.length) j6).sp:=by
 refine aE Tryz.func47 aNQ 2 (by rw [Tryz.ntmps47]; decide) (aH JU (aH yF (aH UL (aA _)))) I9 ?_
 rintro av H K ⟨⟨h,rfl⟩,hK⟩
 obtain ⟨s,i,rfl,hs,hi⟩:=nC (len:=fun s=>s.es.length) h
 have hK:K (iS .i64 (j6 s i)) []:=by
  have:(CB (fun s=>s.es.length) j6).val [.va (.gs (aG s)),iS .i64 i]=iA .i64 (j6 s i):=by simp -dsimp only [go_sem,Int.toNat_natCast]
  rw [this] at hK; exact hK
 clear h
 have hle:=hs.ok.le
 have fin:∀ (x:Int) (R:Hp),j6 s i=x->W.Fin 0 K (iS .i64 x) R:=fun x R h=>by
  rw [h] at hK
  exact .sel [] (by simp) (by simp) rfl (.done (by simpa [go_sem] using hK))
 obtain ⟨e,hx⟩:∃ e,s.es[i]? = some e:=⟨_,aW hi⟩
 have q1:=aY (row:=bL) hx
 obtain ⟨_,hln,hlv,_,_⟩:=hs.ok.es e (bJ hx)
 have hA:j6 s i=bif !(w9 (bl e.nm)) then 5 else bif gJ (s.es.take i) e.nm then 7 else DZ e:=by unfold j6; rw [hx]
 simp (maxSteps:=1000000) -dsimp only [go_sem,aG,aGI,aIF,↓q1,bL]
 refine ⟨by omega,fun h1=>fin 5 _ (by rw [hA,h1]; rfl),fun h1=>?_⟩
 rw [h1] at hA
 simp only [aD] at hA
 refine aL (α:=Nat) (fun j=>[(1,iS .i64 i),(2,.va (.c1 (.pt 0 0))),(5,.va (.c1 (.pt 1 0))),(6,iS .i64 j)]) (fun _=>[.cells (aG s) 25,.cells (bL e) 92])
  (fun j=>j<=i/\gJ ((s.es.take i).drop j) e.nm=gJ (s.es.take i) e.nm) (fun j=>i - j) 0 2 ⟨Nat.zero_le _,rfl⟩ ?_ ?_ ?_
 · simp [go_sem]
 · simp [go_sem,aG,bL]
 have hti:(s.es.take i).length=i:=by rw [List.length_take]; omega
 rintro j ⟨hj,ho⟩
 rcases bF j i with hlt | hge
 · have hg:decide ((j:Int) < (i:Int))=true:=by simp; omega
   obtain ⟨d,hd⟩:∃ d,s.es[j]? = some d:=⟨_,aW (by omega)⟩
   have hd':(s.es.take i)[j]? = some d:=by rw [List.getElem?_take,if_pos hlt]; exact hd
   have q2:=aY (row:=bL) hd
   rw [gJ,iR hd'] at ho
   simp (maxSteps:=1000000) -dsimp only [go_sem,hg,↓q2,bL,aG,eT]
   refine ⟨by omega,fun hc=>?_,fun hc=>?_⟩
   · rw [hc,Bool.true_or] at ho
     exact fin 7 _ (by rw [hA,<-ho]; rfl)
   · rw [hc,Bool.false_or] at ho
     refine ⟨by omega,aC (j + 1) 2 ⟨by omega,ho⟩ (by omega) ?_ ?_⟩
     · simp [go_sem]
     · simp [go_sem,aG,bL]
 · obtain rfl:j=i:=by omega
   have hg:decide ((j:Int) < (j:Int))=false:=by simp
   rw [List.drop_eq_nil_of_le (by omega)] at ho
   rw [<-ho] at hA
   replace hA:j6 s j=DZ e:=hA
   clear ho hti
   simp (maxSteps:=1000000) -dsimp only [go_sem,hg,bL,aG]
   refine ⟨fun h1=>?_,fun h1=>?_⟩
   · refine fin 2 _ ?_
     rw [hA]
     unfold DZ
     have:(decide (e.ns.length=0) || decide (e.ns.length ≠ e.vs.length))=true:=by
      simp only [Bool.or_eq_true,beq_iff_eq,bne_iff_ne,decide_eq_true_eq] at h1 ⊢; omega
     rw [this]; rfl
   simp only [Bool.or_eq_false_iff,beq_eq_false_iff_ne,bne_eq_false_iff_eq,ne_eq] at h1
   have hl:e.ns.length=e.vs.length:=by omega
   have hF:j6 s j=fE (lB e) (e.ns.length - 0) 0:=by
    rw [hA]; unfold DZ; rw [decide_eq_false (by omega),decide_eq_false (by omega)]; rfl
   clear hA hg hge hj
   refine aL (α:=Nat) (fun k=>[(5,.va (.c1 (.pt 1 0))),(7,iS .i64 k)]) (fun _=>[.cells (aG s) 25,.cells (bL e) 92])
    (fun k=>k<=e.ns.length/\fE (lB e) (e.ns.length - k) k=fE (lB e) (e.ns.length - 0) 0) (fun k=>e.ns.length - k) 0 2 ⟨Nat.zero_le _,rfl⟩ ?_ ?_ ?_
   · simp [go_sem]
   · simp [go_sem,aG,bL]
   rintro k ⟨hk,ho⟩
   rcases bF k e.ns.length with hlt | hge
   · have hg:decide ((k:Int) < (e.ns.length:Int))=true:=by simp; omega
     obtain ⟨nm,hx2⟩:∃ nm,e.ns[k]? = some nm:=⟨_,aW hlt⟩
     obtain ⟨n,hy⟩:∃ nm,e.vs[k]? = some nm:=⟨_,aW (by omega)⟩
     have q2:=aY (row:=bQ) hx2
     have q3:=aY (row:=cU) hy
     have hbs:DB (e.ns.map bQ):=vQ hln
     have hk0:(0<=(k:Int))=True:=by simp
     have hk1:((k:Int)<=9223372036854775807)=True:=by simp; omega
     have hA:lB e k=bif !(cC (bl nm)) then (5:Int) else bif dG (e.ns.take k) nm then 7 else bif decide (n < 0) || decide (127 < n) then 4 else
      bif (decide ((k:Int)=0) && decide (n ≠ 0)) || (decide (0 < (k:Int)) && match e.vs[k - 1]? with | some m=>decide (n<=m) | none=>false) then 2 else 0:=by
      unfold lB; rw [hx2,hy]; rfl
     have fin':∀ (x:Int) (R:Hp),lB e k=x->x ≠ 0->W.Fin 0 K (iS .i64 x) R:=fun x R h1 h2=>fin x R (by
      rw [hF,<-ho,t8 hlt (by rw [h1]; exact h2),h1])
     have bN:lB e k=0->fE (lB e) (e.ns.length - (k + 1)) (k + 1)=fE (lB e) (e.ns.length - 0) 0:=fun h1=>by rw [<-ho,yZ hlt h1]
     cases hc1:cC (bl nm) with
     | false=>
      simp (maxSteps:=1000000) -dsimp only [go_sem,hg,↓q2,bL,aG,hc1]
      exact ⟨by omega,fin' 5 _ (by rw [hA,hc1]; rfl) (by decide)⟩
     | true=>
      cases hc2:dG (e.ns.take k) nm with
      | true=>
       simp (maxSteps:=1000000) -dsimp only [go_sem,hg,↓q2,bL,aG,hc1,hc2,hbs,hk0,hk1,Int.toNat_natCast]
       exact ⟨by omega,by omega,fin' 7 _ (by rw [hA,hc1,hc2]; rfl) (by decide)⟩
      | false=>
       cases hc3:decide (n < 0) with
       | true=>
        simp (maxSteps:=1000000) -dsimp only [go_sem,hg,↓q2,↓q3,bL,aG,hc1,hc2,hbs,hk0,hk1,Int.toNat_natCast,hc3]
        exact ⟨by omega,by omega,by omega,fin' 4 _ (by rw [hA,hc1,hc2,hc3]; rfl) (by decide)⟩
       | false=>
       cases hc4:decide (127 < n) with
       | true=>
        simp (maxSteps:=1000000) -dsimp only [go_sem,hg,↓q2,↓q3,bL,aG,hc1,hc2,hbs,hk0,hk1,Int.toNat_natCast,hc3,hc4]
        exact ⟨by omega,by omega,by omega,by omega,fin' 4 _ (by rw [hA,hc1,hc2,hc3,hc4]; rfl) (by decide)⟩
       | false=>
       have hA2:lB e k=bif (decide ((k:Int)=0) && decide (n ≠ 0)) || (decide (0 < (k:Int)) && match e.vs[k - 1]? with | some m=>decide (n<=m) | none=>false) then 2 else 0:=by rw [hA,hc1,hc2,hc3,hc4]; rfl
       clear hA
       rcases Nat.eq_zero_or_pos k with h0 | h0
       · have g0:((k:Int) == 0)=true:=by simp; omega
         have g1:decide (0 < (k:Int))=false:=by simp; omega
         have g2:decide ((k:Int)=0)=true:=g0
         cases hn:(n != 0) with
         | true=>
          simp (maxSteps:=1000000) -dsimp only [go_sem,hg,↓q2,↓q3,bL,aG,hc1,hc2,hbs,hk0,hk1,Int.toNat_natCast,hc3,hc4,g0,g1,hn,Bool.and_false]
          and_intros
          all_goals first
           | omega
           | exact fin' 2 _ (by rw [hA2,g1,g2]; simp at hn; simp [hn]) (by decide)
         | false=>
          simp (maxSteps:=1000000) -dsimp only [go_sem,hg,↓q2,↓q3,bL,aG,hc1,hc2,hbs,hk0,hk1,Int.toNat_natCast,hc3,hc4,g0,g1,hn,Bool.and_false]
          and_intros
          all_goals first
           | omega
           | exact aC (k + 1) 2 ⟨by omega,bN (by rw [hA2,g1]; simp at hn; simp [hn])⟩ (by omega) (by simp [go_sem]) (by simp [go_sem,aG,bL])
       · have g0:((k:Int) == 0)=false:=by simp; omega
         have g1:decide (0 < (k:Int))=true:=by simp; omega
         have g2:decide ((k:Int)=0)=false:=g0
         obtain ⟨m,hm⟩:∃ m,e.vs[k - 1]? = some m:=⟨_,aW (by omega)⟩
         have q4:((k:Int) - 1).toNat=k - 1:=by omega
         have q5:=qH (row:=cU) hm
         cases hn:decide (n<=m) with
         | true=>
          simp (maxSteps:=1000000) -dsimp only [go_sem,hg,↓q2,↓q3,bL,aG,hc1,hc2,hbs,hk0,hk1,Int.toNat_natCast,aJ,forall_eq',hc3,hc4,g0,g1,q4,hm,hn,Bool.and_true]
          and_intros
          all_goals first
           | omega
           | exact fin' 2 _ (by rw [hA2,hm,g1]; simp only [hn]; simp) (by decide)
         | false=>
          simp (maxSteps:=1000000) -dsimp only [go_sem,hg,↓q2,↓q3,bL,aG,hc1,hc2,hbs,hk0,hk1,Int.toNat_natCast,aJ,forall_eq',hc3,hc4,g0,g1,q4,hm,hn,Bool.and_true]
          and_intros
          all_goals first
           | omega
           | exact aC (k + 1) 2 ⟨by omega,bN (by rw [hA2,hm,g1,g2]; simp only [hn]; rfl)⟩ (by omega) (by simp [go_sem]) (by simp [go_sem,aG,bL])
   · have hg:decide ((k:Int) < (e.ns.length:Int))=false:=by simp; omega
     obtain rfl:k=e.ns.length:=by omega
     rw [AP] at ho
     simp (maxSteps:=1000000) -dsimp only [go_sem,hg,bL]
     exact fin 0 _ (by rw [hF,<-ho])
def GL (N:Nat):List S->Prop:=fun av=>match av with
 | [.va (.gs r),.va (.gs q)]=>lE r/\fL q/\(C.ty q).h<=N
 | _=>False
theorem jU {N:Nat} {av:List S} (h:GL N av):∃ s t,av=[.va (.gs (aG s)),.va (.gs (aN t))]/\s.fit/\TyOk t/\t.h<=N:=by
 unfold GL at h
 split at h
 · obtain ⟨⟨a,rfl,ha⟩,⟨b,rfl,hb⟩,hh⟩:=h
   rw [fX] at hh
   exact ⟨a,b,rfl,ha,hb,hh⟩
 · exact h.elim
noncomputable def O2:List S->A:=fun av=>match av with
 | [.va (.gs r),.va (.gs q)]=>bA (valF (C.sc r).ss (C.sc r).es (C.ty q))
 | _=>.gs []
noncomputable def DF (N:Nat):Fun:=⟨GL N,O2,fun av h=>by obtain ⟨a,b,rfl,_⟩:=jU h; trivial⟩
theorem G0 {N:Nat}:∀ av H K,(DF N).sp av H K->av.length=2:=fun av H K h=>by obtain ⟨a,b,rfl,_⟩:=jU h.1.1; rfl
attribute [go_sem] DF GL O2
theorem aPS {ss:List St} {es:List En} {s:Int} {n:ByteArray} {e:List Ty}:valF ss es (.mk 6 s n e)=(gK ss n && s == 0 && (e.length:Int) == 0):=by
 rw [valF]; rfl
theorem aP6 {ss:List St} {es:List En} {s:Int} {n:ByteArray} {e:List Ty}:valF ss es (.mk 7 s n e)=(gJ es n && s == 0 && (e.length:Int) == 0):=by
 rw [valF]; rfl
theorem QD:∀ N,Meets Tryz.prog 73 (DF N).sp
 | 0=>⟨by kernel_rfl,by rintro xs vs E ro w K _ _ _ ⟨⟨h,_⟩,_⟩; obtain ⟨_,a,_,_,_,h⟩:=jU h; have:=a.h_pos; omega⟩
 | N + 1=>by
  refine aE Tryz.func73 aOW 2 (by rw [Tryz.ntmps73]; decide) (aH (QD N) (aH aCY (aB HD (aB RY (aA _))))) G0 ?_
  rintro av H K ⟨⟨h,rfl⟩,hK⟩
  obtain ⟨sc,t,rfl,hs,ht,hh⟩:=jU h
  have hK:K (bS (valF sc.ss sc.es t)) []:=by
   have:(DF (N + 1)).val [.va (.gs (aG sc)),.va (.gs (aN t))]=bA (valF sc.ss sc.es t):=by simp -dsimp only [go_sem]
   rw [this] at hK; exact hK
  clear h
  have fin:∀ (b:Bool) (R:Hp),valF sc.ss sc.es t=b->W.Fin 0 K (bS b) R:=fun b R h=>by
   rw [h] at hK
   exact .sel [] (by simp) (by simp) rfl (.done (by simp -dsimp only [go_sem]; simpa using hK))
  have hit:fL (aN t):=eH ht
  cases t with
  | mk k s n e=>
  have hcd:=fX (.mk k s n e)
  rw [aN,aV] at hcd hit
  have hcl:(Ty.mk k s n e).e.length=e.length:=rfl
  by_cases k1:(k == 1)=true
  · have hF:=valF.eq_1 sc.ss sc.es k s n e
    rw [k1] at hF
    simp only [aI] at hF
    simp (maxSteps:=1000000) -dsimp only [go_sem,aG,aN,aV,pV,p6,k1,hit,hcd,hcl]
    exact fin _ _ hF
  rw [Bool.not_eq_true] at k1
  by_cases k2:(k == 2)=true
  · have hF:=valF.eq_1 sc.ss sc.es k s n e
    rw [k1,k2] at hF
    simp only [aI,aD] at hF
    simp (maxSteps:=1000000) -dsimp only [go_sem,aG,aN,aV,pV,p6,k1,k2,hit,hcd,hcl]
    exact fin _ _ hF
  rw [Bool.not_eq_true] at k2
  by_cases k3:(k == 3)=true
  · have hF:=valF.eq_1 sc.ss sc.es k s n e
    rw [k1,k2,k3] at hF
    simp only [aI,aD,Bool.and_false,Bool.or_false] at hF
    simp (maxSteps:=1000000) -dsimp only [go_sem,aG,aN,aV,pV,p6,k1,k2,k3,hit,hcd,hcl]
    exact fin _ _ hF
  rw [Bool.not_eq_true] at k3
  by_cases k4:(k == 4)=true
  · have hF:=valF.eq_1 sc.ss sc.es k s n e
    rw [k1,k2,k3,k4] at hF
    simp only [aI,aD] at hF
    simp (maxSteps:=1000000) -dsimp only [go_sem,aG,aN,aV,pV,p6,k1,k2,k3,k4,hit,hcd,hcl]
    exact fin _ _ hF
  rw [Bool.not_eq_true] at k4
  by_cases k5:(k == 5)=true
  · have hF:=valF.eq_1 sc.ss sc.es k s n e
    rw [k1,k2,k3,k4,k5] at hF
    simp only [aI,aD] at hF
    cases hc:(decide (1<=s) && decide (s<=32) && bl n == [] && (e.length:Int) == 1) with
    | false=>
     have hF':valF sc.ss sc.es (.mk k s n e)=false:=by
      rw [hF]
      cases h0:(decide (1<=s) && decide (s<=32) && bl n == []) with
      | false=>rfl
      | true=>
       rw [h0,Bool.true_and] at hc
       match e,hc with
       | [],_=>rfl
       | [u],hc=>simp at hc
       | u :: v :: r,_=>simp [nA]
     simp (maxSteps:=1000000) -dsimp only [go_sem,aG,aN,aV,pV,p6,k1,k2,k3,k4,k5,hc]
     exact fin _ _ hF'
    | true=>
     obtain ⟨u,rfl⟩:∃ u,e=[u]:=by
      simp only [Bool.and_eq_true,beq_iff_eq] at hc
      exact List.length_eq_one_iff.1 (by omega)
     have h0:(decide (1<=s) && decide (s<=32) && bl n == [])=true:=by
      simp only [Bool.and_eq_true] at hc ⊢; exact hc.1
     have hF':valF sc.ss sc.es (.mk k s n [u])=valF sc.ss sc.es u:=by rw [hF,h0]; simp [nA]
     have hu2:u.h<=N:=by rw [Ty.h,Ty.hs,Ty.hs] at hh; omega
     have hu:fL (aN u):=eH (ht.e u (by simp [Ty.e]))
     have hsf:=gA hs
     rw [aG] at hsf
     have hsd:=gT sc
     rw [aG] at hsd
     have hc':(decide (1<=s) && decide (s<=32) && bl n == [] && ((1:Nat):Int) == 1)=true:=hc
     simp (maxSteps:=1000000) -dsimp only [go_sem,aG,aN,aV,pV,p6,k1,k2,k3,k4,k5,hc']
     refine ⟨⟨by omega,fun r hr=>by subst hr; exact i6 u⟩,fun r hr=>?_⟩
     subst hr
     simp (maxSteps:=1000000) -dsimp only [go_sem,hsf,hsd,hu,i6]
     exact ⟨hu2,fin _ _ hF'⟩
  rw [Bool.not_eq_true] at k5
  by_cases k6:(k == 6)=true
  · obtain rfl:k=6:=by simpa using k6
    have hF:=aPS (ss:=sc.ss) (es:=sc.es) (s:=s) (n:=n) (e:=e)
    simp (maxSteps:=1000000) -dsimp only [go_sem,aG,aN,aV,pV,p6,k1,k2,k3,k4,k5,k6]
    refine lS hs ?_
    cases hc:gK sc.ss n with
    | false=>
     rw [hc] at hF
     simp (maxSteps:=1000000) -dsimp only [go_sem,aP,hit,hcd,hcl]
     exact fin _ _ hF
    | true=>
     rw [hc] at hF
     simp (maxSteps:=1000000) -dsimp only [go_sem,aP,hit,hcd,hcl]
     exact fin _ _ hF
  rw [Bool.not_eq_true] at k6
  by_cases k7:(k == 7)=true
  · obtain rfl:k=7:=by simpa using k7
    have hF:=aP6 (ss:=sc.ss) (es:=sc.es) (s:=s) (n:=n) (e:=e)
    simp (maxSteps:=1000000) -dsimp only [go_sem,aG,aN,aV,pV,p6,k1,k2,k3,k4,k5,k6,k7]
    refine nU hs ?_
    cases hc:gJ sc.es n with
    | false=>
     rw [hc] at hF
     simp (maxSteps:=1000000) -dsimp only [go_sem,bL,hit,hcd,hcl]
     exact fin _ _ hF
    | true=>
     rw [hc] at hF
     simp (maxSteps:=1000000) -dsimp only [go_sem,bL,hit,hcd,hcl]
     exact fin _ _ hF
  rw [Bool.not_eq_true] at k7
  have hF:=valF.eq_1 sc.ss sc.es k s n e
  rw [k1,k2,k3,k4,k5,k6,k7] at hF
  simp only [aD] at hF
  simp (maxSteps:=1000000) -dsimp only [go_sem,aG,aN,aV,pV,p6,k1,k2,k3,k4,k5,k6,k7]
  exact fin _ _ hF
def GK:List S->Prop:=fun av=>match av with
 | [.va (.gs r),.va (.gs q)]=>lE r/\fL q
 | _=>False
theorem rV {av:List S} (h:GK av):∃ s t,av=[.va (.gs (aG s)),.va (.gs (aN t))]/\s.fit/\TyOk t:=by
 unfold GK at h
 split at h
 · obtain ⟨⟨a,rfl,ha⟩,⟨b,rfl,hb⟩⟩:=h
   exact ⟨a,b,rfl,ha,hb⟩
 · exact h.elim
noncomputable def r0Fn:Fun:=⟨GK,O2,fun av h=>by obtain ⟨a,b,rfl,_⟩:=rV h; trivial⟩
attribute [go_sem] r0Fn GK
theorem aB9:Meets Tryz.prog 73 r0Fn.sp:=eU 0 QD fun av H K ⟨⟨h,e⟩,hK⟩=>by
 obtain ⟨a,b,rfl,ha,hb⟩:=rV h
 exact ⟨b.h,⟨⟨⟨gA ha,eH hb,by rw [fX]; exact Nat.le_refl _⟩,e⟩,hK⟩⟩
theorem RW:Meets Tryz.prog 48 (CB (fun s=>s.ss.length) kL).sp:=by
 refine aE Tryz.func48 aRQ 2 (by rw [Tryz.ntmps48]; decide) (aH JU (aB RY (aH yF (aH aB9 (aA _))))) I9 ?_
 rintro av H K ⟨⟨h,rfl⟩,hK⟩
 obtain ⟨s,i,rfl,hs,hi⟩:=nC (len:=fun s=>s.ss.length) h
 have hK:K (iS .i64 (kL s i)) []:=by
  have:(CB (fun s=>s.ss.length) kL).val [.va (.gs (aG s)),iS .i64 i]=iA .i64 (kL s i):=by simp -dsimp only [go_sem,Int.toNat_natCast]
  rw [this] at hK; exact hK
 clear h
 have hls:=hs.ok.ls
 have fin:∀ (x:Int) (R:Hp),kL s i=x->W.Fin 0 K (iS .i64 x) R:=fun x R h=>by
  rw [h] at hK
  exact .sel [] (by simp) (by simp) rfl (.done (by simpa [go_sem] using hK))
 obtain ⟨t,hx⟩:∃ e,s.ss[i]? = some e:=⟨_,aW hi⟩
 have q1:=aY (row:=aP) hx
 obtain ⟨_,hlf,hfs⟩:=hs.ok.ss t (bJ hx)
 have hA:kL s i=bif pG s i t.nm != 0 then pG s i t.nm else DU s.ss s.es t:=by unfold kL; rw [hx]
 have hsf:=gA hs
 rw [aG] at hsf
 have hsd:=gT s
 rw [aG] at hsd
 simp (maxSteps:=1000000) -dsimp only [go_sem,aG,aE0,aIT,↓q1,aP]
 refine ⟨by omega,fun h1=>fin 5 _ (by rw [hA]; unfold pG; rw [h1]; rfl),fun h1=>?_⟩
 refine nU hs ?_
 simp (maxSteps:=1000000) -dsimp only [go_sem,bL]
 refine ⟨fun h2=>fin 7 _ (by rw [hA]; unfold pG; rw [h1,h2]; rfl),fun h2=>?_⟩
 have hC:pG s i t.nm=bif gK (s.ss.take i) t.nm then 7 else 0:=by unfold pG; rw [h1,h2]; rfl
 generalize ((fU s.es t.nm).getD default)=dflt
 refine aL (α:=Nat) (fun j=>[(1,iS .i64 i),(2,.va (.c1 (.pt 0 0))),(5,.va (.c1 (.pt 1 0))),(8,iS .i64 j)]) (fun _=>[.cells (aG s) 25,.cells (aP t) 95])
  (fun j=>j<=i/\gK ((s.ss.take i).drop j) t.nm=gK (s.ss.take i) t.nm) (fun j=>i - j) 0 2 ⟨Nat.zero_le _,rfl⟩ ?_ ?_ ?_
 · simp [go_sem]
 · simp [go_sem,aG,aP]
 have hti:(s.ss.take i).length=i:=by rw [List.length_take]; omega
 rintro j ⟨hj,ho⟩
 rcases bF j i with hlt | hge
 · have hg:decide ((j:Int) < (i:Int))=true:=by simp; omega
   obtain ⟨d,hd⟩:∃ d,s.ss[j]? = some d:=⟨_,aW (by omega)⟩
   have hd':(s.ss.take i)[j]? = some d:=by rw [List.getElem?_take,if_pos hlt]; exact hd
   have q2:=aY (row:=aP) hd
   rw [gK,iR hd'] at ho
   simp (maxSteps:=1000000) -dsimp only [go_sem,hg,↓q2,aP,aG,eT]
   refine ⟨by omega,fun hc=>?_,fun hc=>?_⟩
   · rw [hc,Bool.true_or] at ho
     exact fin 7 _ (by rw [hA,hC,<-ho]; rfl)
   · rw [hc,Bool.false_or] at ho
     refine ⟨by omega,aC (j + 1) 2 ⟨by omega,ho⟩ (by omega) ?_ ?_⟩
     · simp [go_sem]
     · simp [go_sem,aG,aP]
 · obtain rfl:j=i:=by omega
   have hg:decide ((j:Int) < (j:Int))=false:=by simp
   rw [List.drop_eq_nil_of_le (by omega)] at ho
   have hF:kL s j=DU s.ss s.es t:=by rw [hA,hC,<-ho]; rfl
   clear ho hti hA hC q1 hj hge
   simp (maxSteps:=1000000) -dsimp only [go_sem,hg,aP,aG]
   clear hg
   refine aL (α:=Nat) (fun k=>[(2,.va (.c1 (.pt 0 0))),(5,.va (.c1 (.pt 1 0))),(9,iS .i64 k)]) (fun _=>[.cells (aG s) 25,.cells (aP t) 95])
    (fun k=>k<=t.fs.length/\fE (pT s.ss s.es t) (t.fs.length - k) k=DU s.ss s.es t) (fun k=>t.fs.length - k) 0 2 ⟨Nat.zero_le _,rfl⟩ ?_ ?_ ?_
   · simp [go_sem]
   · simp [go_sem,aG,aP]
   rintro k ⟨hk,ho⟩
   rcases bF k t.fs.length with hlt | hge
   · have hg:decide ((k:Int) < (t.fs.length:Int))=true:=by simp; omega
     obtain ⟨f,hx2⟩:∃ nm,t.fs[k]? = some nm:=⟨_,aW hlt⟩
     have q2:=aY (row:=aZ) hx2
     have hf:f.ok:=hfs f (bJ hx2)
     have hit:fL (aN f.ty):=eH hf.ty
     have hA:pT s.ss s.es t k=bif decide (f.num < 1) || decide (127 < f.num) then (4:Int) else bif decide (0 < (k:Int)) && (match t.fs[k - 1]? with | some g=>decide (f.num<=g.num) | none=>false) then 2 else
      bif !(cC (bl f.nm)) then 5 else bif (t.fs.take k).any (fun g=>decide (g.nm=f.nm)) then 7 else bif !(valF s.ss s.es f.ty) then 13 else 0:=by
      unfold pT; rw [hx2]; rfl
     have fin':∀ (x:Int) (R:Hp),pT s.ss s.es t k=x->x ≠ 0->W.Fin 0 K (iS .i64 x) R:=fun x R h1 h2=>fin x R (by
      rw [hF,<-ho,t8 hlt (by rw [h1]; exact h2),h1])
     have bN:pT s.ss s.es t k=0->fE (pT s.ss s.es t) (t.fs.length - (k + 1)) (k + 1)=DU s.ss s.es t:=fun h1=>by rw [<-ho,yZ hlt h1]
     cases c0:decide (f.num < 1) with
     | true=>
      rw [c0] at hA
      simp (maxSteps:=1000000) -dsimp only [go_sem,hg,↓q2,aZ,aP,aG,c0]
      exact ⟨by omega,fin' 4 _ hA (by decide)⟩
     | false=>
     cases c1:decide (127 < f.num) with
     | true=>
      rw [c0,c1] at hA
      simp (maxSteps:=1000000) -dsimp only [go_sem,hg,↓q2,aZ,aP,aG,c0,c1]
      exact ⟨by omega,fin' 4 _ hA (by decide)⟩
     | false=>
     rw [c0,c1] at hA
     simp only [Bool.or_self,aD] at hA
     rcases Nat.eq_zero_or_pos k with h0 | h0
     · have g1:decide (0 < (k:Int))=false:=by simp; omega
       rw [g1] at hA
       simp only [Bool.false_and,aD] at hA
       cases c3:cC (bl f.nm) with
       | false=>
        rw [c3] at hA
        simp (maxSteps:=1000000) -dsimp only [go_sem,hg,↓q2,aZ,aP,aG,c0,c1,c3,g1]
        exact ⟨by omega,fin' 5 _ hA (by decide)⟩
       | true=>
        rw [c3] at hA
        simp only [Bool.not_true,aD] at hA
        simp (maxSteps:=1000000) -dsimp only [go_sem,hg,↓q2,aZ,aP,aG,c0,c1,c3,g1]
        refine ⟨by omega,?_⟩
        refine aL (α:=Nat) (fun j=>[(2,.va (.c1 (.pt 0 0))),(5,.va (.c1 (.pt 1 0))),(9,iS .i64 k),(10,.va (.c1 (.pt 2 0))),(11,iS .i64 j)])
         (fun _=>[.cells (aG s) 25,.cells (aP t) 95,.cells (aZ f) 97])
         (fun j=>j<=k/\((t.fs.take k).drop j).any (fun g=>decide (g.nm=f.nm))=(t.fs.take k).any (fun g=>decide (g.nm=f.nm))) (fun j=>k - j) 0 3 ⟨Nat.zero_le _,rfl⟩ ?_ ?_ ?_
        · simp [go_sem]
        · simp [go_sem,aG,aP,aZ]
        have htk:(t.fs.take k).length=k:=by rw [List.length_take]; omega
        rintro j ⟨hj,ho2⟩
        rcases bF j k with hjt | hjg
        · have hgj:decide ((j:Int) < (k:Int))=true:=by simp; omega
          obtain ⟨d,hd⟩:∃ e,t.fs[j]? = some e:=⟨_,aW (by omega)⟩
          have hd':(t.fs.take k)[j]? = some d:=by rw [List.getElem?_take,if_pos hjt]; exact hd
          have q5:=aY (row:=aZ) hd
          rw [iR hd'] at ho2
          simp (maxSteps:=1000000) -dsimp only [go_sem,hgj,↓q5,aZ,aP,aG,eT]
          refine ⟨by omega,fun hc=>?_,fun hc=>?_⟩
          · rw [hc,Bool.true_or] at ho2
            rw [<-ho2] at hA
            exact fin' 7 _ hA (by decide)
          · rw [hc,Bool.false_or] at ho2
            refine ⟨by omega,aC (j + 1) 3 ⟨by omega,ho2⟩ (by omega) ?_ ?_⟩
            · simp [go_sem]
            · simp [go_sem,aG,aP,aZ]
        · obtain rfl:j=k:=by omega
          have hgj:decide ((j:Int) < (j:Int))=false:=by simp
          rw [List.drop_eq_nil_of_le (by omega)] at ho2
          rw [<-ho2] at hA
          simp only [List.any_nil,aD] at hA
          simp (maxSteps:=1000000) -dsimp only [go_sem,hgj,aZ,aP,aG,wE,hit,hsf,hsd]
          cases c5:valF s.ss s.es f.ty with
          | true=>
           rw [c5] at hA
           simp (maxSteps:=1000000) -dsimp only [go_sem]
           refine ⟨by omega,aC (j + 1) 2 ⟨by omega,bN hA⟩ (by omega) ?_ ?_⟩
           · simp [go_sem]
           · simp [go_sem,aG,aP]
          | false=>
           rw [c5] at hA
           simp (maxSteps:=1000000) -dsimp only [go_sem]
           exact fin' 13 _ hA (by decide)
     · have g1:decide (0 < (k:Int))=true:=by simp; omega
       obtain ⟨g,hy⟩:∃ m,t.fs[k - 1]? = some m:=⟨_,aW (by omega)⟩
       have q4:((k:Int) - 1).toNat=k - 1:=by omega
       have q6:=qH (row:=aZ) hy
       rw [g1,hy,Bool.true_and] at hA
       simp only at hA
       cases c2:decide (f.num<=g.num) with
       | true=>
        rw [c2] at hA
        simp (maxSteps:=1000000) -dsimp only [go_sem,hg,↓q2,aZ,aP,aG,c0,c1,g1,q4,c2,hy,aJ,forall_eq']
        exact ⟨by omega,by omega,by omega,fin' 2 _ hA (by decide)⟩
       | false=>
        rw [c2] at hA
        simp only [aD] at hA
        cases c3:cC (bl f.nm) with
        | false=>
         rw [c3] at hA
         simp (maxSteps:=1000000) -dsimp only [go_sem,hg,↓q2,aZ,aP,aG,c0,c1,c3,g1,q4,c2,hy,aJ,forall_eq']
         exact ⟨by omega,by omega,by omega,fin' 5 _ hA (by decide)⟩
        | true=>
         rw [c3] at hA
         simp only [Bool.not_true,aD] at hA
         simp (maxSteps:=1000000) -dsimp only [go_sem,hg,↓q2,aZ,aP,aG,c0,c1,c3,g1,q4,c2,hy,aJ,forall_eq']
         refine ⟨by omega,by omega,by omega,?_⟩
         refine aL (α:=Nat) (fun j=>[(2,.va (.c1 (.pt 0 0))),(5,.va (.c1 (.pt 1 0))),(9,iS .i64 k),(10,.va (.c1 (.pt 2 0))),(11,iS .i64 j)])
          (fun _=>[.cells (aG s) 25,.cells (aP t) 95,.cells (aZ f) 97])
          (fun j=>j<=k/\((t.fs.take k).drop j).any (fun g=>decide (g.nm=f.nm))=(t.fs.take k).any (fun g=>decide (g.nm=f.nm))) (fun j=>k - j) 0 3 ⟨Nat.zero_le _,rfl⟩ ?_ ?_ ?_
         · simp [go_sem]
         · simp [go_sem,aG,aP,aZ]
         have htk:(t.fs.take k).length=k:=by rw [List.length_take]; omega
         rintro j ⟨hj,ho2⟩
         rcases bF j k with hjt | hjg
         · have hgj:decide ((j:Int) < (k:Int))=true:=by simp; omega
           obtain ⟨d,hd⟩:∃ e,t.fs[j]? = some e:=⟨_,aW (by omega)⟩
           have hd':(t.fs.take k)[j]? = some d:=by rw [List.getElem?_take,if_pos hjt]; exact hd
           have q5:=aY (row:=aZ) hd
           rw [iR hd'] at ho2
           simp (maxSteps:=1000000) -dsimp only [go_sem,hgj,↓q5,aZ,aP,aG,eT]
           refine ⟨by omega,fun hc=>?_,fun hc=>?_⟩
           · rw [hc,Bool.true_or] at ho2
             rw [<-ho2] at hA
             exact fin' 7 _ hA (by decide)
           · rw [hc,Bool.false_or] at ho2
             refine ⟨by omega,aC (j + 1) 3 ⟨by omega,ho2⟩ (by omega) ?_ ?_⟩
             · simp [go_sem]
             · simp [go_sem,aG,aP,aZ]
         · obtain rfl:j=k:=by omega
           have hgj:decide ((j:Int) < (j:Int))=false:=by simp
           rw [List.drop_eq_nil_of_le (by omega)] at ho2
           rw [<-ho2] at hA
           simp only [List.any_nil,aD] at hA
           simp (maxSteps:=1000000) -dsimp only [go_sem,hgj,aZ,aP,aG,wE,hit,hsf,hsd]
           cases c5:valF s.ss s.es f.ty with
           | true=>
            rw [c5] at hA
            simp (maxSteps:=1000000) -dsimp only [go_sem]
            refine ⟨by omega,aC (j + 1) 2 ⟨by omega,bN hA⟩ (by omega) ?_ ?_⟩
            · simp [go_sem]
            · simp [go_sem,aG,aP]
           | false=>
            rw [c5] at hA
            simp (maxSteps:=1000000) -dsimp only [go_sem]
            exact fin' 13 _ hA (by decide)
   · have hg:decide ((k:Int) < (t.fs.length:Int))=false:=by simp; omega
     obtain rfl:k=t.fs.length:=by omega
     rw [AP] at ho
     simp (maxSteps:=1000000) -dsimp only [go_sem,hg,aP]
     exact fin 0 _ (by rw [hF,<-ho])
mutual
def dirF:Ty->List ByteArray
 | .mk k _ n e=>bif k == 6 || k == 7 then [n] else fH e
def fH:List Ty->List ByteArray
 | []=>[]
 | t :: r=>dirF t ++ fH r
end
theorem s6:∀ (a b:List Ty),fH (a ++ b)=fH a ++ fH b
 | [],b=>rfl
 | t :: r,b=>by rw [List.cons_append,fH,fH,s6 r b,List.append_assoc]
theorem EZ:∀ {l:List Ty} {t:Ty},t ∈ l->(dirF t).length<=(fH l).length
 | x :: l,t,h=>by
  rw [fH,List.length_append]
  rcases List.mem_cons.1 h with rfl | h
  · omega
  · have:=EZ h; omega
def aEO (N:Nat):W.Spec:=fun av H K=>∃ t:Ty,av=[.va (.gs (aN t))]/\H=[]/\TyOk t/\t.h<=N/\(dirF t).length<=1000000000/\K (.va (.c1 (.fz ((dirF t).map bQ)))) []
theorem aFA {N:Nat} {t:Ty} {K:S->Hp->Prop} (h1:TyOk t) (h2:t.h<=N) (h3:(dirF t).length<=1000000000) (hK:K (.va (.c1 (.fz ((dirF t).map bQ)))) []):aEO N [.va (.gs (aN t))] [] K:=⟨t,rfl,rfl,h1,h2,h3,hK⟩
theorem aDX (l:List ByteArray):∀ r ∈ l.map bQ,∀ c ∈ r,c.shut=true/\c.one:=fun r hr c hc=>by
 obtain ⟨x,_,rfl⟩:=List.mem_map.1 hr
 simp at hc; subst hc; simp [go_sem,C.shut]
theorem NF:∀ N,Meets Tryz.prog 87 (aEO N)
 | 0=>⟨by kernel_rfl,by rintro xs vs E ro w K _ _ _ ⟨t,_,_,_,h,_⟩; have:=t.h_pos; omega⟩
 | N + 1=>by
  refine aE Tryz.func87 aM9 1 (by rw [Tryz.ntmps87]; decide) (aB (NF N) (aA _)) (fun av H K h=>by obtain ⟨_,rfl,_⟩:=h; rfl) ?_
  rintro av H K ⟨⟨k,s,n,e⟩,rfl,rfl,h1,h2,h3,hK⟩
  have hle:=h1.len
  have hoe:=h1.e
  simp only [Ty.e] at hle hoe
  have hD:=dirF.eq_1 k s n e
  simp (maxSteps:=1000000) -dsimp only [go_sem,aN,aV,aEC,aDU]
  refine ⟨fun c1=>?_,fun c1=>?_⟩
  · rw [c1,aI] at hD
    rw [hD] at hK
    refine .pub 1 _ _ _ rfl (.sel [] (by simp) (by simp [cW]) rfl (.done ?_))
    simp -dsimp only [go_sem,cW]
    simpa using hK
  · rw [c1,aD] at hD
    rw [hD] at hK h3
    refine dX (α:=Nat) (fun i=>[(1,.va (.c1 (.pt 0 0))),(3,.va (.c1 (.sl 1 (fH (e.take i)).length))),(4,iS .i64 i)]) (fun i=>[.cells (aN (.mk k s n e)) 28,.row ((fH (e.take i)).map bQ) 9 1])
     (fun i=>i<=e.length) (fun i=>e.length - i) (.nil 3 9 1 rfl (l9 0 2 (Nat.zero_le _) ?_ ?_)) ?_
    · simp -dsimp only [go_sem]<;>simp [fH]
    · simp -dsimp only [go_sem,aN,aV]<;>simp [fH]
    intro i hi
    rcases bF i e.length with hlt | hge
    · have hg:decide ((i:Int) < (e.length:Int))=true:=by simp; omega
      obtain ⟨u,hx⟩:∃ t,e[i]? = some t:=⟨_,aW hlt⟩
      have q1:=aY (row:=aN) hx
      have hu:=bJ hx
      have htn:fH (e.take (i + 1))=fH (e.take i) ++ dirF u:=by rw [gQ hx,s6]; simp [fH]
      have hb:(fH (e.take (i + 1))).length<=1000000000:=by
       have:=s6 (e.take (i + 1)) (e.drop (i + 1))
       rw [List.take_append_drop] at this
       rw [this,List.length_append] at h3; omega
      rw [htn,List.length_append] at hb
      simp (maxSteps:=1000000) -dsimp only [go_sem,hg,↓q1,i6,aN,aV]
      refine ⟨by omega,aFA (hoe u hu) ?_ ?_ ?_⟩
      · have:=Ty.hs_mem hu; rw [Ty.h] at h2; omega
      · have:=EZ hu; omega
      simp (maxSteps:=1000000) -dsimp only [go_sem,VC aBR]
      refine ⟨aDX _,by omega,by omega,aC (i + 1) 2 (by omega) (by omega) ?_ ?_⟩
      · simp -dsimp only [go_sem,htn]<;>simp
      · simp -dsimp only [go_sem,aN,aV,htn]<;>simp
    · have hg:decide ((i:Int) < (e.length:Int))=false:=by simp; omega
      obtain rfl:i=e.length:=by omega
      rw [List.take_length]
      simp (maxSteps:=1000000) -dsimp only [go_sem,hg,aN,aV]
      rw [<-List.length_map (f:=bQ)]
      refine .pub 1 _ _ _ rfl (.sel [] (by simp) (by simp [cW]) rfl (.done ?_))
      simp -dsimp only [go_sem,cW]
      simpa using hK
def YO:W.Spec:=fun av H K=>∃ t:Ty,av=[.va (.gs (aN t))]/\H=[]/\TyOk t/\(dirF t).length<=1000000000/\K (.va (.c1 (.fz ((dirF t).map bQ)))) []
theorem aBL {t:Ty} {K:S->Hp->Prop} (h1:TyOk t) (h3:(dirF t).length<=1000000000) (hK:K (.va (.c1 (.fz ((dirF t).map bQ)))) []):YO [.va (.gs (aN t))] [] K:=⟨t,rfl,rfl,h1,h3,hK⟩
theorem WS:Meets Tryz.prog 87 YO:=eU 0 NF fun _av _H _K ⟨t,e1,e2,h1,h3,hK⟩=>⟨t.h,t,e1,e2,h1,Nat.le_refl _,h3,hK⟩
def fA (x:ByteArray):Bool->List ByteArray->List ByteArray
 | d,[]=>bif d then [] else [x]
 | d,y :: r=>bif !d && (Op.bytesLess (bl x) (bl y) || bl x == bl y) then (bif Op.bytesLess (bl x) (bl y) then x :: y :: fA x true r else y :: fA x true r) else y :: fA x d r
theorem I8 (x:ByteArray):∀ (d:Bool) (l:List ByteArray),(fA x d l).length<=l.length + 1
 | d,[]=>by cases d<;>simp [fA]
 | d,y :: r=>by
  have h1:=kU x r
  have h2:=I8 x d r
  rw [fA]
  cases d<;>cases Op.bytesLess (bl x) (bl y)<;>cases bl x == bl y<;>simp [h1] at h2 ⊢<;>omega
where kU (x:ByteArray):∀ l,fA x true l=l
 | []=>rfl
 | y :: r=>by rw [fA,kU x r]; rfl
def aFX:W.Spec:=fun av H K=>∃ (l:List ByteArray) (x:ByteArray),av=[.va (.c1 (.fz (l.map bQ))),tS x]/\H=[]/\l.length<=1000000/\K (.va (.c1 (.fz ((fA x false l).map bQ)))) []
theorem aDB {l:List ByteArray} {x:ByteArray} {K:S->Hp->Prop} (h:l.length<=1000000) (hK:K (.va (.c1 (.fz ((fA x false l).map bQ)))) []):aFX [.va (.c1 (.fz (l.map bQ))),tS x] [] K:=⟨l,x,rfl,rfl,h,hK⟩
theorem aOJ:Meets Tryz.prog 88 aFX:=by
 refine aE Tryz.func88 aOS 2 (by rw [Tryz.ntmps88]; decide) (aA _) (fun av H K h=>by obtain ⟨_,_,rfl,_⟩:=h; rfl) ?_
 rintro av H K ⟨l,x,rfl,rfl,hl,hK⟩
 have hlen:=I8 x false l
 simp (maxSteps:=1000000) -dsimp only [go_sem,aH1,aDC]
 refine dX (α:=Nat × Bool × List ByteArray) (fun z=>[(0,.va (.c1 (.fz (l.map bQ)))),(1,tS x),(5,.va (.c1 (.sl 0 z.2.2.length))),(6,bS z.2.1),(7,iS .i64 z.1)]) (fun z=>[.row (z.2.2.map bQ) 9 1])
  (fun z=>z.1<=l.length/\z.2.2 ++ fA x z.2.1 (l.drop z.1)=fA x false l) (fun z=>l.length - z.1) (.nil 5 9 1 rfl (l9 (0,false,[]) 1 ⟨Nat.zero_le _,rfl⟩ ?_ ?_)) ?_
 · simp -dsimp only [go_sem]<;>simp
 · simp -dsimp only [go_sem]<;>simp
 rintro ⟨i,d,o⟩ ⟨hi,ho⟩
 simp only at hi ho ⊢
 have hol:o.length<=l.length + 1:=by
  have:=congrArg List.length ho
  rw [List.length_append] at this; omega
 rcases bF i l.length with hlt | hge
 · have hg:decide ((i:Int) < (l.length:Int))=true:=by simp; omega
   obtain ⟨y,hx⟩:∃ t,l[i]? = some t:=⟨_,aW hlt⟩
   have q1:=aY (row:=bQ) hx
   have hdr:l.drop i=y :: l.drop (i + 1):=by
    obtain ⟨h,rfl⟩:=a6.1 hx
    exact List.drop_eq_getElem_cons h
   rw [hdr,fA] at ho
   have hst:∀ (u:ByteArray),[[C.vl (.string u)]]=[u].map bQ:=fun _=>rfl
   cases d with
   | true=>
    simp only [Bool.not_true,Bool.false_and,aD] at ho
    simp (maxSteps:=1000000) -dsimp only [go_sem,hg,↓q1]
    and_intros
    all_goals first
     | omega
     | skip
    refine aC (i + 1,true,o ++ [y]) 1 ⟨by simp only; omega,by simp only [List.append_assoc,List.singleton_append]; exact ho⟩ (by simp only; omega) ?_ ?_
    · simp -dsimp only [go_sem]<;>simp
    · simp -dsimp only [go_sem]<;>simp
   | false=>
    simp only [Bool.not_false,Bool.true_and] at ho
    cases c2:Op.bytesLess (bl x) (bl y) with
    | true=>
     rw [c2] at ho
     simp only [Bool.true_or,aI] at ho
     simp (maxSteps:=1000000) -dsimp only [go_sem,hg,↓q1,c2,Bool.true_or]
     and_intros
     all_goals first
      | omega
      | skip
     refine aC (i + 1,true,o ++ [x,y]) 1 ⟨by simp only; omega,by simp only [List.append_assoc,List.cons_append,List.nil_append]; exact ho⟩ (by simp only; omega) ?_ ?_
     · simp -dsimp only [go_sem]<;>simp
     · simp -dsimp only [go_sem]<;>simp
    | false=>
     rw [c2] at ho
     simp only [Bool.false_or,aD] at ho
     cases c3:bl x == bl y with
     | true=>
      rw [c3] at ho
      simp only [aI] at ho
      simp (maxSteps:=1000000) -dsimp only [go_sem,hg,↓q1,c2,c3,Bool.false_or]
      and_intros
      all_goals first
       | omega
       | skip
      refine aC (i + 1,true,o ++ [y]) 1 ⟨by simp only; omega,by simp only [List.append_assoc,List.singleton_append]; exact ho⟩ (by simp only; omega) ?_ ?_
      · simp -dsimp only [go_sem]<;>simp
      · simp -dsimp only [go_sem]<;>simp
     | false=>
      rw [c3] at ho
      simp only [aD] at ho
      simp (maxSteps:=1000000) -dsimp only [go_sem,hg,↓q1,c2,c3,Bool.false_or]
      and_intros
      all_goals first
       | omega
       | skip
      refine aC (i + 1,false,o ++ [y]) 1 ⟨by simp only; omega,by simp only [List.append_assoc,List.singleton_append]; exact ho⟩ (by simp only; omega) ?_ ?_
      · simp -dsimp only [go_sem]<;>simp
      · simp -dsimp only [go_sem]<;>simp
 · have hg:decide ((i:Int) < (l.length:Int))=false:=by simp; omega
   obtain rfl:i=l.length:=by omega
   rw [List.drop_length] at ho
   simp only [fA] at ho
   cases d with
   | true=>
    simp only [aI,List.append_nil] at ho
    rw [<-ho] at hK
    simp (maxSteps:=1000000) -dsimp only [go_sem,hg]
    rw [<-List.length_map (f:=bQ)]
    refine .pub 0 _ _ _ rfl (.sel [] (by simp) (by simp [cW]) rfl (.done ?_))
    simp -dsimp only [go_sem,cW]
    simpa using hK
   | false=>
    simp only [aD] at ho
    rw [<-ho] at hK
    simp (maxSteps:=1000000) -dsimp only [go_sem,hg]
    refine ⟨by omega,?_⟩
    have e1:o.length + 1=((o ++ [x]).map bQ).length:=by simp
    have e2:o.map bQ ++ [[C.vl (.string x)]]=(o ++ [x]).map bQ:=by simp
    rw [e1,e2]
    refine .pub 0 _ _ _ rfl (.sel [] (by simp) (by simp [cW]) rfl (.done ?_))
    simp -dsimp only [go_sem,cW]
    simpa using hK
abbrev FF (a b:ByteArray):Prop:=bl a < bl b
theorem aDL (x:List UInt8):∀ y:List UInt8,Op.bytesLess x y=decide (x < y):=by
 induction x with
 | nil=>intro y; cases y<;>simp [Op.bytesLess]
 | cons a x ih=>
  intro y
  cases y with
  | nil=>simp [Op.bytesLess]
  | cons b y=>
   have:=ih y
   rw [Op.bytesLess,this,Bool.eq_iff_iff]
   simp [List.cons_lt_cons_iff]
theorem ZJ (a b:ByteArray):Op.bytesLess (bl a) (bl b)=decide (FF a b):=aDL _ _
theorem nB (a:ByteArray):¬ FF a a:=List.lt_irrefl _
theorem FB {a b c:ByteArray} (h:FF a b) (h2:FF b c):FF a c:=List.lt_trans h h2
theorem Q5 {a b:ByteArray} (h:¬ FF a b) (h2:a ≠ b):FF b a:=by
 have h3:bl b<=bl a:=List.not_lt.1 h
 exact Std.lt_of_le_of_ne h3 (fun e=>h2 (mS e.symm))
def Asc (l:List ByteArray):Prop:=l.Pairwise FF
theorem LU:∀ {a b:List ByteArray},Asc a->Asc b->(∀ x,x ∈ a ↔ x ∈ b)->a=b
 | [],[],_,_,_=>rfl
 | [],y :: b,_,_,h=>by have:=(h y).2 List.mem_cons_self; cases this
 | x :: a,[],_,_,h=>by have:=(h x).1 List.mem_cons_self; cases this
 | x :: a,y :: b,h1,h2,h=>by
  obtain ⟨p1,p2⟩:=List.pairwise_cons.1 h1
  obtain ⟨p3,p4⟩:=List.pairwise_cons.1 h2
  have e:x=y:=by
   rcases List.mem_cons.1 ((h x).1 List.mem_cons_self) with e | e
   · exact e
   · rcases List.mem_cons.1 ((h y).2 List.mem_cons_self) with e2 | e2
     · exact e2.symm
     · exact absurd (FB (p1 y e2) (p3 x e)) (nB x)
  subst e
  rw [LU p2 p4 fun z=>?_]
  constructor
  · intro hz
    rcases List.mem_cons.1 ((h z).1 (List.mem_cons_of_mem _ hz)) with e | e
    · exact absurd (p1 z hz) (by rw [e]; exact nB x)
    · exact e
  · intro hz
    rcases List.mem_cons.1 ((h z).2 (List.mem_cons_of_mem _ hz)) with e | e
    · exact absurd (p3 z hz) (by rw [e]; exact nB x)
    · exact e
theorem Asc.nodup {l:List ByteArray} (h:Asc l):l.Nodup:=by
 unfold List.Nodup
 refine List.Pairwise.imp ?_ h
 intro a b h e
 subst e
 exact nB a h
theorem kU (x:ByteArray):∀ l,fA x true l=l
 | []=>rfl
 | y :: r=>by rw [fA,kU x r]; rfl
theorem kG {x z:ByteArray}:∀ {l:List ByteArray},z ∈ fA x false l ↔ z=x\/z ∈ l
 | []=>by simp [fA]
 | y :: r=>by
  rw [fA,kU]
  cases c1:Op.bytesLess (bl x) (bl y) with
  | true=>simp
  | false=>
   cases c2:bl x == bl y with
   | true=>
    have:x=y:=mS (by simpa using c2)
    subst this
    simp
   | false=>
    have:=kG (x:=x) (z:=z) (l:=r)
    simp [this]
    constructor
    · rintro (h | h | h)
      · exact .inr (.inl h)
      · exact .inl h
      · exact .inr (.inr h)
    · rintro (h | h | h)
      · exact .inr (.inl h)
      · exact .inl h
      · exact .inr (.inr h)
theorem I2 {x:ByteArray}:∀ {l:List ByteArray},Asc l->Asc (fA x false l)
 | [],_=>by simp [fA,Asc]
 | y :: r,h=>by
  obtain ⟨p1,p2⟩:=List.pairwise_cons.1 h
  rw [fA,kU]
  cases c1:Op.bytesLess (bl x) (bl y) with
  | true=>
   rw [ZJ] at c1
   have c1:=of_decide_eq_true c1
   simp only [Bool.not_false,Bool.true_or,Bool.and_true,aI]
   refine List.pairwise_cons.2 ⟨fun z hz=>?_,h⟩
   rcases List.mem_cons.1 hz with rfl | hz
   · exact c1
   · exact FB c1 (p1 z hz)
  | false=>
   cases c2:bl x == bl y with
   | true=>exact h
   | false=>
    rw [ZJ] at c1
    have c1:=of_decide_eq_false c1
    have c2:x ≠ y:=fun e=>by subst e; simp at c2
    simp only [Bool.not_false,Bool.true_and,Bool.or_self,aD]
    refine List.pairwise_cons.2 ⟨fun z hz=>?_,I2 p2⟩
    rcases kG.1 hz with rfl | hz
    · exact Q5 c1 c2
    · exact p1 z hz
theorem VT {l:List ByteArray} (h:l.Nodup):Asc (xI l):=by
 have h1:((l.map bl).mergeSort fun x y=>decide (x<=y)).Pairwise fun a b=>decide (a<=b)=true:=
  List.pairwise_mergeSort (le:=fun (x y:List UInt8)=>decide (x<=y)) (fun (a b c:List UInt8) h1 h2=>decide_eq_true (List.le_trans (of_decide_eq_true h1) (of_decide_eq_true h2))) (fun (a b:List UInt8)=>by
   rcases List.le_total a b with h | h<;>simp [h]) _
 have h2:((l.map bl).mergeSort fun x y=>decide (x<=y)).Nodup:=by
  rw [(List.mergeSort_perm _ _).nodup_iff]
  exact List.Pairwise.map bl (fun a b (hab:a ≠ b) e=>hab (mS e)) h
 unfold xI Asc
 rw [List.pairwise_map]
 refine List.Pairwise.imp₂ (fun a b h1 h2=>?_) h1 h2
 exact Std.lt_of_le_of_ne (of_decide_eq_true h1) h2
theorem RJ (ss:List St) (n:ByteArray):Asc (gO ss n):=VT (tM ss n)
theorem RR {e:List Ty} (h:((e.length:Int) == 0)=true):e=[]:=by simpa using h
theorem LZ (ss:List St) (es:List En):∀ (N:Nat) (t:Ty),t.h<=N->valF ss es t=true->dirF t=bif bX t then [bY t] else []
 | 0,t,h,_=>absurd h (by have:=t.h_pos; omega)
 | N + 1,.mk k s n e,h,hv=>by
  cases k5:k == 5 with
  | true=>
   obtain rfl:k=5:=by simpa using k5
   obtain ⟨u,rfl,hu⟩:=yJ hv
   have:=LZ ss es N u (by rw [Ty.h,Ty.hs,Ty.hs] at h; omega) hu
   unfold bX bY
   rw [ET]
   rw [dirF,fH,fH,List.append_nil,this]
   rfl
  | false=>
   have h1:fZ (.mk k s n e)=.mk k s n e:=y5 (by rw [k5]; rfl)
   unfold bX bY
   rw [h1,dirF]
   simp only [Ty.k,Ty.n]
   cases k67:(k == 6 || k == 7) with
   | true=>rfl
   | false=>
    have he:e=[]:=by
     rw [Bool.or_eq_false_iff] at k67
     rw [valF,k5,k67.1,k67.2] at hv
     cases k1:k == 1<;>cases k2:k == 2<;>cases k3:k == 3<;>cases k4:k == 4<;>rw [k1,k2,k3,k4] at hv<;>simp only [aI,aD,Bool.and_eq_true,reduceCtorEq] at hv<;>first | exact RR hv.2 | exact absurd hv (by decide)
    subst he; rfl
theorem IU {ss:List St} {es:List En} {t:Ty} (hv:valF ss es t=true):dirF t=bif bX t then [bY t] else []:=LZ ss es t.h t (Nat.le_refl _) hv
structure UI (ss:List St) (n:ByteArray) (i:Nat) (todo o:List ByteArray):Prop where
 hd:∃ r,todo=n :: r/\r.Nodup/\∀ x,x ∈ o ↔ x ∈ r
 rc:∀ x ∈ o,Reach ss n x
 dn:∀ j a,j < i->todo[j]? = some a->∀ y,eF ss a y->y ∈ o
 asc:Asc o
theorem UI.init (ss:List St) (n:ByteArray):UI ss n 0 [n] []:=⟨⟨[],rfl,.nil,fun _x=>Iff.rfl⟩,fun _x h=>(List.not_mem_nil h).elim,fun _j _a h=>absurd h (Nat.not_lt_zero _),List.Pairwise.nil⟩
theorem QR {ss:List St} {es:List En} (g:Gd ss es) {n:ByteArray} {l:List ByteArray} (h:l.Nodup) (hr:∀ x ∈ l,Reach ss n x):l.length<=32:=Nat.le_trans (tX h fun x hx=>(jY ss n x).2 (hr x hx)) (g.vlen n)
theorem UI.len {ss:List St} {es:List En} (g:Gd ss es) {n:ByteArray} {i:Nat} {todo o:List ByteArray} (h:UI ss n i todo o):todo.length<=33/\o.length<=32:=by
 obtain ⟨r,rfl,h1,h2⟩:=h.hd
 have:=QR g h1 fun x hx=>h.rc x ((h2 x).2 hx)
 have:=QR g h.asc.nodup h.rc
 simp only [List.length_cons]; omega
theorem UI.rch {ss:List St} {n:ByteArray} {i k:Nat} {todo o:List ByteArray} (h:UI ss n i todo o) {a y:ByteArray} (ha:todo[k]? = some a) (hy:eF ss a y):Reach ss n y:=by
 obtain ⟨r,rfl,h1,h2⟩:=h.hd
 cases k with
 | zero=>simp at ha; subst ha; exact .one hy
 | succ k=>
  simp at ha
  exact .more (h.rc a ((h2 a).2 (bJ ha))) hy
theorem UI.add {ss:List St} {n:ByteArray} {i:Nat} {todo o:List ByteArray} (h:UI ss n i todo o) {y:ByteArray} (hr:Reach ss n y) (hy:y ∉ o) (hi:i<=todo.length):UI ss n i (todo ++ [y]) (fA y false o):=by
 obtain ⟨r,rfl,h1,h2⟩:=h.hd
 refine ⟨⟨r ++ [y],by simp,?_,fun x=>?_⟩,fun x hx=>?_,fun j a hj ha z hz=>?_,I2 h.asc⟩
 · rw [List.nodup_append]
   exact ⟨h1,by simp,fun a ha b hb=>by simp at hb; subst hb; exact fun e=>hy ((h2 b).2 (e ▸ ha))⟩
 · rw [kG,h2]; simp [or_comm]
 · rcases kG.1 hx with rfl | hx
   · exact hr
   · exact h.rc x hx
 · rw [List.getElem?_append_left (by omega)] at ha
   exact kG.2 (.inr (h.dn j a hj ha z hz))
theorem UI.next {ss:List St} {n:ByteArray} {i:Nat} {todo o:List ByteArray} (h:UI ss n i todo o) {a:ByteArray} (ha:todo[i]? = some a) (hy:∀ y,eF ss a y->y ∈ o):UI ss n (i + 1) todo o:=by
 refine ⟨h.hd,h.rc,fun j b hj hb y hyb=>?_,h.asc⟩
 rcases bF j i with h4 | h4
 · exact h.dn j b h4 hb y hyb
 · obtain rfl:j=i:=by omega
   rw [ha] at hb; obtain rfl:=bG hb
   exact hy y hyb
theorem UI.fin {ss:List St} {n:ByteArray} {todo o:List ByteArray} (h:UI ss n todo.length todo o):o=gO ss n:=by
 refine LU h.asc (RJ ss n) fun x=>?_
 rw [EA]
 refine ⟨h.rc x,fun hx=>?_⟩
 obtain ⟨r,e,h1,h2⟩:=h.hd
 have hn:∀ y,eF ss n y->y ∈ o:=h.dn 0 n (by rw [e]; simp) (by rw [e]; rfl)
 induction hx with
 | one h=>exact hn _ h
 | more _ h3 ih=>
  obtain ⟨j,hj⟩:=List.mem_iff_getElem?.1 ((h2 _).1 ih)
  rename_i b c _
  have hj2:todo[j + 1]? = some b:=by rw [e]; simpa using hj
  exact h.dn (j + 1) _ (a6.1 hj2).1 hj2 _ h3
def aFS:W.Spec:=fun av H K=>∃ (s:Sc) (n:ByteArray),av=[.va (.gs (aG s)),tS n]/\H=[]/\s.fit/\Gd s.ss s.es/\K (.va (.c1 (.fz ((gO s.ss n).map bQ)))) []
theorem aHG {s:Sc} {n:ByteArray} {K:S->Hp->Prop} (h:s.fit) (g:Gd s.ss s.es) (hK:K (.va (.c1 (.fz ((gO s.ss n).map bQ)))) []):aFS [.va (.gs (aG s)),tS n] [] K:=⟨s,n,rfl,rfl,h,g,hK⟩
theorem aCW {ss:List St} {es:List En} {t:Ty} (hv:valF ss es t=true):(dirF t).length<=1:=by
 rw [IU hv]; cases bX t<;>simp
theorem NW {ss:List St} {es:List En} {t:Ty} (hv:valF ss es t=true) {y:ByteArray}:y ∈ dirF t ↔ bX t=true/\bY t=y:=by
 rw [IU hv]; cases bX t<;>simp [eq_comm]
theorem aJ0:Meets Tryz.prog 49 aFS:=by
 refine aE Tryz.func49 aNJ 2 (by rw [Tryz.ntmps49]; decide) (aB HD (aB WS (aH UL (aB aOJ (aA _))))) (fun av H K h=>by obtain ⟨_,_,rfl,_⟩:=h; rfl) ?_
 rintro av H K ⟨s,n,rfl,rfl,hs,g,hK⟩
 simp (maxSteps:=1000000) -dsimp only [go_sem,aG,aFI,aHO]
 refine dX (α:=Nat × List ByteArray × List ByteArray) (fun z=>[(2,.va (.c1 (.pt 0 0))),(5,.va (.c1 (.fz (z.2.2.map bQ)))),(6,.va (.c1 (.sl 1 z.2.1.length))),(7,iS .i64 z.1)]) (fun z=>[.cells (aG s) 25,.row (z.2.1.map bQ) 9 1])
  (fun z=>z.1<=z.2.1.length/\UI s.ss n z.1 z.2.1 z.2.2) (fun z=>34 - z.1) (.nf 5 (l9 (0,[n],[]) 2 ⟨Nat.zero_le _,UI.init _ _⟩ ?_ ?_)) ?_
 · simp -dsimp only [go_sem]<;>simp
 · simp -dsimp only [go_sem,aG]<;>simp
 rintro ⟨i,todo,o⟩ ⟨hi,hu⟩
 simp only at hi hu ⊢
 obtain ⟨htl,hol⟩:=hu.len g
 rcases bF i todo.length with hlt | hge
 · have hg:decide ((i:Int) < (todo.length:Int))=true:=by simp; omega
   obtain ⟨a,ha⟩:∃ a,todo[i]? = some a:=⟨_,aW hlt⟩
   have q1:=aY (row:=bQ) ha
   simp (maxSteps:=1000000) -dsimp only [go_sem,hg,aG,ha,aJ,forall_eq']
   refine ⟨by omega,hlt,lS hs ?_⟩
   generalize hx:(fS s.ss a).getD default=x
   have hxf:∀ f ∈ x.fs,f.ok/\valF s.ss s.es f.ty=true:=fun f hf=>by
    cases hc:fS s.ss a with
    | none=>rw [hc] at hx; subst hx; cases hf
    | some t=>
     rw [hc] at hx
     subst hx
     exact ⟨(hs.ok.ss _ (iF hc).1).fs f hf,g.val _ (iF hc).1 f hf⟩
   have hxl:x.fs.length<=9223372036854775807:=by
    cases hc:fS s.ss a with
    | none=>rw [hc] at hx; subst hx; exact Nat.zero_le _
    | some t=>rw [hc] at hx; subst hx; exact (hs.ok.ss _ (iF hc).1).len
   have hxr:∀ y,eF s.ss a y ↔ CT x y:=fun y=>by unfold eF; rw [hx]
   simp (maxSteps:=1000000) -dsimp only [go_sem,aP]
   refine aL (α:=Nat × List ByteArray × List ByteArray) (fun z=>[(2,.va (.c1 (.pt 0 0))),(5,.va (.c1 (.fz (z.2.2.map bQ)))),(6,.va (.c1 (.sl 1 z.2.1.length))),(7,iS .i64 i),(8,.va (.c1 (.pt 2 0))),(10,iS .i64 z.1)]) (fun z=>[.cells (aG s) 25,.row (z.2.1.map bQ) 9 1,.cells (aP x) 95])
    (fun z=>z.1<=x.fs.length/\z.2.1[i]? = some a/\UI s.ss n i z.2.1 z.2.2/\∀ f ∈ x.fs.take z.1,bX f.ty=true->bY f.ty ∈ z.2.2) (fun z=>x.fs.length - z.1) (0,todo,o) 3 ⟨Nat.zero_le _,ha,hu,fun f hf=>by cases hf⟩ ?_ ?_ ?_
   · simp -dsimp only [go_sem]<;>simp
   · simp -dsimp only [go_sem,aG,aP]<;>simp
   clear hu ha hlt hi htl hol hg q1
   rintro ⟨k,td,o⟩ ⟨hk,ha,hu,hr⟩
   simp only at hk ha hu hr ⊢
   obtain ⟨htl,hol⟩:=hu.len g
   have hil:=(a6.1 ha).1
   rcases bF k x.fs.length with hlt | hge
   · have hg:decide ((k:Int) < (x.fs.length:Int))=true:=by simp; omega
     obtain ⟨f,hf⟩:∃ a,x.fs[k]? = some a:=⟨_,aW hlt⟩
     have q1:=aY (row:=aZ) hf
     obtain ⟨hfo,hfv⟩:=hxf f (bJ hf)
     simp (maxSteps:=1000000) -dsimp only [go_sem,hg,↓q1,aG,aP,aZ,wE]
     have hdl:=aCW hfv
     refine ⟨by omega,aBL hfo.ty (by omega) ?_⟩
     simp (maxSteps:=1000000) -dsimp only [go_sem]
     have hdm:∀ y ∈ dirF f.ty,Reach s.ss n y:=fun y hy=>by
      obtain ⟨h1,h2⟩:=(NW hfv).1 hy
      exact hu.rch ha ((hxr y).2 ⟨f,bJ hf,h1,h2⟩)
     have hdf:(∀ o':List ByteArray,(∀ y ∈ dirF f.ty,y ∈ o')->(∀ f ∈ x.fs.take k,bX f.ty=true->bY f.ty ∈ o')->∀ f ∈ x.fs.take (k + 1),bX f.ty=true->bY f.ty ∈ o'):=fun o' h1 h2 f' hf' hn=>by
      rw [gQ hf] at hf'
      rcases List.mem_append.1 hf' with h | h
      · exact h2 f' h hn
      · obtain rfl:f'=f:=by simpa using h
        exact h1 _ ((NW hfv).2 ⟨hn,rfl⟩)
     generalize dirF f.ty=l at *
     refine aL (α:=Nat × List ByteArray × List ByteArray) (fun z=>[(2,.va (.c1 (.pt 0 0))),(5,.va (.c1 (.fz (z.2.2.map bQ)))),(6,.va (.c1 (.sl 1 z.2.1.length))),(7,iS .i64 i),(8,.va (.c1 (.pt 2 0))),(10,iS .i64 k),(11,.va (.c1 (.fz (l.map bQ)))),(12,iS .i64 z.1)]) (fun z=>[.cells (aG s) 25,.row (z.2.1.map bQ) 9 1,.cells (aP x) 95])
      (fun z=>z.1<=l.length/\z.2.1[i]? = some a/\UI s.ss n i z.2.1 z.2.2/\(∀ f ∈ x.fs.take k,bX f.ty=true->bY f.ty ∈ z.2.2)/\∀ y ∈ l.take z.1,y ∈ z.2.2) (fun z=>l.length - z.1) (0,td,o) 3 ⟨Nat.zero_le _,ha,hu,hr,fun f hf=>by cases hf⟩ ?_ ?_ ?_
     · simp -dsimp only [go_sem]<;>simp
     · simp -dsimp only [go_sem,aG,aP]<;>simp
     clear hu ha hil htl hol hg q1 hr
     rintro ⟨j,td,o⟩ ⟨hj,ha,hu,hr,hjm⟩
     simp only at hj ha hu hr hjm ⊢
     obtain ⟨htl,hol⟩:=hu.len g
     have hil:=(a6.1 ha).1
     rcases bF j l.length with hjt | hjg
     · have hg:decide ((j:Int) < (l.length:Int))=true:=by simp; omega
       obtain ⟨y,hy⟩:∃ a,l[j]? = some a:=⟨_,aW hjt⟩
       have q1:=aY (row:=bQ) hy
       have hbs:DB (o.map bQ):=vQ (by omega)
       have e0:(0<=(o.length:Int))=True:=by simp
       have e1:((o.length:Int)<=9223372036854775807)=True:=by simp; omega
       have hto:o.take o.length=o:=List.take_length
       have hjm':∀ o':List ByteArray,(∀ z ∈ o,z ∈ o')->y ∈ o'->∀ z ∈ l.take (j + 1),z ∈ o':=fun o' h1 h2 z hz=>by
        rw [gQ hy] at hz
        rcases List.mem_append.1 hz with h | h
        · exact h1 z (hjm z h)
        · obtain rfl:z=y:=by simpa using h
          exact h2
       cases hc:dG o y with
       | true=>
        simp (maxSteps:=1000000) -dsimp only [go_sem,hg,↓q1,aG,aP,hbs,e0,e1,Int.toNat_natCast,hto,hc]
        refine ⟨by omega,by omega,aC (j + 1,td,o) 3 ⟨by simp only; omega,ha,hu,hr,hjm' o (fun z h=>h) ((qE _ _).1 hc)⟩ (by simp only; omega) ?_ ?_⟩
        · simp -dsimp only [go_sem]<;>simp
        · simp -dsimp only [go_sem,aG,aP]<;>simp
       | false=>
        have hyo:=vH.1 hc
        have hua:=hu.add (hdm y (bJ hy)) hyo (by omega)
        have hmo:∀ z ∈ o,z ∈ fA y false o:=fun z hz=>kG.2 (.inr hz)
        have ha':(td ++ [y])[i]? = some a:=by rw [List.getElem?_append_left hil]; exact ha
        simp (maxSteps:=1000000) -dsimp only [go_sem,hg,↓q1,aG,aP,hbs,e0,e1,Int.toNat_natCast,hto,hc]
        refine ⟨by omega,by omega,aDB (by omega) ?_⟩
        simp (maxSteps:=1000000) -dsimp only [go_sem]
        and_intros
        all_goals first
         | omega
         | skip
        refine aC (j + 1,td ++ [y],fA y false o) 3 ⟨by simp only; omega,ha',hua,fun f hf hn=>hmo _ (hr f hf hn),hjm' _ hmo (kG.2 (.inl rfl))⟩ (by simp only; omega) ?_ ?_
        · simp -dsimp only [go_sem]<;>simp
        · simp -dsimp only [go_sem,aG,aP]<;>simp
     · have hg:decide ((j:Int) < (l.length:Int))=false:=by simp; omega
       obtain rfl:j=l.length:=by omega
       rw [List.take_length] at hjm
       simp (maxSteps:=1000000) -dsimp only [go_sem,hg,aG,aP]
       refine ⟨by omega,aC (k + 1,td,o) 3 ⟨by simp only; omega,ha,hu,hdf o hjm hr⟩ (by simp only; omega) ?_ ?_⟩
       · simp -dsimp only [go_sem]<;>simp
       · simp -dsimp only [go_sem,aG,aP]<;>simp
   · have hg:decide ((k:Int) < (x.fs.length:Int))=false:=by simp; omega
     obtain rfl:k=x.fs.length:=by omega
     rw [List.take_length] at hr
     simp (maxSteps:=1000000) -dsimp only [go_sem,hg,aG,aP]
     refine ⟨by omega,aC (i + 1,td,o) 2 ⟨by simp only; omega,hu.next ha fun y hy=>?_⟩ (by simp only; omega) ?_ ?_⟩
     · obtain ⟨f,h1,h2,rfl⟩:=(hxr y).1 hy
       exact hr f h1 h2
     · simp -dsimp only [go_sem]<;>simp
     · simp -dsimp only [go_sem,aG]<;>simp
 · have hg:decide ((i:Int) < (todo.length:Int))=false:=by simp; omega
   obtain rfl:i=todo.length:=by omega
   obtain rfl:=hu.fin
   simp (maxSteps:=1000000) -dsimp only [go_sem,hg,aG]
   exact .sel [] (by simp) (by simp) rfl (.done (by simpa [go_sem] using hK))
def eK:List St->List Int->ByteArray->Int
 | s :: ss,d :: ds,n=>bif decide (s.nm=n) then d else eK ss ds n
 | _,_,_=>0
theorem VA {ss:List St} {ds:List Int} {i:Nat} {x:St} {d:Int} (hx:ss[i]? = some x) (hd:ds[i]? = some d) (n:ByteArray):eK (ss.drop i) (ds.drop i) n=bif decide (x.nm=n) then d else eK (ss.drop (i + 1)) (ds.drop (i + 1)) n:=by
 obtain ⟨h,rfl⟩:=a6.1 hx
 obtain ⟨h2,rfl⟩:=a6.1 hd
 rw [List.drop_eq_getElem_cons h,List.drop_eq_getElem_cons h2]; rfl
theorem aBZ {ss:List St} {ds:List Int} (n:ByteArray):eK (ss.drop ss.length) ds n=0:=by rw [List.drop_length]; simp [eK]
theorem xR {n:ByteArray}:∀ {ss:List St} {ds:List Int},fS ss n=none->eK ss ds n=0
 | [],_,_=>by simp [eK]
 | s :: ss,[],_=>by simp [eK]
 | s :: ss,d :: ds,h=>by
  unfold fS at h
  rw [List.find?_cons] at h
  rw [eK]
  cases hc:decide (s.nm=n) with
  | true=>rw [hc] at h; simp at h
  | false=>rw [hc] at h; exact xR (ss:=ss) h
theorem yW {n:ByteArray} {u:St}:∀ {ss:List St} {ds:List Int},ss.length=ds.length->fS ss n=some u->∃ j:Nat,ss[j]? = some u/\ds[j]? = some (eK ss ds n)
 | [],_,_,h=>by cases h
 | s :: ss,[],hl,_=>by simp at hl
 | s :: ss,d :: ds,hl,h=>by
  unfold fS at h
  rw [List.find?_cons] at h
  rw [eK]
  cases hc:decide (s.nm=n) with
  | true=>
   rw [hc] at h
   obtain rfl:s=u:=by simpa using h
   exact ⟨0,rfl,rfl⟩
  | false=>
   rw [hc] at h
   obtain ⟨j,h1,h2⟩:=yW (ss:=ss) (ds:=ds) (by simpa using hl) h
   exact ⟨j + 1,by simpa using h1,by simpa using h2⟩
def OW (rs:List (List C)):Prop:=∃ l:List Int,rs=l.map cU
def FX (N:Nat):List S->Prop:=fun av=>match av with
 | [.va (.gs r),.va (.c1 (.fz ds)),.va (.gs q)]=>lE r/\(OW ds/\ds.length=(C.sc r).ss.length/\∀ d ∈ ds.map C.it,0<=d/\d<=1000000000000)/\fL q/\(cP (C.ty q)).1<=1000000000/\(C.ty q).h<=N
 | _=>False
theorem m9 {N:Nat} {av:List S} (h:FX N av):∃ (s:Sc) (l:List Int) (t:Ty),av=[.va (.gs (aG s)),.va (.c1 (.fz (l.map cU))),.va (.gs (aN t))]/\s.fit/\(l.length=s.ss.length/\∀ d ∈ l,0<=d/\d<=1000000000000)/\TyOk t/\(cP t).1<=1000000000/\t.h<=N:=by
 unfold FX at h
 split at h
 · obtain ⟨⟨a,rfl,ha⟩,⟨⟨l,rfl⟩,h1,h2⟩,⟨b,rfl,hb⟩,h3,h4⟩:=h
   rw [fX] at h3 h4
   rw [gT] at h1
   rw [zZ] at h2
   exact ⟨a,l,b,rfl,ha,⟨by simpa using h1,h2⟩,hb,h3,h4⟩
 · exact h.elim
noncomputable def O0:List S->A:=fun av=>match av with
 | [.va (.gs r),.va (.c1 (.fz ds)),.va (.gs q)]=>iA .i64 (b8 (eK (C.sc r).ss (ds.map C.it)) (C.ty q))
 | _=>.gs []
noncomputable def O6 (N:Nat):Fun:=⟨FX N,O0,fun av h=>by obtain ⟨a,l,b,rfl,_⟩:=m9 h; trivial⟩
theorem W0 {N:Nat}:∀ av H K,(O6 N).sp av H K->av.length=3:=fun av H K h=>by obtain ⟨a,l,b,rfl,_⟩:=m9 h.1.1; rfl
attribute [go_sem] O6 FX O0
theorem yP {s:Int} {n:ByteArray} {u:Ty} {r:List Ty}:cP (.mk 5 s n (u :: r))=((cP u).1 + 1,(cP u).2):=by simp [cP,ZF]
theorem JH {k s:Int} {n:ByteArray} {e:List Ty} (h:(k == 5 && decide (0 < (e.length:Int)))=false):cP (.mk k s n e)=(0,.mk k s n e):=by
 rw [cP]
 cases hk:k == 5 with
 | false=>rfl
 | true=>
  rw [hk,Bool.true_and] at h
  have:e=[]:=List.length_eq_zero_iff.1 (by simp at h; simp [h])
  subst this; rfl
theorem QH {dp:ByteArray->Int} {s:Int} {n:ByteArray} {u:Ty} {r:List Ty}:b8 dp (.mk 5 s n (u :: r))=1 + b8 dp u:=by unfold b8; rw [yP]; simp only; omega
theorem wS:∀ N,Meets Tryz.prog 89 (O6 N).sp
 | 0=>⟨by kernel_rfl,by rintro xs vs E ro w K _ _ _ ⟨⟨h,_⟩,_⟩; obtain ⟨_,_,a,_,_,_,_,_,h⟩:=m9 h; have:=a.h_pos; omega⟩
 | N + 1=>by
  refine aE Tryz.func89 aNI 3 (by rw [Tryz.ntmps89]; decide) (aH (wS N) (aA _)) W0 ?_
  rintro av H K ⟨⟨h,rfl⟩,hK⟩
  obtain ⟨sc,l,t,rfl,hs,⟨hl,hb⟩,ht,hlv,hh⟩:=m9 h
  have hK:K (iS .i64 (b8 (eK sc.ss l) t)) []:=by
   have:(O6 (N + 1)).val [.va (.gs (aG sc)),.va (.c1 (.fz (l.map cU))),.va (.gs (aN t))]=iA .i64 (b8 (eK sc.ss l) t):=by simp -dsimp only [go_sem,zZ]
   rw [this] at hK; exact hK
  clear h
  have hls:=hs.ok.ls
  have fin:∀ (b:Int) (R:Hp),b8 (eK sc.ss l) t=b->W.Fin 0 K (iS .i64 b) R:=fun b R h=>by
   rw [h] at hK
   exact .sel [] (by simp) (by simp) rfl (.done (by simp -dsimp only [go_sem]; simpa using hK))
  have hsf:=gA hs
  rw [aG] at hsf
  have hsd:=gT sc
  rw [aG] at hsd
  obtain ⟨k,s,n,e⟩:=t
  have hte:=ht.e
  have hte2:=ht.len
  simp only [Ty.e] at hte hte2
  have hin:OW (l.map cU):=⟨l,rfl⟩
  have hr1:((l.map cU).length=sc.ss.length)=True:=by simp [hl]
  have hr2:(∀ d:Int,d ∈ l->0<=d/\d<=1000000000000)=True:=eq_true hb
  simp (maxSteps:=1000000) -dsimp only [go_sem,aG,aN,aV,aHN,aD0]
  cases c1:(k == 5 && decide (0 < (e.length:Int))) with
  | true=>
   simp only [Bool.and_eq_true,beq_iff_eq,decide_eq_true_eq] at c1
   obtain ⟨rfl,c1⟩:=c1
   obtain ⟨u,r,rfl⟩:∃ u r,e=u :: r:=by
    cases e with
    | nil=>simp at c1
    | cons u r=>exact ⟨u,r,rfl⟩
   rw [yP] at hlv
   have hux:(u :: r)[0]? = some u:=rfl
   have q1:=qH (row:=aN) hux
   have hu:fL (aN u):=eH (hte u List.mem_cons_self)
   have huh:u.h<=N:=by rw [Ty.h,Ty.hs] at hh; omega
   refine ⟨fun _=>?_,fun h=>by simp at h⟩
   have hul:((cP u).1<=1000000000)=True:=eq_true (by simp only at hlv; omega)
   have huh':(u.h<=N)=True:=eq_true huh
   have hfb:b8 (eK sc.ss l) u<=1001000000000/\0<=b8 (eK sc.ss l) u:=by
    have hd:eK sc.ss l (cP u).2.n<=1000000000000/\0<=eK sc.ss l (cP u).2.n:=by
     cases hf:fS sc.ss (cP u).2.n with
     | none=>rw [xR hf]; omega
     | some v=>
      obtain ⟨j,_,h2⟩:=yW hl.symm hf
      have:=hb _ (bJ h2); omega
    simp only at hlv
    unfold b8
    cases (cP u).2.k == 6<;>simp only [aI,aD]<;>omega
   simp (maxSteps:=1000000) -dsimp only [go_sem,i6]
   refine ⟨by omega,fun x hx=>?_⟩
   subst hx
   simp only [hsd]
   exact ⟨⟨hsf,⟨hin,hl,hb⟩,hu,by simp only at hlv; omega,huh⟩,by omega,fin _ _ QH⟩
  | false=>
   have hst:=JH (s:=s) (n:=n) c1
   have hfd:b8 (eK sc.ss l) (.mk k s n e)=bif k == 6 then eK sc.ss l n else 0:=by unfold b8; rw [hst]; simp [Ty.k,Ty.n]
   refine ⟨fun h=>by simp at h,fun _=>?_⟩
   cases k6:k == 6 with
   | false=>
    rw [k6,aD] at hfd
    refine aL (α:=Nat) (fun i=>[(1,.va (.c1 (.fz (l.map cU)))),(3,.va (.c1 (.pt 0 0))),(5,.va (.c1 (.pt 1 0))),(7,iS .i64 i)]) (fun _=>[.cells (aG sc) 25,.cells (aN (.mk k s n e)) 28])
     (fun i=>i<=sc.ss.length) (fun i=>sc.ss.length - i) 0 2 (Nat.zero_le _) ?_ ?_ ?_
    · simp -dsimp only [go_sem]<;>simp
    · simp -dsimp only [go_sem,aG,aN,aV]<;>simp
    intro i hi
    rcases bF i sc.ss.length with hlt | hge
    · have hg:decide ((i:Int) < (sc.ss.length:Int))=true:=by simp; omega
      simp (maxSteps:=1000000) -dsimp only [go_sem,hg,aG,aN,aV,k6]
      and_intros
      all_goals first
       | omega
       | skip
      refine aC (i + 1) 2 (by omega) (by omega) ?_ ?_
      · simp -dsimp only [go_sem]<;>simp
      · simp -dsimp only [go_sem,aG,aN,aV]<;>simp
    · have hg:decide ((i:Int) < (sc.ss.length:Int))=false:=by simp; omega
      simp (maxSteps:=1000000) -dsimp only [go_sem,hg,aG,aN,aV]
      exact fin 0 _ hfd
   | true=>
    rw [k6,aI] at hfd
    refine aL (α:=Nat) (fun i=>[(1,.va (.c1 (.fz (l.map cU)))),(3,.va (.c1 (.pt 0 0))),(5,.va (.c1 (.pt 1 0))),(7,iS .i64 i)]) (fun _=>[.cells (aG sc) 25,.cells (aN (.mk k s n e)) 28])
     (fun i=>i<=sc.ss.length/\eK (sc.ss.drop i) (l.drop i) n=eK sc.ss l n) (fun i=>sc.ss.length - i) 0 2 ⟨Nat.zero_le _,rfl⟩ ?_ ?_ ?_
    · simp -dsimp only [go_sem]<;>simp
    · simp -dsimp only [go_sem,aG,aN,aV]<;>simp
    rintro i ⟨hi,ho⟩
    rcases bF i sc.ss.length with hlt | hge
    · have hg:decide ((i:Int) < (sc.ss.length:Int))=true:=by simp; omega
      obtain ⟨t,hx⟩:∃ e,sc.ss[i]? = some e:=⟨_,aW hlt⟩
      obtain ⟨d,hd⟩:∃ e,l[i]? = some e:=⟨_,aW (by omega)⟩
      have q2:=aY (row:=aP) hx
      have q3:=aY (row:=cU) hd
      rw [VA hx hd] at ho
      cases hc:decide (t.nm=n) with
      | true=>
       rw [hc,aI] at ho
       simp (maxSteps:=1000000) -dsimp only [go_sem,hg,↓q2,↓q3,aP,aG,aN,aV,eT,hc,k6]
       and_intros
       all_goals first
        | omega
        | exact fin _ _ (by rw [hfd,<-ho])
      | false=>
       rw [hc,aD] at ho
       simp (maxSteps:=1000000) -dsimp only [go_sem,hg,↓q2,aP,aG,aN,aV,eT,hc,k6]
       and_intros
       all_goals first
        | omega
        | skip
       refine aC (i + 1) 2 ⟨by omega,ho⟩ (by omega) ?_ ?_
       · simp -dsimp only [go_sem]<;>simp
       · simp -dsimp only [go_sem,aG,aN,aV]<;>simp
    · have hg:decide ((i:Int) < (sc.ss.length:Int))=false:=by simp; omega
      obtain rfl:i=sc.ss.length:=by omega
      rw [aBZ] at ho
      simp (maxSteps:=1000000) -dsimp only [go_sem,hg,aG,aN,aV]
      exact fin 0 _ (by rw [hfd,<-ho])
def FT:List S->Prop:=fun av=>match av with
 | [.va (.gs r),.va (.c1 (.fz ds)),.va (.gs q)]=>lE r/\(OW ds/\ds.length=(C.sc r).ss.length/\∀ d ∈ ds.map C.it,0<=d/\d<=1000000000000)/\fL q/\(cP (C.ty q)).1<=1000000000
 | _=>False
theorem A3 {av:List S} (h:FT av):∃ (s:Sc) (l:List Int) (t:Ty),av=[.va (.gs (aG s)),.va (.c1 (.fz (l.map cU))),.va (.gs (aN t))]/\s.fit/\(l.length=s.ss.length/\∀ d ∈ l,0<=d/\d<=1000000000000)/\TyOk t/\(cP t).1<=1000000000:=by
 unfold FT at h
 split at h
 · obtain ⟨⟨a,rfl,ha⟩,⟨⟨l,rfl⟩,h1,h2⟩,⟨b,rfl,hb⟩,h3⟩:=h
   rw [fX] at h3
   rw [gT] at h1
   rw [zZ] at h2
   exact ⟨a,l,b,rfl,ha,⟨by simpa using h1,h2⟩,hb,h3⟩
 · exact h.elim
noncomputable def t0Fn:Fun:=⟨FT,O0,fun av h=>by obtain ⟨a,l,b,rfl,_⟩:=A3 h; trivial⟩
attribute [go_sem] t0Fn FT
theorem PE:Meets Tryz.prog 89 t0Fn.sp:=eU 0 wS fun av H K ⟨⟨h,e⟩,hK⟩=>by
 obtain ⟨a,l,b,rfl,ha,⟨h1,h2⟩,hb,h3⟩:=A3 h
 refine ⟨b.h,⟨⟨⟨gA ha,⟨⟨l,rfl⟩,by rw [gT]; simpa using h1,by rw [zZ]; exact h2⟩,eH hb,by rw [fX]; exact h3,by rw [fX]; exact Nat.le_refl _⟩,e⟩,hK⟩⟩
theorem FO {dp dq:ByteArray->Int} {l:List Fl} (h:∀ f ∈ l,b8 dp f.ty<=b8 dq f.ty):gG dp l<=gG dq l:=M4 (j8 _ _) fun f hf=>Int.le_trans (h f hf) (NM hf)
structure DI (ss:List St) (r i:Nat) (d:List Int):Prop where
 len:d.length=ss.length
 lo:∀ (j:Nat) (t:St) (v:Int),ss[j]? = some t->d[j]? = some v->0<=v/\v<=dD ss t.nm/\(sA ss t.nm < r->v=dD ss t.nm)/\(j < i->sA ss t.nm < r + 1->v=dD ss t.nm)
theorem DI.ix {ss:List St} {es:List En} (_g:Gd ss es) {r i:Nat} {d:List Int} (h:DI ss r i d) (n:ByteArray):0<=eK ss d n/\eK ss d n<=dD ss n/\((fS ss n).isSome=true->sA ss n < r->eK ss d n=dD ss n):=by
 cases hf:fS ss n with
 | none=>
  rw [xR hf]
  exact ⟨Int.le_refl _,GQ ss n,fun h=>by simp at h⟩
 | some u=>
  obtain ⟨j,h1,h2⟩:=yW h.len.symm hf
  obtain ⟨a1,a2,a3,_⟩:=h.lo j u _ h1 h2
  obtain ⟨_,rfl⟩:=iF hf
  exact ⟨a1,a2,fun _ h=>a3 h⟩
theorem DI.all {ss:List St} {es:List En} (g:Gd ss es) {r i:Nat} {d:List Int} (h:DI ss r i d):∀ v ∈ d,0<=v/\v<=1000000000000:=fun v hv=>by
 obtain ⟨j,hj⟩:=List.mem_iff_getElem?.1 hv
 have hl:=(a6.1 hj).1
 obtain ⟨t,ht⟩:∃ t,ss[j]? = some t:=⟨_,aW (by have:=h.len; omega)⟩
 obtain ⟨h1,h2,_⟩:=h.lo j t v ht hj
 have:=N3 g t.nm
 omega
theorem DI.fd {ss:List St} {es:List En} (g:Gd ss es) {r i:Nat} {d:List Int} (h:DI ss r i d) (t:Ty):b8 (eK ss d) t<=b8 (dD ss) t:=by
 unfold b8
 have:=h.ix g (cP t).2.n
 cases (cP t).2.k == 6<;>simp only [aI,aD]<;>omega
theorem DI.set {ss:List St} {es:List En} (g:Gd ss es) (ha:w6 ss) {r i:Nat} {d:List Int} (h:DI ss r i d) {t:St} (ht:ss[i]? = some t):DI ss r (i + 1) (d.set i (1 + gG (eK ss d) t.fs)):=by
 have htm:=bJ ht
 have hD:=F9 g ha (g.nd t htm)
 have hle:gG (eK ss d) t.fs<=gG (dD ss) t.fs:=FO fun f _=>h.fd g f.ty
 have heq:sA ss t.nm < r + 1->gG (eK ss d) t.fs=gG (dD ss) t.fs:=fun hr=>rX fun f hf=>by
  unfold b8
  cases hk:(cP f.ty).2.k == 6 with
  | false=>rfl
  | true=>
   obtain ⟨h1,u,h2⟩:=C1 g (g.nd t htm) hf hk
   have h3:=CU h1 h2 ha
   rw [(h.ix g _).2.2 (by rw [h2]; rfl) (by omega)]
 have hn:=j8 (eK ss d) t.fs
 refine ⟨by rw [List.length_set]; exact h.len,fun j u v hu hv=>?_⟩
 rw [List.getElem?_set] at hv
 by_cases e:i=j
 · subst e
   rw [ht] at hu; obtain rfl:=bG hu
   have hlt:i < d.length:=by have:=h.len; have:=(a6.1 ht).1; omega
   simp [hlt] at hv
   subst hv
   exact ⟨by omega,by omega,fun hr=>by rw [heq (by omega)]; omega,fun _ hr=>by rw [heq hr]; omega⟩
 · rw [if_neg e] at hv
   obtain ⟨a1,a2,a3,a4⟩:=h.lo j u v hu hv
   exact ⟨a1,a2,a3,fun hj hr=>a4 (by omega) hr⟩
theorem DI.up {ss:List St} {r:Nat} {d:List Int} (h:DI ss r ss.length d):DI ss (r + 1) 0 d:=⟨h.len,fun j t v ht hv=>by
 obtain ⟨a1,a2,_,a4⟩:=h.lo j t v ht hv
 exact ⟨a1,a2,fun hr=>a4 (a6.1 ht).1 hr,fun h=>absurd h (Nat.not_lt_zero _)⟩⟩
theorem DI.fin {ss:List St} {d:List Int} (h:DI ss (ss.length + 1) 0 d):d=ss.map fun t=>dD ss t.nm:=by
 refine List.ext_getElem? fun j=>?_
 rw [List.getElem?_map]
 cases ht:ss[j]? with
 | none=>
  rw [List.getElem?_eq_none_iff] at ht
  rw [List.getElem?_eq_none (by rw [h.len]; exact ht)]; rfl
 | some t=>
  obtain ⟨v,hv⟩:∃ v,d[j]? = some v:=⟨_,aW (by rw [h.len]; exact (a6.1 ht).1)⟩
  obtain ⟨_,_,a3,_⟩:=h.lo j t v ht hv
  rw [hv,a3 (Nat.lt_succ_of_le (N1 _ _))]; rfl
theorem DI.init (ss:List St):DI ss 0 0 (List.replicate ss.length 0):=⟨by simp,fun j t v ht hv=>by
 have:v=0:=by
  have:=bJ hv
  exact (List.mem_replicate.1 this).2
 subst this
 exact ⟨Int.le_refl _,GQ _ _,fun h=>absurd h (Nat.not_lt_zero _),fun h=>absurd h (Nat.not_lt_zero _)⟩⟩
def aI6:W.Spec:=fun av H K=>∃ s:Sc,av=[.va (.gs (aG s))]/\H=[]/\s.fit/\Gd s.ss s.es/\w6 s.ss/\K (.va (.c1 (.fz ((s.ss.map fun t=>dD s.ss t.nm).map cU)))) []
theorem aI2 {s:Sc} {K:S->Hp->Prop} (h:s.fit) (g:Gd s.ss s.es) (ha:w6 s.ss) (hK:K (.va (.c1 (.fz ((s.ss.map fun t=>dD s.ss t.nm).map cU)))) []):aI6 [.va (.gs (aG s))] [] K:=⟨s,rfl,rfl,h,g,ha,hK⟩
theorem aBN {D:ByteArray->Int} {l:List Fl} {i:Nat} {f:Fl} (hx:l[i]? = some f):(l.take (i + 1)).foldl (gF D) 0=max ((l.take i).foldl (gF D) 0) (b8 D f.ty):=by
 rw [gQ hx,List.foldl_append]; rfl
theorem aBB:Meets Tryz.prog 51 aI6:=by
 refine aE Tryz.func51 aO7 1 (by rw [Tryz.ntmps51]; decide) (aH PE (aA _)) (fun av H K h=>by obtain ⟨_,rfl,_⟩:=h; rfl) ?_
 rintro av H K ⟨s,rfl,rfl,hs,g,ha,hK⟩
 have hls:=g.n
 simp (maxSteps:=1000000) -dsimp only [go_sem,aG,aDW,aC4]
 refine ⟨⟨by omega,by omega,by omega⟩,fun h0=>?_,fun h0=>?_⟩
 · have hnil:s.ss=[]:=List.length_eq_zero_iff.1 (by omega)
   have hlen:s.ss.length=0:=by omega
   rw [hnil] at hK
   refine aL (α:=Nat) (fun i=>[(1,.va (.c1 (.pt 0 0))),(3,.va (.c1 (.fz []))),(4,iS .i64 i)]) (fun _=>[.cells (aG s) 25])
    (fun i=>i<=1) (fun i=>1 - i) 0 1 (Nat.zero_le _) ?_ ?_ ?_
   · simp -dsimp only [go_sem]<;>simp
   · simp -dsimp only [go_sem,aG]<;>simp
   intro i hi
   rcases Nat.eq_zero_or_pos i with h1 | h1
   · have hg:decide ((i:Int)<=(s.ss.length:Int))=true:=by simp; omega
     simp (maxSteps:=1000000) -dsimp only [go_sem,hg,aG]
     refine aL (α:=Unit) (fun _=>[(1,.va (.c1 (.pt 0 0))),(3,.va (.c1 (.fz []))),(4,iS .i64 i),(5,iS .i64 0)]) (fun _=>[.cells (aG s) 25])
      (fun _=>True) (fun _=>0) () 1 trivial ?_ ?_ ?_
     · simp -dsimp only [go_sem]<;>simp
     · simp -dsimp only [go_sem,aG]<;>simp
     intro _ _
     have hg:decide ((0:Int) < (s.ss.length:Int))=false:=by simp; omega
     simp (maxSteps:=1000000) -dsimp only [go_sem,hg,aG]
     refine ⟨by omega,aC (i + 1) 1 (by omega) (by omega) ?_ ?_⟩
     · simp -dsimp only [go_sem]<;>simp
     · simp -dsimp only [go_sem,aG]<;>simp
   · have hg:decide ((i:Int)<=(s.ss.length:Int))=false:=by simp; omega
     simp (maxSteps:=1000000) -dsimp only [go_sem,hg,aG]
     exact .sel [] (by simp) (by simp) rfl (.done (by simpa [go_sem] using hK))
 · have hsf:=gA hs
   rw [aG] at hsf
   have hsd:=gT s
   rw [aG] at hsd
   refine aL (α:=Nat × List Int) (fun z=>[(1,.va (.c1 (.pt 0 0))),(3,.va (.c1 (.sl 1 s.ss.length))),(4,iS .i64 z.1)]) (fun z=>[.cells (aG s) 25,.row (z.2.map cU) 3 1])
    (fun z=>z.1<=s.ss.length + 1/\DI s.ss z.1 0 z.2) (fun z=>s.ss.length + 1 - z.1) (0,List.replicate s.ss.length 0) 2 ⟨Nat.zero_le _,DI.init _⟩ ?_ ?_ ?_
   · simp -dsimp only [go_sem]<;>simp
   · simp -dsimp only [go_sem,aG]<;>simp
   rintro ⟨r,d⟩ ⟨hr,hd⟩
   simp only at hr hd ⊢
   rcases bF r (s.ss.length + 1) with hlt | hge
   · have hg:decide ((r:Int)<=(s.ss.length:Int))=true:=by simp; omega
     simp (maxSteps:=1000000) -dsimp only [go_sem,hg,aG]
     refine aL (α:=Nat × List Int) (fun z=>[(1,.va (.c1 (.pt 0 0))),(3,.va (.c1 (.sl 1 s.ss.length))),(4,iS .i64 r),(5,iS .i64 z.1)]) (fun z=>[.cells (aG s) 25,.row (z.2.map cU) 3 1])
      (fun z=>z.1<=s.ss.length/\DI s.ss r z.1 z.2) (fun z=>s.ss.length - z.1) (0,d) 2 ⟨Nat.zero_le _,hd⟩ ?_ ?_ ?_
     · simp -dsimp only [go_sem]<;>simp
     · simp -dsimp only [go_sem,aG]<;>simp
     clear hd hg
     rintro ⟨i,d⟩ ⟨hi,hd⟩
     simp only at hi hd ⊢
     rcases bF i s.ss.length with hit | hig
     · have hg:decide ((i:Int) < (s.ss.length:Int))=true:=by simp; omega
       obtain ⟨t,hx⟩:∃ e,s.ss[i]? = some e:=⟨_,aW hit⟩
       have htm:=bJ hx
       obtain ⟨_,htl,hfs⟩:=hs.ok.ss t htm
       have q1:=aY (row:=aP) hx
       have hset:=hd.set g ha hx
       have hmx:gG (eK s.ss d) t.fs<=1000000000000:=by
        have h1:=FO (l:=t.fs) fun f _=>hd.fd g f.ty
        have h2:=F9 g ha (g.nd t htm)
        have h3:=N3 g t.nm
        omega
       simp (maxSteps:=1000000) -dsimp only [go_sem,hg,aG]
       refine aL (α:=Nat) (fun k=>[(1,.va (.c1 (.pt 0 0))),(3,.va (.c1 (.sl 1 s.ss.length))),(4,iS .i64 r),(5,iS .i64 i),(6,iS .i64 ((t.fs.take k).foldl (gF (eK s.ss d)) 0)),(7,iS .i64 k)]) (fun _=>[.cells (aG s) 25,.row (d.map cU) 3 1])
        (fun k=>k<=t.fs.length) (fun k=>t.fs.length - k) 0 2 (Nat.zero_le _) ?_ ?_ ?_
       · simp -dsimp only [go_sem]<;>simp
       · simp -dsimp only [go_sem,aG]<;>simp
       intro k hk
       rcases bF k t.fs.length with hkt | hkg
       · have hg:decide ((k:Int) < (t.fs.length:Int))=true:=by simp; omega
         obtain ⟨f,hf⟩:∃ e,t.fs[k]? = some e:=⟨_,aW hkt⟩
         have hfm:=bJ hf
         have q2:=aY (row:=aZ) hf
         have hity:fL (aN f.ty):=eH (hfs f hfm).ty
         have hlv:((cP f.ty).1<=1000000000)=True:=eq_true (g.lv t htm f hfm)
         have hin:OW (d.map cU):=⟨d,rfl⟩
         have hdl:d.length=s.ss.length:=hd.len
         have hall:(∀ v:Int,v ∈ d->0<=v/\v<=1000000000000)=True:=eq_true (hd.all g)
         simp (maxSteps:=1000000) -dsimp only [go_sem,hg,↓q1,aP,aG]
         simp (maxSteps:=1000000) -dsimp only [go_sem,aZ,wE,hsf,hsd,hity,hlv,hin,hall,hdl,hf,aJ,forall_eq']
         refine ⟨by omega,by omega,by omega,by omega,aC (k + 1) 2 (by omega) (by omega) ?_ ?_⟩
         · simp -dsimp only [go_sem,aBN hf]<;>simp
         · simp -dsimp only [go_sem,aG]<;>simp
       · have hg:decide ((k:Int) < (t.fs.length:Int))=false:=by simp; omega
         obtain rfl:k=t.fs.length:=by omega
         have hmx2:t.fs.foldl (gF (eK s.ss d)) 0=gG (eK s.ss d) t.fs:=rfl
         rw [List.take_length,hmx2]
         have hn0:=j8 (eK s.ss d) t.fs
         have hdl:d.length=s.ss.length:=hd.len
         obtain ⟨v0,hv0⟩:∃ e,d[i]? = some e:=⟨_,aW (by omega)⟩
         simp (maxSteps:=1000000) -dsimp only [go_sem,hg,↓q1,aP,aG]
         simp (maxSteps:=1000000) -dsimp only [go_sem,hv0,aJ,forall_eq']
         refine ⟨by omega,by omega,⟨by omega,hdl⟩,⟨hdl,by omega⟩,by omega,aC (i + 1,d.set i (1 + gG (eK s.ss d) t.fs)) 2 ⟨by simp only; omega,hset⟩ (by simp only; omega) ?_ ?_⟩
         · simp -dsimp only [go_sem]<;>simp
         · simp -dsimp only [go_sem,aG]<;>simp [List.map_set]
     · have hg:decide ((i:Int) < (s.ss.length:Int))=false:=by simp; omega
       obtain rfl:i=s.ss.length:=by omega
       simp (maxSteps:=1000000) -dsimp only [go_sem,hg,aG]
       refine ⟨by omega,aC (r + 1,d) 2 ⟨by simp only; omega,hd.up⟩ (by simp only; omega) ?_ ?_⟩
       · simp -dsimp only [go_sem]<;>simp
       · simp -dsimp only [go_sem,aG]<;>simp
   · have hg:decide ((r:Int)<=(s.ss.length:Int))=false:=by simp; omega
     obtain rfl:r=s.ss.length + 1:=by omega
     have hfin:=hd.fin
     rw [<-hfin] at hK
     simp (maxSteps:=1000000) -dsimp only [go_sem,hg,aG]
     have e1:s.ss.length=(d.map cU).length:=by rw [List.length_map]; exact hd.len.symm
     rw [e1]
     refine .pub 1 _ _ _ rfl (.sel [] (by simp) (by simp [cW]) rfl (.done ?_))
     simp -dsimp only [go_sem,cW]
     simpa using hK
theorem aCZ:Meets Tryz.prog 20 ckFn.sp:=by
 refine aE Tryz.func20 aRP 1 (by rw [Tryz.ntmps20]; decide) (aH aGB (aH aBT (aH RW (aB aJ0 (aH UL (aB aBB (aA _))))))) u2 ?_
 rintro av H K ⟨⟨h,rfl⟩,hK⟩
 obtain ⟨_,rfl,s,rfl,hs⟩:=jN h
 have hK:K (iS .i64 (eR s)) []:=by
  have:ckFn.val [.va (.gs (aG s))]=iA .i64 (eR s):=by simp -dsimp only [go_sem]
  rw [this] at hK; exact hK
 clear h
 have hfit:=hs
 have hsc:r8 (aG s):=MM hs.ok
 have hsf:lE (aG s):=gA hs
 obtain ⟨⟨hv,hle,hls,hes,hss⟩,hlv,_,_⟩:=hs
 have fin:∀ (x:Int) (R:Hp),eR s=x->W.Fin 0 K (iS .i64 x) R:=fun x R h1=>by
  rw [h1] at hK
  exact .sel [] (by simp) (by simp) rfl (.done (by simpa [go_sem] using hK))
 have hsc':=hsc
 have hsf':=hsf
 simp only [aG] at hsc' hsf'
 have hdec:C.sc [.vl (.int .i64 s.ver),.fz (s.es.map bL),.fz (s.ss.map aP)]=s:=gT s
 simp (maxSteps:=1000000) -dsimp only [go_sem,aG,aHD,aG2,hsc',hdec]
 refine ⟨fun h1=>fin 4 _ (by unfold eR; rw [h1]; rfl),fun c1=>⟨fun h1=>fin 3 _ (by unfold eR; rw [c1,h1]; rfl),fun c2=>?_⟩⟩
 have hF:eR s=bif KQ s != 0 then KQ s else bif FN s != 0 then FN s else u7 s.ss:=by unfold eR; rw [c1,c2]; rfl
 refine aL (α:=Nat) (fun i=>[(1,.va (.c1 (.pt 0 0))),(3,iS .i64 i)]) (fun _=>[.cells (aG s) 25])
  (fun i=>i<=s.es.length/\fE (j6 s) (s.es.length - i) i=KQ s) (fun i=>s.es.length - i) 0 1 ⟨Nat.zero_le _,rfl⟩ ?_ ?_ ?_
 · simp -dsimp only [go_sem]<;>simp
 · simp -dsimp only [go_sem,aG]<;>simp
 rintro i ⟨hi,ho⟩
 rcases bF i s.es.length with hlt | hge
 · have hg:decide ((i:Int) < (s.es.length:Int))=true:=by simp; omega
   have fin':∀ (x:Int) (R:Hp),j6 s i=x->x ≠ 0->W.Fin 0 K (iS .i64 x) R:=fun x R h1 h2=>fin x R (by
    rw [hF,<-ho,t8 hlt (by rw [h1]; exact h2),h1]; exact KI h2)
   have bN:j6 s i=0->fE (j6 s) (s.es.length - (i + 1)) (i + 1)=KQ s:=fun h1=>by rw [<-ho,yZ hlt h1]
   simp (maxSteps:=1000000) -dsimp only [go_sem,hg,aG,hsf',hdec,Int.toNat_natCast]
   refine ⟨⟨by omega,by omega⟩,fun h1=>fin' _ _ rfl (by simpa using h1),fun h1=>?_⟩
   refine ⟨by omega,aC (i + 1) 1 ⟨by omega,bN (by simpa using h1)⟩ (by omega) ?_ ?_⟩
   · simp -dsimp only [go_sem]<;>simp
   · simp -dsimp only [go_sem,aG]<;>simp
 · have hg:decide ((i:Int) < (s.es.length:Int))=false:=by simp; omega
   obtain rfl:i=s.es.length:=by omega
   rw [AP] at ho
   rw [NC ho.symm] at hF
   simp (maxSteps:=1000000) -dsimp only [go_sem,hg,aG]
   clear hi hge hg ho
   refine aL (α:=Nat) (fun i=>[(1,.va (.c1 (.pt 0 0))),(5,iS .i64 i)]) (fun _=>[.cells (aG s) 25])
    (fun i=>i<=s.ss.length/\fE (kL s) (s.ss.length - i) i=FN s) (fun i=>s.ss.length - i) 0 1 ⟨Nat.zero_le _,rfl⟩ ?_ ?_ ?_
   · simp -dsimp only [go_sem]<;>simp
   · simp -dsimp only [go_sem,aG]<;>simp
   rintro i ⟨hi,ho⟩
   rcases bF i s.ss.length with hlt | hge
   · have hg:decide ((i:Int) < (s.ss.length:Int))=true:=by simp; omega
     have fin':∀ (x:Int) (R:Hp),kL s i=x->x ≠ 0->W.Fin 0 K (iS .i64 x) R:=fun x R h1 h2=>fin x R (by
      rw [hF,<-ho,t8 hlt (by rw [h1]; exact h2),h1]; exact KI h2)
     have bN:kL s i=0->fE (kL s) (s.ss.length - (i + 1)) (i + 1)=FN s:=fun h1=>by rw [<-ho,yZ hlt h1]
     simp (maxSteps:=1000000) -dsimp only [go_sem,hg,aG,hsf',hdec,Int.toNat_natCast]
     refine ⟨⟨by omega,by omega⟩,fun h1=>fin' _ _ rfl (by simpa using h1),fun h1=>?_⟩
     refine ⟨by omega,aC (i + 1) 1 ⟨by omega,bN (by simpa using h1)⟩ (by omega) ?_ ?_⟩
     · simp -dsimp only [go_sem]<;>simp
     · simp -dsimp only [go_sem,aG]<;>simp
   · have hg:decide ((i:Int) < (s.ss.length:Int))=false:=by simp; omega
     obtain rfl:i=s.ss.length:=by omega
     rw [AP] at ho
     rw [NC ho.symm] at hF
     have g:=MO hfit c2 ho.symm
     simp (maxSteps:=1000000) -dsimp only [go_sem,hg,aG]
     clear hi hge hg ho
     refine aL (α:=Nat) (fun i=>[(1,.va (.c1 (.pt 0 0))),(7,iS .i64 i)]) (fun _=>[.cells (aG s) 25])
      (fun i=>i<=s.ss.length/\(s.ss.drop i).any (fun t=>dG (gO s.ss t.nm) t.nm)=s.ss.any (fun t=>dG (gO s.ss t.nm) t.nm)) (fun i=>s.ss.length - i) 0 1 ⟨Nat.zero_le _,rfl⟩ ?_ ?_ ?_
     · simp -dsimp only [go_sem]<;>simp
     · simp -dsimp only [go_sem,aG]<;>simp
     rintro i ⟨hi,ho⟩
     rcases bF i s.ss.length with hlt | hge
     · have hg:decide ((i:Int) < (s.ss.length:Int))=true:=by simp; omega
       obtain ⟨t,hx⟩:∃ t,s.ss[i]? = some t:=⟨_,aW hlt⟩
       have q1:=aY (row:=aP) hx
       rw [iR hx] at ho
       have hv:=g.vlen t.nm
       have hul:=FA s.ss t.nm
       have hbs:DB ((gO s.ss t.nm).map bQ):=vQ (by rw [FA]; omega)
       have e0:(0<=((gO s.ss t.nm).length:Int))=True:=by simp
       have e1:(((gO s.ss t.nm).length:Int)<=9223372036854775807)=True:=by rw [hul]; exact eq_true (by omega)
       have hto:(gO s.ss t.nm).take (gO s.ss t.nm).length=gO s.ss t.nm:=List.take_length
       simp (maxSteps:=1000000) -dsimp only [go_sem,hg,↓q1,aP,aG]
       refine ⟨by omega,aHG hfit g ?_⟩
       simp (maxSteps:=1000000) -dsimp only [go_sem,hbs,e0,e1,Int.toNat_natCast,hto]
       refine ⟨by omega,fun hc=>?_,fun hc=>?_⟩
       · rw [hc,Bool.true_or] at ho
         exact fin 19 _ (by rw [hF]; unfold u7; rw [<-ho]; rfl)
       · rw [hc,Bool.false_or] at ho
         refine ⟨by omega,aC (i + 1) 1 ⟨by omega,ho⟩ (by omega) ?_ ?_⟩
         · simp -dsimp only [go_sem]<;>simp
         · simp -dsimp only [go_sem,aG]<;>simp
     · have hg:decide ((i:Int) < (s.ss.length:Int))=false:=by simp; omega
       obtain rfl:i=s.ss.length:=by omega
       rw [qG] at ho
       have ha:w6 s.ss:=fun t ht=>fT ho.symm t ht
       have hF2:eR s=bif s.ss.any (fun t=>decide (6 < dD s.ss t.nm)) then 9 else 0:=by rw [hF]; unfold u7; rw [<-ho]; rfl
       simp (maxSteps:=1000000) -dsimp only [go_sem,hg,aG]
       refine aI2 hfit g ha ?_
       simp (maxSteps:=1000000) -dsimp only [go_sem]
       clear hi hge hg ho
       refine aL (α:=Nat) (fun i=>[(9,.va (.c1 (.fz ((s.ss.map fun t=>dD s.ss t.nm).map cU)))),(10,iS .i64 i)]) (fun _=>[.cells (aG s) 25])
        (fun i=>i<=s.ss.length/\(s.ss.drop i).any (fun t=>decide (6 < dD s.ss t.nm))=s.ss.any (fun t=>decide (6 < dD s.ss t.nm))) (fun i=>s.ss.length - i) 0 1 ⟨Nat.zero_le _,rfl⟩ ?_ ?_ ?_
       · simp -dsimp only [go_sem]<;>simp
       · simp -dsimp only [go_sem,aG]<;>simp
       rintro i ⟨hi,ho⟩
       rcases bF i s.ss.length with hlt | hge
       · have hg:decide ((i:Int) < (s.ss.length:Int))=true:=by simp; omega
         obtain ⟨t,hx⟩:∃ t,s.ss[i]? = some t:=⟨_,aW hlt⟩
         have hd:(s.ss.map fun t=>dD s.ss t.nm)[i]? = some (dD s.ss t.nm):=by rw [List.getElem?_map,hx]; rfl
         have q1:=aY (row:=cU) hd
         have hml:(s.ss.map fun t=>dD s.ss t.nm).length=s.ss.length:=by simp
         rw [iR hx] at ho
         generalize (s.ss.map fun t=>dD s.ss t.nm)=ds at *
         simp (maxSteps:=1000000) -dsimp only [go_sem,hml,hg,↓q1,aG]
         refine ⟨by omega,fun hc=>?_,fun hc=>?_⟩
         · rw [hc,Bool.true_or] at ho
           exact fin 9 _ (by rw [hF2,<-ho]; rfl)
         · rw [hc,Bool.false_or] at ho
           refine ⟨by omega,aC (i + 1) 1 ⟨by omega,ho⟩ (by omega) ?_ ?_⟩
           · simp -dsimp only [go_sem]<;>simp
           · simp -dsimp only [go_sem,aG]<;>simp
       · have hg:decide ((i:Int) < (s.ss.length:Int))=false:=by simp; omega
         obtain rfl:i=s.ss.length:=by omega
         rw [qG] at ho
         have hml:(s.ss.map fun t=>dD s.ss t.nm).length=s.ss.length:=by simp
         generalize (s.ss.map fun t=>dD s.ss t.nm)=ds at *
         simp (maxSteps:=1000000) -dsimp only [go_sem,hml,hg,aG]
         exact fin 0 _ (by rw [hF2,<-ho]; rfl)
def gY:Nat->Ty->Nat
 | 0,_=>0
 | N + 1,t=>t.e.foldl (fun m u=>max m (1 + gY N u)) 0
abbrev lF (N:Nat):Nat->Ty->Nat:=fun m u=>max m (1 + gY N u)
theorem W2 (N:Nat):∀ (l:List Ty) (m:Nat),m<=l.foldl (lF N) m
 | [],_=>Nat.le_refl _
 | u :: l,m=>Nat.le_trans (Nat.le_max_left _ _) (W2 N l (max m (1 + gY N u)))
theorem aGH {N:Nat} {l:List Ty} {u:Ty} (h:u ∈ l):∀ m,1 + gY N u<=l.foldl (lF N) m:=by
 induction l with
 | nil=>cases h
 | cons v l ih=>
  intro m
  rcases List.mem_cons.1 h with rfl | h
  · exact Nat.le_trans (Nat.le_max_right m _) (W2 N l _)
  · exact ih h _
theorem aJ3 {N B:Nat} {l:List Ty} (h:∀ u ∈ l,1 + gY N u<=B):∀ m,m<=B->l.foldl (lF N) m<=B:=by
 induction l with
 | nil=>exact fun _ h=>h
 | cons v l ih=>exact fun m hm=>ih (fun u hu=>h u (List.mem_cons_of_mem _ hu)) _ (Nat.max_le.2 ⟨hm,h v List.mem_cons_self⟩)
theorem B3:∀ (N:Nat) (t:Ty),gY N t<=N
 | 0,_=>Nat.le_refl _
 | N + 1,t=>aJ3 (fun u _=>by have:=B3 N u; omega) 0 (Nat.zero_le _)
theorem PD:∀ (N:Nat) (t:Ty),gY N t < N->t.h<=gY N t + 1
 | 0,_,h=>absurd h (Nat.not_lt_zero _)
 | N + 1,.mk k s n e,h=>by
  have hu:∀ u ∈ e,u.h<=gY (N + 1) (.mk k s n e):=fun u hu=>by
   have h1:1 + gY N u<=gY (N + 1) (.mk k s n e):=aGH (N:=N) (l:=e) hu 0
   have:=PD N u (by omega)
   omega
  rw [Ty.h]
  have:∀ (l:List Ty),(∀ u ∈ l,u.h<=gY (N + 1) (.mk k s n e))->Ty.hs l<=gY (N + 1) (.mk k s n e):=by
   intro l
   induction l with
   | nil=>exact fun _=>Nat.zero_le _
   | cons v l ih=>
    intro h
    rw [Ty.hs]
    exact Nat.max_le.2 ⟨h v List.mem_cons_self,ih fun u hu=>h u (List.mem_cons_of_mem _ hu)⟩
  have:=this e hu
  omega
theorem aBO {N:Nat} {l:List Ty} {i:Nat} {u:Ty} (hx:l[i]? = some u):(l.take (i + 1)).foldl (lF N) 0=max ((l.take i).foldl (lF N) 0) (1 + gY N u):=by
 rw [gQ hx,List.foldl_append]; rfl
def FZ (N:Nat):List S->Prop:=fun av=>match av with
 | [.va (.gs q),.va (.c1 (.vl (.int .i64 k)))]=>fL q/\k=(N:Int)/\N<=1000
 | _=>False
theorem nD {N:Nat} {av:List S} (h:FZ N av):∃ t:Ty,av=[.va (.gs (aN t)),iS .i64 N]/\TyOk t/\N<=1000:=by
 unfold FZ at h
 split at h
 · obtain ⟨⟨t,rfl,ht⟩,rfl,h⟩:=h
   exact ⟨t,rfl,ht,h⟩
 · exact h.elim
noncomputable def YV (N:Nat):List S->A:=fun av=>match av with
 | [.va (.gs q),.va (.c1 (.vl (.int .i64 _)))]=>iA .i64 (gY N (C.ty q))
 | _=>.gs []
noncomputable def DM (N:Nat):Fun:=⟨FZ N,YV N,fun av h=>by obtain ⟨a,rfl,_⟩:=nD h; trivial⟩
theorem IH {N:Nat}:∀ av H K,(DM N).sp av H K->av.length=2:=fun av H K h=>by obtain ⟨a,rfl,_⟩:=nD h.1.1; rfl
attribute [go_sem] DM FZ YV
theorem aBD:Meets Tryz.prog 45 (DM 0).sp:=by
 refine aE Tryz.func45 aC7 2 (by rw [Tryz.ntmps45]; decide) (aA _) IH ?_
 rintro av H K ⟨⟨h,rfl⟩,hK⟩
 obtain ⟨t,rfl,ht,hN⟩:=nD h
 have hK:K (iS .i64 0) []:=by
  have:(DM 0).val [.va (.gs (aN t)),iS .i64 ((0:Nat):Int)]=iA .i64 0:=by simp -dsimp only [go_sem]; rfl
  rw [this] at hK; exact hK
 clear h
 obtain ⟨k,s,n,e⟩:=t
 simp (maxSteps:=1000000) -dsimp only [go_sem,aN,aV,WA,U7]
 refine aL (α:=Unit) (fun i=>[(1,iS .i64 0),(2,.va (.c1 (.pt 0 0))),(5,iS .i64 0),(6,iS .i64 0)]) (fun _=>[.cells (aN (.mk k s n e)) 28])
  (fun i=>True) (fun i=>0) () 1 trivial ?_ ?_ ?_
 · simp -dsimp only [go_sem]
   simp
 · simp -dsimp only [go_sem,aN,aV]
 intro _ _
 have hg2:decide ((0:Int) < 0)=false:=rfl
 cases hg:decide ((0:Int) < (e.length:Int)) with
 | true=>
  simp (maxSteps:=1000000) -dsimp only [go_sem,hg,hg2,aN,aV]
  exact .sel [] (by simp) (by simp) rfl (.done (by simp -dsimp only [go_sem]; exact hK))
 | false=>
  simp (maxSteps:=1000000) -dsimp only [go_sem,hg,hg2,aN,aV]
  exact .sel [] (by simp) (by simp) rfl (.done (by simp -dsimp only [go_sem]; exact hK))
theorem RK:∀ N,Meets Tryz.prog 45 (DM N).sp
 | 0=>aBD
 | N + 1=>by
  refine aE Tryz.func45 aC7 2 (by rw [Tryz.ntmps45]; decide) (aH (RK N) (aA _)) IH ?_
  rintro av H K ⟨⟨h,rfl⟩,hK⟩
  obtain ⟨t,rfl,ht,hN⟩:=nD h
  have hK:K (iS .i64 (gY (N + 1) t)) []:=by
   have:(DM (N + 1)).val [.va (.gs (aN t)),iS .i64 ((N + 1:Nat):Int)]=iA .i64 (gY (N + 1) t):=by simp -dsimp only [go_sem]
   rw [this] at hK; exact hK
  clear h
  obtain ⟨k,s,n,e⟩:=t
  have hte:=ht.e
  have hte2:=ht.len
  simp only [Ty.e] at hte hte2
  have hK:K (iS .i64 ((e.foldl (lF N) 0:Nat):Int)) []:=hK
  simp (maxSteps:=1000000) -dsimp only [go_sem,aN,aV,WA,U7]
  refine aL (α:=Nat) (fun i=>[(1,iS .i64 ((N + 1:Nat):Int)),(2,.va (.c1 (.pt 0 0))),(5,iS .i64 (((e.take i).foldl (lF N) 0:Nat):Int)),(6,iS .i64 i)]) (fun _=>[.cells (aN (.mk k s n e)) 28])
   (fun i=>i<=e.length) (fun i=>e.length - i) 0 1 (Nat.zero_le _) ?_ ?_ ?_
  · simp -dsimp only [go_sem]
    simp
  · simp -dsimp only [go_sem,aN,aV]
  intro i hi
  rcases bF i e.length with hlt | hge
  · have hg:decide ((i:Int) < (e.length:Int))=true:=by simp; omega
    have hg2:decide (0 < ((N + 1:Nat):Int))=true:=decide_eq_true (by omega)
    obtain ⟨u,hx⟩:∃ t,e[i]? = some t:=⟨_,aW hlt⟩
    have q1:=aY (row:=aN) hx
    have hu:fL (aN u):=eH (hte u (bJ hx))
    have hn1:((N + 1:Nat):Int) - 1=(N:Int):=by omega
    have hl:=B3 N u
    simp (maxSteps:=1000000) -dsimp only [go_sem,hg,hg2,↓q1,aN,aV,i6,hu,hn1]
    refine ⟨by omega,by omega,by omega,by omega,by omega,aC (i + 1) 1 (by omega) (by omega) ?_ ?_⟩
    · simp -dsimp only [go_sem,aBO hx]<;>simp<;>omega
    · simp -dsimp only [go_sem,aN,aV]
  · have hg:decide ((i:Int) < (e.length:Int))=false:=by simp; omega
    obtain rfl:i=e.length:=by omega
    rw [List.take_length]
    simp (maxSteps:=1000000) -dsimp only [go_sem,hg,aN,aV]
    exact .sel [] (by simp) (by simp) rfl (.done (by simp -dsimp only [go_sem]; exact hK))
mutual
def fewT:Ty->Bool
 | .mk k s n e=>bif decide (40 < (bl n).length) || decide (3 < e.length) || decide (8 < gY 20 (.mk k s n e)) then false else F8 e
def F8:List Ty->Bool
 | []=>true
 | t :: r=>fewT t && F8 r
end
theorem tJ:∀ l:List Ty,F8 l=l.all fewT
 | []=>rfl
 | t :: r=>by rw [F8,tJ r]; rfl
theorem OH {k s:Int} {n:ByteArray} {e:List Ty} (h:fewT (.mk k s n e)=true):((bl n).length<=40/\e.length<=3/\gY 20 (.mk k s n e)<=8)/\∀ u ∈ e,fewT u=true:=by
 rw [fewT] at h
 cases c:decide (40 < (bl n).length) || decide (3 < e.length) || decide (8 < gY 20 (.mk k s n e)) with
 | true=>rw [c] at h; cases h
 | false=>
  rw [c] at h
  simp only [Bool.or_eq_false_iff,decide_eq_false_iff_not] at c
  refine ⟨by omega,fun u hu=>?_⟩
  simp only [aD,tJ,List.all_eq_true] at h
  exact h u hu
theorem aLZ {t:Ty} (h:fewT t=true):t.h<=9:=by
 obtain ⟨k,s,n,e⟩:=t
 have h1:=(OH h).1.2.2
 have:=PD 20 (.mk k s n e) (by omega)
 omega
theorem Q9:∀ (N:Nat) (t:Ty),t.h<=N->fewT t=true->TySm t
 | 0,t,h,_=>absurd h (by have:=t.h_pos; omega)
 | N + 1,.mk k s n e,h,hf=>by
  obtain ⟨⟨_,h2,_⟩,h3⟩:=OH hf
  refine .mk (by omega) fun u hu=>Q9 N u ?_ (h3 u hu)
  have:=Ty.hs_mem hu; rw [Ty.h] at h; omega
theorem aHK:∀ (N:Nat) (t:Ty),t.h<=N->(cP t).1<=t.h
 | 0,t,h=>absurd h (by have:=t.h_pos; omega)
 | N + 1,.mk k s n e,h=>by
  cases c:(k == 5 && decide (0 < (e.length:Int))) with
  | false=>rw [JH c]; exact Nat.zero_le _
  | true=>
   simp only [Bool.and_eq_true,beq_iff_eq,decide_eq_true_eq] at c
   obtain ⟨rfl,c⟩:=c
   cases e with
   | nil=>simp at c
   | cons u r=>
    rw [yP]
    have h2:=aHK N u (by rw [Ty.h,Ty.hs] at h; omega)
    rw [Ty.h,Ty.hs]; simp only; omega
def GP (N:Nat):List S->Prop:=fun av=>match av with
 | [.va (.gs q)]=>fL q/\(C.ty q).h<=N
 | _=>False
theorem nE {N:Nat} {av:List S} (h:GP N av):∃ t:Ty,av=[.va (.gs (aN t))]/\TyOk t/\t.h<=N:=by
 unfold GP at h
 split at h
 · obtain ⟨⟨t,rfl,ht⟩,h⟩:=h
   rw [fX] at h
   exact ⟨t,rfl,ht,h⟩
 · exact h.elim
noncomputable def YK:List S->A:=fun av=>match av with
 | [.va (.gs q)]=>bA (fewT (C.ty q))
 | _=>.gs []
noncomputable def O7 (N:Nat):Fun:=⟨GP N,YK,fun av h=>by obtain ⟨a,rfl,_⟩:=nE h; trivial⟩
theorem WL {N:Nat}:∀ av H K,(O7 N).sp av H K->av.length=1:=fun av H K h=>by obtain ⟨a,rfl,_⟩:=nE h.1.1; rfl
attribute [go_sem] O7 GP YK
theorem D0:∀ N,Meets Tryz.prog 19 (O7 N).sp
 | 0=>⟨by kernel_rfl,by rintro xs vs E ro w K _ _ _ ⟨⟨h,_⟩,_⟩; obtain ⟨a,_,_,h⟩:=nE h; have:=a.h_pos; omega⟩
 | N + 1=>by
  refine aE Tryz.func19 aNB 1 (by rw [Tryz.ntmps19]; decide) (aH (RK 20) (aH (D0 N) (aA _))) WL ?_
  rintro av H K ⟨⟨h,rfl⟩,hK⟩
  obtain ⟨t,rfl,ht,hN⟩:=nE h
  have hK:K (bS (fewT t)) []:=by
   have:(O7 (N + 1)).val [.va (.gs (aN t))]=bA (fewT t):=by simp -dsimp only [go_sem]
   rw [this] at hK; exact hK
  clear h
  have hit:=eH ht
  obtain ⟨k,s,n,e⟩:=t
  have hte:=ht.e
  have hte2:=ht.len
  simp only [Ty.e] at hte hte2
  have fin:∀ (x:Bool) (R:Hp),fewT (.mk k s n e)=x->W.Fin 0 K (bS x) R:=fun x R h1=>by
   rw [h1] at hK
   exact .sel [] (by simp) (by simp) rfl (.done (by simpa [go_sem] using hK))
  have hcd:=fX (.mk k s n e)
  have hF:=fewT.eq_1 k s n e
  rw [aN,aV] at hit hcd
  generalize hlv:gY 20 (.mk k s n e)=lv at hF
  have hl20:=B3 20 (.mk k s n e)
  rw [hlv] at hl20
  have e20:((20:Nat):Int)=20:=rfl
  have hb20:(20<=1000)=True:=by simp
  simp (maxSteps:=1000000) -dsimp only [go_sem,aN,aV,aDK,aHJ,hit,hcd,hlv,e20,hb20]
  refine ⟨fun h1=>fin false _ ?_,fun h1=>?_⟩
  · rw [hF]
    simp only [Bool.or_eq_true,decide_eq_true_eq] at h1
    rw [show (decide (40 < (bl n).length) || decide (3 < e.length) || decide (8 < lv))=true by simp only [Bool.or_eq_true,decide_eq_true_eq]; omega]; rfl
  have hF2:fewT (.mk k s n e)=e.all fewT:=by
   simp only [Bool.or_eq_false_iff,decide_eq_false_iff_not] at h1
   rw [hF,show (decide (40 < (bl n).length) || decide (3 < e.length) || decide (8 < lv))=false by simp only [Bool.or_eq_false_iff,decide_eq_false_iff_not]; omega,tJ]; rfl
  refine aL (α:=Nat) (fun i=>[(1,.va (.c1 (.pt 0 0))),(3,iS .i64 i)]) (fun i=>[.cells (aN (.mk k s n e)) 28])
   (fun i=>i<=e.length/\∀ u ∈ e.take i,fewT u=true) (fun i=>e.length - i) 0 1 ⟨Nat.zero_le _,fun u hu=>by cases hu⟩ ?_ ?_ ?_
  · simp -dsimp only [go_sem]<;>simp
  · simp -dsimp only [go_sem,aN,aV]
  rintro i ⟨hi,ho⟩
  rcases bF i e.length with hlt | hge
  · have hg:decide ((i:Int) < (e.length:Int))=true:=by simp; omega
    obtain ⟨u,hx⟩:∃ t,e[i]? = some t:=⟨_,aW hlt⟩
    have hum:=bJ hx
    have q1:=aY (row:=aN) hx
    have hu:fL (aN u):=eH (hte u hum)
    have huh:(u.h<=N)=True:=eq_true (by have:=Ty.hs_mem hum; rw [Ty.h] at hN; omega)
    simp (maxSteps:=1000000) -dsimp only [go_sem,hg,↓q1,aN,aV,i6,hu,huh]
    refine ⟨by omega,fun h1=>fin false _ ?_,fun h1=>?_⟩
    · rw [hF2,List.all_eq_false]; exact ⟨u,hum,by simpa using h1⟩
    · refine ⟨by omega,aC (i + 1) 1 ⟨by omega,fun v hv=>?_⟩ (by omega) ?_ ?_⟩
      · rw [gQ hx] at hv
        rcases List.mem_append.1 hv with h | h
        · exact ho v h
        · obtain rfl:v=u:=by simpa using h
          simpa using h1
      · simp -dsimp only [go_sem]<;>simp
      · simp -dsimp only [go_sem,aN,aV]
  · have hg:decide ((i:Int) < (e.length:Int))=false:=by simp; omega
    obtain rfl:i=e.length:=by omega
    rw [List.take_length] at ho
    simp (maxSteps:=1000000) -dsimp only [go_sem,hg,aN,aV]
    exact fin true _ (by rw [hF2,List.all_eq_true]; exact ho)
noncomputable def f0Fn:Fun:=wN fL C.ty fun t=>.bool (fewT t)
attribute [go_sem] f0Fn
theorem GW:Meets Tryz.prog 19 f0Fn.sp:=eU 0 D0 fun av H K ⟨⟨h,e⟩,hK⟩=>by
 obtain ⟨_,rfl,t,rfl,ht⟩:=jN h
 exact ⟨t.h,⟨⟨⟨eH ht,by rw [fX]; exact Nat.le_refl _⟩,e⟩,hK⟩⟩
def uP (e:En):Bool:=!(decide (40 < (bl e.nm).length) || decide (18 < e.ns.length) || decide (18 < e.vs.length)) && e.ns.all fun n=>!(decide (40 < (bl n).length))
def rC (f:Fl):Bool:=!(decide (40 < (bl f.nm).length) || !(fewT f.ty))
def o7 (t:St):Bool:=!(decide (40 < (bl t.nm).length) || decide (18 < t.fs.length)) && t.fs.all rC
def lO (s:Sc):Bool:=!(decide (18 < s.es.length) || decide (18 < s.ss.length)) && (s.es.all uP && s.ss.all o7)
theorem CK {s:Sc} (h:s.ok) (hf:lO s=true):s.fit:=by
 unfold lO at hf
 simp only [Bool.and_eq_true,List.all_eq_true,Bool.not_eq_true',Bool.or_eq_false_iff,decide_eq_false_iff_not] at hf
 obtain ⟨_,he,hs⟩:=hf
 have hfl:∀ t ∈ s.ss,t.fs.length<=18/\∀ f ∈ t.fs,fewT f.ty=true:=fun t ht=>by
  have:=hs t ht
  unfold o7 at this
  simp only [Bool.and_eq_true,List.all_eq_true,Bool.not_eq_true',Bool.or_eq_false_iff,decide_eq_false_iff_not] at this
  refine ⟨by omega,fun f hf=>?_⟩
  have:=this.2 f hf
  unfold rC at this
  simp only [Bool.not_eq_true',Bool.or_eq_false_iff,Bool.not_eq_false'] at this
  exact this.2
 refine ⟨h,fun t ht f hf=>?_,fun t ht=>⟨by have:=(hfl t ht).1; omega,fun f hf=>Q9 _ _ (Nat.le_refl _) ((hfl t ht).2 f hf)⟩,fun e hm=>?_⟩
 · have h1:=aLZ ((hfl t ht).2 f hf)
   have h2:=aHK _ f.ty (Nat.le_refl _)
   omega
 · have:=he e hm
   unfold uP at this
   simp only [Bool.and_eq_true,List.all_eq_true,Bool.not_eq_true',Bool.or_eq_false_iff,decide_eq_false_iff_not] at this
   omega
theorem oH {α:Type} {l:List α} {i:Nat} {x:α} (hx:l[i]? = some x) (p:α->Bool):(l.drop i).all p=(p x && (l.drop (i + 1)).all p):=by
 obtain ⟨h,rfl⟩:=a6.1 hx
 rw [List.drop_eq_getElem_cons h,List.all_cons]
theorem p8 {α:Type} {l:List α} (p:α->Bool):(l.drop l.length).all p=true:=by rw [List.drop_length]; rfl
theorem aQ6:Meets Tryz.prog 18 (wN r8 C.sc fun s=>.bool (lO s)).sp:=by
 refine aE Tryz.func18 aQ3 1 (by rw [Tryz.ntmps18]; decide) (aH GW (aA _)) u2 ?_
 rintro av H K ⟨⟨h,rfl⟩,hK⟩
 obtain ⟨_,rfl,s,rfl,hs⟩:=jN h
 have hK:K (bS (lO s)) []:=by
  have:(wN r8 C.sc fun s=>.bool (lO s)).val [.va (.gs (aG s))]=bA (lO s):=by simp -dsimp only [go_sem]
  rw [this] at hK; exact hK
 clear h
 obtain ⟨hv,hle,hls,hes,hss⟩:=hs
 have fin:∀ (x:Bool) (R:Hp),lO s=x->W.Fin 0 K (bS x) R:=fun x R h1=>by
  rw [h1] at hK
  exact .sel [] (by simp) (by simp) rfl (.done (by simpa [go_sem] using hK))
 simp (maxSteps:=1000000) -dsimp only [go_sem,aG,aHM,aDA]
 refine ⟨fun h1=>fin false _ ?_,fun h1=>?_⟩
 · unfold lO
   rw [show (decide (18 < s.es.length) || decide (18 < s.ss.length))=true by simp only [Bool.or_eq_true,decide_eq_true_eq] at h1 ⊢; omega]; rfl
 have hF:lO s=(s.es.all uP && s.ss.all o7):=by
  unfold lO
  rw [show (decide (18 < s.es.length) || decide (18 < s.ss.length))=false by simp only [Bool.or_eq_false_iff,decide_eq_false_iff_not] at h1 ⊢; omega]; rfl
 refine aL (α:=Nat) (fun i=>[(1,.va (.c1 (.pt 0 0))),(3,iS .i64 i)]) (fun _=>[.cells (aG s) 25])
  (fun i=>i<=s.es.length/\(s.es.drop i).all uP=s.es.all uP) (fun i=>s.es.length - i) 0 1 ⟨Nat.zero_le _,rfl⟩ ?_ ?_ ?_
 · simp -dsimp only [go_sem]<;>simp
 · simp -dsimp only [go_sem,aG]<;>simp
 rintro i ⟨hi,ho⟩
 rcases bF i s.es.length with hlt | hge
 · have hg:decide ((i:Int) < (s.es.length:Int))=true:=by simp; omega
   obtain ⟨e,hx⟩:∃ e,s.es[i]? = some e:=⟨_,aW hlt⟩
   have hem:=bJ hx
   have q1:=aY (row:=bL) hx
   obtain ⟨_,hln,hlv,_,_⟩:=hes e hem
   rw [oH hx] at ho
   have bad:uP e=false->∀ R,W.Fin 0 K (bS false) R:=fun h R=>fin false R (by rw [hF,<-ho,h]; rfl)
   have cst:∀ (a b:Nat),decide ((a:Int) < (b:Int))=decide (a < b):=fun a b=>by simp
   have hE:uP e=(!(decide (40 < ((bl e.nm).length:Int)) || decide (18 < (e.ns.length:Int)) || decide (18 < (e.vs.length:Int))) && e.ns.all fun n=>!(decide (40 < ((bl n).length:Int)))):=by
    unfold uP
    have c40:∀ b:Nat,decide (40 < (b:Int))=decide (40 < b):=fun b=>by simp; omega
    have c18:∀ b:Nat,decide (18 < (b:Int))=decide (18 < b):=fun b=>by simp; omega
    simp only [c40,c18]
   cases d1:decide (40 < ((bl e.nm).length:Int)) with
   | true=>
    rw [d1] at hE
    simp (maxSteps:=1000000) -dsimp only [go_sem,hg,↓q1,bL,aG,d1]
    exact ⟨by omega,bad hE _⟩
   | false=>
   cases d2:decide (18 < (e.ns.length:Int)) with
   | true=>
    rw [d1,d2] at hE
    simp (maxSteps:=1000000) -dsimp only [go_sem,hg,↓q1,bL,aG,d1,d2]
    exact ⟨by omega,by omega,bad hE _⟩
   | false=>
   cases d3:decide (18 < (e.vs.length:Int)) with
   | true=>
    rw [d1,d2,d3] at hE
    simp (maxSteps:=1000000) -dsimp only [go_sem,hg,↓q1,bL,aG,d1,d2,d3]
    exact ⟨by omega,by omega,by omega,bad hE _⟩
   | false=>
    rw [d1,d2,d3] at hE
    simp only [Bool.or_self,Bool.not_false,Bool.true_and] at hE
    simp (maxSteps:=1000000) -dsimp only [go_sem,hg,↓q1,bL,aG,d1,d2,d3]
    refine ⟨by omega,by omega,by omega,?_⟩
    refine aL (α:=Nat) (fun k=>[(1,.va (.c1 (.pt 0 0))),(3,iS .i64 i),(4,iS .i64 k)]) (fun _=>[.cells (aG s) 25])
     (fun k=>k<=e.ns.length/\((e.ns.drop k).all fun n=>!(decide (40 < ((bl n).length:Int))))=e.ns.all fun n=>!(decide (40 < ((bl n).length:Int)))) (fun k=>e.ns.length - k) 0 1 ⟨Nat.zero_le _,rfl⟩ ?_ ?_ ?_
    · simp -dsimp only [go_sem]<;>simp
    · simp -dsimp only [go_sem,aG]<;>simp
    rintro k ⟨hk,ho2⟩
    rcases bF k e.ns.length with hkt | hkg
    · have hgk:decide ((k:Int) < (e.ns.length:Int))=true:=by simp; omega
      obtain ⟨n,hn⟩:∃ n,e.ns[k]? = some n:=⟨_,aW hkt⟩
      have q2:=aY (row:=bQ) hn
      rw [oH hn] at ho2
      simp (maxSteps:=1000000) -dsimp only [go_sem,↓q1,bL,aG,hgk]
      simp (maxSteps:=1000000) -dsimp only [go_sem,hn,aJ,forall_eq']
      refine ⟨by omega,by omega,by omega,fun h2=>bad (by rw [hE,<-ho2,h2]; rfl) _,fun h2=>?_⟩
      rw [h2] at ho2
      refine ⟨by omega,aC (k + 1) 1 ⟨by omega,by simpa using ho2⟩ (by omega) ?_ ?_⟩
      · simp -dsimp only [go_sem]<;>simp
      · simp -dsimp only [go_sem,aG]<;>simp
    · have hgk:decide ((k:Int) < (e.ns.length:Int))=false:=by simp; omega
      obtain rfl:k=e.ns.length:=by omega
      rw [p8] at ho2
      rw [hE,<-ho2,Bool.true_and] at ho
      simp (maxSteps:=1000000) -dsimp only [go_sem,↓q1,bL,aG,hgk]
      refine ⟨by omega,by omega,aC (i + 1) 1 ⟨by omega,ho⟩ (by omega) ?_ ?_⟩
      · simp -dsimp only [go_sem]<;>simp
      · simp -dsimp only [go_sem,aG]<;>simp
 · have hg:decide ((i:Int) < (s.es.length:Int))=false:=by simp; omega
   obtain rfl:i=s.es.length:=by omega
   rw [p8] at ho
   rw [<-ho,Bool.true_and] at hF
   simp (maxSteps:=1000000) -dsimp only [go_sem,hg,aG]
   clear ho hi hge hg
   refine aL (α:=Nat) (fun i=>[(1,.va (.c1 (.pt 0 0))),(5,iS .i64 i)]) (fun _=>[.cells (aG s) 25])
    (fun i=>i<=s.ss.length/\(s.ss.drop i).all o7=s.ss.all o7) (fun i=>s.ss.length - i) 0 1 ⟨Nat.zero_le _,rfl⟩ ?_ ?_ ?_
   · simp -dsimp only [go_sem]<;>simp
   · simp -dsimp only [go_sem,aG]<;>simp
   rintro i ⟨hi,ho⟩
   rcases bF i s.ss.length with hlt | hge
   · have hg:decide ((i:Int) < (s.ss.length:Int))=true:=by simp; omega
     obtain ⟨e,hx⟩:∃ e,s.ss[i]? = some e:=⟨_,aW hlt⟩
     have hem:=bJ hx
     have q1:=aY (row:=aP) hx
     obtain ⟨_,hln,hfs⟩:=hss e hem
     rw [oH hx] at ho
     have bad:o7 e=false->∀ R,W.Fin 0 K (bS false) R:=fun h R=>fin false R (by rw [hF,<-ho,h]; rfl)
     have hE:o7 e=(!(decide (40 < ((bl e.nm).length:Int)) || decide (18 < (e.fs.length:Int))) && e.fs.all rC):=by
      unfold o7
      have c40:∀ b:Nat,decide (40 < (b:Int))=decide (40 < b):=fun b=>by simp; omega
      have c18:∀ b:Nat,decide (18 < (b:Int))=decide (18 < b):=fun b=>by simp; omega
      simp only [c40,c18]
     cases d1:decide (40 < ((bl e.nm).length:Int)) with
     | true=>
      rw [d1] at hE
      simp (maxSteps:=1000000) -dsimp only [go_sem,hg,↓q1,aP,aG,d1]
      exact ⟨by omega,bad hE _⟩
     | false=>
     cases d2:decide (18 < (e.fs.length:Int)) with
     | true=>
      rw [d1,d2] at hE
      simp (maxSteps:=1000000) -dsimp only [go_sem,hg,↓q1,aP,aG,d1,d2]
      exact ⟨by omega,by omega,bad hE _⟩
     | false=>
      rw [d1,d2] at hE
      simp only [Bool.or_self,Bool.not_false,Bool.true_and] at hE
      simp (maxSteps:=1000000) -dsimp only [go_sem,hg,↓q1,aP,aG,d1,d2]
      refine ⟨by omega,by omega,?_⟩
      refine aL (α:=Nat) (fun k=>[(1,.va (.c1 (.pt 0 0))),(5,iS .i64 i),(6,iS .i64 k)]) (fun _=>[.cells (aG s) 25])
       (fun k=>k<=e.fs.length/\(e.fs.drop k).all rC=e.fs.all rC) (fun k=>e.fs.length - k) 0 1 ⟨Nat.zero_le _,rfl⟩ ?_ ?_ ?_
      · simp -dsimp only [go_sem]<;>simp
      · simp -dsimp only [go_sem,aG]<;>simp
      rintro k ⟨hk,ho2⟩
      rcases bF k e.fs.length with hkt | hkg
      · have hgk:decide ((k:Int) < (e.fs.length:Int))=true:=by simp; omega
        obtain ⟨f,hn⟩:∃ n,e.fs[k]? = some n:=⟨_,aW hkt⟩
        have q2:=aY (row:=aZ) hn
        have hity:fL (aN f.ty):=eH (hfs f (bJ hn)).ty
        rw [oH hn] at ho2
        have hFl:rC f=!(decide (40 < ((bl f.nm).length:Int)) || !(fewT f.ty)):=by
         unfold rC
         have c40:∀ b:Nat,decide (40 < (b:Int))=decide (40 < b):=fun b=>by simp; omega
         simp only [c40]
        cases d3:decide (40 < ((bl f.nm).length:Int)) with
        | true=>
         rw [d3] at hFl
         simp (maxSteps:=1000000) -dsimp only [go_sem,↓q1,aP,aG,hgk]
         simp (maxSteps:=1000000) -dsimp only [go_sem,aZ,hn,aJ,forall_eq',d3]
         refine ⟨by omega,by omega,by omega,bad (by rw [hE,<-ho2,hFl]; rfl) _⟩
        | false=>
         rw [d3] at hFl
         simp only [Bool.false_or,Bool.not_not] at hFl
         rw [hFl] at ho2
         simp (maxSteps:=1000000) -dsimp only [go_sem,↓q1,aP,aG,hgk]
         simp (maxSteps:=1000000) -dsimp only [go_sem,aZ,wE,hity,hn,aJ,forall_eq',d3]
         refine ⟨by omega,by omega,by omega,by omega,by omega,fun h2=>bad (by rw [hE,<-ho2,h2]; rfl) _,fun h2=>?_⟩
         rw [show fewT f.ty=true by simpa using h2,Bool.true_and] at ho2
         refine ⟨by omega,aC (k + 1) 1 ⟨by omega,ho2⟩ (by omega) ?_ ?_⟩
         · simp -dsimp only [go_sem]<;>simp
         · simp -dsimp only [go_sem,aG]<;>simp
      · have hgk:decide ((k:Int) < (e.fs.length:Int))=false:=by simp; omega
        obtain rfl:k=e.fs.length:=by omega
        rw [p8] at ho2
        rw [hE,<-ho2,Bool.true_and] at ho
        simp (maxSteps:=1000000) -dsimp only [go_sem,↓q1,aP,aG,hgk]
        refine ⟨by omega,by omega,aC (i + 1) 1 ⟨by omega,ho⟩ (by omega) ?_ ?_⟩
        · simp -dsimp only [go_sem]<;>simp
        · simp -dsimp only [go_sem,aG]<;>simp
   · have hg:decide ((i:Int) < (s.ss.length:Int))=false:=by simp; omega
     obtain rfl:i=s.ss.length:=by omega
     rw [p8] at ho
     simp (maxSteps:=1000000) -dsimp only [go_sem,hg,aG]
     exact fin true _ (by rw [hF,<-ho])
def VM:PC:=.seq (.reg [.e 3 (.bx 25 (.t 0)),.e 4 (.bx 28 (.t 1)),.e 5 (.bx 32 (.t 2)),.q 6 (.mv (.i 0))]) (.seq (.seq (.reg [.l 7 (.ldn 5 (.t 5)),.a 8 (.cq 52 [(.t 7),(.i 6)]),.q 9 (.bin .gtr true (.t 8) (.i 6))]) (.cond (.t 9) (.seq (.reg [.q 6 (.mv (.i 9))]) .ret) .skip)) (.seq (.reg [.l 10 (.ldn 3 (.t 3)),.q 11 (.bd [(.int .i64 0),(.slice none 0 0),(.slice none 0 0)] [(0,3,(.t 10))]),.l 12 (.ldn 4 (.t 4)),.l 13 (.ldn 5 (.t 5)),.a 14 (.cq 53 [(.t 11),(.t 12),(.t 13)]),.v 6 14]) .ret))
def VP:List RV:=[.mv (.t 6)]
theorem aRS:aM Tryz.prog true ⟨fun r k=>if r=1/\k=1 then .q else if r=3/\k=4 then .q else .own [],fun _=>false⟩ Tryz.f23=some (VM,VP):=by kernel_rfl
def TV:PC:=.seq (.reg [.e 2 (.bx 32 (.t 0)),.q 4 (.mv (.i 0))]) (.seq (.seq (.reg [.q 10 (.fa 0 (.t 2)),.l 11 (.ld1 (.t 10)),.q 12 (.bin .neq true (.t 11) (.i 5)),.v 13 12,⟨some 14,(some (13,true)),.q (.fa 0 (.t 2))⟩,⟨some 15,(some (13,true)),.l (.ld1 (.t 14))⟩,⟨some 16,(some (13,true)),.q (.bin .neq true (.t 15) (.i 6))⟩,.a 17 (.pick (.t 13) (.t 16) (.k (.bool false))),.v 18 17,⟨some 19,(some (18,true)),.q (.fa 3 (.t 2))⟩,⟨some 20,(some (18,true)),.l (.ld1 (.t 19))⟩,⟨some 21,(some (18,true)),.q (.lnL (.t 20))⟩,⟨some 22,(some (18,true)),.q (.bin .eql true (.t 21) (.i 0))⟩,.a 23 (.pick (.t 18) (.t 22) (.k (.bool false))),.v 24 23,⟨some 25,(some (24,true)),.q (.fa 4 (.t 2))⟩,⟨some 26,(some (24,true)),.l (.ld1 (.t 25))⟩,⟨some 27,(some (24,true)),.q (.lnL (.t 26))⟩,⟨some 28,(some (24,true)),.q (.bin .eql true (.t 27) (.i 0))⟩,.a 29 (.pick (.t 24) (.t 28) (.k (.bool false)))]) (.cond (.t 29) (.seq (.reg [.q 4 (.mv (.i 0))]) .ret) .skip)) (.seq (.reg [.q 5 (.mv (.i 0))]) (.seq (.seq (.reg [.q 30 (.fa 3 (.t 2)),.l 31 (.ld1 (.t 30)),.q 32 (.lnL (.t 31)),.q 33 (.mv (.i 0))]) (.block 0 (.loop (.seq (.reg [.q 34 (.bin .lss true (.t 33) (.t 32))]) (.seq (.cond (.t 34) .skip (.exit 0)) (.seq (.block 1 (.seq (.reg [.l 35 (.ia 5 (.t 31) (.t 33)),.l 36 (.ldn 5 (.t 35)),.e 7 (.al (.agg #[(.int .i64 0),(.int .i64 0),(.string (mk [])),(.slice none 0 0),(.slice none 0 0)]) 32),.s (.st 5 (.t 7) (.t 36))]) (.seq (.reg [.v 37 5,.v 38 1,.q 39 (.bin .leq true (.t 37) (.t 38))]) (.cond (.t 39) (.reg [.v 40 5,.l 41 (.ldn 5 (.t 7)),.v 42 1,.q 43 (.bin .sub true (.t 42) (.i 1)),.a 44 (.cq 52 [(.t 41),(.t 43)]),.q 45 (.mx true (.t 40) (.t 44)),.v 5 45]) .skip)))) (.reg [.q 46 (.bin .add true (.t 33) (.i 1)),.v 33 46]))))))) (.seq (.seq (.reg [.q 47 (.fa 4 (.t 2)),.l 48 (.ld1 (.t 47)),.q 49 (.lnL (.t 48)),.q 50 (.mv (.i 0))]) (.block 2 (.loop (.seq (.reg [.q 51 (.bin .lss true (.t 50) (.t 49))]) (.seq (.cond (.t 51) .skip (.exit 2)) (.seq (.block 3 (.seq (.reg [.l 52 (.ia 6 (.t 48) (.t 50)),.l 53 (.ldn 6 (.t 52)),.e 9 (.al (.agg #[(.int .i64 0),(.int .i64 0),(.int .i64 0),(.string (mk [])),(.slice none 0 0),(.slice none 0 0)]) 57),.s (.st 6 (.t 9) (.t 53))]) (.seq (.reg [.v 54 5,.v 55 1,.q 56 (.bin .leq true (.t 54) (.t 55))]) (.cond (.t 56) (.reg [.v 57 5,.q 58 (.fa 1 (.t 9)),.l 59 (.ldn 5 (.t 58)),.v 60 1,.q 61 (.bin .sub true (.t 60) (.i 1)),.a 62 (.cq 52 [(.t 59),(.t 61)]),.q 63 (.mx true (.t 57) (.t 62)),.v 5 63]) .skip)))) (.reg [.q 64 (.bin .add true (.t 50) (.i 1)),.v 50 64]))))))) (.seq (.reg [.v 65 5,.q 66 (.bin .add true (.i 1) (.t 65)),.v 4 66]) .ret)))))
def W1:List RV:=[.mv (.t 4)]
theorem aRA:aM Tryz.prog true ⟨fun r k=>if r=8/\k=4 then .q else if r=14/\k=5 then .q else .own [],fun _=>false⟩ Tryz.f52=some (TV,W1):=by kernel_rfl
def yC:PC:=.seq (.reg [.e 3 (.bx 105 (.t 0)),.e 4 (.bx 28 (.t 1)),.e 5 (.bx 32 (.t 2)),.q 6 (.mv (.i 0))]) (.seq (.seq (.reg [.l 8 (.ldn 3 (.t 3)),.l 9 (.ldn 4 (.t 4)),.a 10 (.cq 90 [(.t 8),(.t 9)]),.q 11 (.not (.t 10)),.v 12 11,⟨some 13,(some (12,false)),.q (.fa 0 (.t 5))⟩,⟨some 14,(some (12,false)),.l (.ld1 (.t 13))⟩,⟨some 15,(some (12,false)),.q (.fa 0 (.t 4))⟩,⟨some 16,(some (12,false)),.l (.ld1 (.t 15))⟩,⟨some 17,(some (12,false)),.q (.bin .neq true (.t 14) (.t 16))⟩,.a 18 (.pick (.t 12) (.k (.bool true)) (.t 17))]) (.cond (.t 18) (.seq (.reg [.q 6 (.mv (.i 13))]) .ret) .skip)) (.seq (.reg [.l 19 (.ldn 3 (.t 3)),.q 20 (.mh 91 [(.t 19)]),.v 7 20]) (.seq (.seq (.reg [.q 21 (.fa 0 (.t 4)),.l 22 (.ld1 (.t 21))]) (.block 0 (.seq (.reg [.q 24 (.bin .eql true (.t 22) (.i 4)),.v 23 24]) (.cond (.t 23) (.reg [.l 25 (.ldn 3 (.t 3)),.q 26 (.mh 92 [(.t 25)]),.v 7 26]) (.seq (.reg [.q 28 (.bin .eql true (.t 22) (.i 5)),.v 27 28]) (.cond (.t 27) (.reg [.l 29 (.ldn 3 (.t 3)),.q 30 (.mh 93 [(.t 29)]),.v 7 30]) (.seq (.reg [.q 32 (.bin .eql true (.t 22) (.i 6)),.v 31 32]) (.cond (.t 31) (.reg [.l 33 (.ldn 3 (.t 3)),.q 34 (.mh 94 [(.t 33)]),.v 7 34]) .skip)))))))) (.seq (.reg [.v 35 7,.l 36 (.ldn 4 (.t 4)),.l 37 (.ldn 5 (.t 5)),.a 38 (.ca (.t 35) [(.t 36),(.t 37)] []),.v 6 38]) .ret))))
def yH:List RV:=[.mv (.t 6)]
theorem aOK:aM Tryz.prog true ⟨fun r k=>if r=1/\k=2 then .q else .own [],fun _=>false⟩ Tryz.f53=some (yC,yH):=by kernel_rfl
def aHS:PC:=.seq (.reg [.e 2 (.bx 25 (.t 0)),.e 3 (.bx 28 (.t 1)),.e 4 (.al (.agg #[(.int .i64 0),(.int .i64 0),(.string (mk [])),(.slice none 0 0),(.slice none 0 0)]) 32)]) (.seq (.reg [.l 5 (.ldn 3 (.t 2)),.q 6 (.bd [(.int .i64 0),(.slice none 0 0),(.slice none 0 0)] [(0,3,(.t 5))]),.l 7 (.ldn 4 (.t 3)),.a 8 (.cl 114 [(.t 6),(.t 7),(.i 22)] []),.s (.st 5 (.t 4) (.t 8))]) .ret)
def aG4:List RV:=[.ld (.ldn 5 (.t 4))]
theorem aRN:aM Tryz.prog true ⟨fun _ _=>.own [],fun _=>false⟩ Tryz.f71=some (aHS,aG4):=by kernel_rfl
def oM:PC:=.seq (.gh (.reg [.v 31 5,.v 32 31,⟨some 33,(some (32,true)),.q (.fa 1 (.t 3))⟩,⟨some 34,(some (32,true)),.l (.ld1 (.t 33))⟩,⟨some 35,(some (32,true)),.q (.bin .eql true (.t 34) (.i 8))⟩,⟨some 36,(some (32,true)),.q (.mv (.t 35))⟩,⟨some 37,(some (36,false)),.q (.fa 1 (.t 3))⟩,⟨some 38,(some (36,false)),.l (.ld1 (.t 37))⟩,⟨some 39,(some (36,false)),.q (.bin .eql true (.t 38) (.i 16))⟩,⟨some 40,(some (32,true)),.pick (.t 36) (.k (.bool true)) (.t 39)⟩,⟨some 41,(some (32,true)),.q (.mv (.t 40))⟩,⟨some 42,(some (41,false)),.q (.fa 1 (.t 3))⟩,⟨some 43,(some (41,false)),.l (.ld1 (.t 42))⟩,⟨some 44,(some (41,false)),.q (.bin .eql true (.t 43) (.i 32))⟩,⟨some 45,(some (32,true)),.pick (.t 41) (.k (.bool true)) (.t 44)⟩,⟨some 46,(some (32,true)),.q (.mv (.t 45))⟩,⟨some 47,(some (46,false)),.q (.fa 1 (.t 3))⟩,⟨some 48,(some (46,false)),.l (.ld1 (.t 47))⟩,⟨some 49,(some (46,false)),.q (.bin .eql true (.t 48) (.i 64))⟩,⟨some 50,(some (32,true)),.pick (.t 46) (.k (.bool true)) (.t 49)⟩,.a 51 (.pick (.t 32) (.t 50) (.k (.bool false))),.v 4 51])) .ret
@[go_sem ↓] theorem aR1:a8 oM:=bB _
def qT:PC:=.seq (.gh (.reg [.v 54 5,.v 55 54,⟨some 56,(some (55,true)),.q (.fa 1 (.t 3))⟩,⟨some 57,(some (55,true)),.l (.ld1 (.t 56))⟩,⟨some 58,(some (55,true)),.q (.bin .eql true (.t 57) (.i 8))⟩,⟨some 59,(some (55,true)),.q (.mv (.t 58))⟩,⟨some 60,(some (59,false)),.q (.fa 1 (.t 3))⟩,⟨some 61,(some (59,false)),.l (.ld1 (.t 60))⟩,⟨some 62,(some (59,false)),.q (.bin .eql true (.t 61) (.i 16))⟩,⟨some 63,(some (55,true)),.pick (.t 59) (.k (.bool true)) (.t 62)⟩,⟨some 64,(some (55,true)),.q (.mv (.t 63))⟩,⟨some 65,(some (64,false)),.q (.fa 1 (.t 3))⟩,⟨some 66,(some (64,false)),.l (.ld1 (.t 65))⟩,⟨some 67,(some (64,false)),.q (.bin .eql true (.t 66) (.i 32))⟩,⟨some 68,(some (55,true)),.pick (.t 64) (.k (.bool true)) (.t 67)⟩,.a 69 (.pick (.t 55) (.t 68) (.k (.bool false))),.v 4 69])) .ret
@[go_sem ↓] theorem aPM:a8 qT:=bB _
def lX:PC:=.seq (.gh (.reg [.q 85 (.fa 2 (.t 3)),.l 86 (.ld1 (.t 85)),.q 87 (.bin .eql true (.t 86) (.k (.string (mk [])))),.v 88 87,⟨some 89,(some (88,true)),.q (.fa 1 (.t 3))⟩,⟨some 90,(some (88,true)),.l (.ld1 (.t 89))⟩,⟨some 91,(some (88,true)),.q (.bin .geq true (.t 90) (.i 1))⟩,.a 92 (.pick (.t 88) (.t 91) (.k (.bool false))),.v 93 92,⟨some 94,(some (93,true)),.q (.fa 1 (.t 3))⟩,⟨some 95,(some (93,true)),.l (.ld1 (.t 94))⟩,⟨some 96,(some (93,true)),.q (.bin .leq true (.t 95) (.i 32))⟩,.a 97 (.pick (.t 93) (.t 96) (.k (.bool false))),.v 98 97,⟨some 99,(some (98,true)),.q (.fa 3 (.t 3))⟩,⟨some 100,(some (98,true)),.l (.ld1 (.t 99))⟩,⟨some 101,(some (98,true)),.q (.lnL (.t 100))⟩,⟨some 102,(some (98,true)),.q (.bin .eql true (.t 101) (.i 1))⟩,.a 103 (.pick (.t 98) (.t 102) (.k (.bool false))),.v 104 103,⟨some 105,(some (104,true)),.l (.ldn 3 (.t 2))⟩,⟨some 106,(some (104,true)),.q (.fa 3 (.t 3))⟩,⟨some 107,(some (104,true)),.l (.ld1 (.t 106))⟩,⟨some 108,(some (104,true)),.l (.ia 4 (.t 107) (.i 0))⟩,⟨some 109,(some (104,true)),.l (.ldn 4 (.t 108))⟩,⟨some 110,(some (104,true)),.cq 90 [(.t 105),(.t 109)]⟩,.a 111 (.pick (.t 104) (.t 110) (.k (.bool false))),.v 4 111])) .ret
@[go_sem ↓] theorem aMF:a8 lX:=bB _
def DJ:PC:=.seq (.gh (.reg [.v 122 7,.v 123 122,⟨some 124,(some (123,true)),.q (.fa 1 (.t 3))⟩,⟨some 125,(some (123,true)),.l (.ld1 (.t 124))⟩,⟨some 126,(some (123,true)),.q (.bin .eql true (.t 125) (.i 0))⟩,.a 127 (.pick (.t 123) (.t 126) (.k (.bool false))),.v 128 127,⟨some 129,(some (128,true)),.q (.fa 3 (.t 3))⟩,⟨some 130,(some (128,true)),.l (.ld1 (.t 129))⟩,⟨some 131,(some (128,true)),.q (.lnL (.t 130))⟩,⟨some 132,(some (128,true)),.q (.bin .eql true (.t 131) (.i 0))⟩,.a 133 (.pick (.t 128) (.t 132) (.k (.bool false))),.v 4 133])) .ret
@[go_sem ↓] theorem aL0:a8 DJ:=bB _
def C4:PC:=.seq (.gh (.reg [.q 115 (.fa 0 (.t 2)),.l 116 (.ldn 3 (.t 115)),.q 117 (.fa 2 (.t 3)),.l 118 (.ld1 (.t 117)),.a 119 (.cl 103 [(.t 116),(.t 118)] []),.v 114 119,.q 120 (.ex (.t 114) 0),.q 121 (.ex (.t 114) 1),.e 6 (.al (.agg #[(.string (mk [])),(.slice none 0 0)]) 95),.s (.st 2 (.t 6) (.t 120)),.v 7 121])) (DJ)
@[go_sem ↓] theorem aL8:a8 C4:=bB _
def CD:PC:=.seq (.gh (.reg [.v 144 9,.v 145 144,⟨some 146,(some (145,true)),.q (.fa 1 (.t 3))⟩,⟨some 147,(some (145,true)),.l (.ld1 (.t 146))⟩,⟨some 148,(some (145,true)),.q (.bin .eql true (.t 147) (.i 0))⟩,.a 149 (.pick (.t 145) (.t 148) (.k (.bool false))),.v 150 149,⟨some 151,(some (150,true)),.q (.fa 3 (.t 3))⟩,⟨some 152,(some (150,true)),.l (.ld1 (.t 151))⟩,⟨some 153,(some (150,true)),.q (.lnL (.t 152))⟩,⟨some 154,(some (150,true)),.q (.bin .eql true (.t 153) (.i 0))⟩,.a 155 (.pick (.t 150) (.t 154) (.k (.bool false))),.v 4 155])) .ret
@[go_sem ↓] theorem aMR:a8 CD:=bB _
def B9:PC:=.seq (.gh (.reg [.q 137 (.fa 0 (.t 2)),.l 138 (.ldn 3 (.t 137)),.q 139 (.fa 2 (.t 3)),.l 140 (.ld1 (.t 139)),.a 141 (.cl 98 [(.t 138),(.t 140)] []),.v 136 141,.q 142 (.ex (.t 136) 0),.q 143 (.ex (.t 136) 1),.e 8 (.al (.agg #[(.string (mk [])),(.slice none 0 0),(.slice none 0 0)]) 92),.s (.st 3 (.t 8) (.t 142)),.v 9 143])) (CD)
@[go_sem ↓] theorem aMD:a8 B9:=bB _
def DN:PC:=.seq (.gh (.reg [.q 135 (.bin .eql true (.t 20) (.i 7)),.v 134 135])) (.cond (.t 134) (B9) .skip)
@[go_sem ↓] theorem aL4:a8 DN:=bB _
def CM:PC:=.seq (.gh (.reg [.q 113 (.bin .eql true (.t 20) (.i 6)),.v 112 113])) (.cond (.t 112) (C4) (DN))
@[go_sem ↓] theorem aME:a8 CM:=bB _
def DO:PC:=.seq (.gh (.reg [.q 84 (.bin .eql true (.t 20) (.i 5)),.v 83 84])) (.cond (.t 83) (lX) (CM))
@[go_sem ↓] theorem aMW:a8 DO:=bB _
def HV:PC:=.seq (.gh (.reg [.q 71 (.bin .eql true (.t 20) (.i 4)),.v 70 71])) (.cond (.t 70) (.seq (.reg [.v 72 5,.v 73 72,⟨some 74,(some (73,true)),.q (.fa 1 (.t 3))⟩,⟨some 75,(some (73,true)),.l (.ld1 (.t 74))⟩,⟨some 76,(some (73,true)),.q (.bin .geq true (.t 75) (.i 1))⟩,.a 77 (.pick (.t 73) (.t 76) (.k (.bool false))),.v 78 77,⟨some 79,(some (78,true)),.q (.fa 1 (.t 3))⟩,⟨some 80,(some (78,true)),.l (.ld1 (.t 79))⟩,⟨some 81,(some (78,true)),.q (.bin .leq true (.t 80) (.i 2000))⟩,.a 82 (.pick (.t 78) (.t 81) (.k (.bool false))),.v 4 82]) .ret) (DO))
@[go_sem ↓] theorem aN5:a8 HV:=bB _
def I4:PC:=.seq (.gh (.reg [.q 53 (.bin .eql true (.t 20) (.i 3)),.v 52 53])) (.cond (.t 52) (qT) (HV))
@[go_sem ↓] theorem aNK:a8 I4:=bB _
def IC:PC:=.seq (.gh (.reg [.q 30 (.bin .eql true (.t 20) (.i 2)),.v 29 30])) (.cond (.t 29) (oM) (I4))
@[go_sem ↓] theorem aRE:a8 IC:=bB _
def aEZ:PC:=.seq (.reg [.e 2 (.bx 105 (.t 0)),.e 3 (.bx 28 (.t 1)),.q 4 (.mv (.k (.bool false)))]) (.seq (.reg [.q 10 (.fa 2 (.t 3)),.l 11 (.ld1 (.t 10)),.q 12 (.bin .eql true (.t 11) (.k (.string (mk [])))),.v 13 12,⟨some 14,(some (13,true)),.q (.fa 3 (.t 3))⟩,⟨some 15,(some (13,true)),.l (.ld1 (.t 14))⟩,⟨some 16,(some (13,true)),.q (.lnL (.t 15))⟩,⟨some 17,(some (13,true)),.q (.bin .eql true (.t 16) (.i 0))⟩,.a 18 (.pick (.t 13) (.t 17) (.k (.bool false))),.v 5 18]) (.seq (.seq (.reg [.q 19 (.fa 0 (.t 3)),.l 20 (.ld1 (.t 19))]) (.block 0 (.seq (.reg [.q 22 (.bin .eql true (.t 20) (.i 1)),.v 21 22]) (.cond (.t 21) (.seq (.reg [.v 23 5,.v 24 23,⟨some 25,(some (24,true)),.q (.fa 1 (.t 3))⟩,⟨some 26,(some (24,true)),.l (.ld1 (.t 25))⟩,⟨some 27,(some (24,true)),.q (.bin .eql true (.t 26) (.i 0))⟩,.a 28 (.pick (.t 24) (.t 27) (.k (.bool false))),.v 4 28]) .ret) (IC))))) (.seq (.reg [.q 4 (.mv (.k (.bool false)))]) .ret)))
def aEK:List RV:=[.mv (.t 4)]
theorem aP1:aM Tryz.prog true ⟨fun r k=>if r=12/\k=25 then .q else .own [],fun r=>[5,6,7,8,9,11,12,13,14,15,16,17,18].contains r⟩ Tryz.f90=some (aEZ,aEK):=by kernel_rfl
def HW:PC:=.gh (.reg [.q 29 (.fa 1 (.t 5)),.l 30 (.ld1 (.t 29)),.q 31 (.bin .eql true (.t 30) (.i 0)),.v 32 31,⟨some 33,(some (32,false)),.q (.fa 1 (.t 5))⟩,⟨some 34,(some (32,false)),.l (.ld1 (.t 33))⟩,⟨some 35,(some (32,false)),.q (.bin .eql true (.t 34) (.i 1))⟩,.a 36 (.pick (.t 32) (.k (.bool true)) (.t 35)),.v 7 36])
@[go_sem ↓] theorem aPH:a8 HW:=bB _
def AO:PC:=.gh (.reg [.q 39 (.fa 1 (.t 4)),.l 40 (.ld1 (.t 39)),.q 41 (.bin .eql true (.t 40) (.i 64)),.v 42 41,⟨some 43,(some (42,false)),.q (.fa 1 (.t 5))⟩,⟨some 44,(some (42,false)),.l (.ld1 (.t 43))⟩,⟨some 45,(some (42,false)),.q (.fa 1 (.t 4))⟩,⟨some 46,(some (42,false)),.l (.ld1 (.t 45))⟩,⟨some 47,(some (42,false)),.q (.bin .sub true (.t 46) (.i 1))⟩,⟨some 48,(some (42,false)),.q (.bin .shl true (.i (-1)) (.t 47))⟩,⟨some 49,(some (42,false)),.q (.bin .geq true (.t 44) (.t 48))⟩,⟨some 50,(some (42,false)),.q (.mv (.t 49))⟩,⟨some 51,(some (50,true)),.q (.fa 1 (.t 5))⟩,⟨some 52,(some (50,true)),.l (.ld1 (.t 51))⟩,⟨some 53,(some (50,true)),.q (.fa 1 (.t 4))⟩,⟨some 54,(some (50,true)),.l (.ld1 (.t 53))⟩,⟨some 55,(some (50,true)),.q (.bin .sub true (.t 54) (.i 1))⟩,⟨some 56,(some (50,true)),.q (.bin .shl true (.i 1) (.t 55))⟩,⟨some 57,(some (50,true)),.q (.bin .lss true (.t 52) (.t 56))⟩,⟨some 58,(some (42,false)),.pick (.t 50) (.t 57) (.k (.bool false))⟩,.a 59 (.pick (.t 42) (.k (.bool true)) (.t 58)),.v 7 59])
@[go_sem ↓] theorem aO8:a8 AO:=bB _
def DE:PC:=.gh (.reg [.q 62 (.fa 1 (.t 5)),.l 63 (.ld1 (.t 62)),.q 64 (.bin .geq true (.t 63) (.i 0)),.v 65 64,⟨some 66,(some (65,true)),.q (.fa 1 (.t 5))⟩,⟨some 67,(some (65,true)),.l (.ld1 (.t 66))⟩,⟨some 68,(some (65,true)),.q (.fa 1 (.t 4))⟩,⟨some 69,(some (65,true)),.l (.ld1 (.t 68))⟩,⟨some 70,(some (65,true)),.q (.bin .shl true (.i 1) (.t 69))⟩,⟨some 71,(some (65,true)),.q (.bin .lss true (.t 67) (.t 70))⟩,.a 72 (.pick (.t 65) (.t 71) (.k (.bool false))),.v 7 72])
@[go_sem ↓] theorem aL3:a8 DE:=bB _
def DR:PC:=.gh (.reg [.q 83 (.fa 2 (.t 8)),.l 84 (.ld1 (.t 83)),.q 85 (.mf 118 [(.t 5)]),.a 86 (.cl 117 [(.t 84),(.t 85)] [2]),.v 7 86])
@[go_sem ↓] theorem aMH:a8 DR:=bB _
def DK:PC:=.seq (.gh (.reg [.q 76 (.fa 0 (.t 3)),.l 77 (.ldn 3 (.t 76)),.q 78 (.fa 2 (.t 4)),.l 79 (.ld1 (.t 78)),.a 80 (.cl 98 [(.t 77),(.t 79)] []),.v 75 80,.q 81 (.ex (.t 75) 0),.q 82 (.ex (.t 75) 1),.e 8 (.al (.agg #[(.string (mk [])),(.slice none 0 0),(.slice none 0 0)]) 92),.s (.st 3 (.t 8) (.t 81)),.v 9 82])) (DR)
@[go_sem ↓] theorem aMO:a8 DK:=bB _
def CI:PC:=.seq (.gh (.reg [.q 74 (.bin .eql true (.t 26) (.i 7)),.v 73 74])) (.cond (.t 73) (DK) .skip)
@[go_sem ↓] theorem aMA:a8 CI:=bB _
def HZ:PC:=.seq (.gh (.reg [.q 61 (.bin .eql true (.t 26) (.i 3)),.v 60 61])) (.cond (.t 60) (DE) (CI))
@[go_sem ↓] theorem aPT:a8 HZ:=bB _
def KY:PC:=.seq (.gh (.reg [.q 38 (.bin .eql true (.t 26) (.i 2)),.v 37 38])) (.cond (.t 37) (AO) (HZ))
@[go_sem ↓] theorem aRU:a8 KY:=bB _
def kO:PC:=.seq (.seq (.gh (.reg [.v 87 7,.q 88 (.not (.t 87))])) (.cond (.t 88) (.seq (.reg [.q 6 (.mv (.i 4))]) .ret) .skip)) (.seq (.reg [.q 6 (.mv (.i 0))]) .ret)
@[go_sem ↓] theorem aL5:a8 kO:=bB _
def HU:PC:=.seq (.reg [.e 3 (.bx 105 (.t 0)),.e 4 (.bx 28 (.t 1)),.e 5 (.bx 32 (.t 2)),.q 6 (.mv (.i 0))]) (.seq (.seq (.reg [.q 10 (.fa 2 (.t 5)),.l 11 (.ld1 (.t 10)),.q 12 (.bin .neq true (.t 11) (.k (.string (mk [])))),.v 13 12,⟨some 14,(some (13,false)),.q (.fa 3 (.t 5))⟩,⟨some 15,(some (13,false)),.l (.ld1 (.t 14))⟩,⟨some 16,(some (13,false)),.q (.lnL (.t 15))⟩,⟨some 17,(some (13,false)),.q (.bin .gtr true (.t 16) (.i 0))⟩,.a 18 (.pick (.t 13) (.k (.bool true)) (.t 17)),.v 19 18,⟨some 20,(some (19,false)),.q (.fa 4 (.t 5))⟩,⟨some 21,(some (19,false)),.l (.ld1 (.t 20))⟩,⟨some 22,(some (19,false)),.q (.lnL (.t 21))⟩,⟨some 23,(some (19,false)),.q (.bin .gtr true (.t 22) (.i 0))⟩,.a 24 (.pick (.t 19) (.k (.bool true)) (.t 23))]) (.cond (.t 24) (.seq (.reg [.q 6 (.mv (.i 13))]) .ret) .skip)) (.seq (.reg [.q 7 (.mv (.k (.bool false)))]) (.seq (.seq (.reg [.q 25 (.fa 0 (.t 4)),.l 26 (.ld1 (.t 25))]) (.block 0 (.seq (.reg [.q 28 (.bin .eql true (.t 26) (.i 1)),.v 27 28]) (.cond (.t 27) (HW) (KY))))) (kO))))
def JS:List RV:=[.mv (.t 6)]
theorem aOR:aM Tryz.prog true ⟨fun r k=>if r=13/\k=3 then .own [2] else .own [],fun r=>[7,9,11,12,14,6,8,10,13].contains r⟩ Tryz.f91=some (HU,JS):=by kernel_rfl
def aHB:PC:=.seq (.reg [.e 3 (.bx 105 (.t 0)),.e 4 (.bx 28 (.t 1)),.e 5 (.bx 32 (.t 2)),.q 6 (.mv (.i 0))]) (.seq (.block 0 (.seq (.reg [.q 8 (.fa 1 (.t 5)),.l 9 (.ld1 (.t 8)),.q 10 (.bin .neq true (.t 9) (.i 0)),.v 11 10,⟨some 12,(some (11,false)),.q (.fa 3 (.t 5))⟩,⟨some 13,(some (11,false)),.l (.ld1 (.t 12))⟩,⟨some 14,(some (11,false)),.q (.lnL (.t 13))⟩,⟨some 15,(some (11,false)),.q (.bin .gtr true (.t 14) (.i 0))⟩,.a 16 (.pick (.t 11) (.k (.bool true)) (.t 15)),.v 17 16,⟨some 18,(some (17,false)),.q (.fa 4 (.t 5))⟩,⟨some 19,(some (17,false)),.l (.ld1 (.t 18))⟩,⟨some 20,(some (17,false)),.q (.lnL (.t 19))⟩,⟨some 21,(some (17,false)),.q (.bin .gtr true (.t 20) (.i 0))⟩,.a 22 (.pick (.t 17) (.k (.bool true)) (.t 21)),.v 7 22]) (.cond (.t 7) (.seq (.reg [.q 6 (.mv (.i 13))]) .ret) (.seq (.reg [.q 24 (.fa 2 (.t 5)),.l 25 (.ld1 (.t 24)),.q 26 (.lnS (.t 25)),.q 27 (.fa 1 (.t 4)),.l 28 (.ld1 (.t 27)),.q 29 (.bin .gtr true (.t 26) (.t 28)),.v 23 29]) (.cond (.t 23) (.seq (.reg [.q 6 (.mv (.i 3))]) .ret) .skip))))) (.seq (.reg [.q 6 (.mv (.i 0))]) .ret))
def aED:List RV:=[.mv (.t 6)]
theorem aRK:aM Tryz.prog true ⟨fun _ _=>.own [],fun _=>false⟩ Tryz.f92=some (aHB,aED):=by kernel_rfl
def PH:PC:=.seq (.reg [.e 3 (.bx 105 (.t 0)),.e 4 (.bx 28 (.t 1)),.e 5 (.bx 32 (.t 2)),.q 6 (.mv (.i 0))]) (.seq (.block 0 (.seq (.reg [.q 11 (.fa 1 (.t 5)),.l 12 (.ld1 (.t 11)),.q 13 (.bin .neq true (.t 12) (.i 0)),.v 14 13,⟨some 15,(some (14,false)),.q (.fa 2 (.t 5))⟩,⟨some 16,(some (14,false)),.l (.ld1 (.t 15))⟩,⟨some 17,(some (14,false)),.q (.bin .neq true (.t 16) (.k (.string (mk []))))⟩,.a 18 (.pick (.t 14) (.k (.bool true)) (.t 17)),.v 19 18,⟨some 20,(some (19,false)),.q (.fa 4 (.t 5))⟩,⟨some 21,(some (19,false)),.l (.ld1 (.t 20))⟩,⟨some 22,(some (19,false)),.q (.lnL (.t 21))⟩,⟨some 23,(some (19,false)),.q (.bin .gtr true (.t 22) (.i 0))⟩,.a 24 (.pick (.t 19) (.k (.bool true)) (.t 23)),.v 10 24]) (.cond (.t 10) (.seq (.reg [.q 6 (.mv (.i 13))]) .ret) (.seq (.reg [.q 26 (.fa 3 (.t 5)),.l 27 (.ld1 (.t 26)),.q 28 (.lnL (.t 27)),.q 29 (.fa 1 (.t 4)),.l 30 (.ld1 (.t 29)),.q 31 (.bin .gtr true (.t 28) (.t 30)),.v 25 31]) (.cond (.t 25) (.seq (.reg [.q 6 (.mv (.i 3))]) .ret) .skip))))) (.seq (.seq (.reg [.q 32 (.fa 3 (.t 5)),.l 33 (.ld1 (.t 32)),.q 34 (.lnL (.t 33)),.q 35 (.mv (.i 0))]) (.block 1 (.loop (.seq (.reg [.q 36 (.bin .lss true (.t 35) (.t 34))]) (.seq (.cond (.t 36) .skip (.exit 1)) (.seq (.block 2 (.seq (.reg [.l 37 (.ia 5 (.t 33) (.t 35)),.l 38 (.ldn 5 (.t 37)),.e 8 (.al (.agg #[(.int .i64 0),(.int .i64 0),(.string (mk [])),(.slice none 0 0),(.slice none 0 0)]) 32),.s (.st 5 (.t 8) (.t 38))]) (.seq (.reg [.l 39 (.ldn 3 (.t 3)),.q 40 (.fa 3 (.t 4)),.l 41 (.ld1 (.t 40)),.l 42 (.ia 4 (.t 41) (.i 0)),.l 43 (.ldn 4 (.t 42)),.l 44 (.ldn 5 (.t 8)),.a 45 (.cq 53 [(.t 39),(.t 43),(.t 44)]),.v 9 45]) (.seq (.reg [.v 46 9,.q 47 (.bin .neq true (.t 46) (.i 0))]) (.cond (.t 47) (.seq (.reg [.v 48 9,.v 6 48]) .ret) .skip))))) (.reg [.q 49 (.bin .add true (.t 35) (.i 1)),.v 35 49]))))))) (.seq (.reg [.q 6 (.mv (.i 0))]) .ret)))
def O3:List RV:=[.mv (.t 6)]
theorem aPW:aM Tryz.prog true ⟨fun r k=>if r=8/\k=6 then .q else .own [],fun _=>false⟩ Tryz.f93=some (PH,O3):=by kernel_rfl
def BO:PC:=.seq (.gh (.reg [.v 63 13,.q 64 (.bin .neq true (.t 63) (.i 0))])) (.cond (.t 64) (.seq (.reg [.v 65 13,.v 6 65]) .ret) .skip)
@[go_sem ↓] theorem aQ7:a8 BO:=bB _
def HE:PC:=.seq (.gh (.reg [.l 57 (.ldn 3 (.t 3)),.q 58 (.fa 2 (.t 11)),.l 59 (.ldn 4 (.t 58)),.q 60 (.fa 1 (.t 10)),.l 61 (.ldn 5 (.t 60)),.a 62 (.cq 53 [(.t 57),(.t 59),(.t 61)]),.v 13 62])) (BO)
@[go_sem ↓] theorem aRC:a8 HE:=bB _
def JK:PC:=.seq (.gh (.reg [.l 51 (.ldn 2 (.t 7)),.q 52 (.fa 0 (.t 10)),.l 53 (.ld1 (.t 52)),.a 54 (.cl 104 [(.t 51),(.t 53)] []),.v 50 54,.q 55 (.ex (.t 50) 0),.q 56 (.ex (.t 50) 1),.e 11 (.al (.agg #[(.int .i64 0),(.string (mk [])),(.int .i64 0),(.int .i64 0),(.string (mk [])),(.slice none 0 0),(.bool false)]) 97),.s (.st 7 (.t 11) (.t 55)),.v 12 56])) (HE)
@[go_sem ↓] theorem aN3:a8 JK:=bB _
def z8:PC:=.seq (.seq (.gh (.reg [.q 22 (.fa 1 (.t 5)),.l 23 (.ld1 (.t 22)),.q 24 (.bin .neq true (.t 23) (.i 0)),.v 25 24,⟨some 26,(some (25,false)),.q (.fa 2 (.t 5))⟩,⟨some 27,(some (25,false)),.l (.ld1 (.t 26))⟩,⟨some 28,(some (25,false)),.q (.bin .neq true (.t 27) (.k (.string (mk []))))⟩,.a 29 (.pick (.t 25) (.k (.bool true)) (.t 28)),.v 30 29,⟨some 31,(some (30,false)),.q (.fa 3 (.t 5))⟩,⟨some 32,(some (30,false)),.l (.ld1 (.t 31))⟩,⟨some 33,(some (30,false)),.q (.lnL (.t 32))⟩,⟨some 34,(some (30,false)),.q (.bin .gtr true (.t 33) (.i 0))⟩,.a 35 (.pick (.t 30) (.k (.bool true)) (.t 34)),.v 36 35,⟨some 37,(some (36,false)),.l (.ldn 2 (.t 7))⟩,⟨some 38,(some (36,false)),.q (.fa 4 (.t 5))⟩,⟨some 39,(some (36,false)),.l (.ld1 (.t 38))⟩,⟨some 40,(some (36,false)),.cq 119 [(.t 37),(.t 39)]⟩,⟨some 41,(some (36,false)),.q (.not (.t 40))⟩,.a 42 (.pick (.t 36) (.k (.bool true)) (.t 41))])) (.cond (.t 42) (.seq (.reg [.q 6 (.mv (.i 13))]) .ret) .skip)) (.seq (.seq (.reg [.q 43 (.fa 4 (.t 5)),.l 44 (.ld1 (.t 43)),.q 45 (.lnL (.t 44)),.q 46 (.mv (.i 0))]) (.block 0 (.loop (.seq (.reg [.q 47 (.bin .lss true (.t 46) (.t 45))]) (.seq (.cond (.t 47) .skip (.exit 0)) (.seq (.block 1 (.seq (.reg [.l 48 (.ia 6 (.t 44) (.t 46)),.l 49 (.ldn 6 (.t 48)),.e 10 (.al (.agg #[(.int .i64 0),(.int .i64 0),(.int .i64 0),(.string (mk [])),(.slice none 0 0),(.slice none 0 0)]) 57),.s (.st 6 (.t 10) (.t 49))]) (JK))) (.reg [.q 66 (.bin .add true (.t 46) (.i 1)),.v 46 66]))))))) (.seq (.reg [.q 6 (.mv (.i 0))]) .ret))
@[go_sem ↓] theorem aQG:a8 z8:=bB _
def aIC:PC:=.seq (.reg [.e 3 (.bx 105 (.t 0)),.e 4 (.bx 28 (.t 1)),.e 5 (.bx 32 (.t 2)),.q 6 (.mv (.i 0))]) (.seq (.reg [.q 15 (.fa 0 (.t 3)),.l 16 (.ldn 3 (.t 15)),.q 17 (.fa 2 (.t 4)),.l 18 (.ld1 (.t 17)),.a 19 (.cl 103 [(.t 16),(.t 18)] []),.v 14 19,.q 20 (.ex (.t 14) 0),.q 21 (.ex (.t 14) 1),.e 7 (.al (.agg #[(.string (mk [])),(.slice none 0 0)]) 95),.s (.st 2 (.t 7) (.t 20)),.v 8 21]) (z8))
def aEJ:List RV:=[.mv (.t 6)]
theorem aN0:aM Tryz.prog true ⟨fun r k=>if r=2/\k=18 then .q else if r=8/\k=5 then .q else .own [],fun r=>[2,7,8,9].contains r⟩ Tryz.f94=some (aIC,aEJ):=by kernel_rfl
def zR:PC:=.seq (.reg [.e 3 (.bx 105 (.t 0)),.e 4 (.bx 28 (.t 1)),.e 6 (.al (.agg #[(.int .i64 0),(.int .i64 0),(.string (mk [])),(.slice none 0 0),(.slice none 0 0)]) 32)]) (.seq (.seq (.reg [.v 12 2,.q 13 (.bin .lss true (.t 12) (.i 0)),.v 14 13,⟨some 15,(some (14,false)),.l (.ldn 3 (.t 3))⟩,⟨some 16,(some (14,false)),.l (.ldn 4 (.t 4))⟩,⟨some 17,(some (14,false)),.cq 90 [(.t 15),(.t 16)]⟩,⟨some 18,(some (14,false)),.q (.not (.t 17))⟩,.a 19 (.pick (.t 14) (.k (.bool true)) (.t 18))]) (.cond (.t 19) (.seq (.reg [.q 20 (.bd [(.int .i64 0),(.int .i64 0),(.string (mk [])),(.slice none 0 0),(.slice none 0 0)] []),.s (.st 5 (.t 6) (.t 20))]) .ret) .skip)) (.seq (.reg [.q 21 (.fa 0 (.t 4)),.l 22 (.ld1 (.t 21)),.q 23 (.bd [(.int .i64 0),(.int .i64 0),(.string (mk [])),(.slice none 0 0),(.slice none 0 0)] [(0,1,(.t 22))]),.e 7 (.al (.agg #[(.int .i64 0),(.int .i64 0),(.string (mk [])),(.slice none 0 0),(.slice none 0 0)]) 32),.s (.st 5 (.t 7) (.t 23))]) (.seq (.seq (.reg [.q 24 (.fa 0 (.t 4)),.l 25 (.ld1 (.t 24)),.q 26 (.bin .neq true (.t 25) (.i 6))]) (.cond (.t 26) (.seq (.reg [.l 27 (.ldn 5 (.t 7)),.s (.st 5 (.t 6) (.t 27))]) .ret) .skip)) (.seq (.reg [.q 29 (.fa 0 (.t 3)),.l 30 (.ldn 3 (.t 29)),.q 31 (.fa 2 (.t 4)),.l 32 (.ld1 (.t 31)),.a 33 (.cl 103 [(.t 30),(.t 32)] []),.v 28 33,.q 34 (.ex (.t 28) 0),.q 35 (.ex (.t 28) 1),.e 8 (.al (.agg #[(.string (mk [])),(.slice none 0 0)]) 95),.s (.st 2 (.t 8) (.t 34)),.v 9 35]) (.seq (.seq (.reg [.q 36 (.fa 1 (.t 8)),.l 37 (.ld1 (.t 36)),.q 38 (.lnL (.t 37)),.q 39 (.mv (.i 0))]) (.block 0 (.loop (.seq (.reg [.q 40 (.bin .lss true (.t 39) (.t 38))]) (.seq (.cond (.t 40) .skip (.exit 0)) (.seq (.block 1 (.seq (.reg [.l 41 (.ia 7 (.t 37) (.t 39)),.l 42 (.ldn 7 (.t 41)),.e 11 (.al (.agg #[(.int .i64 0),(.string (mk [])),(.int .i64 0),(.int .i64 0),(.string (mk [])),(.slice none 0 0),(.bool false)]) 97),.s (.st 7 (.t 11) (.t 42))]) (.seq (.reg [.q 43 (.fa 6 (.t 11)),.l 44 (.ld1 (.t 43)),.q 45 (.not (.t 44))]) (.cond (.t 45) (.ord  [.q (.q 46 (.fa 4 (.t 7))),.q (.l 47 (.ld1 (.t 46))),.q (.q 48 (.fa 0 (.t 11))),.q (.l 49 (.ld1 (.t 48))),.q (.l 50 (.ldn 3 (.t 3))),.q (.q 51 (.fa 2 (.t 11))),.q (.l 52 (.ldn 4 (.t 51))),.q (.v 53 2),.q (.q 54 (.bin .sub true (.t 53) (.i 1))),.m (.a 55 (.cl 114 [(.t 50),(.t 52),(.t 54)] [])),.rc (.q 46 (.fa 4 (.t 7))),.rc (.l 47 (.ld1 (.t 46))),.rc (.q 48 (.fa 0 (.t 11))),.rc (.l 49 (.ld1 (.t 48))),.q (.q 56 (.bd [(.int .i64 0),(.int .i64 0),(.int .i64 0),(.string (mk [])),(.slice none 0 0),(.slice none 0 0)] [(0,1,(.t 49)),(1,5,(.t 55))])),.m (.e 57 (.bsl 57 6 [(.t 56)])),.rc (.q 46 (.fa 4 (.t 7))),.rc (.l 47 (.ld1 (.t 46))),.m (.e 58 (.ap 57 6 88 (.t 47) (.t 57))),.q (.q 59 (.fa 4 (.t 7))),.m (.s (.st 1 (.t 59) (.t 58)))]) .skip)))) (.reg [.q 60 (.bin .add true (.t 39) (.i 1)),.v 39 60]))))))) (.seq (.reg [.l 61 (.ldn 5 (.t 7)),.s (.st 5 (.t 6) (.t 61))]) .ret))))))
def AG:List RV:=[.ld (.ldn 5 (.t 6))]
theorem aLH:aM Tryz.prog true ⟨fun r k=>if r=1/\k=5 then .q else .own [],fun _=>false⟩ Tryz.f114=some (zR,AG):=by kernel_rfl
def XL:PC:=.seq (.reg [.q 3 (.mv (.k (.bool false)))]) (.seq (.reg [.v 4 0,.q 5 (.fa 1 (.t 1)),.l 6 (.ld1 (.t 5)),.q 7 (.bin .eql true (.t 4) (.t 6)),.v 3 7]) .ret)
def ZQ:List RV:=[.mv (.t 3)]
theorem aKH:aM Tryz.prog true ⟨fun _ _=>.own [],fun _=>false⟩ Tryz.f118=some (XL,ZQ):=by kernel_rfl
def nY:PC:=.seq (.gh (.reg [.v 25 8,.q 26 (.not (.t 25)),.v 27 26,⟨some 28,(some (27,false)),.q (.mv (.t 5))⟩,⟨some 29,(some (27,false)),.q (.bin .gtr true (.t 28) (.i 0))⟩,⟨some 30,(some (27,false)),.q (.mv (.t 29))⟩,⟨some 31,(some (30,true)),.q (.mv (.t 1))⟩,⟨some 32,(some (30,true)),.q (.mv (.t 5))⟩,⟨some 33,(some (30,true)),.q (.bin .sub true (.t 32) (.i 1))⟩,⟨some 34,(some (30,true)),.l (.ia 6 (.t 31) (.t 33))⟩,⟨some 35,(some (30,true)),.q (.fa 0 (.t 34))⟩,⟨some 36,(some (30,true)),.l (.ld1 (.t 35))⟩,⟨some 37,(some (30,true)),.q (.fa 0 (.t 6))⟩,⟨some 38,(some (30,true)),.l (.ld1 (.t 37))⟩,⟨some 39,(some (30,true)),.q (.bin .geq true (.t 36) (.t 38))⟩,⟨some 40,(some (27,false)),.pick (.t 30) (.t 39) (.k (.bool false))⟩,.a 41 (.pick (.t 27) (.k (.bool true)) (.t 40))])) (.cond (.t 41) (.seq (.reg [.q 4 (.mv (.k (.bool false)))]) .ret) .skip)
@[go_sem ↓] theorem aMS:a8 nY:=bB _
def DA:PC:=.seq (.gh (.reg [.l 19 (.ldn 2 (.t 2)),.q 20 (.fa 0 (.t 6)),.l 21 (.ld1 (.t 20)),.a 22 (.cl 104 [(.t 19),(.t 21)] []),.v 18 22,.q 23 (.ex (.t 18) 0),.q 24 (.ex (.t 18) 1),.e 7 (.al (.agg #[(.int .i64 0),(.string (mk [])),(.int .i64 0),(.int .i64 0),(.string (mk [])),(.slice none 0 0),(.bool false)]) 97),.s (.st 7 (.t 7) (.t 23)),.v 8 24])) (nY)
@[go_sem ↓] theorem aMU:a8 DA:=bB _
def sC:PC:=.seq (.gh (.reg [.q 50 (.fa 6 (.t 10)),.l 51 (.ld1 (.t 50)),.q 52 (.not (.t 51)),.v 53 52,⟨some 54,(some (53,true)),.q (.mv (.t 1))⟩,⟨some 55,(some (53,true)),.q (.mf 142 [(.t 10)])⟩,⟨some 56,(some (53,true)),.cl 141 [(.t 54),(.t 55)] [1]⟩,⟨some 57,(some (53,true)),.q (.not (.t 56))⟩,.a 58 (.pick (.t 53) (.t 57) (.k (.bool false)))])) (.cond (.t 58) (.seq (.reg [.q 4 (.mv (.k (.bool false)))]) .ret) .skip)
@[go_sem ↓] theorem aJH:a8 sC:=bB _
def B5:PC:=.seq (.seq (.gh (.reg [.q 43 (.fa 1 (.t 2)),.l 44 (.ld1 (.t 43)),.q 45 (.lnL (.t 44)),.q 46 (.mv (.i 0))])) (.block 2 (.loop (.seq (.reg [.q 47 (.bin .lss true (.t 46) (.t 45))]) (.seq (.cond (.t 47) .skip (.exit 2)) (.seq (.block 3 (.seq (.reg [.l 48 (.ia 7 (.t 44) (.t 46)),.l 49 (.ldn 7 (.t 48)),.e 10 (.al (.agg #[(.int .i64 0),(.string (mk [])),(.int .i64 0),(.int .i64 0),(.string (mk [])),(.slice none 0 0),(.bool false)]) 97),.s (.st 7 (.t 10) (.t 49))]) (sC))) (.reg [.q 59 (.bin .add true (.t 46) (.i 1)),.v 46 59]))))))) (.seq (.reg [.q 4 (.mv (.k (.bool true)))]) .ret)
@[go_sem ↓] theorem aMB:a8 B5:=bB _
def aAG:PC:=.seq (.reg [.e 2 (.bx 95 (.t 0)),.q 4 (.mv (.k (.bool false)))]) (.seq (.seq (.reg [.v 11 1,.q 12 (.lnL (.t 11)),.q 13 (.mv (.i 0))]) (.block 0 (.loop (.seq (.reg [.q 14 (.bin .lss true (.t 13) (.t 12))]) (.seq (.cond (.t 14) .skip (.exit 0)) (.seq (.block 1 (.seq (.reg [.v 15 13,.l 16 (.ia 6 (.t 11) (.t 13)),.l 17 (.ldn 6 (.t 16)),.e 6 (.al (.agg #[(.int .i64 0),(.int .i64 0),(.int .i64 0),(.string (mk [])),(.slice none 0 0),(.slice none 0 0)]) 57),.v 5 15,.s (.st 6 (.t 6) (.t 17))]) (DA))) (.reg [.q 42 (.bin .add true (.t 13) (.i 1)),.v 13 42]))))))) (B5))
def Z0:List RV:=[.mv (.t 4)]
theorem aLS:aM Tryz.prog true ⟨fun r k=>if r=11/\k=6 then .own [1] else .own [],fun r=>[4,5,8,11].contains r⟩ Tryz.f119=some (aAG,Z0):=by kernel_rfl
def aAW:PC:=.seq (.reg [.e 2 (.bx 57 (.t 0)),.q 3 (.mv (.k (.bool false)))]) (.seq (.reg [.q 4 (.fa 0 (.t 2)),.l 5 (.ld1 (.t 4)),.q 6 (.fa 0 (.t 1)),.l 7 (.ld1 (.t 6)),.q 8 (.bin .eql true (.t 5) (.t 7)),.v 3 8]) .ret)
def ZW:List RV:=[.mv (.t 3)]
theorem aJ2:aM Tryz.prog true ⟨fun _ _=>.own [],fun _=>false⟩ Tryz.f142=some (aAW,ZW):=by kernel_rfl
def mD (v:Vl):Bool:=(v.k != 5) && (v.k != 6) && ((v.l.length:Int) == 0) && ((v.f.length:Int) == 0)
def mT (g:Vl->Int) (most:Int) (d:Int) (x:Vl):Int:=bif decide (d<=most) then max d (g x) else d
def qM (g:Vl->Int) (most:Int) (d:Int) (x:Int × Vl):Int:=bif decide (d<=most) then max d (g x.2) else d
def KC (g:Vl->Int) (most:Int) (v:Vl):Int:=bif mD v then 0 else 1 + v.f.foldl (qM g most) (v.l.foldl (mT g most) 0)
def s4:Nat->Vl->Int
 | 0=>KC (fun _=>0) (-1)
 | n + 1=>KC (s4 n) n
def jK:Nat->Vl->Int
 | 0=>fun _=>0
 | n + 1=>s4 n
theorem A9 (n:Nat):s4 n=KC (jK n) ((n:Int) - 1):=by
 cases n with
 | zero=>rfl
 | succ n=>rw [s4,jK]; congr 1; omega
theorem I6 {g:Vl->Int} {most B:Int} (hg:∀ x,0<=g x/\g x<=B) {d:Int} (h:0<=d/\d<=B) (x:Vl):0<=mT g most d x/\mT g most d x<=B:=by
 unfold mT
 cases decide (d<=most)
 · exact h
 · have:=hg x; show 0<=max d (g x)/\max d (g x)<=B; omega
theorem R8 {g:Vl->Int} {most B:Int} (hg:∀ x,0<=g x/\g x<=B) {d:Int} (h:0<=d/\d<=B) (x:Int × Vl):0<=qM g most d x/\qM g most d x<=B:=I6 hg h x.2
theorem qR {α:Type} {f:Int->α->Int} {B:Int} (h:∀ d x,0<=d/\d<=B->0<=f d x/\f d x<=B):∀ (l:List α) (d:Int),0<=d/\d<=B->0<=l.foldl f d/\l.foldl f d<=B
 | [],_,hd=>hd
 | x :: l,d,hd=>qR h l (f d x) (h d x hd)
theorem qS:∀ (n:Nat) (x:Vl),0<=jK n x/\jK n x<=n
 | 0,_=>⟨Int.le_refl _,Int.le_refl _⟩
 | n + 1,x=>by
  rw [jK,A9]
  unfold KC
  have h1:=qR (f:=mT (jK n) ((n:Int) - 1)) (fun d x h=>I6 (qS n) h x) x.l 0 ⟨Int.le_refl _,by omega⟩
  have h2:=qR (f:=qM (jK n) ((n:Int) - 1)) (fun d x h=>R8 (qS n) h x) x.f _ h1
  cases mD x
  · show 0<=1 + _/\1 + _<=_; omega
  · show (0:Int)<=0/\(0:Int)<=_; omega
theorem E6 {α β:Type} {f:β->α->β} {l:List α} {i:Nat} {x:α} (h:l[i]? = some x) (d:β):(l.take (i + 1)).foldl f d=f ((l.take i).foldl f d) x:=by rw [gQ h,List.foldl_append]; rfl
def A6 (n:Nat):List S->Prop:=fun av=>match av with
 | [.va (.gs r),.va (.c1 (.vl (.int .i64 k)))]=>0 < n/\DC r/\k=(n:Int) - 2/\n<=100
 | _=>False
theorem mB {n:Nat} {av:List S} (h:A6 n av):∃ m v,n=m + 1/\av=[.va (.gs (bK v)),iS .i64 ((m:Int) - 1)]/\VlOk v/\m<=99:=by
 unfold A6 at h
 split at h
 · obtain ⟨h0,⟨v,rfl,hv⟩,rfl,hn⟩:=h
   refine ⟨n - 1,v,by omega,?_,hv,by omega⟩
   rw [show (n:Int) - 2=((n - 1:Nat):Int) - 1 by omega]
 · exact h.elim
noncomputable def Q6 (n:Nat):List S->A:=fun av=>match av with
 | [.va (.gs r),.va (.c1 (.vl (.int .i64 _)))]=>iA .i64 (jK n (C.vv r))
 | _=>.gs []
noncomputable def GF (n:Nat):Fun:=⟨A6 n,Q6 n,fun av h=>by obtain ⟨m,v,_,rfl,_⟩:=mB h; trivial⟩
theorem RX {n:Nat}:∀ av H K,(GF n).sp av H K->av.length=2:=fun av H K h=>by obtain ⟨m,v,_,rfl,_⟩:=mB h.1.1; rfl
attribute [go_sem] GF A6 Q6
theorem NP:∀ n,Meets Tryz.prog 52 (GF n).sp
 | 0=>⟨by kernel_rfl,by rintro xs vs E ro w K _ _ _ ⟨⟨h,_⟩,_⟩; obtain ⟨m,_,h,_⟩:=mB h; omega⟩
 | n + 1=>by
  refine aE Tryz.func52 aRA 2 (by rw [Tryz.ntmps52]; decide) (aH (NP n) (aA _)) RX ?_
  rintro av H K ⟨⟨h,rfl⟩,hK⟩
  obtain ⟨m,v,hm,rfl,hv,hm99⟩:=mB h
  obtain rfl:m=n:=by omega
  have hK:K (iS .i64 (s4 m v)) []:=by
   have:(GF (m + 1)).val [.va (.gs (bK v)),iS .i64 ((m:Int) - 1)]=iA .i64 (s4 m v):=by simp -dsimp only [go_sem,jK]
   rw [this] at hK; exact hK
  clear h hm
  rw [A9] at hK
  unfold KC at hK
  have hll:=hv.ll
  have hlf:=hv.lf
  have bd1:=fun i=>qR (f:=mT (jK m) ((m:Int) - 1)) (fun d x h=>I6 (qS m) h x) (v.l.take i) 0 ⟨Int.le_refl _,by omega⟩
  have fin:∀ (z:Int) (R:Hp),(bif mD v then 0 else 1 + v.f.foldl (qM (jK m) ((m:Int) - 1)) (v.l.foldl (mT (jK m) ((m:Int) - 1)) 0))=z->W.Fin 0 K (iS .i64 z) R:=fun z R h=>by
   rw [h] at hK; exact .sel [] (by simp) (by simp) rfl (.done (by simpa [go_sem] using hK))
  clear hK
  cases hsc:mD v with
  | true=>
   have hs':=hsc
   unfold mD at hs'
   simp (maxSteps:=1000000) -dsimp only [go_sem,aX v,TV,W1,hs']
   exact fin _ _ (by rw [hsc]; rfl)
  | false=>
   have hs':=hsc
   unfold mD at hs'
   rw [hsc] at fin
   simp (maxSteps:=1000000) -dsimp only [go_sem,aX v,TV,W1,hs']
   refine aL (α:=Nat) (fun i=>[(1,iS .i64 ((m:Int) - 1)),(2,.va (.c1 (.pt 0 0))),(5,iS .i64 ((v.l.take i).foldl (mT (jK m) ((m:Int) - 1)) 0)),(31,.va (.c1 (.fz (v.l.map bK)))),(32,iS .i64 v.l.length),(33,iS .i64 i)]) (fun _=>[.cells (bO v) 32])
    (fun i=>i<=v.l.length) (fun i=>v.l.length - i) 0 1 (Nat.zero_le _) ?_ ?_ ?_
   · simp -dsimp only [go_sem]<;>simp
   · simp -dsimp only [go_sem,bO]<;>simp
   intro i hi
   rcases bF i v.l.length with hlt | hge
   · have hg:decide ((i:Int) < (v.l.length:Int))=true:=by simp; omega
     obtain ⟨x,hx⟩:∃ t,v.l[i]? = some t:=⟨_,aW hlt⟩
     have q1:=PS hx
     have hxm:=bJ hx
     have k1:=f6 (hv.l x hxm)
     have k2:=lK x
     have ft:=E6 (f:=mT (jK m) ((m:Int) - 1)) hx 0
     have hbd:=bd1 i
     generalize hd:(v.l.take i).foldl (mT (jK m) ((m:Int) - 1)) 0=d at *
     have hgb:=qS m x
     cases hc:decide (d<=(m:Int) - 1) with
     | true=>
      have hm0:0 < m:=by have:=of_decide_eq_true hc; omega
      have he:(m:Int) - 1 - 1=(m:Int) - 2:=by omega
      have hn:m<=100:=by omega
      simp (maxSteps:=1000000) -dsimp only [go_sem,hg,↓q1,bO,k1,k2,hc,he,hm0,hn]
      refine ⟨by omega,by omega,by omega,aC (i + 1) 1 (by omega) (by omega) ?_ ?_⟩
      · simp -dsimp only [go_sem,ft,mT,hc]<;>simp
      · simp -dsimp only [go_sem,bO]<;>simp [bO]
     | false=>
      simp (maxSteps:=1000000) -dsimp only [go_sem,hg,↓q1,bO,hc]
      refine ⟨by omega,by omega,aC (i + 1) 1 (by omega) (by omega) ?_ ?_⟩
      · simp -dsimp only [go_sem,ft,mT,hc]<;>simp
      · simp -dsimp only [go_sem,bO]<;>simp [bO]
   · have hg:decide ((i:Int) < (v.l.length:Int))=false:=by simp; omega
     obtain rfl:i=v.l.length:=by omega
     have hbd:=bd1 v.l.length
     rw [List.take_length] at hbd ⊢
     simp (maxSteps:=1000000) -dsimp only [go_sem,hg,bO]
     generalize v.l.foldl (mT (jK m) ((m:Int) - 1)) 0=D at *
     have bd2:=fun i=>qR (f:=qM (jK m) ((m:Int) - 1)) (fun d x h=>R8 (qS m) h x) (v.f.take i) D hbd
     clear hi hge hg bd1
     refine aL (α:=Nat) (fun i=>[(1,iS .i64 ((m:Int) - 1)),(2,.va (.c1 (.pt 0 0))),(5,iS .i64 ((v.f.take i).foldl (qM (jK m) ((m:Int) - 1)) D)),(48,.va (.c1 (.fz (v.f.map cJ)))),(49,iS .i64 v.f.length),(50,iS .i64 i)]) (fun _=>[.cells (bO v) 32])
      (fun i=>i<=v.f.length) (fun i=>v.f.length - i) 0 1 (Nat.zero_le _) ?_ ?_ ?_
     · simp -dsimp only [go_sem]<;>simp
     · simp -dsimp only [go_sem,bO]<;>simp
     intro i hi
     rcases bF i v.f.length with hlt | hge
     · have hg:decide ((i:Int) < (v.f.length:Int))=true:=by simp; omega
       obtain ⟨x,hx⟩:∃ t,v.f[i]? = some t:=⟨_,aW hlt⟩
       have q1:=AU hx
       have hxm:=bJ hx
       have k1:=f6 (hv.f x hxm)
       have k2:=lK x.2
       have ft:=E6 (f:=qM (jK m) ((m:Int) - 1)) hx D
       have hbd2:=bd2 i
       generalize hd:(v.f.take i).foldl (qM (jK m) ((m:Int) - 1)) D=d at *
       have hgb:=qS m x.2
       cases hc:decide (d<=(m:Int) - 1) with
       | true=>
        have hm0:0 < m:=by have:=of_decide_eq_true hc; omega
        have he:(m:Int) - 1 - 1=(m:Int) - 2:=by omega
        have hn:m<=100:=by omega
        simp (maxSteps:=1000000) -dsimp only [go_sem,hg,↓q1,bO,k1,k2,hc,he,hm0,hn]
        refine ⟨by omega,by omega,by omega,aC (i + 1) 1 (by omega) (by omega) ?_ ?_⟩
        · simp -dsimp only [go_sem,ft,qM,hc]<;>simp
        · simp -dsimp only [go_sem,bO]<;>simp [bO]
       | false=>
        simp (maxSteps:=1000000) -dsimp only [go_sem,hg,↓q1,bO,hc]
        refine ⟨by omega,by omega,aC (i + 1) 1 (by omega) (by omega) ?_ ?_⟩
        · simp -dsimp only [go_sem,ft,qM,hc]<;>simp
        · simp -dsimp only [go_sem,bO]<;>simp [bO]
     · have hg:decide ((i:Int) < (v.f.length:Int))=false:=by simp; omega
       obtain rfl:i=v.f.length:=by omega
       have hbd2:=bd2 v.f.length
       rw [List.take_length] at hbd2 ⊢
       simp (maxSteps:=1000000) -dsimp only [go_sem,hg,bO]
       exact ⟨by omega,fin _ _ rfl⟩
theorem zJ:∀ N,Meets Tryz.prog 90 (DF N).sp
 | 0=>⟨by kernel_rfl,by rintro xs vs E ro w K _ _ _ ⟨⟨h,_⟩,_⟩; obtain ⟨_,a,_,_,_,h⟩:=jU h; have:=a.h_pos; omega⟩
 | N + 1=>by
  refine aE Tryz.func90 aP1 2 (by rw [Tryz.ntmps90]; decide) (aH (zJ N) (aB oI (aB A8 (aA _)))) G0 ?_
  rintro av H K ⟨⟨h,rfl⟩,hK⟩
  obtain ⟨sc,t,rfl,hs,ht,hh⟩:=jU h
  have hK:K (bS (valF sc.ss sc.es t)) []:=by
   have:(DF (N + 1)).val [.va (.gs (aG sc)),.va (.gs (aN t))]=bA (valF sc.ss sc.es t):=by simp -dsimp only [go_sem]
   rw [this] at hK; exact hK
  clear h
  have fin:∀ (b:Bool) (R:Hp),valF sc.ss sc.es t=b->W.Fin 0 K (bS b) R:=fun b R h=>by
   rw [h] at hK
   exact .sel [] (by simp) (by simp) rfl (.done (by simp -dsimp only [go_sem]; simpa using hK))
  clear hK
  cases t with
  | mk k s n e=>
  have hF:=valF.eq_1 sc.ss sc.es k s n e
  simp (maxSteps:=1000000) -dsimp only [go_sem,aG,aN,aV,aEZ,aEK]
  refine ⟨fun k1=>fin _ _ (by rw [hF,k1]; simp only [aI]; ac_rfl),fun k1=>aF rfl (.done ?_)⟩
  rw [k1,aD] at hF
  simp (maxSteps:=1000000) -dsimp only [go_sem,IC]
  refine ⟨fun k2=>aF rfl (.done ?_),fun k2=>aF rfl (.done ?_)⟩
  · rw [k2,aI] at hF
    have hF':valF sc.ss sc.es (.mk k s n e)=((bl n == [] && (e.length:Int) == 0) && (s == 8 || s == 16 || s == 32 || s == 64)):=by rw [hF]; ac_rfl
    clear hF
    cases hp:(bl n == [] && (e.length:Int) == 0) with
    | false=>
     simp (maxSteps:=1000000) -dsimp only [go_sem,oM]
     exact fin _ _ (by rw [hF',hp]; rfl)
    | true=>
     rw [hp,Bool.true_and] at hF'
     cases h8:s == 8 with
     | true=>
      simp (maxSteps:=1000000) -dsimp only [go_sem,oM,h8]
      exact fin _ _ (by rw [hF',h8]; rfl)
     | false=>
     cases h16:s == 16 with
     | true=>
      simp (maxSteps:=1000000) -dsimp only [go_sem,oM,h8,h16]
      exact fin _ _ (by rw [hF',h8,h16]; rfl)
     | false=>
     cases h32:s == 32 with
     | true=>
      simp (maxSteps:=1000000) -dsimp only [go_sem,oM,h8,h16,h32]
      exact fin _ _ (by rw [hF',h8,h16,h32]; rfl)
     | false=>
      simp (maxSteps:=1000000) -dsimp only [go_sem,oM,h8,h16,h32]
      exact fin _ _ (by rw [hF',h8,h16,h32]; rfl)
  rw [k2,aD] at hF
  simp (maxSteps:=1000000) -dsimp only [go_sem,I4]
  refine ⟨fun k3=>aF rfl (.done ?_),fun k3=>aF rfl (.done ?_)⟩
  · rw [k3] at hF
    simp only [aI,Bool.and_false,Bool.or_false] at hF
    have hF':valF sc.ss sc.es (.mk k s n e)=((bl n == [] && (e.length:Int) == 0) && (s == 8 || s == 16 || s == 32)):=by rw [hF]; ac_rfl
    clear hF
    cases hp:(bl n == [] && (e.length:Int) == 0) with
    | false=>
     simp (maxSteps:=1000000) -dsimp only [go_sem,qT]
     exact fin _ _ (by rw [hF',hp]; rfl)
    | true=>
     rw [hp,Bool.true_and] at hF'
     cases h8:s == 8 with
     | true=>
      simp (maxSteps:=1000000) -dsimp only [go_sem,qT,h8]
      exact fin _ _ (by rw [hF',h8]; rfl)
     | false=>
     cases h16:s == 16 with
     | true=>
      simp (maxSteps:=1000000) -dsimp only [go_sem,qT,h8,h16]
      exact fin _ _ (by rw [hF',h8,h16]; rfl)
     | false=>
      simp (maxSteps:=1000000) -dsimp only [go_sem,qT,h8,h16]
      exact fin _ _ (by rw [hF',h8,h16]; rfl)
  rw [k3,aD] at hF
  simp (maxSteps:=1000000) -dsimp only [go_sem,HV]
  refine ⟨fun k4=>fin _ _ (by rw [hF,k4]; simp only [aI]; ac_rfl),fun k4=>aF rfl (.done ?_)⟩
  rw [k4,aD] at hF
  simp (maxSteps:=1000000) -dsimp only [go_sem,DO]
  refine ⟨fun k5=>aF rfl (.done ?_),fun k5=>aF rfl (.done ?_)⟩
  · rw [k5,aI] at hF
    have no:∀ {R:Hp},(bl n == [])=false\/decide (1<=s)=false\/decide (s<=32)=false\/((e.length:Int) == 1)=false->W.Fin 0 K (bS false) R:=fun h=>fin _ _ (by
     rw [hF]
     rcases h with h | h | h | h
     · rw [h,Bool.and_false,Bool.false_and]
     · rw [h,Bool.false_and,Bool.false_and,Bool.false_and]
     · rw [h,Bool.and_false,Bool.false_and,Bool.false_and]
     · match e,h with
       | [],_=>simp [nA]
       | [u],h=>simp at h
       | u :: v :: r,_=>simp [nA])
    cases h1:bl n == [] with
    | false=>
     simp (maxSteps:=1000000) -dsimp only [go_sem,lX,h1]
     exact no (.inl h1)
    | true=>
    cases h2:decide (1<=s) with
    | false=>
     simp (maxSteps:=1000000) -dsimp only [go_sem,lX,h1,h2]
     exact no (.inr (.inl h2))
    | true=>
    cases h3:decide (s<=32) with
    | false=>
     simp (maxSteps:=1000000) -dsimp only [go_sem,lX,h1,h2,h3]
     exact no (.inr (.inr (.inl h3)))
    | true=>
    cases h4:(e.length:Int) == 1 with
    | false=>
     simp (maxSteps:=1000000) -dsimp only [go_sem,lX,h1,h2,h3,h4]
     exact no (.inr (.inr (.inr h4)))
    | true=>
     have hl1:(e.length:Int)=1:=by simpa using h4
     obtain ⟨u,rfl⟩:∃ u,e=[u]:=List.length_eq_one_iff.1 (by omega)
     have hF':valF sc.ss sc.es (.mk k s n [u])=valF sc.ss sc.es u:=by rw [hF,h1,h2,h3]; simp [nA]
     have hu2:u.h<=N:=by rw [Ty.h,Ty.hs,Ty.hs] at hh; omega
     have hu:fL (aN u):=eH (ht.e u (by simp [Ty.e]))
     have hsf:=gA hs
     rw [aG] at hsf
     have hsd:=gT sc
     rw [aG] at hsd
     have h4':(((1:Nat):Int) == 1)=true:=rfl
     simp (maxSteps:=1000000) -dsimp only [go_sem,lX,h1,h2,h3,h4']
     refine ⟨⟨by omega,fun r hr=>by subst hr; exact i6 u⟩,fun r hr=>?_⟩
     subst hr
     simp (maxSteps:=1000000) -dsimp only [go_sem,hsf,hsd,hu,i6]
     exact ⟨hu2,fin _ _ hF'⟩
  rw [k5,aD] at hF
  simp (maxSteps:=1000000) -dsimp only [go_sem,CM]
  refine ⟨fun k6=>aF rfl (.done ?_),fun k6=>aF rfl (.done ?_)⟩
  · rw [k6,aI] at hF
    simp (maxSteps:=1000000) -dsimp only [go_sem,C4]
    refine lS hs ?_
    simp (maxSteps:=1000000) -dsimp only [go_sem,aP]
    refine aF rfl (.done ?_)
    cases h1:gK sc.ss n<;>cases h2:s == 0 <;>
    · simp (maxSteps:=1000000) -dsimp only [go_sem,DJ,h2]
      exact fin _ _ (by rw [hF,h1,h2]; rfl)
  rw [k6,aD] at hF
  simp (maxSteps:=1000000) -dsimp only [go_sem,DN]
  refine ⟨fun k7=>aF rfl (.done ?_),fun k7=>fin _ _ (by rw [hF,k7]; rfl)⟩
  rw [k7,aI] at hF
  simp (maxSteps:=1000000) -dsimp only [go_sem,B9]
  refine nU hs ?_
  simp (maxSteps:=1000000) -dsimp only [go_sem,bL]
  refine aF rfl (.done ?_)
  cases h1:gJ sc.es n<;>cases h2:s == 0 <;>
  · simp (maxSteps:=1000000) -dsimp only [go_sem,CD,h2]
    exact fin _ _ (by rw [hF,h1,h2]; rfl)
theorem xF:Meets Tryz.prog 90 r0Fn.sp:=eU 0 zJ fun av H K ⟨⟨h,e⟩,hK⟩=>by
 obtain ⟨a,b,rfl,ha,hb⟩:=rV h
 exact ⟨b.h,⟨⟨⟨gA ha,eH hb,by rw [fX]; exact Nat.le_refl _⟩,e⟩,hK⟩⟩
def s3 (s:Sc) (t:Ty) (n:Int):Bool:=
 bif t.k == 1 then n == 0 || n == 1
 else bif t.k == 2 then t.s == 64 || (decide (-(2 ^ (t.s.toNat - 1):Int)<=n) && decide (n < (2 ^ (t.s.toNat - 1):Int)))
 else bif t.k == 3 then decide (0<=n) && decide (n < (2 ^ t.s.toNat:Int))
 else bif t.k == 7 then ((fU s.es t.n).getD default).vs.any fun x=>x == n else false
def nH (s:Sc) (t:Ty) (n:Int) (str:ByteArray) (ll lf:Int):Int:=bif !(bl str == []) || decide (0 < ll) || decide (0 < lf) then 13 else bif s3 s t n then 0 else 4
def m7 (t:Ty) (n:Int) (str:ByteArray) (ll lf:Int):Int:=bif n != 0 || decide (0 < ll) || decide (0 < lf) then 13 else bif decide (t.s < ((bl str).length:Int)) then 3 else 0
def M2:Option Int->Int->Bool
 | none,_=>true
 | some q,n=>decide (q < n)
def ftA (fs:List Fl):Option Int->List (Int × Vl)->Bool
 | _,[]=>true
 | p,x :: r=>(fF fs x.1).isSome && M2 p x.1 && ftA fs (some x.1) r
theorem kJ (fs:List Fl) (p:Option Int) (x:Int × Vl) (r:List (Int × Vl)):ftA fs p (x :: r)=((fF fs x.1).isSome && M2 p x.1 && ftA fs (some x.1) r):=by rw [ftA.eq_def]
theorem L3 (fs:List Fl) (p:Option Int):ftA fs p []=true:=by rw [ftA.eq_def]
def rB (l:List (Int × Vl)) (n:Int):Bool:=l.any fun y=>y.1 == n
def dR (fs:List Fl) (l:List (Int × Vl)):Bool:=ftA fs none l && fs.all fun f=>f.opt || rB l f.num
mutual
def eL (s:Sc) (t:Ty):Vl->Int
 | .mk k n str l f=>
  bif !(valF s.ss s.es t) || k != t.k then 13
  else bif t.k == 4 then m7 t n str l.length f.length
  else bif t.k == 5 then (bif n != 0 || !(bl str == []) || decide (0 < (f.length:Int)) then 13 else bif decide (t.s < (l.length:Int)) then 3 else kX s (t.e.headD default) l)
  else bif t.k == 6 then (bif n != 0 || !(bl str == []) || decide (0 < (l.length:Int)) || !(dR ((fS s.ss t.n).getD default).fs f) then 13 else kC s ((fS s.ss t.n).getD default).fs f)
  else nH s t n str l.length f.length
def kX (s:Sc) (t:Ty):List Vl->Int
 | []=>0
 | v :: r=>bif eL s t v != 0 then eL s t v else kX s t r
def kC (s:Sc) (fs:List Fl):List (Int × Vl)->Int
 | []=>0
 | (i,v) :: r=>bif eL s ((fF fs i).getD default).ty v != 0 then eL s ((fF fs i).getD default).ty v else kC s fs r
end
theorem s5 (s:Sc) (t:Ty) (v:Vl):eL s t v=bif !(valF s.ss s.es t) || v.k != t.k then 13
 else bif t.k == 4 then m7 t v.n v.s v.l.length v.f.length
 else bif t.k == 5 then (bif v.n != 0 || !(bl v.s == []) || decide (0 < (v.f.length:Int)) then 13 else bif decide (t.s < (v.l.length:Int)) then 3 else kX s (t.e.headD default) v.l)
 else bif t.k == 6 then (bif v.n != 0 || !(bl v.s == []) || decide (0 < (v.l.length:Int)) || !(dR ((fS s.ss t.n).getD default).fs v.f) then 13 else kC s ((fS s.ss t.n).getD default).fs v.f)
 else nH s t v.n v.s v.l.length v.f.length:=by cases v; rw [eL]; rfl
theorem xK (s:Sc) (fs:List Fl) (x:Int × Vl) (r:List (Int × Vl)):kC s fs (x :: r)=bif eL s ((fF fs x.1).getD default).ty x.2 != 0 then eL s ((fF fs x.1).getD default).ty x.2 else kC s fs r:=by cases x; rw [kC]
abbrev RG:S:=.va (.c1 (.fn 118 [(false,[.pt 0 0])]))
def aGD:W.Spec:=fun av H K=>∃ (x:Int) (v:Vl),av=[iS .i64 x,.va (.c1 (.pt 0 0))]/\H=[.cells (bO v) 32]/\K (bS (x == v.n)) [.cells (bO v) 32]
theorem aFQ {x:Int} {v:Vl} {K:S->Hp->Prop} (hK:K (bS (x == v.n)) [.cells (bO v) 32]):aGD [iS .i64 x,.va (.c1 (.pt 0 0))] [.cells (bO v) 32] K:=⟨x,v,rfl,rfl,hK⟩
theorem V1:Meets Tryz.prog 118 aGD:=by
 refine aE Tryz.func118 aKH 2 (by rw [Tryz.ntmps118]; decide) (aA _) (fun av H K h=>by obtain ⟨_,_,rfl,_⟩:=h; rfl) ?_
 rintro av H K ⟨x,v,rfl,rfl,hK⟩
 simp -dsimp only [go_sem,bO,XL,ZQ]
 exact .sel [0] (by simp) (by simp) rfl (.done (by simpa [go_sem,bO] using hK))
def AI (p:Int->Bool):List Int->Nat->Int
 | [],_=>-1
 | x :: l,i=>bif p x then (i:Int) else AI p l (i + 1)
theorem L7 (p:Int->Bool):∀ (l:List Int) (i:Nat),decide (0<=AI p l i)=l.any p
 | [],_=>rfl
 | x :: l,i=>by
  rw [List.any_cons,AI]
  cases h:p x
  · rw [aD,L7 p l (i + 1),Bool.false_or]
  · simp
def aE3:W.Spec:=fun av H K=>∃ (l:List Int) (v:Vl),av=[.va (.c1 (.fz (l.map cU))),RG]/\H=[.cells (bO v) 32]/\l.length<=9223372036854775807/\K (iS .i64 (AI (fun x=>x == v.n) l 0)) [.cells (bO v) 32]
theorem aFN {l:List Int} {v:Vl} {K:S->Hp->Prop} (h:l.length<=9223372036854775807) (hK:K (iS .i64 (AI (fun x=>x == v.n) l 0)) [.cells (bO v) 32]):aE3 [.va (.c1 (.fz (l.map cU))),RG] [.cells (bO v) 32] K:=⟨l,v,rfl,rfl,h,hK⟩
theorem aCH:Meets Tryz.prog 140 aE3:=by
 refine aE Tryz.func140 aJJ 2 (by rw [Tryz.ntmps140]; decide) (aB V1 (aA _)) (fun av H K h=>by obtain ⟨_,_,rfl,_⟩:=h; rfl) ?_
 rintro av H K ⟨l,v,rfl,rfl,hl,hK⟩
 simp -dsimp only [go_sem,XB,XS]
 refine aL (α:=Nat) (fun i=>[(0,.va (.c1 (.fz (l.map cU)))),(1,RG),(7,iS .i64 l.length),(8,iS .i64 i)]) (fun _=>[.cells (bO v) 32])
  (fun i=>i<=l.length/\AI (fun x=>x == v.n) (l.drop i) i=AI (fun x=>x == v.n) l 0) (fun i=>l.length - i) 0 1 ⟨Nat.zero_le _,rfl⟩ ?_ ?_ ?_
 · simp -dsimp only [go_sem]<;>simp
 · simp -dsimp only [go_sem,bO]<;>simp
 rintro i ⟨hi,ho⟩
 rcases bF i l.length with hlt | hge
 · have hg:decide ((i:Int) < (l.length:Int))=true:=by simp; omega
   have hx:l[i]? = some l[i]:=aW hlt
   have q2:=aY (row:=cU) hx
   rw [List.drop_eq_getElem_cons hlt,AI] at ho
   generalize l[i]=y at *
   simp -dsimp only [go_sem,hg,↓q2]
   refine ⟨by omega,aFQ ?_⟩
   cases hc:y == v.n with
   | true=>
    rw [hc,aI] at ho
    simp -dsimp only [go_sem]
    exact .sel [0] (by simp) (by simp) rfl (.done (by simpa [go_sem,bO,ho] using hK))
   | false=>
    rw [hc,aD] at ho
    simp -dsimp only [go_sem]
    refine ⟨by omega,aC (i + 1) 1 ⟨by omega,ho⟩ (by omega) ?_ ?_⟩
    · simp -dsimp only [go_sem]<;>simp
    · simp -dsimp only [go_sem,bO]<;>simp [bO]
 · have hg:decide ((i:Int) < (l.length:Int))=false:=by simp; omega
   have:l.drop i=[]:=List.drop_eq_nil_iff.2 (by omega)
   rw [this] at ho
   simp -dsimp only [go_sem,hg]
   exact .sel [0] (by simp) (by simp) rfl (.done (by rw [show AI (fun x=>x == v.n) l 0=-1 from ho.symm] at hK; simpa [go_sem,bO] using hK))
def aEU:W.Spec:=fun av H K=>∃ (l:List Int) (v:Vl),av=[.va (.c1 (.fz (l.map cU))),RG]/\H=[.cells (bO v) 32]/\l.length<=9223372036854775807/\K (bS (l.any fun x=>x == v.n)) [.cells (bO v) 32]
theorem aFF {l:List Int} {v:Vl} {K:S->Hp->Prop} (h:l.length<=9223372036854775807) (hK:K (bS (l.any fun x=>x == v.n)) [.cells (bO v) 32]):aEU [.va (.c1 (.fz (l.map cU))),RG] [.cells (bO v) 32] K:=⟨l,v,rfl,rfl,h,hK⟩
theorem PR:Meets Tryz.prog 117 aEU:=by
 refine aE Tryz.func117 aKN 2 (by rw [Tryz.ntmps117]; decide) (aB aCH (aA _)) (fun av H K h=>by obtain ⟨_,_,rfl,_⟩:=h; rfl) ?_
 rintro av H K ⟨l,v,rfl,rfl,hl,hK⟩
 simp -dsimp only [go_sem,bO,ZM,XR]
 refine aFN hl ?_
 simp -dsimp only [go_sem,bO,L7]
 exact .sel [0] (by simp) (by simp) rfl (.done (by simpa [go_sem,bO] using hK))
abbrev QW:S:=.va (.c1 (.fn 142 [(false,[.pt 0 0])]))
def veX (x:Int × Vl):List C:=[.vl (.int .i64 x.1),.vl (.int .i64 x.2.k),.vl (.int .i64 x.2.n),.vl (.string x.2.s),.fz (x.2.l.map bK),.fz (x.2.f.map cJ)]
def ZO:W.Spec:=fun av H K=>∃ (x:Int × Vl) (f:Fl),av=[.va (.gs (veX x)),.va (.c1 (.pt 0 0))]/\H=[.cells (aZ f) 97]/\K (bS (x.1 == f.num)) [.cells (aZ f) 97]
theorem aB8 {x:Int × Vl} {f:Fl} {K:S->Hp->Prop} (hK:K (bS (x.1 == f.num)) [.cells (aZ f) 97]):ZO [.va (.gs (veX x)),.va (.c1 (.pt 0 0))] [.cells (aZ f) 97] K:=⟨x,f,rfl,rfl,hK⟩
theorem aH9:Meets Tryz.prog 142 ZO:=by
 refine aE Tryz.func142 aJ2 2 (by rw [Tryz.ntmps142]; decide) (aA _) (fun av H K h=>by obtain ⟨_,_,rfl,_⟩:=h; rfl) ?_
 rintro av H K ⟨x,f,rfl,rfl,hK⟩
 simp -dsimp only [go_sem,veX,aZ,aAW,ZW]
 exact .sel [0] (by simp) (by simp) rfl (.done (by simpa [go_sem,aZ] using hK))
def BB (n:Int):List (Int × Vl)->Nat->Int
 | [],_=>-1
 | x :: l,i=>bif x.1 == n then (i:Int) else BB n l (i + 1)
theorem LP (n:Int):∀ (l:List (Int × Vl)) (i:Nat),decide (0<=BB n l i)=rB l n
 | [],_=>rfl
 | x :: l,i=>by
  rw [rB,List.any_cons,BB]
  cases h:x.1 == n
  · rw [aD,LP n l (i + 1),Bool.false_or]; rfl
  · simp
def aHU:W.Spec:=fun av H K=>∃ (l:List (Int × Vl)) (f:Fl),av=[.va (.c1 (.fz (l.map cJ))),QW]/\H=[.cells (aZ f) 97]/\l.length<=9223372036854775807/\K (iS .i64 (BB f.num l 0)) [.cells (aZ f) 97]
theorem aEE {l:List (Int × Vl)} {f:Fl} {K:S->Hp->Prop} (h:l.length<=9223372036854775807) (hK:K (iS .i64 (BB f.num l 0)) [.cells (aZ f) 97]):aHU [.va (.c1 (.fz (l.map cJ))),QW] [.cells (aZ f) 97] K:=⟨l,f,rfl,rfl,h,hK⟩
theorem aCO:Meets Tryz.prog 157 aHU:=by
 refine aE Tryz.func157 aLT 2 (by rw [Tryz.ntmps157]; decide) (aB aH9 (aA _)) (fun av H K h=>by obtain ⟨_,_,rfl,_⟩:=h; rfl) ?_
 rintro av H K ⟨l,f,rfl,rfl,hl,hK⟩
 simp -dsimp only [go_sem,XE,Z5]
 refine aL (α:=Nat) (fun i=>[(0,.va (.c1 (.fz (l.map cJ)))),(1,QW),(7,iS .i64 l.length),(8,iS .i64 i)]) (fun _=>[.cells (aZ f) 97])
  (fun i=>i<=l.length/\BB f.num (l.drop i) i=BB f.num l 0) (fun i=>l.length - i) 0 1 ⟨Nat.zero_le _,rfl⟩ ?_ ?_ ?_
 · simp -dsimp only [go_sem]<;>simp
 · simp -dsimp only [go_sem,aZ]<;>simp
 rintro i ⟨hi,ho⟩
 rcases bF i l.length with hlt | hge
 · have hg:decide ((i:Int) < (l.length:Int))=true:=by simp; omega
   have hx:l[i]? = some l[i]:=aW hlt
   have q2:=AU hx
   rw [List.drop_eq_getElem_cons hlt,BB] at ho
   generalize l[i]=y at *
   simp -dsimp only [go_sem,hg,↓q2]
   refine ⟨by omega,aB8 ?_⟩
   cases hc:y.1 == f.num with
   | true=>
    rw [hc,aI] at ho
    simp -dsimp only [go_sem]
    exact .sel [0] (by simp) (by simp) rfl (.done (by simpa [go_sem,aZ,ho] using hK))
   | false=>
    rw [hc,aD] at ho
    simp -dsimp only [go_sem]
    refine ⟨by omega,aC (i + 1) 1 ⟨by omega,ho⟩ (by omega) ?_ ?_⟩
    · simp -dsimp only [go_sem]<;>simp
    · simp -dsimp only [go_sem,aZ]<;>simp [aZ]
 · have hg:decide ((i:Int) < (l.length:Int))=false:=by simp; omega
   have:l.drop i=[]:=List.drop_eq_nil_iff.2 (by omega)
   rw [this] at ho
   simp -dsimp only [go_sem,hg]
   exact .sel [0] (by simp) (by simp) rfl (.done (by rw [show BB f.num l 0=-1 from ho.symm] at hK; simpa [go_sem,aZ] using hK))
def aES:W.Spec:=fun av H K=>∃ (l:List (Int × Vl)) (f:Fl),av=[.va (.c1 (.fz (l.map cJ))),QW]/\H=[.cells (aZ f) 97]/\l.length<=9223372036854775807/\K (bS (rB l f.num)) [.cells (aZ f) 97]
theorem aGY {l:List (Int × Vl)} {f:Fl} {K:S->Hp->Prop} (h:l.length<=9223372036854775807) (hK:K (bS (rB l f.num)) [.cells (aZ f) 97]):aES [.va (.c1 (.fz (l.map cJ))),QW] [.cells (aZ f) 97] K:=⟨l,f,rfl,rfl,h,hK⟩
theorem PX:Meets Tryz.prog 141 aES:=by
 refine aE Tryz.func141 aI9 2 (by rw [Tryz.ntmps141]; decide) (aB aCO (aA _)) (fun av H K h=>by obtain ⟨_,_,rfl,_⟩:=h; rfl) ?_
 rintro av H K ⟨l,f,rfl,rfl,hl,hK⟩
 simp -dsimp only [go_sem,aZ,Y7,Y8]
 refine aEE hl ?_
 simp -dsimp only [go_sem,aZ,LP]
 exact .sel [0] (by simp) (by simp) rfl (.done (by simpa [go_sem,aZ] using hK))
def F3 (P:Sc->Ty->Vl->Prop):List S->Prop:=fun av=>match av with
 | [.va (.gs r),.va (.gs q),.va (.gs p)]=>lE r/\fL q/\DC p/\P (C.sc r) (C.ty q) (C.vv p)
 | _=>False
theorem sQ {P:Sc->Ty->Vl->Prop} {av:List S} (h:F3 P av):∃ s t v,av=[.va (.gs (aG s)),.va (.gs (aN t)),.va (.gs (bK v))]/\s.fit/\TyOk t/\VlOk v/\P s t v:=by
 unfold F3 at h
 split at h
 · obtain ⟨⟨s,rfl,hs⟩,⟨t,rfl,ht⟩,⟨v,rfl,hv⟩,h⟩:=h
   rw [gT,fX,uD] at h
   exact ⟨s,t,v,rfl,hs,ht,hv,h⟩
 · exact h.elim
noncomputable def Y2 (f:Sc->Ty->Vl->Value):List S->A:=fun av=>match av with
 | [.va (.gs r),.va (.gs q),.va (.gs p)]=>.c1 (.vl (f (C.sc r) (C.ty q) (C.vv p)))
 | _=>.gs []
noncomputable def i7 (P:Sc->Ty->Vl->Prop) (f:Sc->Ty->Vl->Value):Fun:=⟨F3 P,Y2 f,fun av h=>by obtain ⟨_,_,_,rfl,_⟩:=sQ h; trivial⟩
theorem lV {P:Sc->Ty->Vl->Prop} {f:Sc->Ty->Vl->Value}:∀ av H K,(i7 P f).sp av H K->av.length=3:=fun av H K h=>by obtain ⟨_,_,_,rfl,_⟩:=sQ h.1.1; rfl
attribute [go_sem] i7 F3 Y2
theorem jX {P:Sc->Ty->Vl->Prop} {f:Sc->Ty->Vl->Value} {av:List S} {H:Hp} {K:S->Hp->Prop} (h:(i7 P f).sp av H K) :
 ∃ s t v,av=[.va (.gs (aG s)),.va (.gs (aN t)),.va (.gs (bK v))]/\H=[]/\s.fit/\TyOk t/\VlOk v/\P s t v/\K (.va (.c1 (.vl (f s t v)))) []:=by
 obtain ⟨⟨h,rfl⟩,hK⟩:=h
 obtain ⟨s,t,v,rfl,hs,ht,hv,hp⟩:=sQ h
 have:(i7 P f).val [.va (.gs (aG s)),.va (.gs (aN t)),.va (.gs (bK v))]=.c1 (.vl (f s t v)):=by simp -dsimp only [go_sem]
 rw [this] at hK
 exact ⟨s,t,v,rfl,rfl,hs,ht,hv,hp,hK⟩
theorem aIH:Meets Tryz.prog 92 (i7 (fun _ _ _=>True) fun _ t v=>.int .i64 (m7 t v.n v.s v.l.length v.f.length)).sp:=by
 refine aE Tryz.func92 aRK 3 (by rw [Tryz.ntmps92]; decide) (aA _) lV ?_
 intro av H K h
 obtain ⟨s,t,v,rfl,rfl,hs,ht,hv,_,hK⟩:=jX h
 clear h
 have fin:∀ (z:Int) (R:Hp),m7 t v.n v.s v.l.length v.f.length=z->W.Fin 0 K (iS .i64 z) R:=fun z R h=>by
  rw [h] at hK; exact .sel [] (by simp) (by simp) rfl (.done (by simpa [go_sem] using hK))
 clear hK
 unfold m7 at fin
 cases h1:v.n != 0<;>cases h2:decide (0 < (v.l.length:Int))<;>cases h3:decide (0 < (v.f.length:Int))<;>cases h4:decide (t.s < ((bl v.s).length:Int)) <;>
 · rw [h1,h2,h3,h4] at fin
   simp (maxSteps:=1000000) -dsimp only [go_sem,aG,aO t,aX v,aHB,aED,h1,h2,h3,h4]
   exact fin _ _ rfl
theorem aPE {ss:List St} {es:List En} {t:Ty} (h:valF ss es t=true) (k:(t.k == 2)=true):t.s=8\/t.s=16\/t.s=32\/t.s=64:=by
 cases t with
 | mk k0 s n e=>
  obtain rfl:k0=2:=by have k:(k0 == 2)=true:=k; simpa using k
  rw [valF] at h
  have:(s == 8 || s == 16 || s == 32 || s == 64)=true:=by
   simp only [show ((2:Int) == 1)=false from rfl,show ((2:Int) == 2)=true from rfl,aI,aD,Bool.and_eq_true] at h
   exact h.1.1
  show s=8\/s=16\/s=32\/s=64
  simp only [Bool.or_eq_true,beq_iff_eq] at this
  omega
theorem aOA {ss:List St} {es:List En} {t:Ty} (h:valF ss es t=true) (k:(t.k == 3)=true):t.s=8\/t.s=16\/t.s=32:=by
 cases t with
 | mk k0 s n e=>
  obtain rfl:k0=3:=by have k:(k0 == 3)=true:=k; simpa using k
  rw [valF] at h
  have:(s == 8 || s == 16 || s == 32)=true:=by
   simp only [show ((3:Int) == 1)=false from rfl,show ((3:Int) == 2)=false from rfl,show ((3:Int) == 3)=true from rfl,aI,aD,Bool.and_eq_true,Bool.and_false,Bool.or_false] at h
   exact h.1.1
  show s=8\/s=16\/s=32
  simp only [Bool.or_eq_true,beq_iff_eq] at this
  omega
theorem VX:Meets Tryz.prog 91 (i7 (fun s t _=>valF s.ss s.es t=true) fun s t v=>.int .i64 (nH s t v.n v.s v.l.length v.f.length)).sp:=by
 refine aE Tryz.func91 aOR 3 (by rw [Tryz.ntmps91]; decide) (aB A8 (aB PR (aA _))) lV ?_
 intro av H K h
 obtain ⟨s,t,v,rfl,rfl,hs,ht,hv,hp,hK⟩:=jX h
 clear h
 have fin:∀ (z:Int) (R:Hp),nH s t v.n v.s v.l.length v.f.length=z->W.Fin 0 K (iS .i64 z) R:=fun z R h=>by
  rw [h] at hK; exact .sel [] (by simp) (by simp) rfl (.done (by simpa [go_sem] using hK))
 clear hK
 unfold nH at fin
 cases h1:bl v.s == [] with
 | false=>
  rw [h1] at fin
  simp (maxSteps:=1000000) -dsimp only [go_sem,aG,aO t,aX v,HU,JS,h1]
  exact fin _ _ rfl
 | true=>
 cases h2:decide (0 < (v.l.length:Int)) with
 | true=>
  rw [h1,h2] at fin
  simp (maxSteps:=1000000) -dsimp only [go_sem,aG,aO t,aX v,HU,JS,h1,h2]
  exact fin _ _ rfl
 | false=>
 cases h3:decide (0 < (v.f.length:Int)) with
 | true=>
  rw [h1,h2,h3] at fin
  simp (maxSteps:=1000000) -dsimp only [go_sem,aG,aO t,aX v,HU,JS,h1,h2,h3]
  exact fin _ _ rfl
 | false=>
 rw [h1,h2,h3] at fin
 simp only [Bool.not_true,Bool.or_self,aD] at fin
 unfold s3 at fin
 simp (maxSteps:=1000000) -dsimp only [go_sem,aG,aO t,aX v,HU,JS,h1,h2,h3]
 refine ⟨fun k1=>aF rfl (.done ?_),fun k1=>aF rfl (.done ?_)⟩
 · rw [k1,aI] at fin
   simp (maxSteps:=1000000) -dsimp only [go_sem,HW]
   refine aF rfl (.done ?_)
   cases h4:(v.n == 0 || v.n == 1) <;>
   · rw [h4] at fin
     simp (maxSteps:=1000000) -dsimp only [go_sem,kO]
     exact fin _ _ rfl
 rw [k1,aD] at fin
 simp (maxSteps:=1000000) -dsimp only [go_sem,KY]
 refine ⟨fun k2=>aF rfl (.done ?_),fun k2=>aF rfl (.done ?_)⟩
 · rw [k2,aI] at fin
   cases h64:t.s == 64 with
   | true=>
    rw [h64] at fin
    simp (maxSteps:=1000000) -dsimp only [go_sem,AO,h64,Bool.false_and]
    refine aF rfl (.done ?_)
    simp (maxSteps:=1000000) -dsimp only [go_sem,kO]
    exact fin _ _ rfl
   | false=>
    rw [h64,Bool.false_or] at fin
    obtain ⟨b1,b2,e1,e2⟩:8<=t.s/\t.s<=32/\IntKind.i64.wrap (-1 * 2 ^ min (t.s - 1).toNat 64)=-(2 ^ (t.s.toNat - 1):Int)/\IntKind.i64.wrap (1 * 2 ^ min (t.s - 1).toNat 64)=(2 ^ (t.s.toNat - 1):Int):=by
     rcases aPE hp k2 with hz | hz | hz | hz
     · rw [hz]; decide
     · rw [hz]; decide
     · rw [hz]; decide
     · rw [hz] at h64; simp at h64
    have f1:(0<=t.s - 1)=True:=eq_true (by omega)
    have f2:(-9223372036854775808<=t.s - 1)=True:=eq_true (by omega)
    have f3:(t.s - 1<=9223372036854775807)=True:=eq_true (by omega)
    generalize (2 ^ (t.s.toNat - 1):Int)=hi at *
    cases h4:decide (-hi<=v.n)<;>cases h5:decide (v.n < hi) <;>
    · rw [h4,h5] at fin
      simp (maxSteps:=1000000) -dsimp only [go_sem,AO,h64,e1,e2,h4,h5,f1,f2,f3]
      refine aF rfl (.done ?_)
      simp (maxSteps:=1000000) -dsimp only [go_sem,kO]
      exact fin _ _ rfl
 rw [k2,aD] at fin
 simp (maxSteps:=1000000) -dsimp only [go_sem,HZ]
 refine ⟨fun k3=>aF rfl (.done ?_),fun k3=>aF rfl (.done ?_)⟩
 · rw [k3,aI] at fin
   obtain ⟨b1,e1⟩:0<=t.s/\IntKind.i64.wrap (1 * 2 ^ min t.s.toNat 64)=(2 ^ t.s.toNat:Int):=by
    rcases aOA hp k3 with hz | hz | hz
    · rw [hz]; decide
    · rw [hz]; decide
    · rw [hz]; decide
   generalize (2 ^ t.s.toNat:Int)=hi at *
   cases h4:decide (0<=v.n)<;>cases h5:decide (v.n < hi) <;>
   · rw [h4,h5] at fin
     simp (maxSteps:=1000000) -dsimp only [go_sem,DE,e1,h4,h5,b1]
     refine aF rfl (.done ?_)
     simp (maxSteps:=1000000) -dsimp only [go_sem,kO]
     exact fin _ _ rfl
 rw [k3,aD] at fin
 simp (maxSteps:=1000000) -dsimp only [go_sem,CI]
 refine ⟨fun k7=>aF rfl (.done ?_),fun k7=>aF rfl (.done ?_)⟩
 · rw [k7,aI] at fin
   simp (maxSteps:=1000000) -dsimp only [go_sem,DK]
   refine nU (s:=s) hs ?_
   generalize hu:(fU s.es t.n).getD default=u at *
   have hul:u.vs.length<=9223372036854775807:=by
    rw [<-hu]
    cases hf:fU s.es t.n with
    | none=>exact Nat.zero_le _
    | some w=>exact (hs.ok.es w (NZ hf).1).lv
   simp (maxSteps:=1000000) -dsimp only [go_sem,bL]
   refine aF rfl (.done ?_)
   simp (maxSteps:=1000000) -dsimp only [go_sem,DR]
   refine aFF hul ?_
   simp (maxSteps:=1000000) -dsimp only [go_sem,bO]
   refine aF rfl (.done ?_)
   cases h4:u.vs.any fun x=>x == v.n <;>
   · rw [h4] at fin
     simp (maxSteps:=1000000) -dsimp only [go_sem,kO]
     exact fin _ _ rfl
 rw [k7] at fin
 simp (maxSteps:=1000000) -dsimp only [go_sem,kO]
 exact fin _ _ rfl
theorem LT {a b:Int × Vl} (h:cJ a=cJ b):a=b:=by
 obtain ⟨i,x⟩:=a
 obtain ⟨j,y⟩:=b
 obtain ⟨h1,h2⟩:=List.cons.inj h
 have e:i=j:=by simpa using h1
 have e2:x=y:=vF h2
 rw [e,e2]
instance:Inhabited (Int × Vl):=⟨(0,default)⟩
noncomputable def C.ve:=sU cJ
@[go_sem] theorem aU6 (v:Int × Vl):C.ve (cJ v)=v:=kB LT v
@[go_sem] theorem aGQ (l:List (Int × Vl)):(l.map cJ).map C.ve=l:=lT LT l
def Z7 (r:List C):Prop:=∃ u:St,r=aP u/\u.ok/\∀ f ∈ u.fs,TySm f.ty
def aD2 (rs:List (List C)):Prop:=∃ l:List (Int × Vl),rs=l.map cJ/\l.length * 88<=140737488355328/\∀ x ∈ l,cH x.1/\VlOk x.2
theorem aBC {v:Vl} (h:VlOk v):aD2 (v.f.map cJ):=⟨v.f,rfl,h.lf,fun x hx=>⟨h.fn x hx,h.f x hx⟩⟩
theorem U6 {s:Sc} (hs:s.fit) (n:ByteArray):Z7 (aP ((fS s.ss n).getD default)):=by
 refine ⟨_,rfl,?_⟩
 cases hf:fS s.ss n with
 | none=>exact ⟨St.ok_default,fun f hf=>(List.not_mem_nil hf).elim⟩
 | some w=>exact ⟨hs.ok.ss w (iF hf).1,(hs.sm w (iF hf).1).2⟩
def zX:List S->Prop:=fun av=>match av with
 | [.va (.gs r),.va (.c1 (.fz rs))]=>Z7 r/\aD2 rs
 | _=>False
theorem p5 {av:List S} (h:zX av):∃ (u:St) (l:List (Int × Vl)),av=[.va (.gs (aP u)),.va (.c1 (.fz (l.map cJ)))]/\u.ok/\(∀ f ∈ u.fs,TySm f.ty)/\l.length * 88<=140737488355328/\∀ x ∈ l,cH x.1/\VlOk x.2:=by
 unfold zX at h
 split at h
 · obtain ⟨⟨u,rfl,h1,h2⟩,⟨l,rfl,h3,h4⟩⟩:=h; exact ⟨u,l,rfl,h1,h2,h3,h4⟩
 · exact h.elim
noncomputable def TC:List S->A:=fun av=>match av with
 | [.va (.gs r),.va (.c1 (.fz rs))]=>bA (dR (C.st r).fs (rs.map C.ve))
 | _=>.gs []
noncomputable def ftFn1:Fun:=⟨zX,TC,fun av h=>by obtain ⟨_,_,rfl,_⟩:=p5 h; trivial⟩
theorem P7:∀ av H K,ftFn1.sp av H K->av.length=2:=fun av H K h=>by obtain ⟨_,_,rfl,_⟩:=p5 h.1.1; rfl
attribute [go_sem] ftFn1 zX TC
def R6 (l:List (Int × Vl)):Nat->Option Int
 | 0=>none
 | j + 1=>(l[j]?).map (·.1)
theorem SB {l:List (Int × Vl)} {n:Int} {x:Int × Vl} (h:l[n.toNat]? = some x) (p:List C->Prop):(∀ r,(l.map cJ)[n.toNat]? = some r->p r)=p [.vl (.int .i64 x.1),.vl (.int .i64 x.2.k),.vl (.int .i64 x.2.n),.vl (.string x.2.s),.fz (x.2.l.map bK),.fz (x.2.f.map cJ)]:=by
 rw [<-TO]; exact qH (row:=cJ) h p
theorem aFT:Meets Tryz.prog 119 ftFn1.sp:=by
 refine aE Tryz.func119 aLS 2 (by rw [Tryz.ntmps119]; decide) (aB s9 (aB PX (aA _))) P7 ?_
 rintro av H K ⟨⟨h,rfl⟩,hK⟩
 obtain ⟨u,l,rfl,hu,hus,hl,hlo⟩:=p5 h
 replace hK:K (bS (dR u.fs l)) []:=by
  have:ftFn1.val [.va (.gs (aP u)),.va (.c1 (.fz (l.map cJ)))]=bA (dR u.fs l):=by simp -dsimp only [go_sem]
  rw [this] at hK; exact hK
 clear h
 have fin:∀ (b:Bool) (R:Hp),dR u.fs l=b->W.Fin 0 K (bS b) R:=fun b R h=>by
  rw [h] at hK; exact .sel [] (by simp) (by simp) rfl (.done (by simpa [go_sem] using hK))
 clear hK
 have hfl:=hu.len
 generalize hR:u.fs.all (fun f=>f.opt || rB l f.num)=R2
 have hF:dR u.fs l=(ftA u.fs none l && R2):=by rw [<-hR]; rfl
 rw [hF] at fin
 generalize hR0:(ftA u.fs none l && R2)=R0 at fin
 clear hF
 simp (maxSteps:=1000000) -dsimp only [go_sem,aP,aAG,Z0]
 refine aL (α:=Nat) (fun i=>[(1,.va (.c1 (.fz (l.map cJ)))),(2,.va (.c1 (.pt 0 0))),(11,.va (.c1 (.fz (l.map cJ)))),(12,iS .i64 l.length),(13,iS .i64 i)]) (fun _=>[.cells (aP u) 95])
  (fun i=>i<=l.length/\(ftA u.fs (R6 l i) (l.drop i) && R2)=R0) (fun i=>l.length - i) 0 1 ⟨Nat.zero_le _,hR0⟩ ?_ ?_ ?_
 · simp -dsimp only [go_sem]<;>simp
 · simp -dsimp only [go_sem,aP]<;>simp
 rintro i ⟨hi,ho⟩
 rcases bF i l.length with hlt | hge
 · have hg:decide ((i:Int) < (l.length:Int))=true:=by simp; omega
   obtain ⟨x,hx⟩:∃ t,l[i]? = some t:=⟨_,aW hlt⟩
   have q1:=AU hx
   have hdr:l.drop i=x :: l.drop (i + 1):=by
    obtain ⟨h,rfl⟩:=a6.1 hx
    exact List.drop_eq_getElem_cons h
   have hpv:R6 l (i + 1)=some x.1:=by rw [R6,hx]; rfl
   rw [hdr,kJ,<-hpv] at ho
   simp (maxSteps:=1000000) -dsimp only [go_sem,hg,↓q1,aP]
   refine ⟨by omega,aF rfl (.done ?_)⟩
   simp (maxSteps:=1000000) -dsimp only [go_sem,DA]
   refine MI (t:=u) hu hus ?_
   cases hf:fF u.fs x.1 with
   | none=>
    rw [hf] at ho
    simp (maxSteps:=1000000) -dsimp only [go_sem,L1,Option.getD_none,Option.isSome_none]
    refine aF rfl (.done ?_)
    simp (maxSteps:=1000000) -dsimp only [go_sem,nY,Bool.false_and]
    exact fin _ _ ho.symm
   | some g=>
    rw [hf,Option.isSome_some,Bool.true_and] at ho
    simp (maxSteps:=1000000) -dsimp only [go_sem,aZ,Option.getD_some,Option.isSome_some]
    refine aF rfl (.done ?_)
    cases hz:decide ((0:Int) < (i:Int)) with
    | false=>
     obtain rfl:i=0:=by have:=of_decide_eq_false hz; omega
     simp (maxSteps:=1000000) -dsimp only [go_sem,nY,hz]
     refine ⟨by omega,aC (0 + 1) 1 ⟨by omega,ho⟩ (by omega) ?_ ?_⟩
     · simp -dsimp only [go_sem]<;>simp
     · simp -dsimp only [go_sem,aP]<;>simp [aP]
    | true=>
     have hz':=of_decide_eq_true hz
     obtain ⟨y,hy⟩:∃ t,l[i - 1]? = some t:=⟨_,aW (by omega)⟩
     have hti:((i:Int) - 1).toNat=i - 1:=by omega
     have q2:=fun p=>SB (n:=(i:Int) - 1) (x:=y) (by rw [hti]; exact hy) p
     have hpi:R6 l i=some y.1:=by
      match i,hz',hy with
      | j + 1,_,hy=>rw [R6]; rw [show j + 1 - 1=j by omega] at hy; rw [hy]; rfl
     rw [hpi,M2] at ho
     have f1:(0<=(i:Int) - 1)=True:=eq_true (by omega)
     have f2:((i:Int) - 1 < (l.length:Int))=True:=eq_true (by omega)
     cases hc:decide (x.1<=y.1) with
     | true=>
      have:decide (y.1 < x.1)=false:=by have:=of_decide_eq_true hc; simp; omega
      rw [this] at ho
      simp (maxSteps:=1000000) -dsimp only [go_sem,nY,hz,↓q2,hc,f1,f2]
      exact ⟨by omega,fin _ _ ho.symm⟩
     | false=>
      have:decide (y.1 < x.1)=true:=by have:=of_decide_eq_false hc; simp; omega
      rw [this,Bool.true_and] at ho
      simp (maxSteps:=1000000) -dsimp only [go_sem,nY,hz,↓q2,hc,f1,f2]
      refine ⟨by omega,by omega,aC (i + 1) 1 ⟨by omega,ho⟩ (by omega) ?_ ?_⟩
      · simp -dsimp only [go_sem]<;>simp
      · simp -dsimp only [go_sem,aP]<;>simp [aP]
 · have hg:decide ((i:Int) < (l.length:Int))=false:=by simp; omega
   obtain rfl:i=l.length:=by omega
   rw [List.drop_length,L3,Bool.true_and] at ho
   simp (maxSteps:=1000000) -dsimp only [go_sem,hg,aP]
   refine aF rfl (.done ?_)
   simp (maxSteps:=1000000) -dsimp only [go_sem,B5]
   clear hi hge hg hR0
   rw [<-hR] at ho
   clear hR
   refine aL (α:=Nat) (fun i=>[(1,.va (.c1 (.fz (l.map cJ)))),(2,.va (.c1 (.pt 0 0))),(44,.va (.c1 (.fz (u.fs.map aZ)))),(45,iS .i64 u.fs.length),(46,iS .i64 i)]) (fun _=>[.cells (aP u) 95])
    (fun i=>i<=u.fs.length/\(u.fs.drop i).all (fun f=>f.opt || rB l f.num)=R0) (fun i=>u.fs.length - i) 0 1 ⟨Nat.zero_le _,ho⟩ ?_ ?_ ?_
   · simp -dsimp only [go_sem]<;>simp
   · simp -dsimp only [go_sem,aP]<;>simp
   clear ho
   rintro i ⟨hi,ho⟩
   rcases bF i u.fs.length with hlt | hge
   · have hg:decide ((i:Int) < (u.fs.length:Int))=true:=by simp; omega
     obtain ⟨f,hx⟩:∃ t,u.fs[i]? = some t:=⟨_,aW hlt⟩
     have q1:=aY (row:=aZ) hx
     rw [oH hx] at ho
     simp (maxSteps:=1000000) -dsimp only [go_sem,hg,↓q1,aP,aZ]
     refine ⟨by omega,aF rfl (.done ?_)⟩
     cases hop:f.opt with
     | true=>
      rw [hop,Bool.true_or,Bool.true_and] at ho
      simp (maxSteps:=1000000) -dsimp only [go_sem,sC]
      refine ⟨by omega,aC (i + 1) 1 ⟨by omega,ho⟩ (by omega) ?_ ?_⟩
      · simp -dsimp only [go_sem]<;>simp
      · simp -dsimp only [go_sem,aP]<;>simp [aP]
     | false=>
      rw [hop,Bool.false_or] at ho
      have cu:=fun K h=>aGY (l:=l) (f:=f) (K:=K) (by omega) h
      rw [aZ,hop] at cu
      simp (maxSteps:=1000000) -dsimp only [go_sem,sC]
      refine cu _ ?_
      cases hc:rB l f.num with
      | false=>
       rw [hc,Bool.false_and] at ho
       simp (maxSteps:=1000000) -dsimp only [go_sem]
       exact fin _ _ ho.symm
      | true=>
       rw [hc,Bool.true_and] at ho
       simp (maxSteps:=1000000) -dsimp only [go_sem]
       refine ⟨by omega,aC (i + 1) 1 ⟨by omega,ho⟩ (by omega) ?_ ?_⟩
       · simp -dsimp only [go_sem]<;>simp
       · simp -dsimp only [go_sem,aP]<;>simp [aP]
   · have hg:decide ((i:Int) < (u.fs.length:Int))=false:=by simp; omega
     obtain rfl:i=u.fs.length:=by omega
     rw [p8] at ho
     simp (maxSteps:=1000000) -dsimp only [go_sem,hg,aP]
     exact fin _ _ ho.symm
abbrev Z1 (s:Sc) (t:Ty) (v:Vl):Value:=.int .i64 (eL s t v)
abbrev ckH (N:Nat):Sc->Ty->Vl->Prop:=fun _ _ v=>v.h<=N
def N5 (s:Sc) (t:Ty) (v:Vl):Int:=bif v.n != 0 || !(bl v.s == []) || decide (0 < (v.f.length:Int)) then 13 else bif decide (t.s < (v.l.length:Int)) then 3 else kX s (t.e.headD default) v.l
def OV (s:Sc) (t:Ty) (v:Vl):Int:=bif v.n != 0 || !(bl v.s == []) || decide (0 < (v.l.length:Int)) || !(dR ((fS s.ss t.n).getD default).fs v.f) then 13 else kC s ((fS s.ss t.n).getD default).fs v.f
theorem jG {t:Ty} (h:TyOk t):fL [.vl (.int .i64 t.k),.vl (.int .i64 t.s),.vl (.string t.n),.fz (t.e.map aN)]:=by rw [<-aO]; exact eH h
theorem oN (t:Ty):C.ty [.vl (.int .i64 t.k),.vl (.int .i64 t.s),.vl (.string t.n),.fz (t.e.map aN)]=t:=by rw [<-aO,fX]
theorem jL {s:Sc} (h:s.fit):lE [.vl (.int .i64 s.ver),.fz (s.es.map bL),.fz (s.ss.map aP)]:=gA h
theorem oG (s:Sc):C.sc [.vl (.int .i64 s.ver),.fz (s.es.map bL),.fz (s.ss.map aP)]=s:=gT s
theorem JM {ss:List St} {es:List En} {t:Ty} (h:valF ss es t=true) (k:(t.k == 5)=true):∃ u,t.e=[u]/\valF ss es u=true:=by
 cases t with
 | mk k0 s n e=>
  obtain rfl:k0=5:=by have k:(k0 == 5)=true:=k; simpa using k
  exact yJ h
theorem aG1 (N:Nat) (hc:Meets Tryz.prog 53 (i7 (ckH N) Z1).sp):Meets Tryz.prog 93 (i7 (fun s t v=>valF s.ss s.es t=true/\(t.k == 5)=true/\v.h<=N + 1) fun s t v=>.int .i64 (N5 s t v)).sp:=by
 refine aE Tryz.func93 aPW 3 (by rw [Tryz.ntmps93]; decide) (aH hc (aA _)) lV ?_
 intro av H K h
 obtain ⟨s,t,v,rfl,rfl,hs,ht,hv,⟨hp,hk,hh⟩,hK⟩:=jX h
 clear h
 have fin:∀ (z:Int) (R:Hp),N5 s t v=z->W.Fin 0 K (iS .i64 z) R:=fun z R h=>by
  rw [h] at hK; exact .sel [] (by simp) (by simp) rfl (.done (by simpa [go_sem] using hK))
 clear hK
 unfold N5 at fin
 obtain ⟨u,he,hu⟩:=JM hp hk
 have huo:TyOk u:=ht.e u (by rw [he]; simp)
 have hll:=hv.ll
 rw [he] at fin
 simp only [List.headD_cons] at fin
 cases h0:(v.n != 0 || !(bl v.s == []) || decide (0 < (v.f.length:Int))) with
 | true=>
  rw [h0] at fin
  cases h1:v.n != 0<;>cases h2:bl v.s == []<;>cases h3:decide (0 < (v.f.length:Int)) <;>
  first
   | (exfalso; rw [h1,h2,h3] at h0; exact absurd h0 (by decide))
   | (simp (maxSteps:=1000000) -dsimp only [go_sem,aG,aO t,aX v,PH,O3,h1,h2,h3]
      exact fin _ _ rfl)
 | false=>
 rw [h0] at fin
 obtain ⟨h1,h2,h3⟩:(v.n != 0)=false/\(bl v.s == [])=true/\decide (0 < (v.f.length:Int))=false:=by
  simp only [Bool.or_eq_false_iff,Bool.not_eq_false'] at h0; exact ⟨h0.1.1,h0.1.2,h0.2⟩
 cases h4:decide (t.s < (v.l.length:Int)) with
 | true=>
  rw [h4] at fin
  simp (maxSteps:=1000000) -dsimp only [go_sem,aG,aO t,aX v,PH,O3,h1,h2,h3,h4]
  exact fin _ _ rfl
 | false=>
 rw [h4] at fin
 simp only [aD] at fin
 simp (maxSteps:=1000000) -dsimp only [go_sem,aG,aO t,aX v,PH,O3,h1,h2,h3,h4]
 refine aL (α:=Nat) (fun i=>[(3,.va (.c1 (.pt 0 0))),(4,.va (.c1 (.pt 1 0))),(5,.va (.c1 (.pt 2 0))),(33,.va (.c1 (.fz (v.l.map bK)))),(34,iS .i64 v.l.length),(35,iS .i64 i)]) (fun _=>[.cells (aG s) 105,.cells [.vl (.int .i64 t.k),.vl (.int .i64 t.s),.vl (.string t.n),.fz (t.e.map aN)] 28,.cells (bO v) 32])
  (fun i=>i<=v.l.length/\kX s u (v.l.drop i)=kX s u v.l) (fun i=>v.l.length - i) 0 3 ⟨Nat.zero_le _,rfl⟩ ?_ ?_ ?_
 · simp -dsimp only [go_sem]<;>simp
 · simp -dsimp only [go_sem,bO,aG]<;>simp
 rintro i ⟨hi,ho⟩
 rcases bF i v.l.length with hlt | hge
 · have hg:decide ((i:Int) < (v.l.length:Int))=true:=by simp; omega
   obtain ⟨x,hx⟩:∃ t,v.l[i]? = some t:=⟨_,aW hlt⟩
   have q1:=PS hx
   have hxm:=bJ hx
   have k1:=f6 (hv.l x hxm)
   have k2:=lK x
   have k3:x.h<=N:=by have:=Vl.h_l hxm; omega
   have hdr:v.l.drop i=x :: v.l.drop (i + 1):=by
    obtain ⟨h,rfl⟩:=a6.1 hx
    exact List.drop_eq_getElem_cons h
   have k4:=jG huo
   have k5:=oN u
   have k6:=jL hs
   have k7:=oG s
   rw [hdr,kX] at ho
   rw [he]
   cases h5:eL s u x != 0 with
   | true=>
    rw [h5,aI] at ho
    simp (maxSteps:=1000000) -dsimp only [go_sem,hg,↓q1,bO,aG,aO u,k1,k2,k3,k4,k5,k6,k7,h5,List.getElem?_cons_zero,aJ,forall_eq']
    exact ⟨by omega,by omega,fin _ _ ho.symm⟩
   | false=>
    rw [h5,aD] at ho
    simp (maxSteps:=1000000) -dsimp only [go_sem,hg,↓q1,bO,aG,aO u,k1,k2,k3,k4,k5,k6,k7,h5,List.getElem?_cons_zero,aJ,forall_eq']
    refine ⟨by omega,by omega,by omega,aC (i + 1) 3 ⟨by omega,ho⟩ (by omega) ?_ ?_⟩
    · simp -dsimp only [go_sem]<;>simp
    · simp -dsimp only [go_sem,bO,aG]<;>simp [aO u]
 · have hg:decide ((i:Int) < (v.l.length:Int))=false:=by simp; omega
   obtain rfl:i=v.l.length:=by omega
   rw [List.drop_length,kX] at ho
   simp (maxSteps:=1000000) -dsimp only [go_sem,hg,bO,aG]
   exact fin _ _ ho.symm
end Go.Proofs.YtkpohmhenegkiaaGreatDoor
