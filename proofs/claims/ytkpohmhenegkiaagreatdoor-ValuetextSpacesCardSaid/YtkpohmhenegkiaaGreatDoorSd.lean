/- Lemmas and walks for the proof. -/
import Derived.Test.YtkpohmhenegkiaaGreatDoorSc
import Derived.Shelf.Slices.Clone
import Derived.Test.YtkpohmhenegkiaaGreatDoorProg
set_option maxRecDepth 100000
set_option maxHeartbeats 8000000
namespace Go.Proofs.YtkpohmhenegkiaaGreatDoor
open Go.W
def iZ (s:Sc) (i:Nat):Int:=match s.es[i]? with
 | some e=>bif !(uZ (bl e.nm)) then 5 else bif fN (s.es.take i) e.nm then 7 else B4 e
 | none=>0
def jI (s:Sc) (i:Nat):Int:=match s.ss[i]? with
 | some t=>bif nZ s i t.nm != 0 then nZ s i t.nm else BY s.ss s.es t
 | none=>0
def IJ (s:Sc):Int:=fE (iZ s) (s.es.length - 0) 0
def DN (s:Sc):Int:=fE (jI s) (s.ss.length - 0) 0
def d8 (s:Sc):Int:=bif decide (s.ver < 1) || decide (999 < s.ver) then 4 else bif eD s then 3 else bif IJ s != 0 then IJ s else bif DN s != 0 then DN s else tB s.ss
inductive TySm:Ty->Prop
 | mk {k s:Int} {n:ByteArray} {e:List Ty}:e.length<=1000000000->(∀ t ∈ e,TySm t)->TySm (.mk k s n e)
structure Sc.fit (s:Sc):Prop where
 ok:s.ok
 lv:∀ t ∈ s.ss,∀ f ∈ t.fs,(cF f.ty).1<=1000000000
 sm:∀ t ∈ s.ss,t.fs.length<=1000000000/\∀ f ∈ t.fs,TySm f.ty
 en:∀ e ∈ s.es,e.ns.length<=1000000000/\e.vs.length<=1000000000
theorem OR {f:Nat->Int} {m:Nat}:∀ (k i:Nat),i + k=m->fE f (m - i) i=0->∀ j,i<=j->j < m->f j=0
 | 0,i,h,_=>fun j h1 h2=>by omega
 | k + 1,i,h,h0=>fun j h1 h2=>by
  have hi:i < m:=by omega
  by_cases e:f i=0
  · rw [wV hi e] at h0
    rcases bE i j with h3 | h3
    · exact OR k (i + 1) (by omega) h0 j h3 h2
    · obtain rfl:i=j:=by omega
      exact e
  · rw [sF hi e] at h0; exact absurd h0 e
theorem kL {f:Nat->Int} {m:Nat} (h:fE f (m - 0) 0=0):∀ j,j < m->f j=0:=fun j hj=>OR m 0 (by omega) h j (Nat.zero_le _) hj
theorem S4 {ss:List St} {i:Nat} {t:St} (hx:ss[i]? = some t) (h:fO (ss.take i) t.nm=false):fS ss t.nm=some t:=by
 obtain ⟨hl,ht⟩:=aZ.1 hx
 have h1:(ss.take i).find? (fun s=>decide (s.nm=t.nm))=none:=by
  rw [List.find?_eq_none]
  intro x hx
  have:=jR h x hx
  simpa using this
 have h2:ss=ss.take i ++ (t :: ss.drop (i + 1)):=by rw [<-ht,<-List.drop_eq_getElem_cons hl,List.take_append_drop]
 unfold fS
 rw [h2,List.find?_append,h1]
 simp
theorem ZH {ss:List St} {es:List En} {t:St} (h:BY ss es t=0):∀ f ∈ t.fs,(1<=f.num/\f.num<=127)/\cG (bl f.nm)=true/\valF ss es f.ty=true:=fun f hf=>by
 obtain ⟨i,hi⟩:=List.mem_iff_getElem?.1 hf
 have:=kL h i (aZ.1 hi).1
 unfold oD at this
 rw [hi] at this
 simp only at this
 cases c1:decide (f.num < 1) || decide (127 < f.num) with
 | true=>rw [c1] at this; simp at this
 | false=>
 rw [c1] at this
 simp only [aI] at this
 revert this
 generalize (decide (0 < (i:Int)) && (match t.fs[i - 1]? with | some g=>decide (f.num<=g.num) | none=>false))=b
 intro this
 cases b with
 | true=>simp at this
 | false=>
 simp only [aI] at this
 simp only [Bool.or_eq_false_iff,decide_eq_false_iff_not] at c1
 refine ⟨by omega,?_⟩
 cases c2:cG (bl f.nm) with
 | false=>rw [c2] at this; simp at this
 | true=>
 rw [c2] at this
 cases c3:(t.fs.take i).any (fun g=>decide (g.nm=f.nm)) with
 | true=>rw [c3] at this; simp at this
 | false=>
 rw [c3] at this
 cases c4:valF ss es f.ty with
 | false=>rw [c4] at this; simp at this
 | true=>exact ⟨rfl,rfl⟩
theorem ZO {s:Sc} {i:Nat} {n:ByteArray} (h:nZ s i n=0):uZ (bl n)=true/\fN s.es n=false/\fO (s.ss.take i) n=false:=by
 unfold nZ at h
 cases c1:uZ (bl n) with
 | false=>rw [c1] at h; simp at h
 | true=>
 rw [c1] at h
 cases c2:fN s.es n with
 | true=>rw [c2] at h; simp at h
 | false=>
 rw [c2] at h
 cases c3:fO (s.ss.take i) n with
 | true=>rw [c3] at h; simp at h
 | false=>exact ⟨rfl,rfl,rfl⟩
theorem JC {s:Sc} {i:Nat} {t:St} (hx:s.ss[i]? = some t) (h:jI s i=0):nZ s i t.nm=0/\BY s.ss s.es t=0:=by
 unfold jI at h
 rw [hx] at h
 simp only at h
 by_cases e:nZ s i t.nm=0
 · rw [e] at h; exact ⟨e,by simpa using h⟩
 · rw [show (nZ s i t.nm != 0)=true by simpa using e] at h
   exact absurd h e
theorem KP {s:Sc} {i:Nat} {t:En} (hx:s.es[i]? = some t) (h:iZ s i=0):uZ (bl t.nm)=true/\fN (s.es.take i) t.nm=false/\B4 t=0:=by
 unfold iZ at h
 rw [hx] at h
 simp only at h
 cases c1:uZ (bl t.nm) with
 | false=>rw [c1] at h; simp at h
 | true=>
 rw [c1] at h
 cases c2:fN (s.es.take i) t.nm with
 | true=>rw [c2] at h; simp at h
 | false=>
 rw [c2] at h
 exact ⟨rfl,rfl,by simpa using h⟩
theorem uS {s:Sc} (h:eD s=false):s.es.length<=16/\s.es.length + s.ss.length<=16/\(∀ e ∈ s.es,e.ns.length<=16)/\∀ t ∈ s.ss,t.fs.length<=16:=by
 unfold eD at h
 simp only [Bool.or_eq_false_iff,decide_eq_false_iff_not] at h
 obtain ⟨⟨⟨h1,h2⟩,h3⟩,h4⟩:=h
 refine ⟨by omega,by omega,fun e he=>?_,fun t ht=>?_⟩
 · have:=jR h3 e he; simp at this; exact this
 · have:=jR h4 t ht; simp at this; exact this
theorem KH {s:Sc} (hf:s.fit) (h1:eD s=false) (h2:DN s=0):Gd s.ss s.es:=by
 obtain ⟨l1,l2,l3,l4⟩:=uS h1
 have key:∀ t ∈ s.ss,∃ i,s.ss[i]? = some t/\nZ s i t.nm=0/\BY s.ss s.es t=0:=fun t ht=>by
  obtain ⟨i,hi⟩:=List.mem_iff_getElem?.1 ht
  exact ⟨i,hi,JC hi (kL h2 i (aZ.1 hi).1)⟩
 refine ⟨hf.ok.ss,by omega,by omega,fun t ht f hm=>?_,hf.lv,fun t ht=>?_⟩
 · obtain ⟨i,hi,c1,c2⟩:=key t ht
   exact (ZH c2 f hm).2.2
 · obtain ⟨i,hi,c1,c2⟩:=key t ht
   exact S4 hi (ZO c1).2.2
def jY (r:List C):Prop:=∃ s:Sc,r=aF s/\s.fit
theorem fC {s:Sc} (h:s.fit):jY (aF s):=⟨s,rfl,h⟩
noncomputable def ckFn:Fun:=uI jY C.sc fun s=>.int .i64 (d8 s)
attribute [go_sem] ckFn
theorem ID {a b:Int} (h:a ≠ 0):(bif a != 0 then a else b)=a:=by rw [bne,beq_eq_false_iff_ne.2 h]; rfl
theorem K6 {a b:Int} (h:a=0):(bif a != 0 then a else b)=b:=by rw [h]; rfl
def okS (s:Sc) (n:ByteArray):Bool:=d8 s == 0 && fO s.ss n
def aF3 (N:Nat):W.Spec:=fun av H K=>∃ t:Ty,av=[.va (.gs (aN t))]/\H=[]/\TyOk t/\TySm t/\t.h<=N/\K (.va (.gs (aN t))) []
theorem O6 {N:Nat} {t:Ty} {K:S->Hp->Prop} (h1:TyOk t) (h2:TySm t) (h3:t.h<=N) (hK:K (.va (.gs (aN t))) []):aF3 N [.va (.gs (aN t))] [] K:=⟨t,rfl,rfl,h1,h2,h3,hK⟩
theorem fU {α:Type} {l:List α} {i:Nat} {x:α} (h:l[i]? = some x):l.take (i + 1)=l.take i ++ [x]:=by rw [List.take_add_one,h]; rfl
theorem PO (t:Ty):∀ c ∈ aN t,c.shut=true/\c.one:=by rw [aO]; simp [go_sem,C.shut]
theorem CA:∀ N,Meets Tryz.prog 149 (aF3 N)
 | 0=>⟨by kernel_rfl,by rintro xs vs E ro w K _ _ _ ⟨t,_,_,_,_,h,_⟩; have:=t.h_pos; omega⟩
 | N + 1=>by
  refine aE Tryz.func149 aHA 1 (by rw [Tryz.ntmps149]; decide) (aB (CA N) (aA _)) (fun av H K h=>by obtain ⟨_,rfl,_⟩:=h; rfl) ?_
  rintro av H K ⟨⟨k,s,n,e⟩,rfl,rfl,h1,h2,h3,hK⟩
  have hle:=h1.len
  have hoe:=h1.e
  obtain ⟨hl,hse⟩:e.length<=1000000000/\∀ t ∈ e,TySm t:=by cases h2; exact ⟨by assumption,by assumption⟩
  simp only [Ty.e] at hle hoe
  simp (maxSteps:=1000000) -dsimp only [go_sem,aN,aS,VV,WY]
  refine dC (α:=Nat) (fun i=>[(2,.va (.c1 (.pt 1 0))),(3,.va (.c1 (.pt 2 0))),(14,.va (.c1 (.fz (e.map aN)))),(15,iS .i64 e.length),(16,iS .i64 i)]) (fun i=>[.cells (aN (.mk k s n e)) 28,.cells [.vl (.int .i64 0),.vl (.int .i64 0),.vl (.string (mk [])),.vl (.slice none 0 0)] 28,.cells [.vl (.int .i64 k),.vl (.int .i64 s),.vl (.string n),.sl 3 i] 28,.row ((e.take i).map aN) 28 4])
   (fun i=>i<=e.length) (fun i=>e.length - i) (.nilc 2 3 28 4 [.vl (.int .i64 k),.vl (.int .i64 s),.vl (.string n),.vl (.slice none 0 0)] 28 rfl rfl (kV 0 4 (Nat.zero_le _) ?_ ?_)) ?_
  · simp -dsimp only [go_sem]<;>simp
  · simp -dsimp only [go_sem,aN,aS]<;>simp
  intro i hi
  have hz:(e.take i).length=i:=by rw [List.length_take]; omega
  rcases bE i e.length with hlt | hge
  · have hg:decide ((i:Int) < (e.length:Int))=true:=by simp; omega
    obtain ⟨u,hx⟩:∃ t,e[i]? = some t:=⟨_,aY hlt⟩
    have q1:=aW (row:=aN) hx
    have hu:=bK hx
    simp (maxSteps:=1000000) -dsimp only [go_sem,hg,↓q1,gV]
    refine ⟨by omega,YK u,O6 (hoe u hu) (hse u hu) ?_ ?_⟩
    · have:=Ty.hs_mem hu; rw [Ty.h] at h3; omega
    simp (maxSteps:=1000000) -dsimp only [go_sem,gV]
    refine ⟨PO u,PO u,hz,by omega,by omega,aC (i + 1) 4 (by omega) (by omega) ?_ ?_⟩
    · simp -dsimp only [go_sem]<;>simp
    · simp -dsimp only [go_sem,aN,aS,fU hx]<;>simp
  · have hg:decide ((i:Int) < (e.length:Int))=false:=by simp; omega
    obtain rfl:i=e.length:=by omega
    rw [List.take_length]
    simp (maxSteps:=1000000) -dsimp only [go_sem,hg]
    refine .pub 3 _ _ _ rfl (.sel [] (by simp) (by simp [cN]) rfl (.done ?_))
    simp -dsimp only [go_sem,cN]
    simpa [aN,aS] using hK
def aD0:W.Spec:=fun av H K=>∃ f:Fl,av=[.va (.gs (aX f))]/\H=[]/\f.ok/\TySm f.ty/\K (.va (.gs (aX f))) []
theorem OV {f:Fl} {K:S->Hp->Prop} (h1:f.ok) (h2:TySm f.ty) (hK:K (.va (.gs (aX f))) []):aD0 [.va (.gs (aX f))] [] K:=⟨f,rfl,rfl,h1,h2,hK⟩
theorem wX:Meets Tryz.prog 130 aD0:=by
 refine eC 0 (t:=fun N=>fun av H K=>∃ f:Fl,av=[.va (.gs (aX f))]/\H=[]/\f.ok/\TySm f.ty/\f.ty.h=N/\K (.va (.gs (aX f))) []) (fun N=>?_) fun av H K ⟨f,e1,e2,h1,h2,hK⟩=>⟨f.ty.h,f,e1,e2,h1,h2,rfl,hK⟩
 refine aE Tryz.func130 aIA 1 (by rw [Tryz.ntmps130]; decide) (aB (CA N) (aA _)) (fun av H K h=>by obtain ⟨_,rfl,_⟩:=h; rfl) ?_
 rintro av H K ⟨f,rfl,rfl,h1,h2,rfl,hK⟩
 simp (maxSteps:=1000000) -dsimp only [go_sem,aX,UV,W2,uB]
 refine O6 h1.ty h2 (Nat.le_refl _) ?_
 simp (maxSteps:=1000000) -dsimp only [go_sem,aO]
 exact .sel [] (by simp) (by simp) rfl (.done (by simpa [go_sem,aX] using hK))
def VX:W.Spec:=fun av H K=>∃ t:St,av=[.va (.gs (aP t))]/\H=[]/\t.ok/\(t.fs.length<=1000000000/\∀ f ∈ t.fs,TySm f.ty)/\K (.va (.gs (aP t))) []
theorem aCS {t:St} {K:S->Hp->Prop} (h1:t.ok) (h2:t.fs.length<=1000000000/\∀ f ∈ t.fs,TySm f.ty) (hK:K (.va (.gs (aP t))) []):VX [.va (.gs (aP t))] [] K:=⟨t,rfl,rfl,h1,h2,hK⟩
theorem I6:Meets Tryz.prog 129 VX:=by
 refine aE Tryz.func129 aGU 1 (by rw [Tryz.ntmps129]; decide) (aB wX (aA _)) (fun av H K h=>by obtain ⟨_,rfl,_⟩:=h; rfl) ?_
 rintro av H K ⟨⟨n,l⟩,rfl,rfl,h1,⟨hl,hse⟩,hK⟩
 obtain ⟨hn,_,hfs⟩:=h1
 simp only at hn hl hse hfs
 simp (maxSteps:=1000000) -dsimp only [go_sem,aP,WK,US]
 refine dC (α:=Nat) (fun i=>[(2,.va (.c1 (.pt 1 0))),(3,.va (.c1 (.pt 2 0))),(10,.va (.c1 (.fz (l.map aX)))),(11,iS .i64 l.length),(12,iS .i64 i)]) (fun i=>[.cells (aP ⟨n,l⟩) 95,.cells [.vl (.string (mk [])),.vl (.slice none 0 0)] 95,.cells [.vl (.string n),.sl 3 i] 95,.row ((l.take i).map aX) 97 7])
  (fun i=>i<=l.length) (fun i=>l.length - i) (.nilc 2 1 97 7 [.vl (.string n),.vl (.slice none 0 0)] 95 rfl rfl (kV 0 4 (Nat.zero_le _) ?_ ?_)) ?_
 · simp -dsimp only [go_sem]<;>simp
 · simp -dsimp only [go_sem,aP]<;>simp
 intro i hi
 have hz:(l.take i).length=i:=by rw [List.length_take]; omega
 rcases bE i l.length with hlt | hge
 · have hg:decide ((i:Int) < (l.length:Int))=true:=by simp; omega
   obtain ⟨u,hx⟩:∃ t,l[i]? = some t:=⟨_,aY hlt⟩
   have q1:=aW (row:=aX) hx
   have hu:=bK hx
   have hcd:aX u=[.vl (.int .i64 u.num),.vl (.string u.nm),.vl (.int .i64 u.ty.k),.vl (.int .i64 u.ty.s),.vl (.string u.ty.n),.fz (u.ty.e.map aN),.vl (.bool u.opt)]:=rfl
   simp (maxSteps:=1000000) -dsimp only [go_sem,hg,↓q1,aX]
   refine ⟨by omega,OV (hfs u hu) (hse u hu) ?_⟩
   simp (maxSteps:=1000000) -dsimp only [go_sem,aX]
   refine ⟨hz,by omega,by omega,aC (i + 1) 4 (by omega) (by omega) ?_ ?_⟩
   · simp -dsimp only [go_sem]<;>simp
   · simp -dsimp only [go_sem,aP,fU hx]<;>simp [aX]
 · have hg:decide ((i:Int) < (l.length:Int))=false:=by simp; omega
   obtain rfl:i=l.length:=by omega
   rw [List.take_length]
   simp (maxSteps:=1000000) -dsimp only [go_sem,hg]
   refine .pub 3 _ _ _ rfl (.sel [] (by simp) (by simp [cN]) rfl (.done ?_))
   simp -dsimp only [go_sem,cN]
   simpa [aP] using hK
theorem m9 {α:Type} {l:List α} {i:Nat} {x:α} (hx:l[i]? = some x) (p:α->Bool):(l.drop i).find? p=bif p x then some x else (l.drop (i + 1)).find? p:=by
 obtain ⟨h,rfl⟩:=aZ.1 hx
 rw [List.drop_eq_getElem_cons h,List.find?_cons]
 cases p l[i]<;>rfl
def w5:W.Spec:=fun av H K=>∃ (s:Sc) (n:ByteArray),av=[.va (.gs (aF s)),tS n]/\H=[]/\s.fit/\K (.tu [.gs (aP ((fS s.ss n).getD default)),bA (fO s.ss n)]) []
theorem kH {s:Sc} {n:ByteArray} {K:S->Hp->Prop} (h:s.fit) (hK:K (.tu [.gs (aP ((fS s.ss n).getD default)),bA (fO s.ss n)]) []):w5 [.va (.gs (aF s)),tS n] [] K:=⟨s,n,rfl,rfl,h,hK⟩
theorem JD:aP default=[.vl (.string (mk [])),.fz []]:=rfl
theorem JS:aX default=[.vl (.int .i64 0),.vl (.string (mk [])),.vl (.int .i64 0),.vl (.int .i64 0),.vl (.string (mk [])),.fz [],.vl (.bool false)]:=rfl
theorem m7:Meets Tryz.prog 103 w5:=by
 refine aE Tryz.func103 aGO 2 (by rw [Tryz.ntmps103]; decide) (aB I6 (aA _)) (fun av H K h=>by obtain ⟨_,_,rfl,_⟩:=h; rfl) ?_
 rintro av H K ⟨s,n,rfl,rfl,hs,hK⟩
 rw [<-xZ] at hK
 have hl:=hs.ok.ls
 simp -dsimp only [go_sem,aF,WV,VU]
 refine aK (α:=Nat) (fun i=>[(1,tS n),(2,.va (.c1 (.pt 0 0))),(4,.va (.c1 (.pt 1 0))),(9,.va (.c1 (.fz (s.ss.map aP)))),(10,iS .i64 s.ss.length),(11,iS .i64 i)]) (fun _=>[.cells (aF s) 25,.cells [.vl (.string (mk [])),.vl (.slice none 0 0)] 95])
  (fun i=>i<=s.ss.length/\fS (s.ss.drop i) n=fS s.ss n) (fun i=>s.ss.length - i) 0 2 ⟨Nat.zero_le _,rfl⟩ ?_ ?_ ?_
 · simp [go_sem]
 · simp [go_sem,aF]
 rintro i ⟨hi,ho⟩
 rcases bE i s.ss.length with hlt | hge
 · have hg:decide ((i:Int) < (s.ss.length:Int))=true:=by simp; omega
   obtain ⟨t,hx⟩:∃ e,s.ss[i]? = some e:=⟨_,aY hlt⟩
   have q2:=aW (row:=aP) hx
   have htm:=bK hx
   rw [fS,m9 hx] at ho
   cases hc:decide (t.nm=n) with
   | true=>
    rw [hc,aL] at ho
    rw [<-ho] at hK
    simp (maxSteps:=1000000) -dsimp only [go_sem,hg,↓q2,aP,aF,d9,hc]
    refine ⟨by omega,aCS (hs.ok.ss t htm) (hs.sm t htm) ?_⟩
    simp (maxSteps:=1000000) -dsimp only [go_sem,aP]
    exact .sel [] (by simp) (by simp) rfl (.done (by simpa [go_sem,aP] using hK))
   | false=>
    rw [hc,aI] at ho
    simp (maxSteps:=1000000) -dsimp only [go_sem,hg,↓q2,aP,aF,d9,hc]
    refine ⟨by omega,by omega,aC (i + 1) 2 ⟨by omega,ho⟩ (by omega) ?_ ?_⟩
    · simp [go_sem]
    · simp [go_sem,aF]
 · have hg:decide ((i:Int) < (s.ss.length:Int))=false:=by simp; omega
   obtain rfl:i=s.ss.length:=by omega
   rw [List.drop_length] at ho
   rw [<-ho] at hK
   simp -dsimp only [go_sem,hg,aF]
   exact .sel [] (by simp) (by simp) rfl (.done (by simpa [go_sem,fS,JD] using hK))
def fF (l:List Fl) (k:Int):Option Fl:=l.find? fun f=>decide (f.num=k)
def zQ:W.Spec:=fun av H K=>∃ (t:St) (k:Int),av=[.va (.gs (aP t)),iS .i64 k]/\H=[]/\t.ok/\(∀ f ∈ t.fs,TySm f.ty)/\K (.tu [.gs (aX ((fF t.fs k).getD default)),bA (fF t.fs k).isSome]) []
theorem KA {t:St} {k:Int} {K:S->Hp->Prop} (h:t.ok) (h2:∀ f ∈ t.fs,TySm f.ty) (hK:K (.tu [.gs (aX ((fF t.fs k).getD default)),bA (fF t.fs k).isSome]) []):zQ [.va (.gs (aP t)),iS .i64 k] [] K:=⟨t,k,rfl,rfl,h,h2,hK⟩
theorem rH:Meets Tryz.prog 104 zQ:=by
 refine aE Tryz.func104 aG6 2 (by rw [Tryz.ntmps104]; decide) (aB wX (aA _)) (fun av H K h=>by obtain ⟨_,_,rfl,_⟩:=h; rfl) ?_
 rintro av H K ⟨s,n,rfl,rfl,hs,hsm,hK⟩
 have hl:=hs.len
 simp -dsimp only [go_sem,aP,XE,VZ]
 refine aK (α:=Nat) (fun i=>[(1,iS .i64 n),(2,.va (.c1 (.pt 0 0))),(4,.va (.c1 (.pt 1 0))),(9,.va (.c1 (.fz (s.fs.map aX)))),(10,iS .i64 s.fs.length),(11,iS .i64 i)]) (fun _=>[.cells (aP s) 95,.cells [.vl (.int .i64 0),.vl (.string (mk [])),.vl (.int .i64 0),.vl (.int .i64 0),.vl (.string (mk [])),.vl (.slice none 0 0),.vl (.bool false)] 97])
  (fun i=>i<=s.fs.length/\fF (s.fs.drop i) n=fF s.fs n) (fun i=>s.fs.length - i) 0 2 ⟨Nat.zero_le _,rfl⟩ ?_ ?_ ?_
 · simp [go_sem]
 · simp [go_sem,aP]
 rintro i ⟨hi,ho⟩
 rcases bE i s.fs.length with hlt | hge
 · have hg:decide ((i:Int) < (s.fs.length:Int))=true:=by simp; omega
   obtain ⟨t,hx⟩:∃ e,s.fs[i]? = some e:=⟨_,aY hlt⟩
   have q2:=aW (row:=aX) hx
   have htm:=bK hx
   rw [fF,m9 hx] at ho
   have hq:(t.num == n)=decide (t.num=n):=rfl
   cases hc:decide (t.num=n) with
   | true=>
    rw [hc,aL] at ho
    rw [<-ho] at hK
    simp (maxSteps:=1000000) -dsimp only [go_sem,hg,↓q2,aX,aP,hq,hc]
    refine ⟨by omega,OV (hs.fs t htm) (hsm t htm) ?_⟩
    simp (maxSteps:=1000000) -dsimp only [go_sem,aX]
    exact .sel [] (by simp) (by simp) rfl (.done (by simpa [go_sem,aX] using hK))
   | false=>
    rw [hc,aI] at ho
    simp (maxSteps:=1000000) -dsimp only [go_sem,hg,↓q2,aX,aP,hq,hc]
    refine ⟨by omega,by omega,aC (i + 1) 2 ⟨by omega,ho⟩ (by omega) ?_ ?_⟩
    · simp [go_sem]
    · simp [go_sem,aP]
 · have hg:decide ((i:Int) < (s.fs.length:Int))=false:=by simp; omega
   obtain rfl:i=s.fs.length:=by omega
   rw [List.drop_length] at ho
   rw [<-ho] at hK
   simp -dsimp only [go_sem,hg,aP]
   exact .sel [] (by simp) (by simp) rfl (.done (by simpa [go_sem,fF,JS] using hK))
@[go_sem] theorem aQU (t:Ty) (H:Hp):(aN t).map (C.bor H)=aN t:=by rw [aO]; rfl
theorem wD:Meets Tryz.prog 86 (s9 fun l=>.bool (cG l)).sp:=by
 refine aE Tryz.func86 aOD 1 (by rw [Tryz.ntmps86]; decide) (aA _) n0 ?_
 rintro xs H K ⟨⟨h,rfl⟩,hK⟩
 obtain ⟨s,rfl⟩:=gT h
 simp -dsimp only [go_sem,aF6,aGG] at hK ⊢
 refine ⟨fun h1=>?_,fun h1=>?_⟩
 · refine bP hK ?_
   have:cG (bl s)=false:=by
    simp at h1
    rcases h1 with h1 | h1
    · have:bl s=[]:=List.length_eq_zero_iff.1 (by omega)
      rw [this]; rfl
    · exact nW (by omega)
   rw [this]
 · have hlen:0 < (bl s).length/\(bl s).length<=16:=by simp at h1; omega
   obtain ⟨hl0,hl⟩:=hlen
   refine aK (α:=Nat) (fun i=>[(0,tS s),(3,iS .i64 i)]) (fun i=>[]) (fun i=>i<=(bl s).length/\(∀ (j:Nat) (x:UInt8),j < i->(bl s)[j]? = some x->aT x=true)/\(0 < i->∀ x,(bl s)[0]? = some x->bB x.toNat=true)) (fun i=>(bl s).length - i) 0 0 ⟨by omega,by omega,by omega⟩ ?_ ?_ ?_
   · simp -dsimp only [go_sem]; simp
   · simp [go_sem]
   rintro i ⟨hi,ha,hb⟩
   rcases bE i (bl s).length with hlt | hge
   · have hg:decide ((i:Int) < ((bl s).length:Int))=true:=by simp; omega
     obtain ⟨c,hc⟩:∃ c,(bl s)[i]? = some c:=⟨_,aY hlt⟩
     have bad:(i=0/\bB c.toNat=false)\/aT c=false->W.Fin 0 K (bS false) []:=fun h=>bP hK (by
      rcases h with ⟨rfl,h⟩ | h
      · rw [pW hc h]
      · rw [BE hc h])
     have b7:aT c=true->(i=0->bB c.toNat=true)->(i + 1<=(bl s).length/\(∀ (j:Nat) (x:UInt8),j < i + 1->(bl s)[j]? = some x->aT x=true)/\(0 < i + 1->∀ x,(bl s)[0]? = some x->bB x.toNat=true)):=fun h1 h2=>⟨by omega,fun j x hj hx=>by
      rcases bE j i with h4 | h4
      · exact ha j x h4 hx
      · obtain rfl:j=i:=by omega
        rw [hc] at hx; obtain rfl:=bG hx; exact h1,fun _ x hx=>by
      rcases Nat.eq_zero_or_pos i with h0 | h0
      · subst h0; rw [hc] at hx; obtain rfl:=bG hx; exact h2 rfl
      · exact hb h0 x hx⟩
     have hb255:=c.toNat_lt
     have hcs:(0<=(c.toNat:Int)/\(c.toNat:Int)<=47)\/(48<=(c.toNat:Int)/\(c.toNat:Int)<=57)\/(58<=(c.toNat:Int)/\(c.toNat:Int)<=64)\/(65<=(c.toNat:Int)/\(c.toNat:Int)<=90)\/(91<=(c.toNat:Int)/\(c.toNat:Int)<=94)\/(95<=(c.toNat:Int)/\(c.toNat:Int)<=95)\/(96<=(c.toNat:Int)/\(c.toNat:Int)<=96)\/(97<=(c.toNat:Int)/\(c.toNat:Int)<=122)\/(123<=(c.toNat:Int)/\(c.toNat:Int)<=255):=by omega
     rcases hcs with h2 | h2 | h2 | h2 | h2 | h2 | h2 | h2 | h2
     · have d1:decide (97<=(c.toNat:Int))=false:=decide_eq_false (by omega)
       have d2:decide ((c.toNat:Int)<=122)=true:=decide_eq_true (by omega)
       have d3:decide (65<=(c.toNat:Int))=false:=decide_eq_false (by omega)
       have d4:decide ((c.toNat:Int)<=90)=true:=decide_eq_true (by omega)
       have d5:((c.toNat:Int) == 95)=false:=by simp; omega
       have d6:decide (48<=(c.toNat:Int))=false:=decide_eq_false (by omega)
       have d7:decide ((c.toNat:Int)<=57)=true:=decide_eq_true (by omega)
       have hL:bB c.toNat=false:=by unfold bB; rw [d1,d2,d3,d4]; rfl
       have hW:aT c=false:=by unfold aT dZ fH; rw [hL,d5,d6,d7]; rfl
       rcases Nat.eq_zero_or_pos i with h0 | h0
       · have hz:((i:Int) == 0)=true:=by simp; omega
         simp (maxSteps:=1000000) -dsimp only [go_sem,hg,hc,aH,forall_eq',Int.toNat_natCast,d1,d3,d5,d6,hz,Bool.true_and,Bool.and_true,Bool.false_and,Bool.and_false,Bool.not_true,Bool.not_false]
         repeat' first | intro _ | apply And.intro
         all_goals first | omega | (rename_i h9; simp at h9; done) | skip
         all_goals exact bad (by rw [hL,hW]; exact .inl ⟨h0,rfl⟩)
       · have hz:((i:Int) == 0)=false:=by simp; omega
         simp (maxSteps:=1000000) -dsimp only [go_sem,hg,hc,aH,forall_eq',Int.toNat_natCast,d1,d3,d5,d6,hz,Bool.true_and,Bool.and_true,Bool.false_and,Bool.not_false]
         repeat' first | intro _ | apply And.intro
         all_goals first | omega | (rename_i h9; simp at h9; done) | skip
         all_goals exact bad (by rw [hL,hW]; exact .inr rfl)
     · have d1:decide (97<=(c.toNat:Int))=false:=decide_eq_false (by omega)
       have d2:decide ((c.toNat:Int)<=122)=true:=decide_eq_true (by omega)
       have d3:decide (65<=(c.toNat:Int))=false:=decide_eq_false (by omega)
       have d4:decide ((c.toNat:Int)<=90)=true:=decide_eq_true (by omega)
       have d5:((c.toNat:Int) == 95)=false:=by simp; omega
       have d6:decide (48<=(c.toNat:Int))=true:=decide_eq_true (by omega)
       have d7:decide ((c.toNat:Int)<=57)=true:=decide_eq_true (by omega)
       have hL:bB c.toNat=false:=by unfold bB; rw [d1,d2,d3,d4]; rfl
       have hW:aT c=true:=by unfold aT dZ fH; rw [hL,d5,d6,d7]; rfl
       rcases Nat.eq_zero_or_pos i with h0 | h0
       · have hz:((i:Int) == 0)=true:=by simp; omega
         simp (maxSteps:=1000000) -dsimp only [go_sem,hg,hc,aH,forall_eq',Int.toNat_natCast,d1,d3,d5,d6,hz,Bool.true_and,Bool.and_true,Bool.false_and,Bool.and_false,Bool.not_true,Bool.not_false]
         repeat' first | intro _ | apply And.intro
         all_goals first | omega | (rename_i h9; simp at h9; done) | skip
         all_goals exact bad (by rw [hL,hW]; exact .inl ⟨h0,rfl⟩)
       · have hz:((i:Int) == 0)=false:=by simp; omega
         simp (maxSteps:=1000000) -dsimp only [go_sem,hg,hc,aH,forall_eq',Int.toNat_natCast,d1,d3,d5,d6,d7,hz,Bool.true_and,Bool.and_true,Bool.false_and,Bool.not_false]
         repeat' first | intro _ | apply And.intro
         all_goals first | omega | (rename_i h9; simp at h9; done) | skip
         all_goals exact aC (i + 1) 0 (b7 (by rw [hW]) (fun h3=>by omega)) (by omega) (by simp -dsimp only [go_sem]; simp) (by simp [go_sem])
     · have d1:decide (97<=(c.toNat:Int))=false:=decide_eq_false (by omega)
       have d2:decide ((c.toNat:Int)<=122)=true:=decide_eq_true (by omega)
       have d3:decide (65<=(c.toNat:Int))=false:=decide_eq_false (by omega)
       have d4:decide ((c.toNat:Int)<=90)=true:=decide_eq_true (by omega)
       have d5:((c.toNat:Int) == 95)=false:=by simp; omega
       have d6:decide (48<=(c.toNat:Int))=true:=decide_eq_true (by omega)
       have d7:decide ((c.toNat:Int)<=57)=false:=decide_eq_false (by omega)
       have hL:bB c.toNat=false:=by unfold bB; rw [d1,d2,d3,d4]; rfl
       have hW:aT c=false:=by unfold aT dZ fH; rw [hL,d5,d6,d7]; rfl
       rcases Nat.eq_zero_or_pos i with h0 | h0
       · have hz:((i:Int) == 0)=true:=by simp; omega
         simp (maxSteps:=1000000) -dsimp only [go_sem,hg,hc,aH,forall_eq',Int.toNat_natCast,d1,d3,d5,d6,hz,Bool.true_and,Bool.and_true,Bool.false_and,Bool.and_false,Bool.not_true,Bool.not_false]
         repeat' first | intro _ | apply And.intro
         all_goals first | omega | (rename_i h9; simp at h9; done) | skip
         all_goals exact bad (by rw [hL,hW]; exact .inl ⟨h0,rfl⟩)
       · have hz:((i:Int) == 0)=false:=by simp; omega
         simp (maxSteps:=1000000) -dsimp only [go_sem,hg,hc,aH,forall_eq',Int.toNat_natCast,d1,d3,d5,d6,d7,hz,Bool.true_and,Bool.and_true,Bool.false_and,Bool.not_false]
         repeat' first | intro _ | apply And.intro
         all_goals first | omega | (rename_i h9; simp at h9; done) | skip
         all_goals exact bad (by rw [hL,hW]; exact .inr rfl)
     · have d1:decide (97<=(c.toNat:Int))=false:=decide_eq_false (by omega)
       have d2:decide ((c.toNat:Int)<=122)=true:=decide_eq_true (by omega)
       have d3:decide (65<=(c.toNat:Int))=true:=decide_eq_true (by omega)
       have d4:decide ((c.toNat:Int)<=90)=true:=decide_eq_true (by omega)
       have d5:((c.toNat:Int) == 95)=false:=by simp; omega
       have d6:decide (48<=(c.toNat:Int))=true:=decide_eq_true (by omega)
       have d7:decide ((c.toNat:Int)<=57)=false:=decide_eq_false (by omega)
       have hL:bB c.toNat=true:=by unfold bB; rw [d1,d2,d3,d4]; rfl
       have hW:aT c=true:=by unfold aT dZ fH; rw [hL,d5,d6,d7]; rfl
       rcases Nat.eq_zero_or_pos i with h0 | h0
       · have hz:((i:Int) == 0)=true:=by simp; omega
         simp (maxSteps:=1000000) -dsimp only [go_sem,hg,hc,aH,forall_eq',Int.toNat_natCast,d1,d3,d4,d5,d6,hz,Bool.true_and,Bool.and_true,Bool.false_and,Bool.and_false,Bool.not_true,Bool.not_false]
         repeat' first | intro _ | apply And.intro
         all_goals first | omega | (rename_i h9; simp at h9; done) | skip
         all_goals exact aC (i + 1) 0 (b7 (by rw [hW]) (fun h3=>by rw [hL])) (by omega) (by simp -dsimp only [go_sem]; simp) (by simp [go_sem])
       · have hz:((i:Int) == 0)=false:=by simp; omega
         simp (maxSteps:=1000000) -dsimp only [go_sem,hg,hc,aH,forall_eq',Int.toNat_natCast,d1,d3,d4,d5,d6,d7,hz,Bool.true_and,Bool.and_true,Bool.false_and,Bool.not_false]
         repeat' first | intro _ | apply And.intro
         all_goals first | omega | (rename_i h9; simp at h9; done) | skip
         all_goals exact aC (i + 1) 0 (b7 (by rw [hW]) (fun h3=>by rw [hL])) (by omega) (by simp -dsimp only [go_sem]; simp) (by simp [go_sem])
     · have d1:decide (97<=(c.toNat:Int))=false:=decide_eq_false (by omega)
       have d2:decide ((c.toNat:Int)<=122)=true:=decide_eq_true (by omega)
       have d3:decide (65<=(c.toNat:Int))=true:=decide_eq_true (by omega)
       have d4:decide ((c.toNat:Int)<=90)=false:=decide_eq_false (by omega)
       have d5:((c.toNat:Int) == 95)=false:=by simp; omega
       have d6:decide (48<=(c.toNat:Int))=true:=decide_eq_true (by omega)
       have d7:decide ((c.toNat:Int)<=57)=false:=decide_eq_false (by omega)
       have hL:bB c.toNat=false:=by unfold bB; rw [d1,d2,d3,d4]; rfl
       have hW:aT c=false:=by unfold aT dZ fH; rw [hL,d5,d6,d7]; rfl
       rcases Nat.eq_zero_or_pos i with h0 | h0
       · have hz:((i:Int) == 0)=true:=by simp; omega
         simp (maxSteps:=1000000) -dsimp only [go_sem,hg,hc,aH,forall_eq',Int.toNat_natCast,d1,d3,d4,d5,d6,hz,Bool.true_and,Bool.and_true,Bool.false_and,Bool.and_false,Bool.not_true,Bool.not_false]
         repeat' first | intro _ | apply And.intro
         all_goals first | omega | (rename_i h9; simp at h9; done) | skip
         all_goals exact bad (by rw [hL,hW]; exact .inl ⟨h0,rfl⟩)
       · have hz:((i:Int) == 0)=false:=by simp; omega
         simp (maxSteps:=1000000) -dsimp only [go_sem,hg,hc,aH,forall_eq',Int.toNat_natCast,d1,d3,d4,d5,d6,d7,hz,Bool.true_and,Bool.and_true,Bool.false_and,Bool.not_false]
         repeat' first | intro _ | apply And.intro
         all_goals first | omega | (rename_i h9; simp at h9; done) | skip
         all_goals exact bad (by rw [hL,hW]; exact .inr rfl)
     · have d1:decide (97<=(c.toNat:Int))=false:=decide_eq_false (by omega)
       have d2:decide ((c.toNat:Int)<=122)=true:=decide_eq_true (by omega)
       have d3:decide (65<=(c.toNat:Int))=true:=decide_eq_true (by omega)
       have d4:decide ((c.toNat:Int)<=90)=false:=decide_eq_false (by omega)
       have d5:((c.toNat:Int) == 95)=true:=by simp; omega
       have d6:decide (48<=(c.toNat:Int))=true:=decide_eq_true (by omega)
       have d7:decide ((c.toNat:Int)<=57)=false:=decide_eq_false (by omega)
       have hL:bB c.toNat=false:=by unfold bB; rw [d1,d2,d3,d4]; rfl
       have hW:aT c=true:=by unfold aT dZ fH; rw [hL,d5,d6,d7]; rfl
       rcases Nat.eq_zero_or_pos i with h0 | h0
       · have hz:((i:Int) == 0)=true:=by simp; omega
         simp (maxSteps:=1000000) -dsimp only [go_sem,hg,hc,aH,forall_eq',Int.toNat_natCast,d1,d3,d4,d5,hz,Bool.true_and,Bool.and_true,Bool.false_and,Bool.and_false,Bool.not_true,Bool.not_false]
         repeat' first | intro _ | apply And.intro
         all_goals first | omega | (rename_i h9; simp at h9; done) | skip
         all_goals exact bad (by rw [hL,hW]; exact .inl ⟨h0,rfl⟩)
       · have hz:((i:Int) == 0)=false:=by simp; omega
         simp (maxSteps:=1000000) -dsimp only [go_sem,hg,hc,aH,forall_eq',Int.toNat_natCast,d1,d3,d4,d5,hz,Bool.true_and,Bool.and_true,Bool.false_and,Bool.not_true,Bool.not_false]
         repeat' first | intro _ | apply And.intro
         all_goals first | omega | (rename_i h9; simp at h9; done) | skip
         all_goals exact aC (i + 1) 0 (b7 (by rw [hW]) (fun h3=>by omega)) (by omega) (by simp -dsimp only [go_sem]; simp) (by simp [go_sem])
     · have d1:decide (97<=(c.toNat:Int))=false:=decide_eq_false (by omega)
       have d2:decide ((c.toNat:Int)<=122)=true:=decide_eq_true (by omega)
       have d3:decide (65<=(c.toNat:Int))=true:=decide_eq_true (by omega)
       have d4:decide ((c.toNat:Int)<=90)=false:=decide_eq_false (by omega)
       have d5:((c.toNat:Int) == 95)=false:=by simp; omega
       have d6:decide (48<=(c.toNat:Int))=true:=decide_eq_true (by omega)
       have d7:decide ((c.toNat:Int)<=57)=false:=decide_eq_false (by omega)
       have hL:bB c.toNat=false:=by unfold bB; rw [d1,d2,d3,d4]; rfl
       have hW:aT c=false:=by unfold aT dZ fH; rw [hL,d5,d6,d7]; rfl
       rcases Nat.eq_zero_or_pos i with h0 | h0
       · have hz:((i:Int) == 0)=true:=by simp; omega
         simp (maxSteps:=1000000) -dsimp only [go_sem,hg,hc,aH,forall_eq',Int.toNat_natCast,d1,d3,d4,d5,d6,hz,Bool.true_and,Bool.and_true,Bool.false_and,Bool.and_false,Bool.not_true,Bool.not_false]
         repeat' first | intro _ | apply And.intro
         all_goals first | omega | (rename_i h9; simp at h9; done) | skip
         all_goals exact bad (by rw [hL,hW]; exact .inl ⟨h0,rfl⟩)
       · have hz:((i:Int) == 0)=false:=by simp; omega
         simp (maxSteps:=1000000) -dsimp only [go_sem,hg,hc,aH,forall_eq',Int.toNat_natCast,d1,d3,d4,d5,d6,d7,hz,Bool.true_and,Bool.and_true,Bool.false_and,Bool.not_false]
         repeat' first | intro _ | apply And.intro
         all_goals first | omega | (rename_i h9; simp at h9; done) | skip
         all_goals exact bad (by rw [hL,hW]; exact .inr rfl)
     · have d1:decide (97<=(c.toNat:Int))=true:=decide_eq_true (by omega)
       have d2:decide ((c.toNat:Int)<=122)=true:=decide_eq_true (by omega)
       have d3:decide (65<=(c.toNat:Int))=true:=decide_eq_true (by omega)
       have d4:decide ((c.toNat:Int)<=90)=false:=decide_eq_false (by omega)
       have d5:((c.toNat:Int) == 95)=false:=by simp; omega
       have d6:decide (48<=(c.toNat:Int))=true:=decide_eq_true (by omega)
       have d7:decide ((c.toNat:Int)<=57)=false:=decide_eq_false (by omega)
       have hL:bB c.toNat=true:=by unfold bB; rw [d1,d2,d3,d4]; rfl
       have hW:aT c=true:=by unfold aT dZ fH; rw [hL,d5,d6,d7]; rfl
       rcases Nat.eq_zero_or_pos i with h0 | h0
       · have hz:((i:Int) == 0)=true:=by simp; omega
         simp (maxSteps:=1000000) -dsimp only [go_sem,hg,hc,aH,forall_eq',Int.toNat_natCast,d1,d2,d5,d6,hz,Bool.true_and,Bool.and_true,Bool.false_and,Bool.and_false,Bool.not_true,Bool.not_false]
         repeat' first | intro _ | apply And.intro
         all_goals first | omega | (rename_i h9; simp at h9; done) | skip
         all_goals exact aC (i + 1) 0 (b7 (by rw [hW]) (fun h3=>by rw [hL])) (by omega) (by simp -dsimp only [go_sem]; simp) (by simp [go_sem])
       · have hz:((i:Int) == 0)=false:=by simp; omega
         simp (maxSteps:=1000000) -dsimp only [go_sem,hg,hc,aH,forall_eq',Int.toNat_natCast,d1,d2,d5,d6,d7,hz,Bool.true_and,Bool.and_true,Bool.false_and,Bool.not_true,Bool.not_false]
         repeat' first | intro _ | apply And.intro
         all_goals first | omega | (rename_i h9; simp at h9; done) | skip
         all_goals exact aC (i + 1) 0 (b7 (by rw [hW]) (fun h3=>by rw [hL])) (by omega) (by simp -dsimp only [go_sem]; simp) (by simp [go_sem])
     · have d1:decide (97<=(c.toNat:Int))=true:=decide_eq_true (by omega)
       have d2:decide ((c.toNat:Int)<=122)=false:=decide_eq_false (by omega)
       have d3:decide (65<=(c.toNat:Int))=true:=decide_eq_true (by omega)
       have d4:decide ((c.toNat:Int)<=90)=false:=decide_eq_false (by omega)
       have d5:((c.toNat:Int) == 95)=false:=by simp; omega
       have d6:decide (48<=(c.toNat:Int))=true:=decide_eq_true (by omega)
       have d7:decide ((c.toNat:Int)<=57)=false:=decide_eq_false (by omega)
       have hL:bB c.toNat=false:=by unfold bB; rw [d1,d2,d3,d4]; rfl
       have hW:aT c=false:=by unfold aT dZ fH; rw [hL,d5,d6,d7]; rfl
       rcases Nat.eq_zero_or_pos i with h0 | h0
       · have hz:((i:Int) == 0)=true:=by simp; omega
         simp (maxSteps:=1000000) -dsimp only [go_sem,hg,hc,aH,forall_eq',Int.toNat_natCast,d1,d2,d3,d4,d5,d6,hz,Bool.true_and,Bool.and_true,Bool.and_false,Bool.not_true,Bool.not_false]
         repeat' first | intro _ | apply And.intro
         all_goals first | omega | (rename_i h9; simp at h9; done) | skip
         all_goals exact bad (by rw [hL,hW]; exact .inl ⟨h0,rfl⟩)
       · have hz:((i:Int) == 0)=false:=by simp; omega
         simp (maxSteps:=1000000) -dsimp only [go_sem,hg,hc,aH,forall_eq',Int.toNat_natCast,d1,d2,d3,d4,d5,d6,d7,hz,Bool.true_and,Bool.and_true,Bool.not_false]
         repeat' first | intro _ | apply And.intro
         all_goals first | omega | (rename_i h9; simp at h9; done) | skip
         all_goals exact bad (by rw [hL,hW]; exact .inr rfl)
   · have hg:decide ((i:Int) < ((bl s).length:Int))=false:=by simp; omega
     obtain rfl:i=(bl s).length:=by omega
     obtain ⟨c,hc⟩:∃ c,(bl s)[0]? = some c:=⟨_,aY hl0⟩
     simp (maxSteps:=1000000) -dsimp only [go_sem,hg]
     refine bP hK ?_
     rw [s3 hc hl (hb hl0 c hc) fun j x hx=>ha j x (aZ.1 hx).1 hx]
theorem HQ:Meets Tryz.prog 85 (s9 fun l=>.bool (uZ l)).sp:=by
 refine aE Tryz.func85 aLV 1 (by rw [Tryz.ntmps85]; decide) (aG wD (aA _)) n0 ?_
 rintro xs H K ⟨⟨h,rfl⟩,hK⟩
 obtain ⟨s,rfl⟩:=gT h
 have hK':K (.va (.c1 (.vl (.bool (uZ (bl s)))))) []:=hK
 clear hK h
 unfold uZ at hK'
 cases hn:cG (bl s) with
 | false=>
  rw [hn] at hK'
  simp -dsimp only [go_sem,T3,S8,hn]
  exact .done hK'
 | true=>
  cases hl:bl s with
  | nil=>rw [hl] at hn; cases hn
  | cons c r=>
   rw [hl] at hn hK'
   rw [hn] at hK'
   simp -dsimp only [go_sem,T3,S8,hl,hn]
   refine ⟨by omega,fun d hd=>⟨fun _=>by omega,fun e he=>?_⟩⟩
   subst hd
   cases hc:decide (65<=(c.toNat:Int)) with
   | false=>simp only [hc,Bool.true_and,Bool.false_and] at hK'; exact .done hK'
   | true=>
    obtain rfl:=he hc
    simp only [hc,Bool.true_and] at hK'; exact .done hK'
theorem aAH:Meets Tryz.prog 116 (uI eO C.ty fun t=>.bool ((t.e.length:Int) == 0)).sp:=by
 refine aE Tryz.func116 aG7 1 (by rw [Tryz.ntmps116]; decide) (aA _) s7 ?_
 rintro av H K ⟨⟨h,rfl⟩,hK⟩
 obtain ⟨_,rfl,t,rfl,ht⟩:=iJ h
 have hK:K (bS ((t.e.length:Int) == 0)) []:=by
  have:(uI eO C.ty fun t=>.bool ((t.e.length:Int) == 0)).val [.va (.gs (aN t))]=bA ((t.e.length:Int) == 0):=by simp -dsimp only [go_sem]
  rw [this] at hK; exact hK
 simp (maxSteps:=1000000) -dsimp only [go_sem,aO,VT,WO]
 exact .sel [] (by simp) (by simp) rfl (.done (by simpa [go_sem] using hK))
def DW:List S->Prop:=fun av=>match av with
 | [.va (.c1 (.fz rs)),.va (.c1 (.vl (.int .i64 k))),.va (.c1 (.vl (.string _)))]=>BG rs/\0<=k/\k<=9223372036854775807
 | _=>False
theorem pS {av:List S} (h:DW av):∃ (l:List ByteArray) (n:Nat) (x:ByteArray),av=[.va (.c1 (.fz (l.map bM))),iS .i64 n,tS x]/\l.length<=9223372036854775807/\(n:Int)<=9223372036854775807:=by
 unfold DW at h
 split at h
 · obtain ⟨⟨l,rfl,h1⟩,h2,h3⟩:=h
   rename_i k x
   exact ⟨l,k.toNat,x,by rw [Int.toNat_of_nonneg h2],h1,by omega⟩
 · exact h.elim
noncomputable def YF:List S->A:=fun av=>match av with
 | [.va (.c1 (.fz rs)),.va (.c1 (.vl (.int .i64 k))),.va (.c1 (.vl (.string x)))]=>bA (cZ ((rs.map C.bs).take k.toNat) x)
 | _=>.gs []
noncomputable def inFn:Fun:=⟨DW,YF,fun av h=>by obtain ⟨l,n,x,rfl,_⟩:=pS h; trivial⟩
theorem RL:∀ av H K,inFn.sp av H K->av.length=3:=fun av H K h=>by obtain ⟨l,n,x,rfl,_⟩:=pS h.1.1; rfl
attribute [go_sem] inFn DW YF
theorem RW:Meets Tryz.prog 50 inFn.sp:=by
 refine aE Tryz.func50 aPM 3 (by rw [Tryz.ntmps50]; decide) (aA _) RL ?_
 rintro av H K ⟨⟨h,rfl⟩,hK⟩
 obtain ⟨l,n,x,rfl,hl,hn⟩:=pS h
 have hK:K (bS (cZ (l.take n) x)) []:=by
  have:inFn.val [.va (.c1 (.fz (l.map bM))),iS .i64 n,tS x]=bA (cZ (l.take n) x):=by simp -dsimp only [go_sem,Int.toNat_natCast]
  rw [this] at hK; exact hK
 clear h
 simp (maxSteps:=1000000) -dsimp only [go_sem,aA1,aD4]
 refine aK (α:=Nat) (fun i=>[(0,.va (.c1 (.fz (l.map bM)))),(1,iS .i64 n),(2,tS x),(7,iS .i64 i)]) (fun _=>[])
  (fun i=>i<=(l.take n).length/\cZ ((l.take n).drop i) x=cZ (l.take n) x) (fun i=>l.length - i) 0 0 ⟨Nat.zero_le _,rfl⟩ ?_ ?_ ?_
 · simp [go_sem]
 · simp [go_sem]
 rintro i ⟨hi,ho⟩
 have hlt0:(l.take n).length=min n l.length:=by simp
 rcases bE i (l.take n).length with hlt | hge
 · have g1:decide ((i:Int) < (n:Int))=true:=by simp; omega
   have g2:decide ((i:Int) < (l.length:Int))=true:=by simp; omega
   obtain ⟨y,hx⟩:∃ y,l[i]? = some y:=⟨_,aY (by omega)⟩
   have hx':(l.take n)[i]? = some y:=by rw [List.getElem?_take,if_pos (by omega)]; exact hx
   have q2:=aW (row:=bM) hx
   rw [cZ,gO hx'] at ho
   simp (maxSteps:=1000000) -dsimp only [go_sem,g1,g2,↓q2,d9]
   have hsy:decide (y=x)=decide (x=y):=by simp [eq_comm]
   refine ⟨by omega,fun hc=>?_,fun hc=>⟨by omega,aC (i + 1) 0 ⟨by omega,?_⟩ (by omega) ?_ ?_⟩⟩
   · rw [<-hsy,hc,Bool.true_or] at ho
     rw [<-ho] at hK
     exact .done hK
   · rw [<-hsy,hc,Bool.false_or] at ho
     exact ho
   · simp [go_sem]
   · simp [go_sem]
 · obtain rfl:i=(l.take n).length:=by omega
   rw [cZ,oV] at ho
   rw [<-ho] at hK
   generalize hm:(l.take n).length=m at *
   rcases bE m n with h1 | h1
   · have g1:decide ((m:Int) < (n:Int))=true:=by simp; omega
     have g2:decide ((m:Int) < (l.length:Int))=false:=by simp; omega
     simp (maxSteps:=1000000) -dsimp only [go_sem,g1,g2]
     exact .done hK
   · have g1:decide ((m:Int) < (n:Int))=false:=by simp; omega
     simp (maxSteps:=1000000) -dsimp only [go_sem,g1]
     exact .done hK
theorem FF:Meets Tryz.prog 69 w5:=by
 refine aE Tryz.func69 aN8 2 (by rw [Tryz.ntmps69]; decide) (aA _) (fun av H K h=>by obtain ⟨_,_,rfl,_⟩:=h; rfl) ?_
 rintro av H K ⟨s,n,rfl,rfl,hs,hK⟩
 rw [<-xZ] at hK
 have hl:=hs.ok.ls
 simp -dsimp only [go_sem,aF,aD7,aAL]
 refine aK (α:=Nat) (fun i=>[(1,tS n),(2,.va (.c1 (.pt 0 0))),(4,.va (.c1 (.pt 1 0))),(6,iS .i64 i)]) (fun _=>[.cells (aF s) 25,.cells [.vl (.string (mk [])),.vl (.slice none 0 0)] 95])
  (fun i=>i<=s.ss.length/\fS (s.ss.drop i) n=fS s.ss n) (fun i=>s.ss.length - i) 0 2 ⟨Nat.zero_le _,rfl⟩ ?_ ?_ ?_
 · simp [go_sem]
 · simp [go_sem,aF]
 rintro i ⟨hi,ho⟩
 rcases bE i s.ss.length with hlt | hge
 · have hg:decide ((i:Int) < (s.ss.length:Int))=true:=by simp; omega
   obtain ⟨t,hx⟩:∃ e,s.ss[i]? = some e:=⟨_,aY hlt⟩
   have q2:=aW (row:=aP) hx
   rw [fS,m9 hx] at ho
   cases hc:decide (t.nm=n) with
   | true=>
    rw [hc,aL] at ho
    rw [<-ho] at hK
    simp (maxSteps:=1000000) -dsimp only [go_sem,hg,↓q2,aP,aF,d9,hc]
    refine ⟨by omega,by omega,.sel [] (by simp) (by simp) rfl (.done (by simpa [go_sem,aP] using hK))⟩
   | false=>
    rw [hc,aI] at ho
    simp (maxSteps:=1000000) -dsimp only [go_sem,hg,↓q2,aP,aF,d9,hc]
    refine ⟨by omega,by omega,aC (i + 1) 2 ⟨by omega,ho⟩ (by omega) ?_ ?_⟩
    · simp [go_sem]
    · simp [go_sem,aF]
 · have hg:decide ((i:Int) < (s.ss.length:Int))=false:=by simp; omega
   obtain rfl:i=s.ss.length:=by omega
   rw [List.drop_length] at ho
   rw [<-ho] at hK
   simp -dsimp only [go_sem,hg,aF]
   exact .sel [] (by simp) (by simp) rfl (.done (by simpa [go_sem,fS,JD] using hK))
def MP:W.Spec:=fun av H K=>∃ (s:Sc) (n:ByteArray),av=[.va (.gs (aF s)),tS n]/\H=[]/\s.fit/\K (.tu [.gs (bI ((eU s.es n).getD default)),bA (fN s.es n)]) []
theorem mN {s:Sc} {n:ByteArray} {K:S->Hp->Prop} (h:s.fit) (hK:K (.tu [.gs (bI ((eU s.es n).getD default)),bA (fN s.es n)]) []):MP [.va (.gs (aF s)),tS n] [] K:=⟨s,n,rfl,rfl,h,hK⟩
theorem LK:bI default=[.vl (.string (mk [])),.fz [],.fz []]:=rfl
theorem PE:Meets Tryz.prog 76 MP:=by
 refine aE Tryz.func76 aNC 2 (by rw [Tryz.ntmps76]; decide) (aA _) (fun av H K h=>by obtain ⟨_,_,rfl,_⟩:=h; rfl) ?_
 rintro av H K ⟨s,n,rfl,rfl,hs,hK⟩
 rw [<-BK] at hK
 have hl:=hs.ok.le
 simp -dsimp only [go_sem,aF,aEL,aEK]
 refine aK (α:=Nat) (fun i=>[(1,tS n),(2,.va (.c1 (.pt 0 0))),(4,.va (.c1 (.pt 1 0))),(6,iS .i64 i)]) (fun _=>[.cells (aF s) 25,.cells [.vl (.string (mk [])),.vl (.slice none 0 0),.vl (.slice none 0 0)] 92])
  (fun i=>i<=s.es.length/\eU (s.es.drop i) n=eU s.es n) (fun i=>s.es.length - i) 0 2 ⟨Nat.zero_le _,rfl⟩ ?_ ?_ ?_
 · simp [go_sem]
 · simp [go_sem,aF]
 rintro i ⟨hi,ho⟩
 rcases bE i s.es.length with hlt | hge
 · have hg:decide ((i:Int) < (s.es.length:Int))=true:=by simp; omega
   obtain ⟨t,hx⟩:∃ e,s.es[i]? = some e:=⟨_,aY hlt⟩
   have q2:=aW (row:=bI) hx
   rw [eU,m9 hx] at ho
   cases hc:decide (t.nm=n) with
   | true=>
    rw [hc,aL] at ho
    rw [<-ho] at hK
    simp (maxSteps:=1000000) -dsimp only [go_sem,hg,↓q2,bI,aF,d9,hc]
    refine ⟨by omega,by omega,.sel [] (by simp) (by simp) rfl (.done (by simpa [go_sem,bI] using hK))⟩
   | false=>
    rw [hc,aI] at ho
    simp (maxSteps:=1000000) -dsimp only [go_sem,hg,↓q2,bI,aF,d9,hc]
    refine ⟨by omega,by omega,aC (i + 1) 2 ⟨by omega,ho⟩ (by omega) ?_ ?_⟩
    · simp [go_sem]
    · simp [go_sem,aF]
 · have hg:decide ((i:Int) < (s.es.length:Int))=false:=by simp; omega
   obtain rfl:i=s.es.length:=by omega
   rw [List.drop_length] at ho
   rw [<-ho] at hK
   simp -dsimp only [go_sem,hg,aF]
   exact .sel [] (by simp) (by simp) rfl (.done (by simpa [go_sem,eU,LK] using hK))
end Go.Proofs.YtkpohmhenegkiaaGreatDoor
namespace Go.Proofs
open Go.Shelf
def Tryz.lays16_ren:Go.Shelf.Ren:=⟨fun | 16=>126 | n=>n,fun | 24=>89 | n=>n,fun | n=>n⟩
theorem Tryz.lays16:Go.Proofs.Lays2.n16 Tryz.prog Tryz.lays16_ren:={
 mixed:=by kernel_rfl
 f16:=Tryz.func126.trans (congrArg some (by kernel_rfl))
 t4:=Tryz.underlying4
 a4:=Tryz.isAgg4
 z4:=Tryz.sizeOf4
 v4:=Tryz.zeroValue4
 t9:=Tryz.underlying9
 a9:=Tryz.isAgg9
 z9:=Tryz.sizeOf9
 v9:=Tryz.zeroValue9
 t24:=Tryz.underlying89
 a24:=Tryz.isAgg89
 z24:=Tryz.sizeOf89
 v24:=Tryz.zeroValue89
 i9:=by kernel_rfl }
def Tryz.lays15_ren:Go.Shelf.Ren:=⟨fun | 15=>127 | n=>n,fun | 22=>90 | n=>n,fun | n=>n⟩
theorem Tryz.lays15:Go.Proofs.Lays2.n15 Tryz.prog Tryz.lays15_ren:={
 mixed:=by kernel_rfl
 f15:=Tryz.func127.trans (congrArg some (by kernel_rfl))
 t3:=Tryz.underlying3
 a3:=Tryz.isAgg3
 z3:=Tryz.sizeOf3
 v3:=Tryz.zeroValue3
 t4:=Tryz.underlying4
 a4:=Tryz.isAgg4
 z4:=Tryz.sizeOf4
 v4:=Tryz.zeroValue4
 t22:=Tryz.underlying90
 a22:=Tryz.isAgg90
 z22:=Tryz.sizeOf90
 v22:=Tryz.zeroValue90
 i3:=by kernel_rfl }
end Go.Proofs
namespace Go.Proofs.YtkpohmhenegkiaaGreatDoor
open Go.W Go.RowKit
theorem YN {X:Ctx} {E:Es} {ro:RO} {w w':World} (h:Rel X E ro w) {blk:B} {g:Gb} (hb:∀ k,k < w.heap.size->w'.heap[k]? = w.heap[k]?) (hsz:w.heap.size<=w'.heap.size)
 (h1:w'.os=w.os) (h2:w'.tape=w.tape) (h3:w'.output=w.output) (hob:∀ b,g.ob=some b->w.heap.size<=b) (hon:blk.On (gm (E ++ [(g,blk)])) ro w' g):Rel X (E ++ [(g,blk)]) ro w':=by
 have hext:GExt (gm E) (gm (E ++ [(g,blk)])):=cP _
 have hget:∀ (n:Nat) (y:Gb × B),(E ++ [(g,blk)])[n]? = some y->(n=E.length/\y=(g,blk))\/(n < E.length/\E[n]? = some y):=by
  intro n y hy
  rw [List.getElem?_append] at hy
  split at hy
  · exact .inr ⟨by assumption,hy⟩
  · have:n - E.length=0:=by
     rcases Nat.eq_zero_or_pos (n - E.length) with h0 | h0
     · exact h0
     · rw [List.getElem?_eq_none (by simp; omega)] at hy; cases hy
    rw [this] at hy
    exact .inl ⟨by omega,by simpa using hy.symm⟩
 have old:∀ (n k:Nat) (gn:Gb) (bk:B),E[n]? = some (gn,bk)->gn.ob=some k->bk.live=true->k < w.heap.size:=fun n k gn bk hy hk hl=>(h.own n _ bk hy).lt hl hk
 refine ⟨fun n g' bk hy=>?_,fun n m gn gm bn bm k hy hz en em ln lm=>?_,fun k off c hc n gn bk hy en=>?_,fun k off c hc=>?_,h.ro0,h.rob,fun n k gn bk hy en ln=>?_,h.gx.trans hext,Nat.le_trans h.sz hsz,fun k hk hp=>?_,by rw [h1]; exact h.os,by rw [h2]; exact h.tape,by rw [h3]; exact h.output⟩
 · rcases hget n _ hy with ⟨rfl,he⟩ | ⟨hlt,hy'⟩
   · simp only [Prod.mk.injEq] at he; obtain ⟨rfl,rfl⟩:=he; exact hon
   · by_cases hlv:bk.live=true
     · exact (h.own n g' bk hy').same hext (Ext.refl _) fun k hk=>hb k (old n k g' bk hy' hk hlv)
     · cases bk<;>simp [B.live] at hlv; trivial
 · rcases hget n _ hy with ⟨rfl,he⟩ | ⟨hlt,hy'⟩<;>rcases hget m _ hz with ⟨rfl,he2⟩ | ⟨hlt2,hz'⟩
   · rfl
   · simp only [Prod.mk.injEq] at he; obtain ⟨rfl,rfl⟩:=he; have:=old m k gm bm hz' em lm; have:=hob k en; omega
   · simp only [Prod.mk.injEq] at he2; obtain ⟨rfl,rfl⟩:=he2; have:=old n k gn bn hy' en ln; have:=hob k em; omega
   · exact h.inj n m gn gm bn bm k hy' hz' en em ln lm
 · rcases hget n _ hy with ⟨rfl,he⟩ | ⟨hlt,hy'⟩
   · simp only [Prod.mk.injEq] at he; obtain ⟨rfl,rfl⟩:=he; have:=h.cell_lt hc; have:=hob k en; omega
   · exact h.apart k off c hc n gn bk hy' en
 · have:=h.rd k off c hc
   rw [<-this]
   simp only [World.cell?,hb k (h.cell_lt hc)]
 · rcases hget n _ hy with ⟨rfl,he⟩ | ⟨hlt,hy'⟩
   · simp only [Prod.mk.injEq] at he; obtain ⟨rfl,rfl⟩:=he; have:=hob k en; have:=h.sz; exact .inl (by omega)
   · exact h.par n k gn bk hy' en ln
 · rw [hb k (by have:=h.sz; omega)]
   exact h.keep k hk hp
theorem KQ {X:Ctx} {ro:RO} {w w':World} (h:Rel X [] ro w) (hX:X.g0.length=0) {T:TypeId} {v:Value} {cs:List Value} (hne:cs ≠ []) (_hone:∀ u ∈ cs,u.oneCell'=true) (ho:w'.ownsRow w.heap.size T 1 v cs.length cs) (hb:Below w.heap.size w w') {K:S->Hp->Prop} (hK:K (.va (.c1 (.fz (cs.map fun u=>[C.vl u])))) []) :
 ∃ r' E' ro',K r' (hp E')/\r'.rel (gm E') ro' v/\Rel X E' ro' w':=by
 have hlen:0 < cs.length:=List.length_pos_iff.2 hne
 obtain ⟨h1,h2⟩:=ho
 rcases h2 with ⟨_,h0⟩ | ⟨b,cap,cur,rfl,hbb,hcell,hcap,hmax,hcs,htk⟩
 · omega
 have hfl:(cs.map fun u=>[C.vl u]).flatten=cs.map C.vl:=by
  clear h1 hlen hcap htk hK hne _hone
  induction cs with
  | nil=>rfl
  | cons x l ih=>rw [List.map_cons,List.flatten_cons,ih]; rfl
 let g:Gb:=⟨some b,true,cs.length,cap,T,cs⟩
 have hR:Rel X ([] ++ [(g,.row (cs.map fun u=>[C.vl u]) T 1)]) ro w':=by
  refine YN h (fun k hk=>hb.block k hk) hb.size hb.os hb.tape hb.output (fun b' hb'=>by cases hb'; exact hbb) ⟨rfl,by simp [g],fun x hx=>?_,fun c hc=>?_,⟨by simp [g],.inr ⟨b,cap,cur,?_,Nat.zero_le _,hcell,by simp; exact hcap,hmax,hcs,?_⟩⟩,?_,fun b' _=>(by show 0 < cap; omega)⟩
  · obtain ⟨y,_,rfl⟩:=List.mem_map.1 hx; rfl
  · rw [hfl] at hc; obtain ⟨y,_,rfl⟩:=List.mem_map.1 hc; rfl
  · simp [bC,g]
  · rw [List.length_map]; exact htk
  · rw [hfl]
    refine ⟨by simp [g],fun i x y hx hy=>?_⟩
    rw [List.getElem?_map] at hx
    have hy:cs[i]? = some y:=hy
    rw [hy] at hx
    cases hx; rfl
 refine C7 (X:=X) (k0:=0) hX (r:=.va (.c1 (.sl 0 (cs.map fun u=>[C.vl u]).length))) (.pub 0 _ T 1 (by rfl) (.sel [] (by simp) (by simp [cN]) rfl (.done ?_))) rfl ?_ hR
 · simp -dsimp only [go_sem,cN]; simpa using hK
 · refine ⟨g,rfl,rfl,by simp [g],⟨_,_,_,rfl⟩,fun _=>?_⟩
   simp [g,bC]
theorem nS {X:Ctx} {ro:RO} {w w':World} (h:Rel X [] ro w) {o:Option Addr} {c:Nat} (hb:Below w.heap.size w w') {K:S->Hp->Prop} (hK:K (.va (.c1 (.fz []))) []) :
 ∃ r' E' ro',K r' (hp E')/\r'.rel (gm E') ro' (.slice o 0 c)/\Rel X E' ro' w':=
 ⟨.va (.c1 (.fz [])),[],ro,hK,FzR.mk (ro:=ro) [] 1 none o (fun h=>absurd rfl h) c (fun _=>undef) (by simp) (Nat.zero_le _) (by simp) (by simp) (by simp) (by simp) (by simp),h.aside (fun k hk=>hb.block k hk) hb.size hb.os hb.tape hb.output⟩
def VA:W.Spec:=fun av H K=>∃ l:List ByteArray,av=[.va (.c1 (.fz (l.map bM)))]/\H=[]/\l.length<=1000000000/\K (.va (.c1 (.fz (l.map bM)))) []
theorem aAA {l:List ByteArray} {K:S->Hp->Prop} (h:l.length<=1000000000) (hK:K (.va (.c1 (.fz (l.map bM)))) []):VA [.va (.c1 (.fz (l.map bM)))] [] K:=⟨l,rfl,rfl,h,hK⟩
theorem RJ (l:List ByteArray):(l.map bM).flatten=(l.map Value.string).map C.vl:=by
 induction l with
 | nil=>rfl
 | cons x l ih=>rw [List.map_cons,List.flatten_cons,ih]; rfl
theorem Q8 (l:List ByteArray):(l.map Value.string).map (fun u=>[C.vl u])=l.map bM:=by rw [List.map_map]; rfl
theorem aNU:Meets Tryz.prog 126 VA:=by
 refine ⟨by kernel_rfl,fun av vs E ro w K hlen hrel hR hs _=>?_⟩
 obtain ⟨l,rfl,hH,hl,hK⟩:=hs
 match E,hH with
 | [],_=>
  match vs,hlen with
  | [v0],_=>
   have r0:FzR ro (l.map bM) v0:=hrel 0 _ _ rfl rfl
   cases hl0:l with
   | nil=>
    subst hl0
    generalize hx:([]:List ByteArray).map bM=xs at r0
    cases r0 with
    | mk xs sz o oa hoa cap us hz hc ho h1 h2 h3 h4=>
     subst hx
     have hK:K (.va (.c1 (.fz []))) []:=hK
     cases oa with
     | none=>
      refine (Any.slices_Clone_string_nil Tryz.lays16 0 cap w).mono ?_
      rintro e w' ⟨rfl,rfl⟩
      obtain ⟨r',E',ro',a1,a2,a3⟩:=nS (o:=none) (c:=0) hR (Below.refl _ _) hK
      exact ⟨r',_,E',ro',rfl,a2,a1,a3⟩
     | some a=>
      refine (Any.slices_Clone_string_zero Tryz.lays16 a cap w).mono ?_
      rintro e w' ⟨v',rfl,hown,_,hb⟩
      obtain ⟨o',c',rfl⟩:∃ o' c',v'=.slice o' 0 c':=by
       rcases hown.2 with ⟨rfl,_⟩ | ⟨b,c',cur,rfl,_⟩
       · exact ⟨none,0,rfl⟩
       · exact ⟨_,c',rfl⟩
      obtain ⟨r',E',ro',a1,a2,a3⟩:=nS (o:=o') (c:=c') hR hb hK
      exact ⟨r',_,E',ro',rfl,a2,a1,a3⟩
   | cons x0 lt=>
    have hne:l ≠ []:=by rw [hl0]; exact List.cons_ne_nil _ _
    clear hl0
    generalize hx:l.map bM=xs at r0
    cases r0 with
    | mk xs sz o oa hoa cap us hz hc ho h1 h2 h3 h4=>
     subst hx
     have hne2:l.map bM ≠ []:=by simpa using hne
     obtain ⟨⟨b,off⟩,rfl⟩:=Option.isSome_iff_exists.1 (ho hne2)
     obtain rfl:=hoa hne2
     have hcell:∀ j,j < l.length->w.cell? ⟨b,off + j,none⟩=some (Value.string (l.getD j ByteArray.empty)):=fun j hj=>by
      have hf:(l.map bM).flatten[j]? = some (.vl (Value.string (l.getD j ByteArray.empty))):=by
       rw [RJ,List.getElem?_map,List.getElem?_map,aY hj]
       simp [hj]
      have e1:=h1 j _ hf
      have e2:=h2 j _ hf
      rw [e2] at e1
      exact hR.rd b (off + j) _ e1
     have key:=Any.slices_Clone_string Tryz.lays16 b off l.length cap l w (Nat.le_refl _) (by omega) hcell
     rw [List.take_length] at key
     rw [List.length_map]
     refine key.mono ?_
     rintro e w' ⟨v',rfl,hown,_,hb⟩
     rw [<-List.length_map (f:=Value.string)] at hown
     obtain ⟨r',E',ro',a1,a2,a3⟩:=KQ hR rfl (cs:=l.map Value.string) (by simpa using hne) (fun u hu=>by obtain ⟨y,_,rfl⟩:=List.mem_map.1 hu; rfl) hown hb (by rw [Q8]; exact hK)
     exact ⟨r',_,E',ro',rfl,a2,a1,a3⟩
def XC:W.Spec:=fun av H K=>∃ l:List Int,av=[.va (.c1 (.fz (l.map cL)))]/\H=[]/\l.length<=1000000000/\K (.va (.c1 (.fz (l.map cL)))) []
theorem YH {l:List Int} {K:S->Hp->Prop} (h:l.length<=1000000000) (hK:K (.va (.c1 (.fz (l.map cL)))) []):XC [.va (.c1 (.fz (l.map cL)))] [] K:=⟨l,rfl,rfl,h,hK⟩
theorem UB (l:List Int):(l.map cL).flatten=(l.map (Value.int .i64)).map C.vl:=by
 induction l with
 | nil=>rfl
 | cons x l ih=>rw [List.map_cons,List.flatten_cons,ih]; rfl
theorem T0 (l:List Int):(l.map (Value.int .i64)).map (fun u=>[C.vl u])=l.map cL:=by rw [List.map_map]; rfl
theorem aN0:Meets Tryz.prog 127 XC:=by
 refine ⟨by kernel_rfl,fun av vs E ro w K hlen hrel hR hs _=>?_⟩
 obtain ⟨l,rfl,hH,hl,hK⟩:=hs
 match E,hH with
 | [],_=>
  match vs,hlen with
  | [v0],_=>
   have r0:FzR ro (l.map cL) v0:=hrel 0 _ _ rfl rfl
   cases hl0:l with
   | nil=>
    subst hl0
    generalize hx:([]:List Int).map cL=xs at r0
    cases r0 with
    | mk xs sz o oa hoa cap us hz hc ho h1 h2 h3 h4=>
     subst hx
     have hK:K (.va (.c1 (.fz []))) []:=hK
     cases oa with
     | none=>
      refine (Any.slices_Clone_int_nil Tryz.lays15 0 cap w).mono ?_
      rintro e w' ⟨rfl,rfl⟩
      obtain ⟨r',E',ro',a1,a2,a3⟩:=nS (o:=none) (c:=0) hR (Below.refl _ _) hK
      exact ⟨r',_,E',ro',rfl,a2,a1,a3⟩
     | some a=>
      refine (Any.slices_Clone_int_zero Tryz.lays15 a cap w).mono ?_
      rintro e w' ⟨v',rfl,hown,_,hb⟩
      obtain ⟨o',c',rfl⟩:∃ o' c',v'=.slice o' 0 c':=by
       rcases hown.2 with ⟨rfl,_⟩ | ⟨b,c',cur,rfl,_⟩
       · exact ⟨none,0,rfl⟩
       · exact ⟨_,c',rfl⟩
      obtain ⟨r',E',ro',a1,a2,a3⟩:=nS (o:=o') (c:=c') hR hb hK
      exact ⟨r',_,E',ro',rfl,a2,a1,a3⟩
   | cons x0 lt=>
    have hne:l ≠ []:=by rw [hl0]; exact List.cons_ne_nil _ _
    clear hl0
    generalize hx:l.map cL=xs at r0
    cases r0 with
    | mk xs sz o oa hoa cap us hz hc ho h1 h2 h3 h4=>
     subst hx
     have hne2:l.map cL ≠ []:=by simpa using hne
     obtain ⟨⟨b,off⟩,rfl⟩:=Option.isSome_iff_exists.1 (ho hne2)
     obtain rfl:=hoa hne2
     have hcell:∀ j,j < l.length->w.cell? ⟨b,off + j,none⟩=some (Value.int .i64 (l.getD j 0)):=fun j hj=>by
      have hf:(l.map cL).flatten[j]? = some (.vl (Value.int .i64 (l.getD j 0))):=by
       rw [UB,List.getElem?_map,List.getElem?_map,aY hj]
       simp [hj]
      have e1:=h1 j _ hf
      have e2:=h2 j _ hf
      rw [e2] at e1
      exact hR.rd b (off + j) _ e1
     have key:=Any.slices_Clone_int Tryz.lays15 b off l.length cap l w (Nat.le_refl _) (by omega) hcell
     rw [List.take_length] at key
     rw [List.length_map]
     refine key.mono ?_
     rintro e w' ⟨v',rfl,hown,_,hb⟩
     rw [<-List.length_map (f:=(Value.int .i64))] at hown
     obtain ⟨r',E',ro',a1,a2,a3⟩:=KQ hR rfl (cs:=l.map (Value.int .i64)) (by simpa using hne) (fun u hu=>by obtain ⟨y,_,rfl⟩:=List.mem_map.1 hu; rfl) hown hb (by rw [T0]; exact hK)
     exact ⟨r',_,E',ro',rfl,a2,a1,a3⟩
end Go.Proofs.YtkpohmhenegkiaaGreatDoor
namespace Go.Proofs.YtkpohmhenegkiaaGreatDoor
open Go.W
theorem y5:Meets Tryz.prog 98 MP:=by
 refine aE Tryz.func98 aOB 2 (by rw [Tryz.ntmps98]; decide) (aB aNU (aB aN0 (aA _))) (fun av H K h=>by obtain ⟨_,_,rfl,_⟩:=h; rfl) ?_
 rintro av H K ⟨s,n,rfl,rfl,hs,hK⟩
 rw [<-BK] at hK
 have hl:=hs.ok.le
 simp -dsimp only [go_sem,aF,aC7,aDN]
 refine aK (α:=Nat) (fun i=>[(1,tS n),(2,.va (.c1 (.pt 0 0))),(4,.va (.c1 (.pt 1 0))),(9,.va (.c1 (.fz (s.es.map bI)))),(10,iS .i64 s.es.length),(11,iS .i64 i)]) (fun _=>[.cells (aF s) 25,.cells [.vl (.string (mk [])),.vl (.slice none 0 0),.vl (.slice none 0 0)] 92])
  (fun i=>i<=s.es.length/\eU (s.es.drop i) n=eU s.es n) (fun i=>s.es.length - i) 0 2 ⟨Nat.zero_le _,rfl⟩ ?_ ?_ ?_
 · simp [go_sem]
 · simp [go_sem,aF]
 rintro i ⟨hi,ho⟩
 rcases bE i s.es.length with hlt | hge
 · have hg:decide ((i:Int) < (s.es.length:Int))=true:=by simp; omega
   obtain ⟨t,hx⟩:∃ e,s.es[i]? = some e:=⟨_,aY hlt⟩
   have q2:=aW (row:=bI) hx
   have htm:=bK hx
   rw [eU,m9 hx] at ho
   cases hc:decide (t.nm=n) with
   | true=>
    rw [hc,aL] at ho
    rw [<-ho] at hK
    simp (maxSteps:=1000000) -dsimp only [go_sem,hg,↓q2,bI,aF,d9,hc]
    refine ⟨by omega,aAA (hs.en t htm).1 ?_⟩
    simp (maxSteps:=1000000) -dsimp only [go_sem]
    refine YH (hs.en t htm).2 ?_
    simp (maxSteps:=1000000) -dsimp only [go_sem]
    exact .sel [] (by simp) (by simp) rfl (.done (by simpa [go_sem,bI] using hK))
   | false=>
    rw [hc,aI] at ho
    simp (maxSteps:=1000000) -dsimp only [go_sem,hg,↓q2,bI,aF,d9,hc]
    refine ⟨by omega,by omega,aC (i + 1) 2 ⟨by omega,ho⟩ (by omega) ?_ ?_⟩
    · simp [go_sem]
    · simp [go_sem,aF]
 · have hg:decide ((i:Int) < (s.es.length:Int))=false:=by simp; omega
   obtain rfl:i=s.es.length:=by omega
   rw [List.drop_length] at ho
   rw [<-ho] at hK
   simp -dsimp only [go_sem,hg,aF]
   exact .sel [] (by simp) (by simp) rfl (.done (by simpa [go_sem,eU,LK] using hK))
noncomputable def eqB {α:Type} (a b:α):Bool:=@decide (a=b) (Classical.propDecidable _)
theorem aDR:Meets Tryz.prog 46 (uI qD C.sc fun s=>.bool (eD s)).sp:=by
 refine aE Tryz.func46 aKS 1 (by rw [Tryz.ntmps46]; decide) (aA _) s7 ?_
 rintro av H K ⟨⟨h,rfl⟩,hK⟩
 obtain ⟨_,rfl,s,rfl,hs⟩:=iJ h
 have hK:K (bS (eD s)) []:=by
  have:(uI qD C.sc fun s=>.bool (eD s)).val [.va (.gs (aF s))]=bA (eD s):=by simp -dsimp only [go_sem]
  rw [this] at hK; exact hK
 obtain ⟨hv,hle,hls,hes,hss⟩:=hs
 have big:eD s=true->∀ R:Hp,W.Fin 0 K (bS true) R:=fun h R=>by
  rw [h] at hK
  exact .sel [] (by simp) (by simp) rfl (.done (by simpa [go_sem] using hK))
 cases d1:decide (16 < (s.es.length:Int)) with
 | true=>
  simp (maxSteps:=1000000) -dsimp only [go_sem,aF,HX,F1,d1]
  exact big (by unfold eD; rw [show decide (16 < s.es.length)=true by simp at d1 ⊢; omega]; simp) _
 | false=>
 cases d2:decide (16 < (s.ss.length:Int)) with
 | true=>
  simp (maxSteps:=1000000) -dsimp only [go_sem,aF,HX,F1,d1,d2]
  exact big (by unfold eD; rw [show decide (16 < s.es.length + s.ss.length)=true by simp at d2 ⊢; omega]; simp) _
 | false=>
 cases d3:decide (16 < (s.es.length:Int) + (s.ss.length:Int)) with
 | true=>
  simp (maxSteps:=1000000) -dsimp only [go_sem,aF,HX,F1,d1,d2,d3]
  exact ⟨by simp at d1 d2; omega,big (by unfold eD; rw [show decide (16 < s.es.length + s.ss.length)=true by simp at d3 ⊢; omega]; simp) _⟩
 | false=>
 simp (maxSteps:=1000000) -dsimp only [go_sem,aF,HX,F1,d1,d2,d3]
 simp only [decide_eq_false_iff_not] at d1 d2 d3
 refine ⟨by omega,?_⟩
 have hL:eD s=(s.es.any (fun e=>decide (16 < e.ns.length)) || s.ss.any (fun t=>decide (16 < t.fs.length))):=by
  unfold eD; rw [decide_eq_false (by omega),decide_eq_false (by omega)]; rfl
 refine aK (α:=Nat) (fun i=>[(1,.va (.c1 (.pt 0 0))),(3,iS .i64 i)]) (fun _=>[.cells (aF s) 25])
  (fun i=>i<=s.es.length/\(s.es.drop i).any (fun e=>decide (16 < e.ns.length))=s.es.any (fun e=>decide (16 < e.ns.length))) (fun i=>s.es.length - i) 0 1 ⟨Nat.zero_le _,rfl⟩ ?_ ?_ ?_
 · simp [go_sem]
 · simp [go_sem,aF]
 rintro i ⟨hi,ho⟩
 rcases bE i s.es.length with hlt | hge
 · have hg:decide ((i:Int) < (s.es.length:Int))=true:=by simp; omega
   obtain ⟨e,hx⟩:∃ e,s.es[i]? = some e:=⟨_,aY hlt⟩
   have q2:=aW (row:=bI) hx
   rw [gO hx] at ho
   simp (maxSteps:=1000000) -dsimp only [go_sem,hg,↓q2,bI,aF]
   and_intros
   all_goals first
    | omega
    | skip
   · intro hc
     have hc':decide (16 < e.ns.length)=true:=by simp at hc; simp; omega
     have:eD s=true:=by simp only [hL,<-ho,hc',Bool.true_or]
     rw [this] at hK
     exact .sel [] (by simp) (by simp) rfl (.done (by simpa [go_sem] using hK))
   · intro hc
     refine ⟨by omega,aC (i + 1) 1 ⟨by omega,?_⟩ (by omega) ?_ ?_⟩
     · have hc':decide (16 < e.ns.length)=false:=by simp at hc; simp; omega
       rw [<-ho,hc',Bool.false_or]
     · simp [go_sem]
     · simp [go_sem,aF]
 · have hg:decide ((i:Int) < (s.es.length:Int))=false:=by simp; omega
   obtain rfl:i=s.es.length:=by omega
   rw [oV] at ho
   rw [<-ho,Bool.false_or] at hL
   simp (maxSteps:=1000000) -dsimp only [go_sem,hg,aF]
   refine aK (α:=Nat) (fun i=>[(1,.va (.c1 (.pt 0 0))),(4,iS .i64 i)]) (fun _=>[.cells (aF s) 25])
    (fun i=>i<=s.ss.length/\(s.ss.drop i).any (fun e=>decide (16 < e.fs.length))=s.ss.any (fun e=>decide (16 < e.fs.length))) (fun i=>s.ss.length - i) 0 1 ⟨Nat.zero_le _,rfl⟩ ?_ ?_ ?_
   · simp [go_sem]
   · simp [go_sem,aF]
   clear hi ho hge hg
   rintro i ⟨hi,ho⟩
   rcases bE i s.ss.length with hlt | hge
   · have hg:decide ((i:Int) < (s.ss.length:Int))=true:=by simp; omega
     obtain ⟨e,hx⟩:∃ e,s.ss[i]? = some e:=⟨_,aY hlt⟩
     have q2:=aW (row:=aP) hx
     rw [gO hx] at ho
     simp (maxSteps:=1000000) -dsimp only [go_sem,hg,↓q2,aP,aF]
     and_intros
     all_goals first
      | omega
      | skip
     · intro hc
       have hc':decide (16 < e.fs.length)=true:=by simp at hc; simp; omega
       have:eD s=true:=by simp only [hL,<-ho,hc',Bool.true_or]
       rw [this] at hK
       exact .sel [] (by simp) (by simp) rfl (.done (by simpa [go_sem] using hK))
     · intro hc
       refine ⟨by omega,aC (i + 1) 1 ⟨by omega,?_⟩ (by omega) ?_ ?_⟩
       · have hc':decide (16 < e.fs.length)=false:=by simp at hc; simp; omega
         rw [<-ho,hc',Bool.false_or]
       · simp [go_sem]
       · simp [go_sem,aF]
   · have hg:decide ((i:Int) < (s.ss.length:Int))=false:=by simp; omega
     obtain rfl:i=s.ss.length:=by omega
     rw [oV] at ho
     simp (maxSteps:=1000000) -dsimp only [go_sem,hg,aF]
     rw [hL,<-ho] at hK
     exact .sel [] (by simp) (by simp) rfl (.done (by simpa [go_sem] using hK))
def EM (len:Sc->Nat):List S->Prop:=fun av=>match av with
 | [.va (.gs r),.va (.c1 (.vl (.int .i64 i)))]=>jY r/\0<=i/\i < (len (C.sc r):Int)
 | _=>False
theorem l6 {len:Sc->Nat} {av:List S} (h:EM len av):∃ (s:Sc) (i:Nat),av=[.va (.gs (aF s)),iS .i64 i]/\s.fit/\i < len s:=by
 unfold EM at h
 split at h
 · obtain ⟨⟨a,rfl,ha⟩,h1,h2⟩:=h
   rw [fW] at h2
   rename_i i
   exact ⟨a,i.toNat,by rw [Int.toNat_of_nonneg h1],ha,by omega⟩
 · exact h.elim
noncomputable def UX (f:Sc->Nat->Int):List S->A:=fun av=>match av with
 | [.va (.gs r),.va (.c1 (.vl (.int .i64 i)))]=>iA .i64 (f (C.sc r) i.toNat)
 | _=>.gs []
noncomputable def AJ (len:Sc->Nat) (f:Sc->Nat->Int):Fun:=⟨EM len,UX f,fun av h=>by obtain ⟨a,b,rfl,_⟩:=l6 h; trivial⟩
theorem G3 {len:Sc->Nat} {f:Sc->Nat->Int}:∀ av H K,(AJ len f).sp av H K->av.length=2:=fun av H K h=>by obtain ⟨a,b,rfl,_⟩:=l6 h.1.1; rfl
attribute [go_sem] AJ EM UX
theorem ZC:Meets Tryz.prog 47 (AJ (fun s=>s.es.length) iZ).sp:=by
 refine aE Tryz.func47 aLD 2 (by rw [Tryz.ntmps47]; decide) (aG HQ (aG wD (aG RW (aA _)))) G3 ?_
 rintro av H K ⟨⟨h,rfl⟩,hK⟩
 obtain ⟨s,i,rfl,hs,hi⟩:=l6 (len:=fun s=>s.es.length) h
 have hK:K (iS .i64 (iZ s i)) []:=by
  have:(AJ (fun s=>s.es.length) iZ).val [.va (.gs (aF s)),iS .i64 i]=iA .i64 (iZ s i):=by simp -dsimp only [go_sem,Int.toNat_natCast]
  rw [this] at hK; exact hK
 clear h
 have hle:=hs.ok.le
 have fin:∀ (x:Int) (R:Hp),iZ s i=x->W.Fin 0 K (iS .i64 x) R:=fun x R h=>by
  rw [h] at hK
  exact .sel [] (by simp) (by simp) rfl (.done (by simpa [go_sem] using hK))
 obtain ⟨e,hx⟩:∃ e,s.es[i]? = some e:=⟨_,aY hi⟩
 have q1:=aW (row:=bI) hx
 obtain ⟨_,hln,hlv,_,_⟩:=hs.ok.es e (bK hx)
 have hA:iZ s i=bif !(uZ (bl e.nm)) then 5 else bif fN (s.es.take i) e.nm then 7 else B4 e:=by unfold iZ; rw [hx]
 simp (maxSteps:=1000000) -dsimp only [go_sem,aF,aDY,aFU,↓q1,bI]
 refine ⟨by omega,fun h1=>fin 5 _ (by rw [hA,h1]; rfl),fun h1=>?_⟩
 rw [h1] at hA
 simp only [aI] at hA
 refine aK (α:=Nat) (fun j=>[(1,iS .i64 i),(2,.va (.c1 (.pt 0 0))),(5,.va (.c1 (.pt 1 0))),(6,iS .i64 j)]) (fun _=>[.cells (aF s) 25,.cells (bI e) 92])
  (fun j=>j<=i/\fN ((s.es.take i).drop j) e.nm=fN (s.es.take i) e.nm) (fun j=>i - j) 0 2 ⟨Nat.zero_le _,rfl⟩ ?_ ?_ ?_
 · simp [go_sem]
 · simp [go_sem,aF,bI]
 have hti:(s.es.take i).length=i:=by rw [List.length_take]; omega
 rintro j ⟨hj,ho⟩
 rcases bE j i with hlt | hge
 · have hg:decide ((j:Int) < (i:Int))=true:=by simp; omega
   obtain ⟨d,hd⟩:∃ d,s.es[j]? = some d:=⟨_,aY (by omega)⟩
   have hd':(s.es.take i)[j]? = some d:=by rw [List.getElem?_take,if_pos hlt]; exact hd
   have q2:=aW (row:=bI) hd
   rw [fN,gO hd'] at ho
   simp (maxSteps:=1000000) -dsimp only [go_sem,hg,↓q2,bI,aF,d9]
   refine ⟨by omega,fun hc=>?_,fun hc=>?_⟩
   · rw [hc,Bool.true_or] at ho
     exact fin 7 _ (by rw [hA,<-ho]; rfl)
   · rw [hc,Bool.false_or] at ho
     refine ⟨by omega,aC (j + 1) 2 ⟨by omega,ho⟩ (by omega) ?_ ?_⟩
     · simp [go_sem]
     · simp [go_sem,aF,bI]
 · obtain rfl:j=i:=by omega
   have hg:decide ((j:Int) < (j:Int))=false:=by simp
   rw [List.drop_eq_nil_of_le (by omega)] at ho
   rw [<-ho] at hA
   replace hA:iZ s j=B4 e:=hA
   clear ho hti
   simp (maxSteps:=1000000) -dsimp only [go_sem,hg,bI,aF]
   refine ⟨fun h1=>?_,fun h1=>?_⟩
   · refine fin 2 _ ?_
     rw [hA]
     unfold B4
     have:(decide (e.ns.length=0) || decide (e.ns.length ≠ e.vs.length))=true:=by
      simp only [Bool.or_eq_true,beq_iff_eq,bne_iff_ne,decide_eq_true_eq] at h1 ⊢; omega
     rw [this]; rfl
   simp only [Bool.or_eq_false_iff,beq_eq_false_iff_ne,bne_eq_false_iff_eq,ne_eq] at h1
   have hl:e.ns.length=e.vs.length:=by omega
   have hF:iZ s j=fE (jW e) (e.ns.length - 0) 0:=by
    rw [hA]; unfold B4; rw [decide_eq_false (by omega),decide_eq_false (by omega)]; rfl
   clear hA hg hge hj
   refine aK (α:=Nat) (fun k=>[(5,.va (.c1 (.pt 1 0))),(7,iS .i64 k)]) (fun _=>[.cells (aF s) 25,.cells (bI e) 92])
    (fun k=>k<=e.ns.length/\fE (jW e) (e.ns.length - k) k=fE (jW e) (e.ns.length - 0) 0) (fun k=>e.ns.length - k) 0 2 ⟨Nat.zero_le _,rfl⟩ ?_ ?_ ?_
   · simp [go_sem]
   · simp [go_sem,aF,bI]
   rintro k ⟨hk,ho⟩
   rcases bE k e.ns.length with hlt | hge
   · have hg:decide ((k:Int) < (e.ns.length:Int))=true:=by simp; omega
     obtain ⟨nm,hx2⟩:∃ nm,e.ns[k]? = some nm:=⟨_,aY hlt⟩
     obtain ⟨n,hy⟩:∃ nm,e.vs[k]? = some nm:=⟨_,aY (by omega)⟩
     have q2:=aW (row:=bM) hx2
     have q3:=aW (row:=cL) hy
     have hbs:BG (e.ns.map bM):=tM hln
     have hk0:(0<=(k:Int))=True:=by simp
     have hk1:((k:Int)<=9223372036854775807)=True:=by simp; omega
     have hA:jW e k=bif !(cG (bl nm)) then (5:Int) else bif cZ (e.ns.take k) nm then 7 else bif decide (n < 0) || decide (127 < n) then 4 else
      bif (decide ((k:Int)=0) && decide (n ≠ 0)) || (decide (0 < (k:Int)) && match e.vs[k - 1]? with | some m=>decide (n<=m) | none=>false) then 2 else 0:=by
      unfold jW; rw [hx2,hy]; rfl
     have fin':∀ (x:Int) (R:Hp),jW e k=x->x ≠ 0->W.Fin 0 K (iS .i64 x) R:=fun x R h1 h2=>fin x R (by
      rw [hF,<-ho,sF hlt (by rw [h1]; exact h2),h1])
     have b7:jW e k=0->fE (jW e) (e.ns.length - (k + 1)) (k + 1)=fE (jW e) (e.ns.length - 0) 0:=fun h1=>by rw [<-ho,wV hlt h1]
     cases hc1:cG (bl nm) with
     | false=>
      simp (maxSteps:=1000000) -dsimp only [go_sem,hg,↓q2,bI,aF,hc1]
      exact ⟨by omega,fin' 5 _ (by rw [hA,hc1]; rfl) (by decide)⟩
     | true=>
      cases hc2:cZ (e.ns.take k) nm with
      | true=>
       simp (maxSteps:=1000000) -dsimp only [go_sem,hg,↓q2,bI,aF,hc1,hc2,hbs,hk0,hk1,Int.toNat_natCast]
       exact ⟨by omega,by omega,fin' 7 _ (by rw [hA,hc1,hc2]; rfl) (by decide)⟩
      | false=>
       cases hc3:decide (n < 0) with
       | true=>
        simp (maxSteps:=1000000) -dsimp only [go_sem,hg,↓q2,↓q3,bI,aF,hc1,hc2,hbs,hk0,hk1,Int.toNat_natCast,hc3]
        exact ⟨by omega,by omega,by omega,fin' 4 _ (by rw [hA,hc1,hc2,hc3]; rfl) (by decide)⟩
       | false=>
       cases hc4:decide (127 < n) with
       | true=>
        simp (maxSteps:=1000000) -dsimp only [go_sem,hg,↓q2,↓q3,bI,aF,hc1,hc2,hbs,hk0,hk1,Int.toNat_natCast,hc3,hc4]
        exact ⟨by omega,by omega,by omega,by omega,fin' 4 _ (by rw [hA,hc1,hc2,hc3,hc4]; rfl) (by decide)⟩
       | false=>
       have hA2:jW e k=bif (decide ((k:Int)=0) && decide (n ≠ 0)) || (decide (0 < (k:Int)) && match e.vs[k - 1]? with | some m=>decide (n<=m) | none=>false) then 2 else 0:=by rw [hA,hc1,hc2,hc3,hc4]; rfl
       clear hA
       rcases Nat.eq_zero_or_pos k with h0 | h0
       · have g0:((k:Int) == 0)=true:=by simp; omega
         have g1:decide (0 < (k:Int))=false:=by simp; omega
         have g2:decide ((k:Int)=0)=true:=g0
         cases hn:(n != 0) with
         | true=>
          simp (maxSteps:=1000000) -dsimp only [go_sem,hg,↓q2,↓q3,bI,aF,hc1,hc2,hbs,hk0,hk1,Int.toNat_natCast,hc3,hc4,g0,g1,hn,Bool.and_false]
          and_intros
          all_goals first
           | omega
           | exact fin' 2 _ (by rw [hA2,g1,g2]; simp at hn; simp [hn]) (by decide)
         | false=>
          simp (maxSteps:=1000000) -dsimp only [go_sem,hg,↓q2,↓q3,bI,aF,hc1,hc2,hbs,hk0,hk1,Int.toNat_natCast,hc3,hc4,g0,g1,hn,Bool.and_false]
          and_intros
          all_goals first
           | omega
           | exact aC (k + 1) 2 ⟨by omega,b7 (by rw [hA2,g1]; simp at hn; simp [hn])⟩ (by omega) (by simp [go_sem]) (by simp [go_sem,aF,bI])
       · have g0:((k:Int) == 0)=false:=by simp; omega
         have g1:decide (0 < (k:Int))=true:=by simp; omega
         have g2:decide ((k:Int)=0)=false:=g0
         obtain ⟨m,hm⟩:∃ m,e.vs[k - 1]? = some m:=⟨_,aY (by omega)⟩
         have q4:((k:Int) - 1).toNat=k - 1:=by omega
         have q5:=oW (row:=cL) hm
         cases hn:decide (n<=m) with
         | true=>
          simp (maxSteps:=1000000) -dsimp only [go_sem,hg,↓q2,↓q3,bI,aF,hc1,hc2,hbs,hk0,hk1,Int.toNat_natCast,aH,forall_eq',hc3,hc4,g0,g1,q4,hm,hn,Bool.and_true]
          and_intros
          all_goals first
           | omega
           | exact fin' 2 _ (by rw [hA2,hm,g1]; simp only [hn]; simp) (by decide)
         | false=>
          simp (maxSteps:=1000000) -dsimp only [go_sem,hg,↓q2,↓q3,bI,aF,hc1,hc2,hbs,hk0,hk1,Int.toNat_natCast,aH,forall_eq',hc3,hc4,g0,g1,q4,hm,hn,Bool.and_true]
          and_intros
          all_goals first
           | omega
           | exact aC (k + 1) 2 ⟨by omega,b7 (by rw [hA2,hm,g1,g2]; simp only [hn]; rfl)⟩ (by omega) (by simp [go_sem]) (by simp [go_sem,aF,bI])
   · have hg:decide ((k:Int) < (e.ns.length:Int))=false:=by simp; omega
     obtain rfl:k=e.ns.length:=by omega
     rw [yH] at ho
     simp (maxSteps:=1000000) -dsimp only [go_sem,hg,bI]
     exact fin 0 _ (by rw [hF,<-ho])
def EL (N:Nat):List S->Prop:=fun av=>match av with
 | [.va (.gs r),.va (.gs q)]=>jY r/\eO q/\(C.ty q).h<=N
 | _=>False
theorem iO {N:Nat} {av:List S} (h:EL N av):∃ s t,av=[.va (.gs (aF s)),.va (.gs (aN t))]/\s.fit/\TyOk t/\t.h<=N:=by
 unfold EL at h
 split at h
 · obtain ⟨⟨a,rfl,ha⟩,⟨b,rfl,hb⟩,hh⟩:=h
   rw [eX] at hh
   exact ⟨a,b,rfl,ha,hb,hh⟩
 · exact h.elim
noncomputable def MQ:List S->A:=fun av=>match av with
 | [.va (.gs r),.va (.gs q)]=>bA (valF (C.sc r).ss (C.sc r).es (C.ty q))
 | _=>.gs []
noncomputable def BJ (N:Nat):Fun:=⟨EL N,MQ,fun av h=>by obtain ⟨a,b,rfl,_⟩:=iO h; trivial⟩
theorem EY {N:Nat}:∀ av H K,(BJ N).sp av H K->av.length=2:=fun av H K h=>by obtain ⟨a,b,rfl,_⟩:=iO h.1.1; rfl
attribute [go_sem] BJ EL MQ
theorem aNG {ss:List St} {es:List En} {s:Int} {n:ByteArray} {e:List Ty}:valF ss es (.mk 6 s n e)=(fO ss n && s == 0 && (e.length:Int) == 0):=by
 rw [valF]; rfl
theorem aNV {ss:List St} {es:List En} {s:Int} {n:ByteArray} {e:List Ty}:valF ss es (.mk 7 s n e)=(fN es n && s == 0 && (e.length:Int) == 0):=by
 rw [valF]; rfl
theorem N0:∀ N,Meets Tryz.prog 73 (BJ N).sp
 | 0=>⟨by kernel_rfl,by rintro xs vs E ro w K _ _ _ ⟨⟨h,_⟩,_⟩; obtain ⟨_,a,_,_,_,h⟩:=iO h; have:=a.h_pos; omega⟩
 | N + 1=>by
  refine aE Tryz.func73 aML 2 (by rw [Tryz.ntmps73]; decide) (aG (N0 N) (aG aAH (aB FF (aB PE (aA _))))) EY ?_
  rintro av H K ⟨⟨h,rfl⟩,hK⟩
  obtain ⟨sc,t,rfl,hs,ht,hh⟩:=iO h
  have hK:K (bS (valF sc.ss sc.es t)) []:=by
   have:(BJ (N + 1)).val [.va (.gs (aF sc)),.va (.gs (aN t))]=bA (valF sc.ss sc.es t):=by simp -dsimp only [go_sem]
   rw [this] at hK; exact hK
  clear h
  have fin:∀ (b:Bool) (R:Hp),valF sc.ss sc.es t=b->W.Fin 0 K (bS b) R:=fun b R h=>by
   rw [h] at hK
   exact .sel [] (by simp) (by simp) rfl (.done (by simp -dsimp only [go_sem]; simpa using hK))
  have hit:eO (aN t):=dQ ht
  cases t with
  | mk k s n e=>
  have hcd:=eX (.mk k s n e)
  rw [aN,aS] at hcd hit
  have hcl:(Ty.mk k s n e).e.length=e.length:=rfl
  by_cases k1:(k == 1)=true
  · have hF:=valF.eq_1 sc.ss sc.es k s n e
    rw [k1] at hF
    simp only [aL] at hF
    simp (maxSteps:=1000000) -dsimp only [go_sem,aF,aN,aS,oF,oL,k1,hit,hcd,hcl]
    exact fin _ _ hF
  rw [Bool.not_eq_true] at k1
  by_cases k2:(k == 2)=true
  · have hF:=valF.eq_1 sc.ss sc.es k s n e
    rw [k1,k2] at hF
    simp only [aL,aI] at hF
    simp (maxSteps:=1000000) -dsimp only [go_sem,aF,aN,aS,oF,oL,k1,k2,hit,hcd,hcl]
    exact fin _ _ hF
  rw [Bool.not_eq_true] at k2
  by_cases k3:(k == 3)=true
  · have hF:=valF.eq_1 sc.ss sc.es k s n e
    rw [k1,k2,k3] at hF
    simp only [aL,aI,Bool.and_false,Bool.or_false] at hF
    simp (maxSteps:=1000000) -dsimp only [go_sem,aF,aN,aS,oF,oL,k1,k2,k3,hit,hcd,hcl]
    exact fin _ _ hF
  rw [Bool.not_eq_true] at k3
  by_cases k4:(k == 4)=true
  · have hF:=valF.eq_1 sc.ss sc.es k s n e
    rw [k1,k2,k3,k4] at hF
    simp only [aL,aI] at hF
    simp (maxSteps:=1000000) -dsimp only [go_sem,aF,aN,aS,oF,oL,k1,k2,k3,k4,hit,hcd,hcl]
    exact fin _ _ hF
  rw [Bool.not_eq_true] at k4
  by_cases k5:(k == 5)=true
  · have hF:=valF.eq_1 sc.ss sc.es k s n e
    rw [k1,k2,k3,k4,k5] at hF
    simp only [aL,aI] at hF
    cases hc:(decide (1<=s) && decide (s<=32) && bl n == [] && (e.length:Int) == 1) with
    | false=>
     have hF':valF sc.ss sc.es (.mk k s n e)=false:=by
      rw [hF]
      cases h0:(decide (1<=s) && decide (s<=32) && bl n == []) with
      | false=>rfl
      | true=>
       rw [h0,Bool.true_and] at hc
       match e,hc with
       | [],_=>rfl
       | [u],hc=>simp at hc
       | u :: v :: r,_=>simp [l0]
     simp (maxSteps:=1000000) -dsimp only [go_sem,aF,aN,aS,oF,oL,k1,k2,k3,k4,k5,hc]
     exact fin _ _ hF'
    | true=>
     obtain ⟨u,rfl⟩:∃ u,e=[u]:=by
      simp only [Bool.and_eq_true,beq_iff_eq] at hc
      exact List.length_eq_one_iff.1 (by omega)
     have h0:(decide (1<=s) && decide (s<=32) && bl n == [])=true:=by
      simp only [Bool.and_eq_true] at hc ⊢; exact hc.1
     have hF':valF sc.ss sc.es (.mk k s n [u])=valF sc.ss sc.es u:=by rw [hF,h0]; simp [l0]
     have hu2:u.h<=N:=by rw [Ty.h,Ty.hs,Ty.hs] at hh; omega
     have hu:eO (aN u):=dQ (ht.e u (by simp [Ty.e]))
     have hsf:=fC hs
     rw [aF] at hsf
     have hsd:=fW sc
     rw [aF] at hsd
     have hc':(decide (1<=s) && decide (s<=32) && bl n == [] && ((1:Nat):Int) == 1)=true:=hc
     simp (maxSteps:=1000000) -dsimp only [go_sem,aF,aN,aS,oF,oL,k1,k2,k3,k4,k5,hc']
     refine ⟨⟨by omega,fun r hr=>by subst hr; exact gV u⟩,fun r hr=>?_⟩
     subst hr
     simp (maxSteps:=1000000) -dsimp only [go_sem,hsf,hsd,hu,gV]
     exact ⟨hu2,fin _ _ hF'⟩
  rw [Bool.not_eq_true] at k5
  by_cases k6:(k == 6)=true
  · obtain rfl:k=6:=by simpa using k6
    have hF:=aNG (ss:=sc.ss) (es:=sc.es) (s:=s) (n:=n) (e:=e)
    simp (maxSteps:=1000000) -dsimp only [go_sem,aF,aN,aS,oF,oL,k1,k2,k3,k4,k5,k6]
    refine kH hs ?_
    cases hc:fO sc.ss n with
    | false=>
     rw [hc] at hF
     simp (maxSteps:=1000000) -dsimp only [go_sem,aP,hit,hcd,hcl]
     exact fin _ _ hF
    | true=>
     rw [hc] at hF
     simp (maxSteps:=1000000) -dsimp only [go_sem,aP,hit,hcd,hcl]
     exact fin _ _ hF
  rw [Bool.not_eq_true] at k6
  by_cases k7:(k == 7)=true
  · obtain rfl:k=7:=by simpa using k7
    have hF:=aNV (ss:=sc.ss) (es:=sc.es) (s:=s) (n:=n) (e:=e)
    simp (maxSteps:=1000000) -dsimp only [go_sem,aF,aN,aS,oF,oL,k1,k2,k3,k4,k5,k6,k7]
    refine mN hs ?_
    cases hc:fN sc.es n with
    | false=>
     rw [hc] at hF
     simp (maxSteps:=1000000) -dsimp only [go_sem,bI,hit,hcd,hcl]
     exact fin _ _ hF
    | true=>
     rw [hc] at hF
     simp (maxSteps:=1000000) -dsimp only [go_sem,bI,hit,hcd,hcl]
     exact fin _ _ hF
  rw [Bool.not_eq_true] at k7
  have hF:=valF.eq_1 sc.ss sc.es k s n e
  rw [k1,k2,k3,k4,k5,k6,k7] at hF
  simp only [aI] at hF
  simp (maxSteps:=1000000) -dsimp only [go_sem,aF,aN,aS,oF,oL,k1,k2,k3,k4,k5,k6,k7]
  exact fin _ _ hF
def EK:List S->Prop:=fun av=>match av with
 | [.va (.gs r),.va (.gs q)]=>jY r/\eO q
 | _=>False
theorem p7 {av:List S} (h:EK av):∃ s t,av=[.va (.gs (aF s)),.va (.gs (aN t))]/\s.fit/\TyOk t:=by
 unfold EK at h
 split at h
 · obtain ⟨⟨a,rfl,ha⟩,⟨b,rfl,hb⟩⟩:=h
   exact ⟨a,b,rfl,ha,hb⟩
 · exact h.elim
noncomputable def r0Fn:Fun:=⟨EK,MQ,fun av h=>by obtain ⟨a,b,rfl,_⟩:=p7 h; trivial⟩
attribute [go_sem] r0Fn EK
theorem ZT:Meets Tryz.prog 73 r0Fn.sp:=eC 0 N0 fun av H K ⟨⟨h,e⟩,hK⟩=>by
 obtain ⟨a,b,rfl,ha,hb⟩:=p7 h
 exact ⟨b.h,⟨⟨⟨fC ha,dQ hb,by rw [eX]; exact Nat.le_refl _⟩,e⟩,hK⟩⟩
theorem PB:Meets Tryz.prog 48 (AJ (fun s=>s.ss.length) jI).sp:=by
 refine aE Tryz.func48 aPD 2 (by rw [Tryz.ntmps48]; decide) (aG HQ (aB PE (aG wD (aG ZT (aA _))))) G3 ?_
 rintro av H K ⟨⟨h,rfl⟩,hK⟩
 obtain ⟨s,i,rfl,hs,hi⟩:=l6 (len:=fun s=>s.ss.length) h
 have hK:K (iS .i64 (jI s i)) []:=by
  have:(AJ (fun s=>s.ss.length) jI).val [.va (.gs (aF s)),iS .i64 i]=iA .i64 (jI s i):=by simp -dsimp only [go_sem,Int.toNat_natCast]
  rw [this] at hK; exact hK
 clear h
 have hls:=hs.ok.ls
 have fin:∀ (x:Int) (R:Hp),jI s i=x->W.Fin 0 K (iS .i64 x) R:=fun x R h=>by
  rw [h] at hK
  exact .sel [] (by simp) (by simp) rfl (.done (by simpa [go_sem] using hK))
 obtain ⟨t,hx⟩:∃ e,s.ss[i]? = some e:=⟨_,aY hi⟩
 have q1:=aW (row:=aP) hx
 obtain ⟨_,hlf,hfs⟩:=hs.ok.ss t (bK hx)
 have hA:jI s i=bif nZ s i t.nm != 0 then nZ s i t.nm else BY s.ss s.es t:=by unfold jI; rw [hx]
 have hsf:=fC hs
 rw [aF] at hsf
 have hsd:=fW s
 rw [aF] at hsd
 simp (maxSteps:=1000000) -dsimp only [go_sem,aF,aCI,aF8,↓q1,aP]
 refine ⟨by omega,fun h1=>fin 5 _ (by rw [hA]; unfold nZ; rw [h1]; rfl),fun h1=>?_⟩
 refine mN hs ?_
 simp (maxSteps:=1000000) -dsimp only [go_sem,bI]
 refine ⟨fun h2=>fin 7 _ (by rw [hA]; unfold nZ; rw [h1,h2]; rfl),fun h2=>?_⟩
 have hC:nZ s i t.nm=bif fO (s.ss.take i) t.nm then 7 else 0:=by unfold nZ; rw [h1,h2]; rfl
 generalize ((eU s.es t.nm).getD default)=dflt
 refine aK (α:=Nat) (fun j=>[(1,iS .i64 i),(2,.va (.c1 (.pt 0 0))),(5,.va (.c1 (.pt 1 0))),(8,iS .i64 j)]) (fun _=>[.cells (aF s) 25,.cells (aP t) 95])
  (fun j=>j<=i/\fO ((s.ss.take i).drop j) t.nm=fO (s.ss.take i) t.nm) (fun j=>i - j) 0 2 ⟨Nat.zero_le _,rfl⟩ ?_ ?_ ?_
 · simp [go_sem]
 · simp [go_sem,aF,aP]
 have hti:(s.ss.take i).length=i:=by rw [List.length_take]; omega
 rintro j ⟨hj,ho⟩
 rcases bE j i with hlt | hge
 · have hg:decide ((j:Int) < (i:Int))=true:=by simp; omega
   obtain ⟨d,hd⟩:∃ d,s.ss[j]? = some d:=⟨_,aY (by omega)⟩
   have hd':(s.ss.take i)[j]? = some d:=by rw [List.getElem?_take,if_pos hlt]; exact hd
   have q2:=aW (row:=aP) hd
   rw [fO,gO hd'] at ho
   simp (maxSteps:=1000000) -dsimp only [go_sem,hg,↓q2,aP,aF,d9]
   refine ⟨by omega,fun hc=>?_,fun hc=>?_⟩
   · rw [hc,Bool.true_or] at ho
     exact fin 7 _ (by rw [hA,hC,<-ho]; rfl)
   · rw [hc,Bool.false_or] at ho
     refine ⟨by omega,aC (j + 1) 2 ⟨by omega,ho⟩ (by omega) ?_ ?_⟩
     · simp [go_sem]
     · simp [go_sem,aF,aP]
 · obtain rfl:j=i:=by omega
   have hg:decide ((j:Int) < (j:Int))=false:=by simp
   rw [List.drop_eq_nil_of_le (by omega)] at ho
   have hF:jI s j=BY s.ss s.es t:=by rw [hA,hC,<-ho]; rfl
   clear ho hti hA hC q1 hj hge
   simp (maxSteps:=1000000) -dsimp only [go_sem,hg,aP,aF]
   clear hg
   refine aK (α:=Nat) (fun k=>[(2,.va (.c1 (.pt 0 0))),(5,.va (.c1 (.pt 1 0))),(9,iS .i64 k)]) (fun _=>[.cells (aF s) 25,.cells (aP t) 95])
    (fun k=>k<=t.fs.length/\fE (oD s.ss s.es t) (t.fs.length - k) k=BY s.ss s.es t) (fun k=>t.fs.length - k) 0 2 ⟨Nat.zero_le _,rfl⟩ ?_ ?_ ?_
   · simp [go_sem]
   · simp [go_sem,aF,aP]
   rintro k ⟨hk,ho⟩
   rcases bE k t.fs.length with hlt | hge
   · have hg:decide ((k:Int) < (t.fs.length:Int))=true:=by simp; omega
     obtain ⟨f,hx2⟩:∃ nm,t.fs[k]? = some nm:=⟨_,aY hlt⟩
     have q2:=aW (row:=aX) hx2
     have hf:f.ok:=hfs f (bK hx2)
     have hit:eO (aN f.ty):=dQ hf.ty
     have hA:oD s.ss s.es t k=bif decide (f.num < 1) || decide (127 < f.num) then (4:Int) else bif decide (0 < (k:Int)) && (match t.fs[k - 1]? with | some g=>decide (f.num<=g.num) | none=>false) then 2 else
      bif !(cG (bl f.nm)) then 5 else bif (t.fs.take k).any (fun g=>decide (g.nm=f.nm)) then 7 else bif !(valF s.ss s.es f.ty) then 13 else 0:=by
      unfold oD; rw [hx2]; rfl
     have fin':∀ (x:Int) (R:Hp),oD s.ss s.es t k=x->x ≠ 0->W.Fin 0 K (iS .i64 x) R:=fun x R h1 h2=>fin x R (by
      rw [hF,<-ho,sF hlt (by rw [h1]; exact h2),h1])
     have b7:oD s.ss s.es t k=0->fE (oD s.ss s.es t) (t.fs.length - (k + 1)) (k + 1)=BY s.ss s.es t:=fun h1=>by rw [<-ho,wV hlt h1]
     cases c0:decide (f.num < 1) with
     | true=>
      rw [c0] at hA
      simp (maxSteps:=1000000) -dsimp only [go_sem,hg,↓q2,aX,aP,aF,c0]
      exact ⟨by omega,fin' 4 _ hA (by decide)⟩
     | false=>
     cases c1:decide (127 < f.num) with
     | true=>
      rw [c0,c1] at hA
      simp (maxSteps:=1000000) -dsimp only [go_sem,hg,↓q2,aX,aP,aF,c0,c1]
      exact ⟨by omega,fin' 4 _ hA (by decide)⟩
     | false=>
     rw [c0,c1] at hA
     simp only [Bool.or_self,aI] at hA
     rcases Nat.eq_zero_or_pos k with h0 | h0
     · have g1:decide (0 < (k:Int))=false:=by simp; omega
       rw [g1] at hA
       simp only [Bool.false_and,aI] at hA
       cases c3:cG (bl f.nm) with
       | false=>
        rw [c3] at hA
        simp (maxSteps:=1000000) -dsimp only [go_sem,hg,↓q2,aX,aP,aF,c0,c1,c3,g1]
        exact ⟨by omega,fin' 5 _ hA (by decide)⟩
       | true=>
        rw [c3] at hA
        simp only [Bool.not_true,aI] at hA
        simp (maxSteps:=1000000) -dsimp only [go_sem,hg,↓q2,aX,aP,aF,c0,c1,c3,g1]
        refine ⟨by omega,?_⟩
        refine aK (α:=Nat) (fun j=>[(2,.va (.c1 (.pt 0 0))),(5,.va (.c1 (.pt 1 0))),(9,iS .i64 k),(10,.va (.c1 (.pt 2 0))),(11,iS .i64 j)])
         (fun _=>[.cells (aF s) 25,.cells (aP t) 95,.cells (aX f) 97])
         (fun j=>j<=k/\((t.fs.take k).drop j).any (fun g=>decide (g.nm=f.nm))=(t.fs.take k).any (fun g=>decide (g.nm=f.nm))) (fun j=>k - j) 0 3 ⟨Nat.zero_le _,rfl⟩ ?_ ?_ ?_
        · simp [go_sem]
        · simp [go_sem,aF,aP,aX]
        have htk:(t.fs.take k).length=k:=by rw [List.length_take]; omega
        rintro j ⟨hj,ho2⟩
        rcases bE j k with hjt | hjg
        · have hgj:decide ((j:Int) < (k:Int))=true:=by simp; omega
          obtain ⟨d,hd⟩:∃ e,t.fs[j]? = some e:=⟨_,aY (by omega)⟩
          have hd':(t.fs.take k)[j]? = some d:=by rw [List.getElem?_take,if_pos hjt]; exact hd
          have q5:=aW (row:=aX) hd
          rw [gO hd'] at ho2
          simp (maxSteps:=1000000) -dsimp only [go_sem,hgj,↓q5,aX,aP,aF,d9]
          refine ⟨by omega,fun hc=>?_,fun hc=>?_⟩
          · rw [hc,Bool.true_or] at ho2
            rw [<-ho2] at hA
            exact fin' 7 _ hA (by decide)
          · rw [hc,Bool.false_or] at ho2
            refine ⟨by omega,aC (j + 1) 3 ⟨by omega,ho2⟩ (by omega) ?_ ?_⟩
            · simp [go_sem]
            · simp [go_sem,aF,aP,aX]
        · obtain rfl:j=k:=by omega
          have hgj:decide ((j:Int) < (j:Int))=false:=by simp
          rw [List.drop_eq_nil_of_le (by omega)] at ho2
          rw [<-ho2] at hA
          simp only [List.any_nil,aI] at hA
          simp (maxSteps:=1000000) -dsimp only [go_sem,hgj,aX,aP,aF,uB,hit,hsf,hsd]
          cases c5:valF s.ss s.es f.ty with
          | true=>
           rw [c5] at hA
           simp (maxSteps:=1000000) -dsimp only [go_sem]
           refine ⟨by omega,aC (j + 1) 2 ⟨by omega,b7 hA⟩ (by omega) ?_ ?_⟩
           · simp [go_sem]
           · simp [go_sem,aF,aP]
          | false=>
           rw [c5] at hA
           simp (maxSteps:=1000000) -dsimp only [go_sem]
           exact fin' 13 _ hA (by decide)
     · have g1:decide (0 < (k:Int))=true:=by simp; omega
       obtain ⟨g,hy⟩:∃ m,t.fs[k - 1]? = some m:=⟨_,aY (by omega)⟩
       have q4:((k:Int) - 1).toNat=k - 1:=by omega
       have q6:=oW (row:=aX) hy
       rw [g1,hy,Bool.true_and] at hA
       simp only at hA
       cases c2:decide (f.num<=g.num) with
       | true=>
        rw [c2] at hA
        simp (maxSteps:=1000000) -dsimp only [go_sem,hg,↓q2,aX,aP,aF,c0,c1,g1,q4,c2,hy,aH,forall_eq']
        exact ⟨by omega,by omega,by omega,fin' 2 _ hA (by decide)⟩
       | false=>
        rw [c2] at hA
        simp only [aI] at hA
        cases c3:cG (bl f.nm) with
        | false=>
         rw [c3] at hA
         simp (maxSteps:=1000000) -dsimp only [go_sem,hg,↓q2,aX,aP,aF,c0,c1,c3,g1,q4,c2,hy,aH,forall_eq']
         exact ⟨by omega,by omega,by omega,fin' 5 _ hA (by decide)⟩
        | true=>
         rw [c3] at hA
         simp only [Bool.not_true,aI] at hA
         simp (maxSteps:=1000000) -dsimp only [go_sem,hg,↓q2,aX,aP,aF,c0,c1,c3,g1,q4,c2,hy,aH,forall_eq']
         refine ⟨by omega,by omega,by omega,?_⟩
         refine aK (α:=Nat) (fun j=>[(2,.va (.c1 (.pt 0 0))),(5,.va (.c1 (.pt 1 0))),(9,iS .i64 k),(10,.va (.c1 (.pt 2 0))),(11,iS .i64 j)])
          (fun _=>[.cells (aF s) 25,.cells (aP t) 95,.cells (aX f) 97])
          (fun j=>j<=k/\((t.fs.take k).drop j).any (fun g=>decide (g.nm=f.nm))=(t.fs.take k).any (fun g=>decide (g.nm=f.nm))) (fun j=>k - j) 0 3 ⟨Nat.zero_le _,rfl⟩ ?_ ?_ ?_
         · simp [go_sem]
         · simp [go_sem,aF,aP,aX]
         have htk:(t.fs.take k).length=k:=by rw [List.length_take]; omega
         rintro j ⟨hj,ho2⟩
         rcases bE j k with hjt | hjg
         · have hgj:decide ((j:Int) < (k:Int))=true:=by simp; omega
           obtain ⟨d,hd⟩:∃ e,t.fs[j]? = some e:=⟨_,aY (by omega)⟩
           have hd':(t.fs.take k)[j]? = some d:=by rw [List.getElem?_take,if_pos hjt]; exact hd
           have q5:=aW (row:=aX) hd
           rw [gO hd'] at ho2
           simp (maxSteps:=1000000) -dsimp only [go_sem,hgj,↓q5,aX,aP,aF,d9]
           refine ⟨by omega,fun hc=>?_,fun hc=>?_⟩
           · rw [hc,Bool.true_or] at ho2
             rw [<-ho2] at hA
             exact fin' 7 _ hA (by decide)
           · rw [hc,Bool.false_or] at ho2
             refine ⟨by omega,aC (j + 1) 3 ⟨by omega,ho2⟩ (by omega) ?_ ?_⟩
             · simp [go_sem]
             · simp [go_sem,aF,aP,aX]
         · obtain rfl:j=k:=by omega
           have hgj:decide ((j:Int) < (j:Int))=false:=by simp
           rw [List.drop_eq_nil_of_le (by omega)] at ho2
           rw [<-ho2] at hA
           simp only [List.any_nil,aI] at hA
           simp (maxSteps:=1000000) -dsimp only [go_sem,hgj,aX,aP,aF,uB,hit,hsf,hsd]
           cases c5:valF s.ss s.es f.ty with
           | true=>
            rw [c5] at hA
            simp (maxSteps:=1000000) -dsimp only [go_sem]
            refine ⟨by omega,aC (j + 1) 2 ⟨by omega,b7 hA⟩ (by omega) ?_ ?_⟩
            · simp [go_sem]
            · simp [go_sem,aF,aP]
           | false=>
            rw [c5] at hA
            simp (maxSteps:=1000000) -dsimp only [go_sem]
            exact fin' 13 _ hA (by decide)
   · have hg:decide ((k:Int) < (t.fs.length:Int))=false:=by simp; omega
     obtain rfl:k=t.fs.length:=by omega
     rw [yH] at ho
     simp (maxSteps:=1000000) -dsimp only [go_sem,hg,aP]
     exact fin 0 _ (by rw [hF,<-ho])
mutual
def dirF:Ty->List ByteArray
 | .mk k _ n e=>bif k == 6 || k == 7 then [n] else eL e
def eL:List Ty->List ByteArray
 | []=>[]
 | t :: r=>dirF t ++ eL r
end
theorem rE:∀ (a b:List Ty),eL (a ++ b)=eL a ++ eL b
 | [],b=>rfl
 | t :: r,b=>by rw [List.cons_append,eL,eL,rE r b,List.append_assoc]
theorem C2:∀ {l:List Ty} {t:Ty},t ∈ l->(dirF t).length<=(eL l).length
 | x :: l,t,h=>by
  rw [eL,List.length_append]
  rcases List.mem_cons.1 h with rfl | h
  · omega
  · have:=C2 h; omega
def aB7 (N:Nat):W.Spec:=fun av H K=>∃ t:Ty,av=[.va (.gs (aN t))]/\H=[]/\TyOk t/\t.h<=N/\(dirF t).length<=1000000000/\K (.va (.c1 (.fz ((dirF t).map bM)))) []
theorem aCQ {N:Nat} {t:Ty} {K:S->Hp->Prop} (h1:TyOk t) (h2:t.h<=N) (h3:(dirF t).length<=1000000000) (hK:K (.va (.c1 (.fz ((dirF t).map bM)))) []):aB7 N [.va (.gs (aN t))] [] K:=⟨t,rfl,rfl,h1,h2,h3,hK⟩
theorem aBH (l:List ByteArray):∀ r ∈ l.map bM,∀ c ∈ r,c.shut=true/\c.one:=fun r hr c hc=>by
 obtain ⟨x,_,rfl⟩:=List.mem_map.1 hr
 simp at hc; subst hc; simp [go_sem,C.shut]
theorem K9:∀ N,Meets Tryz.prog 87 (aB7 N)
 | 0=>⟨by kernel_rfl,by rintro xs vs E ro w K _ _ _ ⟨t,_,_,_,h,_⟩; have:=t.h_pos; omega⟩
 | N + 1=>by
  refine aE Tryz.func87 aKW 1 (by rw [Tryz.ntmps87]; decide) (aB (K9 N) (aA _)) (fun av H K h=>by obtain ⟨_,rfl,_⟩:=h; rfl) ?_
  rintro av H K ⟨⟨k,s,n,e⟩,rfl,rfl,h1,h2,h3,hK⟩
  have hle:=h1.len
  have hoe:=h1.e
  simp only [Ty.e] at hle hoe
  have hD:=dirF.eq_1 k s n e
  simp (maxSteps:=1000000) -dsimp only [go_sem,aN,aS,aBW,aBE]
  refine ⟨fun c1=>?_,fun c1=>?_⟩
  · rw [c1,aL] at hD
    rw [hD] at hK
    refine .pub 1 _ _ _ rfl (.sel [] (by simp) (by simp [cN]) rfl (.done ?_))
    simp -dsimp only [go_sem,cN]
    simpa using hK
  · rw [c1,aI] at hD
    rw [hD] at hK h3
    refine dC (α:=Nat) (fun i=>[(1,.va (.c1 (.pt 0 0))),(3,.va (.c1 (.sl 1 (eL (e.take i)).length))),(4,iS .i64 i)]) (fun i=>[.cells (aN (.mk k s n e)) 28,.row ((eL (e.take i)).map bM) 9 1])
     (fun i=>i<=e.length) (fun i=>e.length - i) (.nil 3 9 1 rfl (kV 0 2 (Nat.zero_le _) ?_ ?_)) ?_
    · simp -dsimp only [go_sem]<;>simp [eL]
    · simp -dsimp only [go_sem,aN,aS]<;>simp [eL]
    intro i hi
    rcases bE i e.length with hlt | hge
    · have hg:decide ((i:Int) < (e.length:Int))=true:=by simp; omega
      obtain ⟨u,hx⟩:∃ t,e[i]? = some t:=⟨_,aY hlt⟩
      have q1:=aW (row:=aN) hx
      have hu:=bK hx
      have htn:eL (e.take (i + 1))=eL (e.take i) ++ dirF u:=by rw [fU hx,rE]; simp [eL]
      have hb:(eL (e.take (i + 1))).length<=1000000000:=by
       have:=rE (e.take (i + 1)) (e.drop (i + 1))
       rw [List.take_append_drop] at this
       rw [this,List.length_append] at h3; omega
      rw [htn,List.length_append] at hb
      simp (maxSteps:=1000000) -dsimp only [go_sem,hg,↓q1,gV,aN,aS]
      refine ⟨by omega,aCQ (hoe u hu) ?_ ?_ ?_⟩
      · have:=Ty.hs_mem hu; rw [Ty.h] at h2; omega
      · have:=C2 hu; omega
      simp (maxSteps:=1000000) -dsimp only [go_sem,SQ ZA]
      refine ⟨aBH _,by omega,by omega,aC (i + 1) 2 (by omega) (by omega) ?_ ?_⟩
      · simp -dsimp only [go_sem,htn]<;>simp
      · simp -dsimp only [go_sem,aN,aS,htn]<;>simp
    · have hg:decide ((i:Int) < (e.length:Int))=false:=by simp; omega
      obtain rfl:i=e.length:=by omega
      rw [List.take_length]
      simp (maxSteps:=1000000) -dsimp only [go_sem,hg,aN,aS]
      rw [<-List.length_map (f:=bM)]
      refine .pub 1 _ _ _ rfl (.sel [] (by simp) (by simp [cN]) rfl (.done ?_))
      simp -dsimp only [go_sem,cN]
      simpa using hK
def V2:W.Spec:=fun av H K=>∃ t:Ty,av=[.va (.gs (aN t))]/\H=[]/\TyOk t/\(dirF t).length<=1000000000/\K (.va (.c1 (.fz ((dirF t).map bM)))) []
theorem Y4 {t:Ty} {K:S->Hp->Prop} (h1:TyOk t) (h3:(dirF t).length<=1000000000) (hK:K (.va (.c1 (.fz ((dirF t).map bM)))) []):V2 [.va (.gs (aN t))] [] K:=⟨t,rfl,rfl,h1,h3,hK⟩
theorem T6:Meets Tryz.prog 87 V2:=eC 0 K9 fun _av _H _K ⟨t,e1,e2,h1,h3,hK⟩=>⟨t.h,t,e1,e2,h1,Nat.le_refl _,h3,hK⟩
def eF (x:ByteArray):Bool->List ByteArray->List ByteArray
 | d,[]=>bif d then [] else [x]
 | d,y :: r=>bif !d && (Op.bytesLess (bl x) (bl y) || bl x == bl y) then (bif Op.bytesLess (bl x) (bl y) then x :: y :: eF x true r else y :: eF x true r) else y :: eF x d r
theorem G2 (x:ByteArray):∀ (d:Bool) (l:List ByteArray),(eF x d l).length<=l.length + 1
 | d,[]=>by cases d<;>simp [eF]
 | d,y :: r=>by
  have h1:=jO x r
  have h2:=G2 x d r
  rw [eF]
  cases d<;>cases Op.bytesLess (bl x) (bl y)<;>cases bl x == bl y<;>simp [h1] at h2 ⊢<;>omega
where jO (x:ByteArray):∀ l,eF x true l=l
 | []=>rfl
 | y :: r=>by rw [eF,jO x r]; rfl
def aDD:W.Spec:=fun av H K=>∃ (l:List ByteArray) (x:ByteArray),av=[.va (.c1 (.fz (l.map bM))),tS x]/\H=[]/\l.length<=1000000/\K (.va (.c1 (.fz ((eF x false l).map bM)))) []
theorem aAV {l:List ByteArray} {x:ByteArray} {K:S->Hp->Prop} (h:l.length<=1000000) (hK:K (.va (.c1 (.fz ((eF x false l).map bM)))) []):aDD [.va (.c1 (.fz (l.map bM))),tS x] [] K:=⟨l,x,rfl,rfl,h,hK⟩
theorem aL7:Meets Tryz.prog 88 aDD:=by
 refine aE Tryz.func88 aMH 2 (by rw [Tryz.ntmps88]; decide) (aA _) (fun av H K h=>by obtain ⟨_,_,rfl,_⟩:=h; rfl) ?_
 rintro av H K ⟨l,x,rfl,rfl,hl,hK⟩
 have hlen:=G2 x false l
 simp (maxSteps:=1000000) -dsimp only [go_sem,aFH,aAW]
 refine dC (α:=Nat × Bool × List ByteArray) (fun z=>[(0,.va (.c1 (.fz (l.map bM)))),(1,tS x),(5,.va (.c1 (.sl 0 z.2.2.length))),(6,bS z.2.1),(7,iS .i64 z.1)]) (fun z=>[.row (z.2.2.map bM) 9 1])
  (fun z=>z.1<=l.length/\z.2.2 ++ eF x z.2.1 (l.drop z.1)=eF x false l) (fun z=>l.length - z.1) (.nil 5 9 1 rfl (kV (0,false,[]) 1 ⟨Nat.zero_le _,rfl⟩ ?_ ?_)) ?_
 · simp -dsimp only [go_sem]<;>simp
 · simp -dsimp only [go_sem]<;>simp
 rintro ⟨i,d,o⟩ ⟨hi,ho⟩
 simp only at hi ho ⊢
 have hol:o.length<=l.length + 1:=by
  have:=congrArg List.length ho
  rw [List.length_append] at this; omega
 rcases bE i l.length with hlt | hge
 · have hg:decide ((i:Int) < (l.length:Int))=true:=by simp; omega
   obtain ⟨y,hx⟩:∃ t,l[i]? = some t:=⟨_,aY hlt⟩
   have q1:=aW (row:=bM) hx
   have hdr:l.drop i=y :: l.drop (i + 1):=by
    obtain ⟨h,rfl⟩:=aZ.1 hx
    exact List.drop_eq_getElem_cons h
   rw [hdr,eF] at ho
   have hst:∀ (u:ByteArray),[[C.vl (.string u)]]=[u].map bM:=fun _=>rfl
   cases d with
   | true=>
    simp only [Bool.not_true,Bool.false_and,aI] at ho
    simp (maxSteps:=1000000) -dsimp only [go_sem,hg,↓q1]
    and_intros
    all_goals first
     | omega
     | skip
    refine aC (i + 1,true,o ++ [y]) 1 ⟨by simp only; omega,by simp only [List.append_assoc,List.singleton_append]; exact ho⟩ (by simp only; omega) ?_ ?_
    · simp -dsimp only [go_sem]<;>simp
    · simp -dsimp only [go_sem]<;>simp
   | false=>
    simp only [Bool.not_false,Bool.true_and] at ho
    cases c2:Op.bytesLess (bl x) (bl y) with
    | true=>
     rw [c2] at ho
     simp only [Bool.true_or,aL] at ho
     simp (maxSteps:=1000000) -dsimp only [go_sem,hg,↓q1,c2,Bool.true_or]
     and_intros
     all_goals first
      | omega
      | skip
     refine aC (i + 1,true,o ++ [x,y]) 1 ⟨by simp only; omega,by simp only [List.append_assoc,List.cons_append,List.nil_append]; exact ho⟩ (by simp only; omega) ?_ ?_
     · simp -dsimp only [go_sem]<;>simp
     · simp -dsimp only [go_sem]<;>simp
    | false=>
     rw [c2] at ho
     simp only [Bool.false_or,aI] at ho
     cases c3:bl x == bl y with
     | true=>
      rw [c3] at ho
      simp only [aL] at ho
      simp (maxSteps:=1000000) -dsimp only [go_sem,hg,↓q1,c2,c3,Bool.false_or]
      and_intros
      all_goals first
       | omega
       | skip
      refine aC (i + 1,true,o ++ [y]) 1 ⟨by simp only; omega,by simp only [List.append_assoc,List.singleton_append]; exact ho⟩ (by simp only; omega) ?_ ?_
      · simp -dsimp only [go_sem]<;>simp
      · simp -dsimp only [go_sem]<;>simp
     | false=>
      rw [c3] at ho
      simp only [aI] at ho
      simp (maxSteps:=1000000) -dsimp only [go_sem,hg,↓q1,c2,c3,Bool.false_or]
      and_intros
      all_goals first
       | omega
       | skip
      refine aC (i + 1,false,o ++ [y]) 1 ⟨by simp only; omega,by simp only [List.append_assoc,List.singleton_append]; exact ho⟩ (by simp only; omega) ?_ ?_
      · simp -dsimp only [go_sem]<;>simp
      · simp -dsimp only [go_sem]<;>simp
 · have hg:decide ((i:Int) < (l.length:Int))=false:=by simp; omega
   obtain rfl:i=l.length:=by omega
   rw [List.drop_length] at ho
   simp only [eF] at ho
   cases d with
   | true=>
    simp only [aL,List.append_nil] at ho
    rw [<-ho] at hK
    simp (maxSteps:=1000000) -dsimp only [go_sem,hg]
    rw [<-List.length_map (f:=bM)]
    refine .pub 0 _ _ _ rfl (.sel [] (by simp) (by simp [cN]) rfl (.done ?_))
    simp -dsimp only [go_sem,cN]
    simpa using hK
   | false=>
    simp only [aI] at ho
    rw [<-ho] at hK
    simp (maxSteps:=1000000) -dsimp only [go_sem,hg]
    refine ⟨by omega,?_⟩
    have e1:o.length + 1=((o ++ [x]).map bM).length:=by simp
    have e2:o.map bM ++ [[C.vl (.string x)]]=(o ++ [x]).map bM:=by simp
    rw [e1,e2]
    refine .pub 0 _ _ _ rfl (.sel [] (by simp) (by simp [cN]) rfl (.done ?_))
    simp -dsimp only [go_sem,cN]
    simpa using hK
abbrev DE (a b:ByteArray):Prop:=bl a < bl b
theorem aA5 (x:List UInt8):∀ y:List UInt8,Op.bytesLess x y=decide (x < y):=by
 induction x with
 | nil=>intro y; cases y<;>simp [Op.bytesLess]
 | cons a x ih=>
  intro y
  cases y with
  | nil=>simp [Op.bytesLess]
  | cons b y=>
   have:=ih y
   rw [Op.bytesLess,this,Bool.eq_iff_iff]
   simp [List.cons_lt_cons_iff]
theorem WX (a b:ByteArray):Op.bytesLess (bl a) (bl b)=decide (DE a b):=aA5 _ _
theorem l5 (a:ByteArray):¬ DE a a:=List.lt_irrefl _
theorem DB {a b c:ByteArray} (h:DE a b) (h2:DE b c):DE a c:=List.lt_trans h h2
theorem OL {a b:ByteArray} (h:¬ DE a b) (h2:a ≠ b):DE b a:=by
 have h3:bl b<=bl a:=List.not_lt.1 h
 exact Std.lt_of_le_of_ne h3 (fun e=>h2 (zT e.symm))
def Asc (l:List ByteArray):Prop:=l.Pairwise DE
theorem JM:∀ {a b:List ByteArray},Asc a->Asc b->(∀ x,x ∈ a ↔ x ∈ b)->a=b
 | [],[],_,_,_=>rfl
 | [],y :: b,_,_,h=>by have:=(h y).2 List.mem_cons_self; cases this
 | x :: a,[],_,_,h=>by have:=(h x).1 List.mem_cons_self; cases this
 | x :: a,y :: b,h1,h2,h=>by
  obtain ⟨p1,p2⟩:=List.pairwise_cons.1 h1
  obtain ⟨p3,p4⟩:=List.pairwise_cons.1 h2
  have e:x=y:=by
   rcases List.mem_cons.1 ((h x).1 List.mem_cons_self) with e | e
   · exact e
   · rcases List.mem_cons.1 ((h y).2 List.mem_cons_self) with e2 | e2
     · exact e2.symm
     · exact absurd (DB (p1 y e2) (p3 x e)) (l5 x)
  subst e
  rw [JM p2 p4 fun z=>?_]
  constructor
  · intro hz
    rcases List.mem_cons.1 ((h z).1 (List.mem_cons_of_mem _ hz)) with e | e
    · exact absurd (p1 z hz) (by rw [e]; exact l5 x)
    · exact e
  · intro hz
    rcases List.mem_cons.1 ((h z).2 (List.mem_cons_of_mem _ hz)) with e | e
    · exact absurd (p3 z hz) (by rw [e]; exact l5 x)
    · exact e
theorem Asc.nodup {l:List ByteArray} (h:Asc l):l.Nodup:=by
 unfold List.Nodup
 refine List.Pairwise.imp ?_ h
 intro a b h e
 subst e
 exact l5 a h
theorem jO (x:ByteArray):∀ l,eF x true l=l
 | []=>rfl
 | y :: r=>by rw [eF,jO x r]; rfl
theorem jG {x z:ByteArray}:∀ {l:List ByteArray},z ∈ eF x false l ↔ z=x\/z ∈ l
 | []=>by simp [eF]
 | y :: r=>by
  rw [eF,jO]
  cases c1:Op.bytesLess (bl x) (bl y) with
  | true=>simp
  | false=>
   cases c2:bl x == bl y with
   | true=>
    have:x=y:=zT (by simpa using c2)
    subst this
    simp
   | false=>
    have:=jG (x:=x) (z:=z) (l:=r)
    simp [this]
    constructor
    · rintro (h | h | h)
      · exact .inr (.inl h)
      · exact .inl h
      · exact .inr (.inr h)
    · rintro (h | h | h)
      · exact .inr (.inl h)
      · exact .inl h
      · exact .inr (.inr h)
theorem GX {x:ByteArray}:∀ {l:List ByteArray},Asc l->Asc (eF x false l)
 | [],_=>by simp [eF,Asc]
 | y :: r,h=>by
  obtain ⟨p1,p2⟩:=List.pairwise_cons.1 h
  rw [eF,jO]
  cases c1:Op.bytesLess (bl x) (bl y) with
  | true=>
   rw [WX] at c1
   have c1:=of_decide_eq_true c1
   simp only [Bool.not_false,Bool.true_or,Bool.and_true,aL]
   refine List.pairwise_cons.2 ⟨fun z hz=>?_,h⟩
   rcases List.mem_cons.1 hz with rfl | hz
   · exact c1
   · exact DB c1 (p1 z hz)
  | false=>
   cases c2:bl x == bl y with
   | true=>exact h
   | false=>
    rw [WX] at c1
    have c1:=of_decide_eq_false c1
    have c2:x ≠ y:=fun e=>by subst e; simp at c2
    simp only [Bool.not_false,Bool.true_and,Bool.or_self,aI]
    refine List.pairwise_cons.2 ⟨fun z hz=>?_,GX p2⟩
    rcases jG.1 hz with rfl | hz
    · exact OL c1 c2
    · exact p1 z hz
theorem S6 {l:List ByteArray} (h:l.Nodup):Asc (vD l):=by
 have h1:((l.map bl).mergeSort fun x y=>decide (x<=y)).Pairwise fun a b=>decide (a<=b)=true:=
  List.pairwise_mergeSort (le:=fun (x y:List UInt8)=>decide (x<=y)) (fun (a b c:List UInt8) h1 h2=>decide_eq_true (List.le_trans (of_decide_eq_true h1) (of_decide_eq_true h2))) (fun (a b:List UInt8)=>by
   rcases List.le_total a b with h | h<;>simp [h]) _
 have h2:((l.map bl).mergeSort fun x y=>decide (x<=y)).Nodup:=by
  rw [(List.mergeSort_perm _ _).nodup_iff]
  exact List.Pairwise.map bl (fun a b (hab:a ≠ b) e=>hab (zT e)) h
 unfold vD Asc
 rw [List.pairwise_map]
 refine List.Pairwise.imp₂ (fun a b h1 h2=>?_) h1 h2
 exact Std.lt_of_le_of_ne (of_decide_eq_true h1) h2
theorem O1 (ss:List St) (n:ByteArray):Asc (fR ss n):=S6 (rS ss n)
theorem O8 {e:List Ty} (h:((e.length:Int) == 0)=true):e=[]:=by simpa using h
theorem JQ (ss:List St) (es:List En):∀ (N:Nat) (t:Ty),t.h<=N->valF ss es t=true->dirF t=bif bQ t then [bR t] else []
 | 0,t,h,_=>absurd h (by have:=t.h_pos; omega)
 | N + 1,.mk k s n e,h,hv=>by
  cases k5:k == 5 with
  | true=>
   obtain rfl:k=5:=by simpa using k5
   obtain ⟨u,rfl,hu⟩:=wG hv
   have:=JQ ss es N u (by rw [Ty.h,Ty.hs,Ty.hs] at h; omega) hu
   unfold bQ bR
   rw [CX]
   rw [dirF,eL,eL,List.append_nil,this]
   rfl
  | false=>
   have h1:eZ (.mk k s n e)=.mk k s n e:=wW (by rw [k5]; rfl)
   unfold bQ bR
   rw [h1,dirF]
   simp only [Ty.k,Ty.n]
   cases k67:(k == 6 || k == 7) with
   | true=>rfl
   | false=>
    have he:e=[]:=by
     rw [Bool.or_eq_false_iff] at k67
     rw [valF,k5,k67.1,k67.2] at hv
     cases k1:k == 1<;>cases k2:k == 2<;>cases k3:k == 3<;>cases k4:k == 4<;>rw [k1,k2,k3,k4] at hv<;>simp only [aL,aI,Bool.and_eq_true,reduceCtorEq] at hv<;>first | exact O8 hv.2 | exact absurd hv (by decide)
    subst he; rfl
theorem GQ {ss:List St} {es:List En} {t:Ty} (hv:valF ss es t=true):dirF t=bif bQ t then [bR t] else []:=JQ ss es t.h t (Nat.le_refl _) hv
structure UI (ss:List St) (n:ByteArray) (i:Nat) (todo o:List ByteArray):Prop where
 hd:∃ r,todo=n :: r/\r.Nodup/\∀ x,x ∈ o ↔ x ∈ r
 rc:∀ x ∈ o,Reach ss n x
 dn:∀ j a,j < i->todo[j]? = some a->∀ y,dM ss a y->y ∈ o
 asc:Asc o
theorem UI.init (ss:List St) (n:ByteArray):UI ss n 0 [n] []:=⟨⟨[],rfl,.nil,fun _x=>Iff.rfl⟩,fun _x h=>(List.not_mem_nil h).elim,fun _j _a h=>absurd h (Nat.not_lt_zero _),List.Pairwise.nil⟩
theorem N9 {ss:List St} {es:List En} (g:Gd ss es) {n:ByteArray} {l:List ByteArray} (h:l.Nodup) (hr:∀ x ∈ l,Reach ss n x):l.length<=32:=Nat.le_trans (sA h fun x hx=>(iT ss n x).2 (hr x hx)) (g.vlen n)
theorem UI.len {ss:List St} {es:List En} (g:Gd ss es) {n:ByteArray} {i:Nat} {todo o:List ByteArray} (h:UI ss n i todo o):todo.length<=33/\o.length<=32:=by
 obtain ⟨r,rfl,h1,h2⟩:=h.hd
 have:=N9 g h1 fun x hx=>h.rc x ((h2 x).2 hx)
 have:=N9 g h.asc.nodup h.rc
 simp only [List.length_cons]; omega
theorem UI.rch {ss:List St} {n:ByteArray} {i k:Nat} {todo o:List ByteArray} (h:UI ss n i todo o) {a y:ByteArray} (ha:todo[k]? = some a) (hy:dM ss a y):Reach ss n y:=by
 obtain ⟨r,rfl,h1,h2⟩:=h.hd
 cases k with
 | zero=>simp at ha; subst ha; exact .one hy
 | succ k=>
  simp at ha
  exact .more (h.rc a ((h2 a).2 (bK ha))) hy
theorem UI.add {ss:List St} {n:ByteArray} {i:Nat} {todo o:List ByteArray} (h:UI ss n i todo o) {y:ByteArray} (hr:Reach ss n y) (hy:y ∉ o) (hi:i<=todo.length):UI ss n i (todo ++ [y]) (eF y false o):=by
 obtain ⟨r,rfl,h1,h2⟩:=h.hd
 refine ⟨⟨r ++ [y],by simp,?_,fun x=>?_⟩,fun x hx=>?_,fun j a hj ha z hz=>?_,GX h.asc⟩
 · rw [List.nodup_append]
   exact ⟨h1,by simp,fun a ha b hb=>by simp at hb; subst hb; exact fun e=>hy ((h2 b).2 (e ▸ ha))⟩
 · rw [jG,h2]; simp [or_comm]
 · rcases jG.1 hx with rfl | hx
   · exact hr
   · exact h.rc x hx
 · rw [List.getElem?_append_left (by omega)] at ha
   exact jG.2 (.inr (h.dn j a hj ha z hz))
theorem UI.next {ss:List St} {n:ByteArray} {i:Nat} {todo o:List ByteArray} (h:UI ss n i todo o) {a:ByteArray} (ha:todo[i]? = some a) (hy:∀ y,dM ss a y->y ∈ o):UI ss n (i + 1) todo o:=by
 refine ⟨h.hd,h.rc,fun j b hj hb y hyb=>?_,h.asc⟩
 rcases bE j i with h4 | h4
 · exact h.dn j b h4 hb y hyb
 · obtain rfl:j=i:=by omega
   rw [ha] at hb; obtain rfl:=bG hb
   exact hy y hyb
theorem UI.fin {ss:List St} {n:ByteArray} {todo o:List ByteArray} (h:UI ss n todo.length todo o):o=fR ss n:=by
 refine JM h.asc (O1 ss n) fun x=>?_
 rw [CF]
 refine ⟨h.rc x,fun hx=>?_⟩
 obtain ⟨r,e,h1,h2⟩:=h.hd
 have hn:∀ y,dM ss n y->y ∈ o:=h.dn 0 n (by rw [e]; simp) (by rw [e]; rfl)
 induction hx with
 | one h=>exact hn _ h
 | more _ h3 ih=>
  obtain ⟨j,hj⟩:=List.mem_iff_getElem?.1 ((h2 _).1 ih)
  rename_i b c _
  have hj2:todo[j + 1]? = some b:=by rw [e]; simpa using hj
  exact h.dn (j + 1) _ (aZ.1 hj2).1 hj2 _ h3
def aC8:W.Spec:=fun av H K=>∃ (s:Sc) (n:ByteArray),av=[.va (.gs (aF s)),tS n]/\H=[]/\s.fit/\Gd s.ss s.es/\K (.va (.c1 (.fz ((fR s.ss n).map bM)))) []
theorem aEV {s:Sc} {n:ByteArray} {K:S->Hp->Prop} (h:s.fit) (g:Gd s.ss s.es) (hK:K (.va (.c1 (.fz ((fR s.ss n).map bM)))) []):aC8 [.va (.gs (aF s)),tS n] [] K:=⟨s,n,rfl,rfl,h,g,hK⟩
theorem aAF {ss:List St} {es:List En} {t:Ty} (hv:valF ss es t=true):(dirF t).length<=1:=by
 rw [GQ hv]; cases bQ t<;>simp
theorem LN {ss:List St} {es:List En} {t:Ty} (hv:valF ss es t=true) {y:ByteArray}:y ∈ dirF t ↔ bQ t=true/\bR t=y:=by
 rw [GQ hv]; cases bQ t<;>simp [eq_comm]
theorem aHF:Meets Tryz.prog 49 aC8:=by
 refine aE Tryz.func49 aK6 2 (by rw [Tryz.ntmps49]; decide) (aB FF (aB T6 (aG RW (aB aL7 (aA _))))) (fun av H K h=>by obtain ⟨_,_,rfl,_⟩:=h; rfl) ?_
 rintro av H K ⟨s,n,rfl,rfl,hs,g,hK⟩
 simp (maxSteps:=1000000) -dsimp only [go_sem,aF,aCY,aE3]
 refine dC (α:=Nat × List ByteArray × List ByteArray) (fun z=>[(2,.va (.c1 (.pt 0 0))),(5,.va (.c1 (.fz (z.2.2.map bM)))),(6,.va (.c1 (.sl 1 z.2.1.length))),(7,iS .i64 z.1)]) (fun z=>[.cells (aF s) 25,.row (z.2.1.map bM) 9 1])
  (fun z=>z.1<=z.2.1.length/\UI s.ss n z.1 z.2.1 z.2.2) (fun z=>34 - z.1) (.nf 5 (kV (0,[n],[]) 2 ⟨Nat.zero_le _,UI.init _ _⟩ ?_ ?_)) ?_
 · simp -dsimp only [go_sem]<;>simp
 · simp -dsimp only [go_sem,aF]<;>simp
 rintro ⟨i,todo,o⟩ ⟨hi,hu⟩
 simp only at hi hu ⊢
 obtain ⟨htl,hol⟩:=hu.len g
 rcases bE i todo.length with hlt | hge
 · have hg:decide ((i:Int) < (todo.length:Int))=true:=by simp; omega
   obtain ⟨a,ha⟩:∃ a,todo[i]? = some a:=⟨_,aY hlt⟩
   have q1:=aW (row:=bM) ha
   simp (maxSteps:=1000000) -dsimp only [go_sem,hg,aF,ha,aH,forall_eq']
   refine ⟨by omega,hlt,kH hs ?_⟩
   generalize hx:(fS s.ss a).getD default=x
   have hxf:∀ f ∈ x.fs,f.ok/\valF s.ss s.es f.ty=true:=fun f hf=>by
    cases hc:fS s.ss a with
    | none=>rw [hc] at hx; subst hx; cases hf
    | some t=>
     rw [hc] at hx
     subst hx
     exact ⟨(hs.ok.ss _ (gE hc).1).fs f hf,g.val _ (gE hc).1 f hf⟩
   have hxl:x.fs.length<=9223372036854775807:=by
    cases hc:fS s.ss a with
    | none=>rw [hc] at hx; subst hx; exact Nat.zero_le _
    | some t=>rw [hc] at hx; subst hx; exact (hs.ok.ss _ (gE hc).1).len
   have hxr:∀ y,dM s.ss a y ↔ AZ x y:=fun y=>by unfold dM; rw [hx]
   simp (maxSteps:=1000000) -dsimp only [go_sem,aP]
   refine aK (α:=Nat × List ByteArray × List ByteArray) (fun z=>[(2,.va (.c1 (.pt 0 0))),(5,.va (.c1 (.fz (z.2.2.map bM)))),(6,.va (.c1 (.sl 1 z.2.1.length))),(7,iS .i64 i),(8,.va (.c1 (.pt 2 0))),(10,iS .i64 z.1)]) (fun z=>[.cells (aF s) 25,.row (z.2.1.map bM) 9 1,.cells (aP x) 95])
    (fun z=>z.1<=x.fs.length/\z.2.1[i]? = some a/\UI s.ss n i z.2.1 z.2.2/\∀ f ∈ x.fs.take z.1,bQ f.ty=true->bR f.ty ∈ z.2.2) (fun z=>x.fs.length - z.1) (0,todo,o) 3 ⟨Nat.zero_le _,ha,hu,fun f hf=>by cases hf⟩ ?_ ?_ ?_
   · simp -dsimp only [go_sem]<;>simp
   · simp -dsimp only [go_sem,aF,aP]<;>simp
   clear hu ha hlt hi htl hol hg q1
   rintro ⟨k,td,o⟩ ⟨hk,ha,hu,hr⟩
   simp only at hk ha hu hr ⊢
   obtain ⟨htl,hol⟩:=hu.len g
   have hil:=(aZ.1 ha).1
   rcases bE k x.fs.length with hlt | hge
   · have hg:decide ((k:Int) < (x.fs.length:Int))=true:=by simp; omega
     obtain ⟨f,hf⟩:∃ a,x.fs[k]? = some a:=⟨_,aY hlt⟩
     have q1:=aW (row:=aX) hf
     obtain ⟨hfo,hfv⟩:=hxf f (bK hf)
     simp (maxSteps:=1000000) -dsimp only [go_sem,hg,↓q1,aF,aP,aX,uB]
     have hdl:=aAF hfv
     refine ⟨by omega,Y4 hfo.ty (by omega) ?_⟩
     simp (maxSteps:=1000000) -dsimp only [go_sem]
     have hdm:∀ y ∈ dirF f.ty,Reach s.ss n y:=fun y hy=>by
      obtain ⟨h1,h2⟩:=(LN hfv).1 hy
      exact hu.rch ha ((hxr y).2 ⟨f,bK hf,h1,h2⟩)
     have hdf:(∀ o':List ByteArray,(∀ y ∈ dirF f.ty,y ∈ o')->(∀ f ∈ x.fs.take k,bQ f.ty=true->bR f.ty ∈ o')->∀ f ∈ x.fs.take (k + 1),bQ f.ty=true->bR f.ty ∈ o'):=fun o' h1 h2 f' hf' hn=>by
      rw [fU hf] at hf'
      rcases List.mem_append.1 hf' with h | h
      · exact h2 f' h hn
      · obtain rfl:f'=f:=by simpa using h
        exact h1 _ ((LN hfv).2 ⟨hn,rfl⟩)
     generalize dirF f.ty=l at *
     refine aK (α:=Nat × List ByteArray × List ByteArray) (fun z=>[(2,.va (.c1 (.pt 0 0))),(5,.va (.c1 (.fz (z.2.2.map bM)))),(6,.va (.c1 (.sl 1 z.2.1.length))),(7,iS .i64 i),(8,.va (.c1 (.pt 2 0))),(10,iS .i64 k),(11,.va (.c1 (.fz (l.map bM)))),(12,iS .i64 z.1)]) (fun z=>[.cells (aF s) 25,.row (z.2.1.map bM) 9 1,.cells (aP x) 95])
      (fun z=>z.1<=l.length/\z.2.1[i]? = some a/\UI s.ss n i z.2.1 z.2.2/\(∀ f ∈ x.fs.take k,bQ f.ty=true->bR f.ty ∈ z.2.2)/\∀ y ∈ l.take z.1,y ∈ z.2.2) (fun z=>l.length - z.1) (0,td,o) 3 ⟨Nat.zero_le _,ha,hu,hr,fun f hf=>by cases hf⟩ ?_ ?_ ?_
     · simp -dsimp only [go_sem]<;>simp
     · simp -dsimp only [go_sem,aF,aP]<;>simp
     clear hu ha hil htl hol hg q1 hr
     rintro ⟨j,td,o⟩ ⟨hj,ha,hu,hr,hjm⟩
     simp only at hj ha hu hr hjm ⊢
     obtain ⟨htl,hol⟩:=hu.len g
     have hil:=(aZ.1 ha).1
     rcases bE j l.length with hjt | hjg
     · have hg:decide ((j:Int) < (l.length:Int))=true:=by simp; omega
       obtain ⟨y,hy⟩:∃ a,l[j]? = some a:=⟨_,aY hjt⟩
       have q1:=aW (row:=bM) hy
       have hbs:BG (o.map bM):=tM (by omega)
       have e0:(0<=(o.length:Int))=True:=by simp
       have e1:((o.length:Int)<=9223372036854775807)=True:=by simp; omega
       have hto:o.take o.length=o:=List.take_length
       have hjm':∀ o':List ByteArray,(∀ z ∈ o,z ∈ o')->y ∈ o'->∀ z ∈ l.take (j + 1),z ∈ o':=fun o' h1 h2 z hz=>by
        rw [fU hy] at hz
        rcases List.mem_append.1 hz with h | h
        · exact h1 z (hjm z h)
        · obtain rfl:z=y:=by simpa using h
          exact h2
       cases hc:cZ o y with
       | true=>
        simp (maxSteps:=1000000) -dsimp only [go_sem,hg,↓q1,aF,aP,hbs,e0,e1,Int.toNat_natCast,hto,hc]
        refine ⟨by omega,by omega,aC (j + 1,td,o) 3 ⟨by simp only; omega,ha,hu,hr,hjm' o (fun z h=>h) ((oT _ _).1 hc)⟩ (by simp only; omega) ?_ ?_⟩
        · simp -dsimp only [go_sem]<;>simp
        · simp -dsimp only [go_sem,aF,aP]<;>simp
       | false=>
        have hyo:=tH.1 hc
        have hua:=hu.add (hdm y (bK hy)) hyo (by omega)
        have hmo:∀ z ∈ o,z ∈ eF y false o:=fun z hz=>jG.2 (.inr hz)
        have ha':(td ++ [y])[i]? = some a:=by rw [List.getElem?_append_left hil]; exact ha
        simp (maxSteps:=1000000) -dsimp only [go_sem,hg,↓q1,aF,aP,hbs,e0,e1,Int.toNat_natCast,hto,hc]
        refine ⟨by omega,by omega,aAV (by omega) ?_⟩
        simp (maxSteps:=1000000) -dsimp only [go_sem]
        and_intros
        all_goals first
         | omega
         | skip
        refine aC (j + 1,td ++ [y],eF y false o) 3 ⟨by simp only; omega,ha',hua,fun f hf hn=>hmo _ (hr f hf hn),hjm' _ hmo (jG.2 (.inl rfl))⟩ (by simp only; omega) ?_ ?_
        · simp -dsimp only [go_sem]<;>simp
        · simp -dsimp only [go_sem,aF,aP]<;>simp
     · have hg:decide ((j:Int) < (l.length:Int))=false:=by simp; omega
       obtain rfl:j=l.length:=by omega
       rw [List.take_length] at hjm
       simp (maxSteps:=1000000) -dsimp only [go_sem,hg,aF,aP]
       refine ⟨by omega,aC (k + 1,td,o) 3 ⟨by simp only; omega,ha,hu,hdf o hjm hr⟩ (by simp only; omega) ?_ ?_⟩
       · simp -dsimp only [go_sem]<;>simp
       · simp -dsimp only [go_sem,aF,aP]<;>simp
   · have hg:decide ((k:Int) < (x.fs.length:Int))=false:=by simp; omega
     obtain rfl:k=x.fs.length:=by omega
     rw [List.take_length] at hr
     simp (maxSteps:=1000000) -dsimp only [go_sem,hg,aF,aP]
     refine ⟨by omega,aC (i + 1,td,o) 2 ⟨by simp only; omega,hu.next ha fun y hy=>?_⟩ (by simp only; omega) ?_ ?_⟩
     · obtain ⟨f,h1,h2,rfl⟩:=(hxr y).1 hy
       exact hr f h1 h2
     · simp -dsimp only [go_sem]<;>simp
     · simp -dsimp only [go_sem,aF]<;>simp
 · have hg:decide ((i:Int) < (todo.length:Int))=false:=by simp; omega
   obtain rfl:i=todo.length:=by omega
   obtain rfl:=hu.fin
   simp (maxSteps:=1000000) -dsimp only [go_sem,hg,aF]
   exact .sel [] (by simp) (by simp) rfl (.done (by simpa [go_sem] using hK))
def dU:List St->List Int->ByteArray->Int
 | s :: ss,d :: ds,n=>bif decide (s.nm=n) then d else dU ss ds n
 | _,_,_=>0
theorem SO {ss:List St} {ds:List Int} {i:Nat} {x:St} {d:Int} (hx:ss[i]? = some x) (hd:ds[i]? = some d) (n:ByteArray):dU (ss.drop i) (ds.drop i) n=bif decide (x.nm=n) then d else dU (ss.drop (i + 1)) (ds.drop (i + 1)) n:=by
 obtain ⟨h,rfl⟩:=aZ.1 hx
 obtain ⟨h2,rfl⟩:=aZ.1 hd
 rw [List.drop_eq_getElem_cons h,List.drop_eq_getElem_cons h2]; rfl
theorem ZJ {ss:List St} {ds:List Int} (n:ByteArray):dU (ss.drop ss.length) ds n=0:=by rw [List.drop_length]; simp [dU]
theorem vT {n:ByteArray}:∀ {ss:List St} {ds:List Int},fS ss n=none->dU ss ds n=0
 | [],_,_=>by simp [dU]
 | s :: ss,[],_=>by simp [dU]
 | s :: ss,d :: ds,h=>by
  unfold fS at h
  rw [List.find?_cons] at h
  rw [dU]
  cases hc:decide (s.nm=n) with
  | true=>rw [hc] at h; simp at h
  | false=>rw [hc] at h; exact vT (ss:=ss) h
theorem wR {n:ByteArray} {u:St}:∀ {ss:List St} {ds:List Int},ss.length=ds.length->fS ss n=some u->∃ j:Nat,ss[j]? = some u/\ds[j]? = some (dU ss ds n)
 | [],_,_,h=>by cases h
 | s :: ss,[],hl,_=>by simp at hl
 | s :: ss,d :: ds,hl,h=>by
  unfold fS at h
  rw [List.find?_cons] at h
  rw [dU]
  cases hc:decide (s.nm=n) with
  | true=>
   rw [hc] at h
   obtain rfl:s=u:=by simpa using h
   exact ⟨0,rfl,rfl⟩
  | false=>
   rw [hc] at h
   obtain ⟨j,h1,h2⟩:=wR (ss:=ss) (ds:=ds) (by simpa using hl) h
   exact ⟨j + 1,by simpa using h1,by simpa using h2⟩
def MJ (rs:List (List C)):Prop:=∃ l:List Int,rs=l.map cL
def DX (N:Nat):List S->Prop:=fun av=>match av with
 | [.va (.gs r),.va (.c1 (.fz ds)),.va (.gs q)]=>jY r/\(MJ ds/\ds.length=(C.sc r).ss.length/\∀ d ∈ ds.map C.it,0<=d/\d<=1000000000000)/\eO q/\(cF (C.ty q)).1<=1000000000/\(C.ty q).h<=N
 | _=>False
theorem lZ {N:Nat} {av:List S} (h:DX N av):∃ (s:Sc) (l:List Int) (t:Ty),av=[.va (.gs (aF s)),.va (.c1 (.fz (l.map cL))),.va (.gs (aN t))]/\s.fit/\(l.length=s.ss.length/\∀ d ∈ l,0<=d/\d<=1000000000000)/\TyOk t/\(cF t).1<=1000000000/\t.h<=N:=by
 unfold DX at h
 split at h
 · obtain ⟨⟨a,rfl,ha⟩,⟨⟨l,rfl⟩,h1,h2⟩,⟨b,rfl,hb⟩,h3,h4⟩:=h
   rw [eX] at h3 h4
   rw [fW] at h1
   rw [xQ] at h2
   exact ⟨a,l,b,rfl,ha,⟨by simpa using h1,h2⟩,hb,h3,h4⟩
 · exact h.elim
noncomputable def MO:List S->A:=fun av=>match av with
 | [.va (.gs r),.va (.c1 (.fz ds)),.va (.gs q)]=>iA .i64 (bV (dU (C.sc r).ss (ds.map C.it)) (C.ty q))
 | _=>.gs []
noncomputable def MV (N:Nat):Fun:=⟨DX N,MO,fun av h=>by obtain ⟨a,l,b,rfl,_⟩:=lZ h; trivial⟩
theorem UE {N:Nat}:∀ av H K,(MV N).sp av H K->av.length=3:=fun av H K h=>by obtain ⟨a,l,b,rfl,_⟩:=lZ h.1.1; rfl
attribute [go_sem] MV DX MO
theorem wL {s:Int} {n:ByteArray} {u:Ty} {r:List Ty}:cF (.mk 5 s n (u :: r))=((cF u).1 + 1,(cF u).2):=by simp [cF,WT]
theorem HC {k s:Int} {n:ByteArray} {e:List Ty} (h:(k == 5 && decide (0 < (e.length:Int)))=false):cF (.mk k s n e)=(0,.mk k s n e):=by
 rw [cF]
 cases hk:k == 5 with
 | false=>rfl
 | true=>
  rw [hk,Bool.true_and] at h
  have:e=[]:=List.length_eq_zero_iff.1 (by simp at h; simp [h])
  subst this; rfl
theorem N3 {dp:ByteArray->Int} {s:Int} {n:ByteArray} {u:Ty} {r:List Ty}:bV dp (.mk 5 s n (u :: r))=1 + bV dp u:=by unfold bV; rw [wL]; simp only; omega
theorem uN:∀ N,Meets Tryz.prog 89 (MV N).sp
 | 0=>⟨by kernel_rfl,by rintro xs vs E ro w K _ _ _ ⟨⟨h,_⟩,_⟩; obtain ⟨_,_,a,_,_,_,_,_,h⟩:=lZ h; have:=a.h_pos; omega⟩
 | N + 1=>by
  refine aE Tryz.func89 aK5 3 (by rw [Tryz.ntmps89]; decide) (aG (uN N) (aA _)) UE ?_
  rintro av H K ⟨⟨h,rfl⟩,hK⟩
  obtain ⟨sc,l,t,rfl,hs,⟨hl,hb⟩,ht,hlv,hh⟩:=lZ h
  have hK:K (iS .i64 (bV (dU sc.ss l) t)) []:=by
   have:(MV (N + 1)).val [.va (.gs (aF sc)),.va (.c1 (.fz (l.map cL))),.va (.gs (aN t))]=iA .i64 (bV (dU sc.ss l) t):=by simp -dsimp only [go_sem,xQ]
   rw [this] at hK; exact hK
  clear h
  have hls:=hs.ok.ls
  have fin:∀ (b:Int) (R:Hp),bV (dU sc.ss l) t=b->W.Fin 0 K (iS .i64 b) R:=fun b R h=>by
   rw [h] at hK
   exact .sel [] (by simp) (by simp) rfl (.done (by simp -dsimp only [go_sem]; simpa using hK))
  have hsf:=fC hs
  rw [aF] at hsf
  have hsd:=fW sc
  rw [aF] at hsd
  obtain ⟨k,s,n,e⟩:=t
  have hte:=ht.e
  have hte2:=ht.len
  simp only [Ty.e] at hte hte2
  have hin:MJ (l.map cL):=⟨l,rfl⟩
  have hr1:((l.map cL).length=sc.ss.length)=True:=by simp [hl]
  have hr2:(∀ d:Int,d ∈ l->0<=d/\d<=1000000000000)=True:=eq_true hb
  simp (maxSteps:=1000000) -dsimp only [go_sem,aF,aN,aS,aE2,aBK]
  cases c1:(k == 5 && decide (0 < (e.length:Int))) with
  | true=>
   simp only [Bool.and_eq_true,beq_iff_eq,decide_eq_true_eq] at c1
   obtain ⟨rfl,c1⟩:=c1
   obtain ⟨u,r,rfl⟩:∃ u r,e=u :: r:=by
    cases e with
    | nil=>simp at c1
    | cons u r=>exact ⟨u,r,rfl⟩
   rw [wL] at hlv
   have hux:(u :: r)[0]? = some u:=rfl
   have q1:=oW (row:=aN) hux
   have hu:eO (aN u):=dQ (hte u List.mem_cons_self)
   have huh:u.h<=N:=by rw [Ty.h,Ty.hs] at hh; omega
   refine ⟨fun _=>?_,fun h=>by simp at h⟩
   have hul:((cF u).1<=1000000000)=True:=eq_true (by simp only at hlv; omega)
   have huh':(u.h<=N)=True:=eq_true huh
   have hfb:bV (dU sc.ss l) u<=1001000000000/\0<=bV (dU sc.ss l) u:=by
    have hd:dU sc.ss l (cF u).2.n<=1000000000000/\0<=dU sc.ss l (cF u).2.n:=by
     cases hf:fS sc.ss (cF u).2.n with
     | none=>rw [vT hf]; omega
     | some v=>
      obtain ⟨j,_,h2⟩:=wR hl.symm hf
      have:=hb _ (bK h2); omega
    simp only at hlv
    unfold bV
    cases (cF u).2.k == 6<;>simp only [aL,aI]<;>omega
   simp (maxSteps:=1000000) -dsimp only [go_sem,gV]
   refine ⟨by omega,fun x hx=>?_⟩
   subst hx
   simp only [hsd]
   exact ⟨⟨hsf,⟨hin,hl,hb⟩,hu,by simp only at hlv; omega,huh⟩,by omega,fin _ _ N3⟩
  | false=>
   have hst:=HC (s:=s) (n:=n) c1
   have hfd:bV (dU sc.ss l) (.mk k s n e)=bif k == 6 then dU sc.ss l n else 0:=by unfold bV; rw [hst]; simp [Ty.k,Ty.n]
   refine ⟨fun h=>by simp at h,fun _=>?_⟩
   cases k6:k == 6 with
   | false=>
    rw [k6,aI] at hfd
    refine aK (α:=Nat) (fun i=>[(1,.va (.c1 (.fz (l.map cL)))),(3,.va (.c1 (.pt 0 0))),(5,.va (.c1 (.pt 1 0))),(7,iS .i64 i)]) (fun _=>[.cells (aF sc) 25,.cells (aN (.mk k s n e)) 28])
     (fun i=>i<=sc.ss.length) (fun i=>sc.ss.length - i) 0 2 (Nat.zero_le _) ?_ ?_ ?_
    · simp -dsimp only [go_sem]<;>simp
    · simp -dsimp only [go_sem,aF,aN,aS]<;>simp
    intro i hi
    rcases bE i sc.ss.length with hlt | hge
    · have hg:decide ((i:Int) < (sc.ss.length:Int))=true:=by simp; omega
      simp (maxSteps:=1000000) -dsimp only [go_sem,hg,aF,aN,aS,k6]
      and_intros
      all_goals first
       | omega
       | skip
      refine aC (i + 1) 2 (by omega) (by omega) ?_ ?_
      · simp -dsimp only [go_sem]<;>simp
      · simp -dsimp only [go_sem,aF,aN,aS]<;>simp
    · have hg:decide ((i:Int) < (sc.ss.length:Int))=false:=by simp; omega
      simp (maxSteps:=1000000) -dsimp only [go_sem,hg,aF,aN,aS]
      exact fin 0 _ hfd
   | true=>
    rw [k6,aL] at hfd
    refine aK (α:=Nat) (fun i=>[(1,.va (.c1 (.fz (l.map cL)))),(3,.va (.c1 (.pt 0 0))),(5,.va (.c1 (.pt 1 0))),(7,iS .i64 i)]) (fun _=>[.cells (aF sc) 25,.cells (aN (.mk k s n e)) 28])
     (fun i=>i<=sc.ss.length/\dU (sc.ss.drop i) (l.drop i) n=dU sc.ss l n) (fun i=>sc.ss.length - i) 0 2 ⟨Nat.zero_le _,rfl⟩ ?_ ?_ ?_
    · simp -dsimp only [go_sem]<;>simp
    · simp -dsimp only [go_sem,aF,aN,aS]<;>simp
    rintro i ⟨hi,ho⟩
    rcases bE i sc.ss.length with hlt | hge
    · have hg:decide ((i:Int) < (sc.ss.length:Int))=true:=by simp; omega
      obtain ⟨t,hx⟩:∃ e,sc.ss[i]? = some e:=⟨_,aY hlt⟩
      obtain ⟨d,hd⟩:∃ e,l[i]? = some e:=⟨_,aY (by omega)⟩
      have q2:=aW (row:=aP) hx
      have q3:=aW (row:=cL) hd
      rw [SO hx hd] at ho
      cases hc:decide (t.nm=n) with
      | true=>
       rw [hc,aL] at ho
       simp (maxSteps:=1000000) -dsimp only [go_sem,hg,↓q2,↓q3,aP,aF,aN,aS,d9,hc,k6]
       and_intros
       all_goals first
        | omega
        | exact fin _ _ (by rw [hfd,<-ho])
      | false=>
       rw [hc,aI] at ho
       simp (maxSteps:=1000000) -dsimp only [go_sem,hg,↓q2,aP,aF,aN,aS,d9,hc,k6]
       and_intros
       all_goals first
        | omega
        | skip
       refine aC (i + 1) 2 ⟨by omega,ho⟩ (by omega) ?_ ?_
       · simp -dsimp only [go_sem]<;>simp
       · simp -dsimp only [go_sem,aF,aN,aS]<;>simp
    · have hg:decide ((i:Int) < (sc.ss.length:Int))=false:=by simp; omega
      obtain rfl:i=sc.ss.length:=by omega
      rw [ZJ] at ho
      simp (maxSteps:=1000000) -dsimp only [go_sem,hg,aF,aN,aS]
      exact fin 0 _ (by rw [hfd,<-ho])
def DT:List S->Prop:=fun av=>match av with
 | [.va (.gs r),.va (.c1 (.fz ds)),.va (.gs q)]=>jY r/\(MJ ds/\ds.length=(C.sc r).ss.length/\∀ d ∈ ds.map C.it,0<=d/\d<=1000000000000)/\eO q/\(cF (C.ty q)).1<=1000000000
 | _=>False
theorem yV {av:List S} (h:DT av):∃ (s:Sc) (l:List Int) (t:Ty),av=[.va (.gs (aF s)),.va (.c1 (.fz (l.map cL))),.va (.gs (aN t))]/\s.fit/\(l.length=s.ss.length/\∀ d ∈ l,0<=d/\d<=1000000000000)/\TyOk t/\(cF t).1<=1000000000:=by
 unfold DT at h
 split at h
 · obtain ⟨⟨a,rfl,ha⟩,⟨⟨l,rfl⟩,h1,h2⟩,⟨b,rfl,hb⟩,h3⟩:=h
   rw [eX] at h3
   rw [fW] at h1
   rw [xQ] at h2
   exact ⟨a,l,b,rfl,ha,⟨by simpa using h1,h2⟩,hb,h3⟩
 · exact h.elim
noncomputable def t0Fn:Fun:=⟨DT,MO,fun av h=>by obtain ⟨a,l,b,rfl,_⟩:=yV h; trivial⟩
attribute [go_sem] t0Fn DT
theorem M4:Meets Tryz.prog 89 t0Fn.sp:=eC 0 uN fun av H K ⟨⟨h,e⟩,hK⟩=>by
 obtain ⟨a,l,b,rfl,ha,⟨h1,h2⟩,hb,h3⟩:=yV h
 refine ⟨b.h,⟨⟨⟨fC ha,⟨⟨l,rfl⟩,by rw [fW]; simpa using h1,by rw [xQ]; exact h2⟩,dQ hb,by rw [eX]; exact h3,by rw [eX]; exact Nat.le_refl _⟩,e⟩,hK⟩⟩
theorem DO {dp dq:ByteArray->Int} {l:List Fl} (h:∀ f ∈ l,bV dp f.ty<=bV dq f.ty):fK dp l<=fK dq l:=KW (jA _ _) fun f hf=>Int.le_trans (h f hf) (LF hf)
structure DI (ss:List St) (r i:Nat) (d:List Int):Prop where
 len:d.length=ss.length
 lo:∀ (j:Nat) (t:St) (v:Int),ss[j]? = some t->d[j]? = some v->0<=v/\v<=dD ss t.nm/\(qF ss t.nm < r->v=dD ss t.nm)/\(j < i->qF ss t.nm < r + 1->v=dD ss t.nm)
theorem DI.ix {ss:List St} {es:List En} (_g:Gd ss es) {r i:Nat} {d:List Int} (h:DI ss r i d) (n:ByteArray):0<=dU ss d n/\dU ss d n<=dD ss n/\((fS ss n).isSome=true->qF ss n < r->dU ss d n=dD ss n):=by
 cases hf:fS ss n with
 | none=>
  rw [vT hf]
  exact ⟨Int.le_refl _,EQ ss n,fun h=>by simp at h⟩
 | some u=>
  obtain ⟨j,h1,h2⟩:=wR h.len.symm hf
  obtain ⟨a1,a2,a3,_⟩:=h.lo j u _ h1 h2
  obtain ⟨_,rfl⟩:=gE hf
  exact ⟨a1,a2,fun _ h=>a3 h⟩
theorem DI.all {ss:List St} {es:List En} (g:Gd ss es) {r i:Nat} {d:List Int} (h:DI ss r i d):∀ v ∈ d,0<=v/\v<=1000000000000:=fun v hv=>by
 obtain ⟨j,hj⟩:=List.mem_iff_getElem?.1 hv
 have hl:=(aZ.1 hj).1
 obtain ⟨t,ht⟩:∃ t,ss[j]? = some t:=⟨_,aY (by have:=h.len; omega)⟩
 obtain ⟨h1,h2,_⟩:=h.lo j t v ht hj
 have:=LU g t.nm
 omega
theorem DI.fd {ss:List St} {es:List En} (g:Gd ss es) {r i:Nat} {d:List Int} (h:DI ss r i d) (t:Ty):bV (dU ss d) t<=bV (dD ss) t:=by
 unfold bV
 have:=h.ix g (cF t).2.n
 cases (cF t).2.k == 6<;>simp only [aL,aI]<;>omega
theorem DI.set {ss:List St} {es:List En} (g:Gd ss es) (ha:uW ss) {r i:Nat} {d:List Int} (h:DI ss r i d) {t:St} (ht:ss[i]? = some t):DI ss r (i + 1) (d.set i (1 + fK (dU ss d) t.fs)):=by
 have htm:=bK ht
 have hD:=D8 g ha (g.nd t htm)
 have hle:fK (dU ss d) t.fs<=fK (dD ss) t.fs:=DO fun f _=>h.fd g f.ty
 have heq:qF ss t.nm < r + 1->fK (dU ss d) t.fs=fK (dD ss) t.fs:=fun hr=>p9 fun f hf=>by
  unfold bV
  cases hk:(cF f.ty).2.k == 6 with
  | false=>rfl
  | true=>
   obtain ⟨h1,u,h2⟩:=A6 g (g.nd t htm) hf hk
   have h3:=A0 h1 h2 ha
   rw [(h.ix g _).2.2 (by rw [h2]; rfl) (by omega)]
 have hn:=jA (dU ss d) t.fs
 refine ⟨by rw [List.length_set]; exact h.len,fun j u v hu hv=>?_⟩
 rw [List.getElem?_set] at hv
 by_cases e:i=j
 · subst e
   rw [ht] at hu; obtain rfl:=bG hu
   have hlt:i < d.length:=by have:=h.len; have:=(aZ.1 ht).1; omega
   simp [hlt] at hv
   subst hv
   exact ⟨by omega,by omega,fun hr=>by rw [heq (by omega)]; omega,fun _ hr=>by rw [heq hr]; omega⟩
 · rw [if_neg e] at hv
   obtain ⟨a1,a2,a3,a4⟩:=h.lo j u v hu hv
   exact ⟨a1,a2,a3,fun hj hr=>a4 (by omega) hr⟩
theorem DI.up {ss:List St} {r:Nat} {d:List Int} (h:DI ss r ss.length d):DI ss (r + 1) 0 d:=⟨h.len,fun j t v ht hv=>by
 obtain ⟨a1,a2,_,a4⟩:=h.lo j t v ht hv
 exact ⟨a1,a2,fun hr=>a4 (aZ.1 ht).1 hr,fun h=>absurd h (Nat.not_lt_zero _)⟩⟩
theorem DI.fin {ss:List St} {d:List Int} (h:DI ss (ss.length + 1) 0 d):d=ss.map fun t=>dD ss t.nm:=by
 refine List.ext_getElem? fun j=>?_
 rw [List.getElem?_map]
 cases ht:ss[j]? with
 | none=>
  rw [List.getElem?_eq_none_iff] at ht
  rw [List.getElem?_eq_none (by rw [h.len]; exact ht)]; rfl
 | some t=>
  obtain ⟨v,hv⟩:∃ v,d[j]? = some v:=⟨_,aY (by rw [h.len]; exact (aZ.1 ht).1)⟩
  obtain ⟨_,_,a3,_⟩:=h.lo j t v ht hv
  rw [hv,a3 (Nat.lt_succ_of_le (LS _ _))]; rfl
theorem DI.init (ss:List St):DI ss 0 0 (List.replicate ss.length 0):=⟨by simp,fun j t v ht hv=>by
 have:v=0:=by
  have:=bK hv
  exact (List.mem_replicate.1 this).2
 subst this
 exact ⟨Int.le_refl _,EQ _ _,fun h=>absurd h (Nat.not_lt_zero _),fun h=>absurd h (Nat.not_lt_zero _)⟩⟩
def aGJ:W.Spec:=fun av H K=>∃ s:Sc,av=[.va (.gs (aF s))]/\H=[]/\s.fit/\Gd s.ss s.es/\uW s.ss/\K (.va (.c1 (.fz ((s.ss.map fun t=>dD s.ss t.nm).map cL)))) []
theorem aGF {s:Sc} {K:S->Hp->Prop} (h:s.fit) (g:Gd s.ss s.es) (ha:uW s.ss) (hK:K (.va (.c1 (.fz ((s.ss.map fun t=>dD s.ss t.nm).map cL)))) []):aGJ [.va (.gs (aF s))] [] K:=⟨s,rfl,rfl,h,g,ha,hK⟩
theorem Y6 {D:ByteArray->Int} {l:List Fl} {i:Nat} {f:Fl} (hx:l[i]? = some f):(l.take (i + 1)).foldl (gF D) 0=max ((l.take i).foldl (gF D) 0) (bV D f.ty):=by
 rw [fU hx,List.foldl_append]; rfl
theorem YS:Meets Tryz.prog 51 aGJ:=by
 refine aE Tryz.func51 aMV 1 (by rw [Tryz.ntmps51]; decide) (aG M4 (aA _)) (fun av H K h=>by obtain ⟨_,rfl,_⟩:=h; rfl) ?_
 rintro av H K ⟨s,rfl,rfl,hs,g,ha,hK⟩
 have hls:=g.n
 simp (maxSteps:=1000000) -dsimp only [go_sem,aF,aBG,aAO]
 refine ⟨⟨by omega,by omega,by omega⟩,fun h0=>?_,fun h0=>?_⟩
 · have hnil:s.ss=[]:=List.length_eq_zero_iff.1 (by omega)
   have hlen:s.ss.length=0:=by omega
   rw [hnil] at hK
   refine aK (α:=Nat) (fun i=>[(1,.va (.c1 (.pt 0 0))),(3,.va (.c1 (.fz []))),(4,iS .i64 i)]) (fun _=>[.cells (aF s) 25])
    (fun i=>i<=1) (fun i=>1 - i) 0 1 (Nat.zero_le _) ?_ ?_ ?_
   · simp -dsimp only [go_sem]<;>simp
   · simp -dsimp only [go_sem,aF]<;>simp
   intro i hi
   rcases Nat.eq_zero_or_pos i with h1 | h1
   · have hg:decide ((i:Int)<=(s.ss.length:Int))=true:=by simp; omega
     simp (maxSteps:=1000000) -dsimp only [go_sem,hg,aF]
     refine aK (α:=Unit) (fun _=>[(1,.va (.c1 (.pt 0 0))),(3,.va (.c1 (.fz []))),(4,iS .i64 i),(5,iS .i64 0)]) (fun _=>[.cells (aF s) 25])
      (fun _=>True) (fun _=>0) () 1 trivial ?_ ?_ ?_
     · simp -dsimp only [go_sem]<;>simp
     · simp -dsimp only [go_sem,aF]<;>simp
     intro _ _
     have hg:decide ((0:Int) < (s.ss.length:Int))=false:=by simp; omega
     simp (maxSteps:=1000000) -dsimp only [go_sem,hg,aF]
     refine ⟨by omega,aC (i + 1) 1 (by omega) (by omega) ?_ ?_⟩
     · simp -dsimp only [go_sem]<;>simp
     · simp -dsimp only [go_sem,aF]<;>simp
   · have hg:decide ((i:Int)<=(s.ss.length:Int))=false:=by simp; omega
     simp (maxSteps:=1000000) -dsimp only [go_sem,hg,aF]
     exact .sel [] (by simp) (by simp) rfl (.done (by simpa [go_sem] using hK))
 · have hsf:=fC hs
   rw [aF] at hsf
   have hsd:=fW s
   rw [aF] at hsd
   refine aK (α:=Nat × List Int) (fun z=>[(1,.va (.c1 (.pt 0 0))),(3,.va (.c1 (.sl 1 s.ss.length))),(4,iS .i64 z.1)]) (fun z=>[.cells (aF s) 25,.row (z.2.map cL) 3 1])
    (fun z=>z.1<=s.ss.length + 1/\DI s.ss z.1 0 z.2) (fun z=>s.ss.length + 1 - z.1) (0,List.replicate s.ss.length 0) 2 ⟨Nat.zero_le _,DI.init _⟩ ?_ ?_ ?_
   · simp -dsimp only [go_sem]<;>simp
   · simp -dsimp only [go_sem,aF]<;>simp
   rintro ⟨r,d⟩ ⟨hr,hd⟩
   simp only at hr hd ⊢
   rcases bE r (s.ss.length + 1) with hlt | hge
   · have hg:decide ((r:Int)<=(s.ss.length:Int))=true:=by simp; omega
     simp (maxSteps:=1000000) -dsimp only [go_sem,hg,aF]
     refine aK (α:=Nat × List Int) (fun z=>[(1,.va (.c1 (.pt 0 0))),(3,.va (.c1 (.sl 1 s.ss.length))),(4,iS .i64 r),(5,iS .i64 z.1)]) (fun z=>[.cells (aF s) 25,.row (z.2.map cL) 3 1])
      (fun z=>z.1<=s.ss.length/\DI s.ss r z.1 z.2) (fun z=>s.ss.length - z.1) (0,d) 2 ⟨Nat.zero_le _,hd⟩ ?_ ?_ ?_
     · simp -dsimp only [go_sem]<;>simp
     · simp -dsimp only [go_sem,aF]<;>simp
     clear hd hg
     rintro ⟨i,d⟩ ⟨hi,hd⟩
     simp only at hi hd ⊢
     rcases bE i s.ss.length with hit | hig
     · have hg:decide ((i:Int) < (s.ss.length:Int))=true:=by simp; omega
       obtain ⟨t,hx⟩:∃ e,s.ss[i]? = some e:=⟨_,aY hit⟩
       have htm:=bK hx
       obtain ⟨_,htl,hfs⟩:=hs.ok.ss t htm
       have q1:=aW (row:=aP) hx
       have hset:=hd.set g ha hx
       have hmx:fK (dU s.ss d) t.fs<=1000000000000:=by
        have h1:=DO (l:=t.fs) fun f _=>hd.fd g f.ty
        have h2:=D8 g ha (g.nd t htm)
        have h3:=LU g t.nm
        omega
       simp (maxSteps:=1000000) -dsimp only [go_sem,hg,aF]
       refine aK (α:=Nat) (fun k=>[(1,.va (.c1 (.pt 0 0))),(3,.va (.c1 (.sl 1 s.ss.length))),(4,iS .i64 r),(5,iS .i64 i),(6,iS .i64 ((t.fs.take k).foldl (gF (dU s.ss d)) 0)),(7,iS .i64 k)]) (fun _=>[.cells (aF s) 25,.row (d.map cL) 3 1])
        (fun k=>k<=t.fs.length) (fun k=>t.fs.length - k) 0 2 (Nat.zero_le _) ?_ ?_ ?_
       · simp -dsimp only [go_sem]<;>simp
       · simp -dsimp only [go_sem,aF]<;>simp
       intro k hk
       rcases bE k t.fs.length with hkt | hkg
       · have hg:decide ((k:Int) < (t.fs.length:Int))=true:=by simp; omega
         obtain ⟨f,hf⟩:∃ e,t.fs[k]? = some e:=⟨_,aY hkt⟩
         have hfm:=bK hf
         have q2:=aW (row:=aX) hf
         have hity:eO (aN f.ty):=dQ (hfs f hfm).ty
         have hlv:((cF f.ty).1<=1000000000)=True:=eq_true (g.lv t htm f hfm)
         have hin:MJ (d.map cL):=⟨d,rfl⟩
         have hdl:d.length=s.ss.length:=hd.len
         have hall:(∀ v:Int,v ∈ d->0<=v/\v<=1000000000000)=True:=eq_true (hd.all g)
         simp (maxSteps:=1000000) -dsimp only [go_sem,hg,↓q1,aP,aF]
         simp (maxSteps:=1000000) -dsimp only [go_sem,aX,uB,hsf,hsd,hity,hlv,hin,hall,hdl,hf,aH,forall_eq']
         refine ⟨by omega,by omega,by omega,by omega,aC (k + 1) 2 (by omega) (by omega) ?_ ?_⟩
         · simp -dsimp only [go_sem,Y6 hf]<;>simp
         · simp -dsimp only [go_sem,aF]<;>simp
       · have hg:decide ((k:Int) < (t.fs.length:Int))=false:=by simp; omega
         obtain rfl:k=t.fs.length:=by omega
         have hmx2:t.fs.foldl (gF (dU s.ss d)) 0=fK (dU s.ss d) t.fs:=rfl
         rw [List.take_length,hmx2]
         have hn0:=jA (dU s.ss d) t.fs
         have hdl:d.length=s.ss.length:=hd.len
         obtain ⟨v0,hv0⟩:∃ e,d[i]? = some e:=⟨_,aY (by omega)⟩
         simp (maxSteps:=1000000) -dsimp only [go_sem,hg,↓q1,aP,aF]
         simp (maxSteps:=1000000) -dsimp only [go_sem,hv0,aH,forall_eq']
         refine ⟨by omega,by omega,⟨by omega,hdl⟩,⟨hdl,by omega⟩,by omega,aC (i + 1,d.set i (1 + fK (dU s.ss d) t.fs)) 2 ⟨by simp only; omega,hset⟩ (by simp only; omega) ?_ ?_⟩
         · simp -dsimp only [go_sem]<;>simp
         · simp -dsimp only [go_sem,aF]<;>simp [List.map_set]
     · have hg:decide ((i:Int) < (s.ss.length:Int))=false:=by simp; omega
       obtain rfl:i=s.ss.length:=by omega
       simp (maxSteps:=1000000) -dsimp only [go_sem,hg,aF]
       refine ⟨by omega,aC (r + 1,d) 2 ⟨by simp only; omega,hd.up⟩ (by simp only; omega) ?_ ?_⟩
       · simp -dsimp only [go_sem]<;>simp
       · simp -dsimp only [go_sem,aF]<;>simp
   · have hg:decide ((r:Int)<=(s.ss.length:Int))=false:=by simp; omega
     obtain rfl:r=s.ss.length + 1:=by omega
     have hfin:=hd.fin
     rw [<-hfin] at hK
     simp (maxSteps:=1000000) -dsimp only [go_sem,hg,aF]
     have e1:s.ss.length=(d.map cL).length:=by rw [List.length_map]; exact hd.len.symm
     rw [e1]
     refine .pub 1 _ _ _ rfl (.sel [] (by simp) (by simp [cN]) rfl (.done ?_))
     simp -dsimp only [go_sem,cN]
     simpa using hK
theorem aAI:Meets Tryz.prog 20 ckFn.sp:=by
 refine aE Tryz.func20 aPC 1 (by rw [Tryz.ntmps20]; decide) (aG aDR (aG ZC (aG PB (aB aHF (aG RW (aB YS (aA _))))))) s7 ?_
 rintro av H K ⟨⟨h,rfl⟩,hK⟩
 obtain ⟨_,rfl,s,rfl,hs⟩:=iJ h
 have hK:K (iS .i64 (d8 s)) []:=by
  have:ckFn.val [.va (.gs (aF s))]=iA .i64 (d8 s):=by simp -dsimp only [go_sem]
  rw [this] at hK; exact hK
 clear h
 have hfit:=hs
 have hsc:qD (aF s):=KF hs.ok
 have hsf:jY (aF s):=fC hs
 obtain ⟨⟨hv,hle,hls,hes,hss⟩,hlv,_,_⟩:=hs
 have fin:∀ (x:Int) (R:Hp),d8 s=x->W.Fin 0 K (iS .i64 x) R:=fun x R h1=>by
  rw [h1] at hK
  exact .sel [] (by simp) (by simp) rfl (.done (by simpa [go_sem] using hK))
 have hsc':=hsc
 have hsf':=hsf
 simp only [aF] at hsc' hsf'
 have hdec:C.sc [.vl (.int .i64 s.ver),.fz (s.es.map bI),.fz (s.ss.map aP)]=s:=fW s
 simp (maxSteps:=1000000) -dsimp only [go_sem,aF,aES,aEH,hsc',hdec]
 refine ⟨fun h1=>fin 4 _ (by unfold d8; rw [h1]; rfl),fun c1=>⟨fun h1=>fin 3 _ (by unfold d8; rw [c1,h1]; rfl),fun c2=>?_⟩⟩
 have hF:d8 s=bif IJ s != 0 then IJ s else bif DN s != 0 then DN s else tB s.ss:=by unfold d8; rw [c1,c2]; rfl
 refine aK (α:=Nat) (fun i=>[(1,.va (.c1 (.pt 0 0))),(3,iS .i64 i)]) (fun _=>[.cells (aF s) 25])
  (fun i=>i<=s.es.length/\fE (iZ s) (s.es.length - i) i=IJ s) (fun i=>s.es.length - i) 0 1 ⟨Nat.zero_le _,rfl⟩ ?_ ?_ ?_
 · simp -dsimp only [go_sem]<;>simp
 · simp -dsimp only [go_sem,aF]<;>simp
 rintro i ⟨hi,ho⟩
 rcases bE i s.es.length with hlt | hge
 · have hg:decide ((i:Int) < (s.es.length:Int))=true:=by simp; omega
   have fin':∀ (x:Int) (R:Hp),iZ s i=x->x ≠ 0->W.Fin 0 K (iS .i64 x) R:=fun x R h1 h2=>fin x R (by
    rw [hF,<-ho,sF hlt (by rw [h1]; exact h2),h1]; exact ID h2)
   have b7:iZ s i=0->fE (iZ s) (s.es.length - (i + 1)) (i + 1)=IJ s:=fun h1=>by rw [<-ho,wV hlt h1]
   simp (maxSteps:=1000000) -dsimp only [go_sem,hg,aF,hsf',hdec,Int.toNat_natCast]
   refine ⟨⟨by omega,by omega⟩,fun h1=>fin' _ _ rfl (by simpa using h1),fun h1=>?_⟩
   refine ⟨by omega,aC (i + 1) 1 ⟨by omega,b7 (by simpa using h1)⟩ (by omega) ?_ ?_⟩
   · simp -dsimp only [go_sem]<;>simp
   · simp -dsimp only [go_sem,aF]<;>simp
 · have hg:decide ((i:Int) < (s.es.length:Int))=false:=by simp; omega
   obtain rfl:i=s.es.length:=by omega
   rw [yH] at ho
   rw [K6 ho.symm] at hF
   simp (maxSteps:=1000000) -dsimp only [go_sem,hg,aF]
   clear hi hge hg ho
   refine aK (α:=Nat) (fun i=>[(1,.va (.c1 (.pt 0 0))),(5,iS .i64 i)]) (fun _=>[.cells (aF s) 25])
    (fun i=>i<=s.ss.length/\fE (jI s) (s.ss.length - i) i=DN s) (fun i=>s.ss.length - i) 0 1 ⟨Nat.zero_le _,rfl⟩ ?_ ?_ ?_
   · simp -dsimp only [go_sem]<;>simp
   · simp -dsimp only [go_sem,aF]<;>simp
   rintro i ⟨hi,ho⟩
   rcases bE i s.ss.length with hlt | hge
   · have hg:decide ((i:Int) < (s.ss.length:Int))=true:=by simp; omega
     have fin':∀ (x:Int) (R:Hp),jI s i=x->x ≠ 0->W.Fin 0 K (iS .i64 x) R:=fun x R h1 h2=>fin x R (by
      rw [hF,<-ho,sF hlt (by rw [h1]; exact h2),h1]; exact ID h2)
     have b7:jI s i=0->fE (jI s) (s.ss.length - (i + 1)) (i + 1)=DN s:=fun h1=>by rw [<-ho,wV hlt h1]
     simp (maxSteps:=1000000) -dsimp only [go_sem,hg,aF,hsf',hdec,Int.toNat_natCast]
     refine ⟨⟨by omega,by omega⟩,fun h1=>fin' _ _ rfl (by simpa using h1),fun h1=>?_⟩
     refine ⟨by omega,aC (i + 1) 1 ⟨by omega,b7 (by simpa using h1)⟩ (by omega) ?_ ?_⟩
     · simp -dsimp only [go_sem]<;>simp
     · simp -dsimp only [go_sem,aF]<;>simp
   · have hg:decide ((i:Int) < (s.ss.length:Int))=false:=by simp; omega
     obtain rfl:i=s.ss.length:=by omega
     rw [yH] at ho
     rw [K6 ho.symm] at hF
     have g:=KH hfit c2 ho.symm
     simp (maxSteps:=1000000) -dsimp only [go_sem,hg,aF]
     clear hi hge hg ho
     refine aK (α:=Nat) (fun i=>[(1,.va (.c1 (.pt 0 0))),(7,iS .i64 i)]) (fun _=>[.cells (aF s) 25])
      (fun i=>i<=s.ss.length/\(s.ss.drop i).any (fun t=>cZ (fR s.ss t.nm) t.nm)=s.ss.any (fun t=>cZ (fR s.ss t.nm) t.nm)) (fun i=>s.ss.length - i) 0 1 ⟨Nat.zero_le _,rfl⟩ ?_ ?_ ?_
     · simp -dsimp only [go_sem]<;>simp
     · simp -dsimp only [go_sem,aF]<;>simp
     rintro i ⟨hi,ho⟩
     rcases bE i s.ss.length with hlt | hge
     · have hg:decide ((i:Int) < (s.ss.length:Int))=true:=by simp; omega
       obtain ⟨t,hx⟩:∃ t,s.ss[i]? = some t:=⟨_,aY hlt⟩
       have q1:=aW (row:=aP) hx
       rw [gO hx] at ho
       have hv:=g.vlen t.nm
       have hul:=DA s.ss t.nm
       have hbs:BG ((fR s.ss t.nm).map bM):=tM (by rw [DA]; omega)
       have e0:(0<=((fR s.ss t.nm).length:Int))=True:=by simp
       have e1:(((fR s.ss t.nm).length:Int)<=9223372036854775807)=True:=by rw [hul]; exact eq_true (by omega)
       have hto:(fR s.ss t.nm).take (fR s.ss t.nm).length=fR s.ss t.nm:=List.take_length
       simp (maxSteps:=1000000) -dsimp only [go_sem,hg,↓q1,aP,aF]
       refine ⟨by omega,aEV hfit g ?_⟩
       simp (maxSteps:=1000000) -dsimp only [go_sem,hbs,e0,e1,Int.toNat_natCast,hto]
       refine ⟨by omega,fun hc=>?_,fun hc=>?_⟩
       · rw [hc,Bool.true_or] at ho
         exact fin 19 _ (by rw [hF]; unfold tB; rw [<-ho]; rfl)
       · rw [hc,Bool.false_or] at ho
         refine ⟨by omega,aC (i + 1) 1 ⟨by omega,ho⟩ (by omega) ?_ ?_⟩
         · simp -dsimp only [go_sem]<;>simp
         · simp -dsimp only [go_sem,aF]<;>simp
     · have hg:decide ((i:Int) < (s.ss.length:Int))=false:=by simp; omega
       obtain rfl:i=s.ss.length:=by omega
       rw [oV] at ho
       have ha:uW s.ss:=fun t ht=>jR ho.symm t ht
       have hF2:d8 s=bif s.ss.any (fun t=>decide (6 < dD s.ss t.nm)) then 9 else 0:=by rw [hF]; unfold tB; rw [<-ho]; rfl
       simp (maxSteps:=1000000) -dsimp only [go_sem,hg,aF]
       refine aGF hfit g ha ?_
       simp (maxSteps:=1000000) -dsimp only [go_sem]
       clear hi hge hg ho
       refine aK (α:=Nat) (fun i=>[(9,.va (.c1 (.fz ((s.ss.map fun t=>dD s.ss t.nm).map cL)))),(10,iS .i64 i)]) (fun _=>[.cells (aF s) 25])
        (fun i=>i<=s.ss.length/\(s.ss.drop i).any (fun t=>decide (6 < dD s.ss t.nm))=s.ss.any (fun t=>decide (6 < dD s.ss t.nm))) (fun i=>s.ss.length - i) 0 1 ⟨Nat.zero_le _,rfl⟩ ?_ ?_ ?_
       · simp -dsimp only [go_sem]<;>simp
       · simp -dsimp only [go_sem,aF]<;>simp
       rintro i ⟨hi,ho⟩
       rcases bE i s.ss.length with hlt | hge
       · have hg:decide ((i:Int) < (s.ss.length:Int))=true:=by simp; omega
         obtain ⟨t,hx⟩:∃ t,s.ss[i]? = some t:=⟨_,aY hlt⟩
         have hd:(s.ss.map fun t=>dD s.ss t.nm)[i]? = some (dD s.ss t.nm):=by rw [List.getElem?_map,hx]; rfl
         have q1:=aW (row:=cL) hd
         have hml:(s.ss.map fun t=>dD s.ss t.nm).length=s.ss.length:=by simp
         rw [gO hx] at ho
         generalize (s.ss.map fun t=>dD s.ss t.nm)=ds at *
         simp (maxSteps:=1000000) -dsimp only [go_sem,hml,hg,↓q1,aF]
         refine ⟨by omega,fun hc=>?_,fun hc=>?_⟩
         · rw [hc,Bool.true_or] at ho
           exact fin 9 _ (by rw [hF2,<-ho]; rfl)
         · rw [hc,Bool.false_or] at ho
           refine ⟨by omega,aC (i + 1) 1 ⟨by omega,ho⟩ (by omega) ?_ ?_⟩
           · simp -dsimp only [go_sem]<;>simp
           · simp -dsimp only [go_sem,aF]<;>simp
       · have hg:decide ((i:Int) < (s.ss.length:Int))=false:=by simp; omega
         obtain rfl:i=s.ss.length:=by omega
         rw [oV] at ho
         have hml:(s.ss.map fun t=>dD s.ss t.nm).length=s.ss.length:=by simp
         generalize (s.ss.map fun t=>dD s.ss t.nm)=ds at *
         simp (maxSteps:=1000000) -dsimp only [go_sem,hml,hg,aF]
         exact fin 0 _ (by rw [hF2,<-ho]; rfl)
def f4:Nat->Ty->Nat
 | 0,_=>0
 | N + 1,t=>t.e.foldl (fun m u=>max m (1 + f4 N u)) 0
abbrev lF (N:Nat):Nat->Ty->Nat:=fun m u=>max m (1 + f4 N u)
theorem UG (N:Nat):∀ (l:List Ty) (m:Nat),m<=l.foldl (lF N) m
 | [],_=>Nat.le_refl _
 | u :: l,m=>Nat.le_trans (Nat.le_max_left _ _) (UG N l (max m (1 + f4 N u)))
theorem aDX {N:Nat} {l:List Ty} {u:Ty} (h:u ∈ l):∀ m,1 + f4 N u<=l.foldl (lF N) m:=by
 induction l with
 | nil=>cases h
 | cons v l ih=>
  intro m
  rcases List.mem_cons.1 h with rfl | h
  · exact Nat.le_trans (Nat.le_max_right m _) (UG N l _)
  · exact ih h _
theorem aHI {N B:Nat} {l:List Ty} (h:∀ u ∈ l,1 + f4 N u<=B):∀ m,m<=B->l.foldl (lF N) m<=B:=by
 induction l with
 | nil=>exact fun _ h=>h
 | cons v l ih=>exact fun m hm=>ih (fun u hu=>h u (List.mem_cons_of_mem _ hu)) _ (Nat.max_le.2 ⟨hm,h v List.mem_cons_self⟩)
theorem AA:∀ (N:Nat) (t:Ty),f4 N t<=N
 | 0,_=>Nat.le_refl _
 | N + 1,t=>aHI (fun u _=>by have:=AA N u; omega) 0 (Nat.zero_le _)
theorem M3:∀ (N:Nat) (t:Ty),f4 N t < N->t.h<=f4 N t + 1
 | 0,_,h=>absurd h (Nat.not_lt_zero _)
 | N + 1,.mk k s n e,h=>by
  have hu:∀ u ∈ e,u.h<=f4 (N + 1) (.mk k s n e):=fun u hu=>by
   have h1:1 + f4 N u<=f4 (N + 1) (.mk k s n e):=aDX (N:=N) (l:=e) hu 0
   have:=M3 N u (by omega)
   omega
  rw [Ty.h]
  have:∀ (l:List Ty),(∀ u ∈ l,u.h<=f4 (N + 1) (.mk k s n e))->Ty.hs l<=f4 (N + 1) (.mk k s n e):=by
   intro l
   induction l with
   | nil=>exact fun _=>Nat.zero_le _
   | cons v l ih=>
    intro h
    rw [Ty.hs]
    exact Nat.max_le.2 ⟨h v List.mem_cons_self,ih fun u hu=>h u (List.mem_cons_of_mem _ hu)⟩
  have:=this e hu
  omega
theorem Y7 {N:Nat} {l:List Ty} {i:Nat} {u:Ty} (hx:l[i]? = some u):(l.take (i + 1)).foldl (lF N) 0=max ((l.take i).foldl (lF N) 0) (1 + f4 N u):=by
 rw [fU hx,List.foldl_append]; rfl
def DZ (N:Nat):List S->Prop:=fun av=>match av with
 | [.va (.gs q),.va (.c1 (.vl (.int .i64 k)))]=>eO q/\k=(N:Int)/\N<=1000
 | _=>False
theorem l9 {N:Nat} {av:List S} (h:DZ N av):∃ t:Ty,av=[.va (.gs (aN t)),iS .i64 N]/\TyOk t/\N<=1000:=by
 unfold DZ at h
 split at h
 · obtain ⟨⟨t,rfl,ht⟩,rfl,h⟩:=h
   exact ⟨t,rfl,ht,h⟩
 · exact h.elim
noncomputable def WA (N:Nat):List S->A:=fun av=>match av with
 | [.va (.gs q),.va (.c1 (.vl (.int .i64 _)))]=>iA .i64 (f4 N (C.ty q))
 | _=>.gs []
noncomputable def BQ (N:Nat):Fun:=⟨DZ N,WA N,fun av h=>by obtain ⟨a,rfl,_⟩:=l9 h; trivial⟩
theorem GH {N:Nat}:∀ av H K,(BQ N).sp av H K->av.length=2:=fun av H K h=>by obtain ⟨a,rfl,_⟩:=l9 h.1.1; rfl
attribute [go_sem] BQ DZ WA
theorem YU:Meets Tryz.prog 45 (BQ 0).sp:=by
 refine aE Tryz.func45 aAR 2 (by rw [Tryz.ntmps45]; decide) (aA _) GH ?_
 rintro av H K ⟨⟨h,rfl⟩,hK⟩
 obtain ⟨t,rfl,ht,hN⟩:=l9 h
 have hK:K (iS .i64 0) []:=by
  have:(BQ 0).val [.va (.gs (aN t)),iS .i64 ((0:Nat):Int)]=iA .i64 0:=by simp -dsimp only [go_sem]; rfl
  rw [this] at hK; exact hK
 clear h
 obtain ⟨k,s,n,e⟩:=t
 simp (maxSteps:=1000000) -dsimp only [go_sem,aN,aS,TO,SL]
 refine aK (α:=Unit) (fun i=>[(1,iS .i64 0),(2,.va (.c1 (.pt 0 0))),(5,iS .i64 0),(6,iS .i64 0)]) (fun _=>[.cells (aN (.mk k s n e)) 28])
  (fun i=>True) (fun i=>0) () 1 trivial ?_ ?_ ?_
 · simp -dsimp only [go_sem]
   simp
 · simp -dsimp only [go_sem,aN,aS]
 intro _ _
 have hg2:decide ((0:Int) < 0)=false:=rfl
 cases hg:decide ((0:Int) < (e.length:Int)) with
 | true=>
  simp (maxSteps:=1000000) -dsimp only [go_sem,hg,hg2,aN,aS]
  exact .sel [] (by simp) (by simp) rfl (.done (by simp -dsimp only [go_sem]; exact hK))
 | false=>
  simp (maxSteps:=1000000) -dsimp only [go_sem,hg,hg2,aN,aS]
  exact .sel [] (by simp) (by simp) rfl (.done (by simp -dsimp only [go_sem]; exact hK))
theorem O2:∀ N,Meets Tryz.prog 45 (BQ N).sp
 | 0=>YU
 | N + 1=>by
  refine aE Tryz.func45 aAR 2 (by rw [Tryz.ntmps45]; decide) (aG (O2 N) (aA _)) GH ?_
  rintro av H K ⟨⟨h,rfl⟩,hK⟩
  obtain ⟨t,rfl,ht,hN⟩:=l9 h
  have hK:K (iS .i64 (f4 (N + 1) t)) []:=by
   have:(BQ (N + 1)).val [.va (.gs (aN t)),iS .i64 ((N + 1:Nat):Int)]=iA .i64 (f4 (N + 1) t):=by simp -dsimp only [go_sem]
   rw [this] at hK; exact hK
  clear h
  obtain ⟨k,s,n,e⟩:=t
  have hte:=ht.e
  have hte2:=ht.len
  simp only [Ty.e] at hte hte2
  have hK:K (iS .i64 ((e.foldl (lF N) 0:Nat):Int)) []:=hK
  simp (maxSteps:=1000000) -dsimp only [go_sem,aN,aS,TO,SL]
  refine aK (α:=Nat) (fun i=>[(1,iS .i64 ((N + 1:Nat):Int)),(2,.va (.c1 (.pt 0 0))),(5,iS .i64 (((e.take i).foldl (lF N) 0:Nat):Int)),(6,iS .i64 i)]) (fun _=>[.cells (aN (.mk k s n e)) 28])
   (fun i=>i<=e.length) (fun i=>e.length - i) 0 1 (Nat.zero_le _) ?_ ?_ ?_
  · simp -dsimp only [go_sem]
    simp
  · simp -dsimp only [go_sem,aN,aS]
  intro i hi
  rcases bE i e.length with hlt | hge
  · have hg:decide ((i:Int) < (e.length:Int))=true:=by simp; omega
    have hg2:decide (0 < ((N + 1:Nat):Int))=true:=decide_eq_true (by omega)
    obtain ⟨u,hx⟩:∃ t,e[i]? = some t:=⟨_,aY hlt⟩
    have q1:=aW (row:=aN) hx
    have hu:eO (aN u):=dQ (hte u (bK hx))
    have hn1:((N + 1:Nat):Int) - 1=(N:Int):=by omega
    have hl:=AA N u
    simp (maxSteps:=1000000) -dsimp only [go_sem,hg,hg2,↓q1,aN,aS,gV,hu,hn1]
    refine ⟨by omega,by omega,by omega,by omega,by omega,aC (i + 1) 1 (by omega) (by omega) ?_ ?_⟩
    · simp -dsimp only [go_sem,Y7 hx]<;>simp<;>omega
    · simp -dsimp only [go_sem,aN,aS]
  · have hg:decide ((i:Int) < (e.length:Int))=false:=by simp; omega
    obtain rfl:i=e.length:=by omega
    rw [List.take_length]
    simp (maxSteps:=1000000) -dsimp only [go_sem,hg,aN,aS]
    exact .sel [] (by simp) (by simp) rfl (.done (by simp -dsimp only [go_sem]; exact hK))
mutual
def fewT:Ty->Bool
 | .mk k s n e=>bif decide (40 < (bl n).length) || decide (3 < e.length) || decide (8 < f4 20 (.mk k s n e)) then false else D7 e
def D7:List Ty->Bool
 | []=>true
 | t :: r=>fewT t && D7 r
end
theorem rQ:∀ l:List Ty,D7 l=l.all fewT
 | []=>rfl
 | t :: r=>by rw [D7,rQ r]; rfl
theorem L5 {k s:Int} {n:ByteArray} {e:List Ty} (h:fewT (.mk k s n e)=true):((bl n).length<=40/\e.length<=3/\f4 20 (.mk k s n e)<=8)/\∀ u ∈ e,fewT u=true:=by
 rw [fewT] at h
 cases c:decide (40 < (bl n).length) || decide (3 < e.length) || decide (8 < f4 20 (.mk k s n e)) with
 | true=>rw [c] at h; cases h
 | false=>
  rw [c] at h
  simp only [Bool.or_eq_false_iff,decide_eq_false_iff_not] at c
  refine ⟨by omega,fun u hu=>?_⟩
  simp only [aI,rQ,List.all_eq_true] at h
  exact h u hu
theorem aJF {t:Ty} (h:fewT t=true):t.h<=9:=by
 obtain ⟨k,s,n,e⟩:=t
 have h1:=(L5 h).1.2.2
 have:=M3 20 (.mk k s n e) (by omega)
 omega
theorem OP:∀ (N:Nat) (t:Ty),t.h<=N->fewT t=true->TySm t
 | 0,t,h,_=>absurd h (by have:=t.h_pos; omega)
 | N + 1,.mk k s n e,h,hf=>by
  obtain ⟨⟨_,h2,_⟩,h3⟩:=L5 hf
  refine .mk (by omega) fun u hu=>OP N u ?_ (h3 u hu)
  have:=Ty.hs_mem hu; rw [Ty.h] at h; omega
theorem aEZ:∀ (N:Nat) (t:Ty),t.h<=N->(cF t).1<=t.h
 | 0,t,h=>absurd h (by have:=t.h_pos; omega)
 | N + 1,.mk k s n e,h=>by
  cases c:(k == 5 && decide (0 < (e.length:Int))) with
  | false=>rw [HC c]; exact Nat.zero_le _
  | true=>
   simp only [Bool.and_eq_true,beq_iff_eq,decide_eq_true_eq] at c
   obtain ⟨rfl,c⟩:=c
   cases e with
   | nil=>simp at c
   | cons u r=>
    rw [wL]
    have h2:=aEZ N u (by rw [Ty.h,Ty.hs] at h; omega)
    rw [Ty.h,Ty.hs]; simp only; omega
def EP (N:Nat):List S->Prop:=fun av=>match av with
 | [.va (.gs q)]=>eO q/\(C.ty q).h<=N
 | _=>False
theorem mB {N:Nat} {av:List S} (h:EP N av):∃ t:Ty,av=[.va (.gs (aN t))]/\TyOk t/\t.h<=N:=by
 unfold EP at h
 split at h
 · obtain ⟨⟨t,rfl,ht⟩,h⟩:=h
   rw [eX] at h
   exact ⟨t,rfl,ht,h⟩
 · exact h.elim
noncomputable def VY:List S->A:=fun av=>match av with
 | [.va (.gs q)]=>bA (fewT (C.ty q))
 | _=>.gs []
noncomputable def MW (N:Nat):Fun:=⟨EP N,VY,fun av h=>by obtain ⟨a,rfl,_⟩:=mB h; trivial⟩
theorem TW {N:Nat}:∀ av H K,(MW N).sp av H K->av.length=1:=fun av H K h=>by obtain ⟨a,rfl,_⟩:=mB h.1.1; rfl
attribute [go_sem] MW EP VY
theorem B5:∀ N,Meets Tryz.prog 19 (MW N).sp
 | 0=>⟨by kernel_rfl,by rintro xs vs E ro w K _ _ _ ⟨⟨h,_⟩,_⟩; obtain ⟨a,_,_,h⟩:=mB h; have:=a.h_pos; omega⟩
 | N + 1=>by
  refine aE Tryz.func19 aKY 1 (by rw [Tryz.ntmps19]; decide) (aG (O2 20) (aG (B5 N) (aA _))) TW ?_
  rintro av H K ⟨⟨h,rfl⟩,hK⟩
  obtain ⟨t,rfl,ht,hN⟩:=mB h
  have hK:K (bS (fewT t)) []:=by
   have:(MW (N + 1)).val [.va (.gs (aN t))]=bA (fewT t):=by simp -dsimp only [go_sem]
   rw [this] at hK; exact hK
  clear h
  have hit:=dQ ht
  obtain ⟨k,s,n,e⟩:=t
  have hte:=ht.e
  have hte2:=ht.len
  simp only [Ty.e] at hte hte2
  have fin:∀ (x:Bool) (R:Hp),fewT (.mk k s n e)=x->W.Fin 0 K (bS x) R:=fun x R h1=>by
   rw [h1] at hK
   exact .sel [] (by simp) (by simp) rfl (.done (by simpa [go_sem] using hK))
  have hcd:=eX (.mk k s n e)
  have hF:=fewT.eq_1 k s n e
  rw [aN,aS] at hit hcd
  generalize hlv:f4 20 (.mk k s n e)=lv at hF
  have hl20:=AA 20 (.mk k s n e)
  rw [hlv] at hl20
  have e20:((20:Nat):Int)=20:=rfl
  have hb20:(20<=1000)=True:=by simp
  simp (maxSteps:=1000000) -dsimp only [go_sem,aN,aS,aA4,aEY,hit,hcd,hlv,e20,hb20]
  refine ⟨fun h1=>fin false _ ?_,fun h1=>?_⟩
  · rw [hF]
    simp only [Bool.or_eq_true,decide_eq_true_eq] at h1
    rw [show (decide (40 < (bl n).length) || decide (3 < e.length) || decide (8 < lv))=true by simp only [Bool.or_eq_true,decide_eq_true_eq]; omega]; rfl
  have hF2:fewT (.mk k s n e)=e.all fewT:=by
   simp only [Bool.or_eq_false_iff,decide_eq_false_iff_not] at h1
   rw [hF,show (decide (40 < (bl n).length) || decide (3 < e.length) || decide (8 < lv))=false by simp only [Bool.or_eq_false_iff,decide_eq_false_iff_not]; omega,rQ]; rfl
  refine aK (α:=Nat) (fun i=>[(1,.va (.c1 (.pt 0 0))),(3,iS .i64 i)]) (fun i=>[.cells (aN (.mk k s n e)) 28])
   (fun i=>i<=e.length/\∀ u ∈ e.take i,fewT u=true) (fun i=>e.length - i) 0 1 ⟨Nat.zero_le _,fun u hu=>by cases hu⟩ ?_ ?_ ?_
  · simp -dsimp only [go_sem]<;>simp
  · simp -dsimp only [go_sem,aN,aS]
  rintro i ⟨hi,ho⟩
  rcases bE i e.length with hlt | hge
  · have hg:decide ((i:Int) < (e.length:Int))=true:=by simp; omega
    obtain ⟨u,hx⟩:∃ t,e[i]? = some t:=⟨_,aY hlt⟩
    have hum:=bK hx
    have q1:=aW (row:=aN) hx
    have hu:eO (aN u):=dQ (hte u hum)
    have huh:(u.h<=N)=True:=eq_true (by have:=Ty.hs_mem hum; rw [Ty.h] at hN; omega)
    simp (maxSteps:=1000000) -dsimp only [go_sem,hg,↓q1,aN,aS,gV,hu,huh]
    refine ⟨by omega,fun h1=>fin false _ ?_,fun h1=>?_⟩
    · rw [hF2,List.all_eq_false]; exact ⟨u,hum,by simpa using h1⟩
    · refine ⟨by omega,aC (i + 1) 1 ⟨by omega,fun v hv=>?_⟩ (by omega) ?_ ?_⟩
      · rw [fU hx] at hv
        rcases List.mem_append.1 hv with h | h
        · exact ho v h
        · obtain rfl:v=u:=by simpa using h
          simpa using h1
      · simp -dsimp only [go_sem]<;>simp
      · simp -dsimp only [go_sem,aN,aS]
  · have hg:decide ((i:Int) < (e.length:Int))=false:=by simp; omega
    obtain rfl:i=e.length:=by omega
    rw [List.take_length] at ho
    simp (maxSteps:=1000000) -dsimp only [go_sem,hg,aN,aS]
    exact fin true _ (by rw [hF2,List.all_eq_true]; exact ho)
noncomputable def f0Fn:Fun:=uI eO C.ty fun t=>.bool (fewT t)
attribute [go_sem] f0Fn
theorem EU:Meets Tryz.prog 19 f0Fn.sp:=eC 0 B5 fun av H K ⟨⟨h,e⟩,hK⟩=>by
 obtain ⟨_,rfl,t,rfl,ht⟩:=iJ h
 exact ⟨t.h,⟨⟨⟨dQ ht,by rw [eX]; exact Nat.le_refl _⟩,e⟩,hK⟩⟩
def sU (e:En):Bool:=!(decide (40 < (bl e.nm).length) || decide (18 < e.ns.length) || decide (18 < e.vs.length)) && e.ns.all fun n=>!(decide (40 < (bl n).length))
def pO (f:Fl):Bool:=!(decide (40 < (bl f.nm).length) || !(fewT f.ty))
def nR (t:St):Bool:=!(decide (40 < (bl t.nm).length) || decide (18 < t.fs.length)) && t.fs.all pO
def kF (s:Sc):Bool:=!(decide (18 < s.es.length) || decide (18 < s.ss.length)) && (s.es.all sU && s.ss.all nR)
theorem AQ {s:Sc} (h:s.ok) (hf:kF s=true):s.fit:=by
 unfold kF at hf
 simp only [Bool.and_eq_true,List.all_eq_true,Bool.not_eq_true',Bool.or_eq_false_iff,decide_eq_false_iff_not] at hf
 obtain ⟨_,he,hs⟩:=hf
 have hfl:∀ t ∈ s.ss,t.fs.length<=18/\∀ f ∈ t.fs,fewT f.ty=true:=fun t ht=>by
  have:=hs t ht
  unfold nR at this
  simp only [Bool.and_eq_true,List.all_eq_true,Bool.not_eq_true',Bool.or_eq_false_iff,decide_eq_false_iff_not] at this
  refine ⟨by omega,fun f hf=>?_⟩
  have:=this.2 f hf
  unfold pO at this
  simp only [Bool.not_eq_true',Bool.or_eq_false_iff,Bool.not_eq_false'] at this
  exact this.2
 refine ⟨h,fun t ht f hf=>?_,fun t ht=>⟨by have:=(hfl t ht).1; omega,fun f hf=>OP _ _ (Nat.le_refl _) ((hfl t ht).2 f hf)⟩,fun e hm=>?_⟩
 · have h1:=aJF ((hfl t ht).2 f hf)
   have h2:=aEZ _ f.ty (Nat.le_refl _)
   omega
 · have:=he e hm
   unfold sU at this
   simp only [Bool.and_eq_true,List.all_eq_true,Bool.not_eq_true',Bool.or_eq_false_iff,decide_eq_false_iff_not] at this
   omega
theorem m6 {α:Type} {l:List α} {i:Nat} {x:α} (hx:l[i]? = some x) (p:α->Bool):(l.drop i).all p=(p x && (l.drop (i + 1)).all p):=by
 obtain ⟨h,rfl⟩:=aZ.1 hx
 rw [List.drop_eq_getElem_cons h,List.all_cons]
theorem oN {α:Type} {l:List α} (p:α->Bool):(l.drop l.length).all p=true:=by rw [List.drop_length]; rfl
theorem aOS:Meets Tryz.prog 18 (uI qD C.sc fun s=>.bool (kF s)).sp:=by
 refine aE Tryz.func18 aOP 1 (by rw [Tryz.ntmps18]; decide) (aG EU (aA _)) s7 ?_
 rintro av H K ⟨⟨h,rfl⟩,hK⟩
 obtain ⟨_,rfl,s,rfl,hs⟩:=iJ h
 have hK:K (bS (kF s)) []:=by
  have:(uI qD C.sc fun s=>.bool (kF s)).val [.va (.gs (aF s))]=bA (kF s):=by simp -dsimp only [go_sem]
  rw [this] at hK; exact hK
 clear h
 obtain ⟨hv,hle,hls,hes,hss⟩:=hs
 have fin:∀ (x:Bool) (R:Hp),kF s=x->W.Fin 0 K (bS x) R:=fun x R h1=>by
  rw [h1] at hK
  exact .sel [] (by simp) (by simp) rfl (.done (by simpa [go_sem] using hK))
 simp (maxSteps:=1000000) -dsimp only [go_sem,aF,aE1,aAU]
 refine ⟨fun h1=>fin false _ ?_,fun h1=>?_⟩
 · unfold kF
   rw [show (decide (18 < s.es.length) || decide (18 < s.ss.length))=true by simp only [Bool.or_eq_true,decide_eq_true_eq] at h1 ⊢; omega]; rfl
 have hF:kF s=(s.es.all sU && s.ss.all nR):=by
  unfold kF
  rw [show (decide (18 < s.es.length) || decide (18 < s.ss.length))=false by simp only [Bool.or_eq_false_iff,decide_eq_false_iff_not] at h1 ⊢; omega]; rfl
 refine aK (α:=Nat) (fun i=>[(1,.va (.c1 (.pt 0 0))),(3,iS .i64 i)]) (fun _=>[.cells (aF s) 25])
  (fun i=>i<=s.es.length/\(s.es.drop i).all sU=s.es.all sU) (fun i=>s.es.length - i) 0 1 ⟨Nat.zero_le _,rfl⟩ ?_ ?_ ?_
 · simp -dsimp only [go_sem]<;>simp
 · simp -dsimp only [go_sem,aF]<;>simp
 rintro i ⟨hi,ho⟩
 rcases bE i s.es.length with hlt | hge
 · have hg:decide ((i:Int) < (s.es.length:Int))=true:=by simp; omega
   obtain ⟨e,hx⟩:∃ e,s.es[i]? = some e:=⟨_,aY hlt⟩
   have hem:=bK hx
   have q1:=aW (row:=bI) hx
   obtain ⟨_,hln,hlv,_,_⟩:=hes e hem
   rw [m6 hx] at ho
   have bad:sU e=false->∀ R,W.Fin 0 K (bS false) R:=fun h R=>fin false R (by rw [hF,<-ho,h]; rfl)
   have cst:∀ (a b:Nat),decide ((a:Int) < (b:Int))=decide (a < b):=fun a b=>by simp
   have hE:sU e=(!(decide (40 < ((bl e.nm).length:Int)) || decide (18 < (e.ns.length:Int)) || decide (18 < (e.vs.length:Int))) && e.ns.all fun n=>!(decide (40 < ((bl n).length:Int)))):=by
    unfold sU
    have c40:∀ b:Nat,decide (40 < (b:Int))=decide (40 < b):=fun b=>by simp; omega
    have c18:∀ b:Nat,decide (18 < (b:Int))=decide (18 < b):=fun b=>by simp; omega
    simp only [c40,c18]
   cases d1:decide (40 < ((bl e.nm).length:Int)) with
   | true=>
    rw [d1] at hE
    simp (maxSteps:=1000000) -dsimp only [go_sem,hg,↓q1,bI,aF,d1]
    exact ⟨by omega,bad hE _⟩
   | false=>
   cases d2:decide (18 < (e.ns.length:Int)) with
   | true=>
    rw [d1,d2] at hE
    simp (maxSteps:=1000000) -dsimp only [go_sem,hg,↓q1,bI,aF,d1,d2]
    exact ⟨by omega,by omega,bad hE _⟩
   | false=>
   cases d3:decide (18 < (e.vs.length:Int)) with
   | true=>
    rw [d1,d2,d3] at hE
    simp (maxSteps:=1000000) -dsimp only [go_sem,hg,↓q1,bI,aF,d1,d2,d3]
    exact ⟨by omega,by omega,by omega,bad hE _⟩
   | false=>
    rw [d1,d2,d3] at hE
    simp only [Bool.or_self,Bool.not_false,Bool.true_and] at hE
    simp (maxSteps:=1000000) -dsimp only [go_sem,hg,↓q1,bI,aF,d1,d2,d3]
    refine ⟨by omega,by omega,by omega,?_⟩
    refine aK (α:=Nat) (fun k=>[(1,.va (.c1 (.pt 0 0))),(3,iS .i64 i),(4,iS .i64 k)]) (fun _=>[.cells (aF s) 25])
     (fun k=>k<=e.ns.length/\((e.ns.drop k).all fun n=>!(decide (40 < ((bl n).length:Int))))=e.ns.all fun n=>!(decide (40 < ((bl n).length:Int)))) (fun k=>e.ns.length - k) 0 1 ⟨Nat.zero_le _,rfl⟩ ?_ ?_ ?_
    · simp -dsimp only [go_sem]<;>simp
    · simp -dsimp only [go_sem,aF]<;>simp
    rintro k ⟨hk,ho2⟩
    rcases bE k e.ns.length with hkt | hkg
    · have hgk:decide ((k:Int) < (e.ns.length:Int))=true:=by simp; omega
      obtain ⟨n,hn⟩:∃ n,e.ns[k]? = some n:=⟨_,aY hkt⟩
      have q2:=aW (row:=bM) hn
      rw [m6 hn] at ho2
      simp (maxSteps:=1000000) -dsimp only [go_sem,↓q1,bI,aF,hgk]
      simp (maxSteps:=1000000) -dsimp only [go_sem,hn,aH,forall_eq']
      refine ⟨by omega,by omega,by omega,fun h2=>bad (by rw [hE,<-ho2,h2]; rfl) _,fun h2=>?_⟩
      rw [h2] at ho2
      refine ⟨by omega,aC (k + 1) 1 ⟨by omega,by simpa using ho2⟩ (by omega) ?_ ?_⟩
      · simp -dsimp only [go_sem]<;>simp
      · simp -dsimp only [go_sem,aF]<;>simp
    · have hgk:decide ((k:Int) < (e.ns.length:Int))=false:=by simp; omega
      obtain rfl:k=e.ns.length:=by omega
      rw [oN] at ho2
      rw [hE,<-ho2,Bool.true_and] at ho
      simp (maxSteps:=1000000) -dsimp only [go_sem,↓q1,bI,aF,hgk]
      refine ⟨by omega,by omega,aC (i + 1) 1 ⟨by omega,ho⟩ (by omega) ?_ ?_⟩
      · simp -dsimp only [go_sem]<;>simp
      · simp -dsimp only [go_sem,aF]<;>simp
 · have hg:decide ((i:Int) < (s.es.length:Int))=false:=by simp; omega
   obtain rfl:i=s.es.length:=by omega
   rw [oN] at ho
   rw [<-ho,Bool.true_and] at hF
   simp (maxSteps:=1000000) -dsimp only [go_sem,hg,aF]
   clear ho hi hge hg
   refine aK (α:=Nat) (fun i=>[(1,.va (.c1 (.pt 0 0))),(5,iS .i64 i)]) (fun _=>[.cells (aF s) 25])
    (fun i=>i<=s.ss.length/\(s.ss.drop i).all nR=s.ss.all nR) (fun i=>s.ss.length - i) 0 1 ⟨Nat.zero_le _,rfl⟩ ?_ ?_ ?_
   · simp -dsimp only [go_sem]<;>simp
   · simp -dsimp only [go_sem,aF]<;>simp
   rintro i ⟨hi,ho⟩
   rcases bE i s.ss.length with hlt | hge
   · have hg:decide ((i:Int) < (s.ss.length:Int))=true:=by simp; omega
     obtain ⟨e,hx⟩:∃ e,s.ss[i]? = some e:=⟨_,aY hlt⟩
     have hem:=bK hx
     have q1:=aW (row:=aP) hx
     obtain ⟨_,hln,hfs⟩:=hss e hem
     rw [m6 hx] at ho
     have bad:nR e=false->∀ R,W.Fin 0 K (bS false) R:=fun h R=>fin false R (by rw [hF,<-ho,h]; rfl)
     have hE:nR e=(!(decide (40 < ((bl e.nm).length:Int)) || decide (18 < (e.fs.length:Int))) && e.fs.all pO):=by
      unfold nR
      have c40:∀ b:Nat,decide (40 < (b:Int))=decide (40 < b):=fun b=>by simp; omega
      have c18:∀ b:Nat,decide (18 < (b:Int))=decide (18 < b):=fun b=>by simp; omega
      simp only [c40,c18]
     cases d1:decide (40 < ((bl e.nm).length:Int)) with
     | true=>
      rw [d1] at hE
      simp (maxSteps:=1000000) -dsimp only [go_sem,hg,↓q1,aP,aF,d1]
      exact ⟨by omega,bad hE _⟩
     | false=>
     cases d2:decide (18 < (e.fs.length:Int)) with
     | true=>
      rw [d1,d2] at hE
      simp (maxSteps:=1000000) -dsimp only [go_sem,hg,↓q1,aP,aF,d1,d2]
      exact ⟨by omega,by omega,bad hE _⟩
     | false=>
      rw [d1,d2] at hE
      simp only [Bool.or_self,Bool.not_false,Bool.true_and] at hE
      simp (maxSteps:=1000000) -dsimp only [go_sem,hg,↓q1,aP,aF,d1,d2]
      refine ⟨by omega,by omega,?_⟩
      refine aK (α:=Nat) (fun k=>[(1,.va (.c1 (.pt 0 0))),(5,iS .i64 i),(6,iS .i64 k)]) (fun _=>[.cells (aF s) 25])
       (fun k=>k<=e.fs.length/\(e.fs.drop k).all pO=e.fs.all pO) (fun k=>e.fs.length - k) 0 1 ⟨Nat.zero_le _,rfl⟩ ?_ ?_ ?_
      · simp -dsimp only [go_sem]<;>simp
      · simp -dsimp only [go_sem,aF]<;>simp
      rintro k ⟨hk,ho2⟩
      rcases bE k e.fs.length with hkt | hkg
      · have hgk:decide ((k:Int) < (e.fs.length:Int))=true:=by simp; omega
        obtain ⟨f,hn⟩:∃ n,e.fs[k]? = some n:=⟨_,aY hkt⟩
        have q2:=aW (row:=aX) hn
        have hity:eO (aN f.ty):=dQ (hfs f (bK hn)).ty
        rw [m6 hn] at ho2
        have hFl:pO f=!(decide (40 < ((bl f.nm).length:Int)) || !(fewT f.ty)):=by
         unfold pO
         have c40:∀ b:Nat,decide (40 < (b:Int))=decide (40 < b):=fun b=>by simp; omega
         simp only [c40]
        cases d3:decide (40 < ((bl f.nm).length:Int)) with
        | true=>
         rw [d3] at hFl
         simp (maxSteps:=1000000) -dsimp only [go_sem,↓q1,aP,aF,hgk]
         simp (maxSteps:=1000000) -dsimp only [go_sem,aX,hn,aH,forall_eq',d3]
         refine ⟨by omega,by omega,by omega,bad (by rw [hE,<-ho2,hFl]; rfl) _⟩
        | false=>
         rw [d3] at hFl
         simp only [Bool.false_or,Bool.not_not] at hFl
         rw [hFl] at ho2
         simp (maxSteps:=1000000) -dsimp only [go_sem,↓q1,aP,aF,hgk]
         simp (maxSteps:=1000000) -dsimp only [go_sem,aX,uB,hity,hn,aH,forall_eq',d3]
         refine ⟨by omega,by omega,by omega,by omega,by omega,fun h2=>bad (by rw [hE,<-ho2,h2]; rfl) _,fun h2=>?_⟩
         rw [show fewT f.ty=true by simpa using h2,Bool.true_and] at ho2
         refine ⟨by omega,aC (k + 1) 1 ⟨by omega,ho2⟩ (by omega) ?_ ?_⟩
         · simp -dsimp only [go_sem]<;>simp
         · simp -dsimp only [go_sem,aF]<;>simp
      · have hgk:decide ((k:Int) < (e.fs.length:Int))=false:=by simp; omega
        obtain rfl:k=e.fs.length:=by omega
        rw [oN] at ho2
        rw [hE,<-ho2,Bool.true_and] at ho
        simp (maxSteps:=1000000) -dsimp only [go_sem,↓q1,aP,aF,hgk]
        refine ⟨by omega,by omega,aC (i + 1) 1 ⟨by omega,ho⟩ (by omega) ?_ ?_⟩
        · simp -dsimp only [go_sem]<;>simp
        · simp -dsimp only [go_sem,aF]<;>simp
   · have hg:decide ((i:Int) < (s.ss.length:Int))=false:=by simp; omega
     obtain rfl:i=s.ss.length:=by omega
     rw [oN] at ho
     simp (maxSteps:=1000000) -dsimp only [go_sem,hg,aF]
     exact fin true _ (by rw [hF,<-ho])
def SY:PC:=.seq (.reg [.e 3 (.bx 25 (.t 0)),.e 4 (.bx 28 (.t 1)),.e 5 (.bx 32 (.t 2)),.q 6 (.mv (.i 0))]) (.seq (.seq (.reg [.l 7 (.ldn 5 (.t 5)),.a 8 (.cq 52 [(.t 7),(.i 6)]),.q 9 (.bin .gtr true (.t 8) (.i 6))]) (.cond (.t 9) (.seq (.reg [.q 6 (.mv (.i 9))]) .ret) .skip)) (.seq (.reg [.l 10 (.ldn 3 (.t 3)),.q 11 (.bd [(.int .i64 0),(.slice none 0 0),(.slice none 0 0)] [(0,3,(.t 10))]),.l 12 (.ldn 4 (.t 4)),.l 13 (.ldn 5 (.t 5)),.a 14 (.cq 53 [(.t 11),(.t 12),(.t 13)]),.v 6 14]) .ret))
def S2:List RV:=[.mv (.t 6)]
theorem aPF:aM Tryz.prog true ⟨fun r k=>if r=1/\k=1 then .q else if r=3/\k=4 then .q else .own [],fun _=>false⟩ Tryz.f23=some (SY,S2):=by kernel_rfl
def Q5:PC:=.seq (.reg [.e 2 (.bx 32 (.t 0)),.q 4 (.mv (.i 0))]) (.seq (.seq (.reg [.q 10 (.fa 0 (.t 2)),.l 11 (.ld1 (.t 10)),.q 12 (.bin .neq true (.t 11) (.i 5)),.v 13 12,⟨some 14,(some (13,true)),.q (.fa 0 (.t 2))⟩,⟨some 15,(some (13,true)),.l (.ld1 (.t 14))⟩,⟨some 16,(some (13,true)),.q (.bin .neq true (.t 15) (.i 6))⟩,.a 17 (.pick (.t 13) (.t 16) (.k (.bool false))),.v 18 17,⟨some 19,(some (18,true)),.q (.fa 3 (.t 2))⟩,⟨some 20,(some (18,true)),.l (.ld1 (.t 19))⟩,⟨some 21,(some (18,true)),.q (.lnL (.t 20))⟩,⟨some 22,(some (18,true)),.q (.bin .eql true (.t 21) (.i 0))⟩,.a 23 (.pick (.t 18) (.t 22) (.k (.bool false))),.v 24 23,⟨some 25,(some (24,true)),.q (.fa 4 (.t 2))⟩,⟨some 26,(some (24,true)),.l (.ld1 (.t 25))⟩,⟨some 27,(some (24,true)),.q (.lnL (.t 26))⟩,⟨some 28,(some (24,true)),.q (.bin .eql true (.t 27) (.i 0))⟩,.a 29 (.pick (.t 24) (.t 28) (.k (.bool false)))]) (.cond (.t 29) (.seq (.reg [.q 4 (.mv (.i 0))]) .ret) .skip)) (.seq (.reg [.q 5 (.mv (.i 0))]) (.seq (.seq (.reg [.q 30 (.fa 3 (.t 2)),.l 31 (.ld1 (.t 30)),.q 32 (.lnL (.t 31)),.q 33 (.mv (.i 0))]) (.block 0 (.loop (.seq (.reg [.q 34 (.bin .lss true (.t 33) (.t 32))]) (.seq (.cond (.t 34) .skip (.exit 0)) (.seq (.block 1 (.seq (.reg [.l 35 (.ia 5 (.t 31) (.t 33)),.l 36 (.ldn 5 (.t 35)),.e 7 (.al (.agg #[(.int .i64 0),(.int .i64 0),(.string (mk [])),(.slice none 0 0),(.slice none 0 0)]) 32),.s (.st 5 (.t 7) (.t 36))]) (.seq (.reg [.v 37 5,.v 38 1,.q 39 (.bin .leq true (.t 37) (.t 38))]) (.cond (.t 39) (.reg [.v 40 5,.l 41 (.ldn 5 (.t 7)),.v 42 1,.q 43 (.bin .sub true (.t 42) (.i 1)),.a 44 (.cq 52 [(.t 41),(.t 43)]),.q 45 (.mx true (.t 40) (.t 44)),.v 5 45]) .skip)))) (.reg [.q 46 (.bin .add true (.t 33) (.i 1)),.v 33 46]))))))) (.seq (.seq (.reg [.q 47 (.fa 4 (.t 2)),.l 48 (.ld1 (.t 47)),.q 49 (.lnL (.t 48)),.q 50 (.mv (.i 0))]) (.block 2 (.loop (.seq (.reg [.q 51 (.bin .lss true (.t 50) (.t 49))]) (.seq (.cond (.t 51) .skip (.exit 2)) (.seq (.block 3 (.seq (.reg [.l 52 (.ia 6 (.t 48) (.t 50)),.l 53 (.ldn 6 (.t 52)),.e 9 (.al (.agg #[(.int .i64 0),(.int .i64 0),(.int .i64 0),(.string (mk [])),(.slice none 0 0),(.slice none 0 0)]) 57),.s (.st 6 (.t 9) (.t 53))]) (.seq (.reg [.v 54 5,.v 55 1,.q 56 (.bin .leq true (.t 54) (.t 55))]) (.cond (.t 56) (.reg [.v 57 5,.q 58 (.fa 1 (.t 9)),.l 59 (.ldn 5 (.t 58)),.v 60 1,.q 61 (.bin .sub true (.t 60) (.i 1)),.a 62 (.cq 52 [(.t 59),(.t 61)]),.q 63 (.mx true (.t 57) (.t 62)),.v 5 63]) .skip)))) (.reg [.q 64 (.bin .add true (.t 50) (.i 1)),.v 50 64]))))))) (.seq (.reg [.v 65 5,.q 66 (.bin .add true (.i 1) (.t 65)),.v 4 66]) .ret)))))
def UF:List RV:=[.mv (.t 4)]
theorem aOW:aM Tryz.prog true ⟨fun r k=>if r=8/\k=4 then .q else if r=14/\k=5 then .q else .own [],fun _=>false⟩ Tryz.f52=some (Q5,UF):=by kernel_rfl
def wA:PC:=.seq (.reg [.e 3 (.bx 105 (.t 0)),.e 4 (.bx 28 (.t 1)),.e 5 (.bx 32 (.t 2)),.q 6 (.mv (.i 0))]) (.seq (.seq (.reg [.l 8 (.ldn 3 (.t 3)),.l 9 (.ldn 4 (.t 4)),.a 10 (.cq 90 [(.t 8),(.t 9)]),.q 11 (.not (.t 10)),.v 12 11,⟨some 13,(some (12,false)),.q (.fa 0 (.t 5))⟩,⟨some 14,(some (12,false)),.l (.ld1 (.t 13))⟩,⟨some 15,(some (12,false)),.q (.fa 0 (.t 4))⟩,⟨some 16,(some (12,false)),.l (.ld1 (.t 15))⟩,⟨some 17,(some (12,false)),.q (.bin .neq true (.t 14) (.t 16))⟩,.a 18 (.pick (.t 12) (.k (.bool true)) (.t 17))]) (.cond (.t 18) (.seq (.reg [.q 6 (.mv (.i 13))]) .ret) .skip)) (.seq (.reg [.l 19 (.ldn 3 (.t 3)),.q 20 (.mh 91 [(.t 19)]),.v 7 20]) (.seq (.seq (.reg [.q 21 (.fa 0 (.t 4)),.l 22 (.ld1 (.t 21))]) (.block 0 (.seq (.reg [.q 24 (.bin .eql true (.t 22) (.i 4)),.v 23 24]) (.cond (.t 23) (.reg [.l 25 (.ldn 3 (.t 3)),.q 26 (.mh 92 [(.t 25)]),.v 7 26]) (.seq (.reg [.q 28 (.bin .eql true (.t 22) (.i 5)),.v 27 28]) (.cond (.t 27) (.reg [.l 29 (.ldn 3 (.t 3)),.q 30 (.mh 93 [(.t 29)]),.v 7 30]) (.seq (.reg [.q 32 (.bin .eql true (.t 22) (.i 6)),.v 31 32]) (.cond (.t 31) (.reg [.l 33 (.ldn 3 (.t 3)),.q 34 (.mh 94 [(.t 33)]),.v 7 34]) .skip)))))))) (.seq (.reg [.v 35 7,.l 36 (.ldn 4 (.t 4)),.l 37 (.ldn 5 (.t 5)),.a 38 (.ca (.t 35) [(.t 36),(.t 37)] []),.v 6 38]) .ret))))
def wF:List RV:=[.mv (.t 6)]
theorem aL8:aM Tryz.prog true ⟨fun r k=>if r=1/\k=2 then .q else .own [],fun _=>false⟩ Tryz.f53=some (wA,wF):=by kernel_rfl
def aE7:PC:=.seq (.reg [.e 2 (.bx 25 (.t 0)),.e 3 (.bx 28 (.t 1)),.e 4 (.al (.agg #[(.int .i64 0),(.int .i64 0),(.string (mk [])),(.slice none 0 0),(.slice none 0 0)]) 32)]) (.seq (.reg [.l 5 (.ldn 3 (.t 2)),.q 6 (.bd [(.int .i64 0),(.slice none 0 0),(.slice none 0 0)] [(0,3,(.t 5))]),.l 7 (.ldn 4 (.t 3)),.a 8 (.cl 114 [(.t 6),(.t 7),(.i 22)] []),.s (.st 5 (.t 4) (.t 8))]) .ret)
def aEJ:List RV:=[.ld (.ldn 5 (.t 4))]
theorem aPA:aM Tryz.prog true ⟨fun _ _=>.own [],fun _=>false⟩ Tryz.f71=some (aE7,aEJ):=by kernel_rfl
def nB:PC:=.seq (.gh (.reg [.v 31 5,.v 32 31,⟨some 33,(some (32,true)),.q (.fa 1 (.t 3))⟩,⟨some 34,(some (32,true)),.l (.ld1 (.t 33))⟩,⟨some 35,(some (32,true)),.q (.bin .eql true (.t 34) (.i 8))⟩,⟨some 36,(some (32,true)),.q (.mv (.t 35))⟩,⟨some 37,(some (36,false)),.q (.fa 1 (.t 3))⟩,⟨some 38,(some (36,false)),.l (.ld1 (.t 37))⟩,⟨some 39,(some (36,false)),.q (.bin .eql true (.t 38) (.i 16))⟩,⟨some 40,(some (32,true)),.pick (.t 36) (.k (.bool true)) (.t 39)⟩,⟨some 41,(some (32,true)),.q (.mv (.t 40))⟩,⟨some 42,(some (41,false)),.q (.fa 1 (.t 3))⟩,⟨some 43,(some (41,false)),.l (.ld1 (.t 42))⟩,⟨some 44,(some (41,false)),.q (.bin .eql true (.t 43) (.i 32))⟩,⟨some 45,(some (32,true)),.pick (.t 41) (.k (.bool true)) (.t 44)⟩,⟨some 46,(some (32,true)),.q (.mv (.t 45))⟩,⟨some 47,(some (46,false)),.q (.fa 1 (.t 3))⟩,⟨some 48,(some (46,false)),.l (.ld1 (.t 47))⟩,⟨some 49,(some (46,false)),.q (.bin .eql true (.t 48) (.i 64))⟩,⟨some 50,(some (32,true)),.pick (.t 46) (.k (.bool true)) (.t 49)⟩,.a 51 (.pick (.t 32) (.t 50) (.k (.bool false))),.v 4 51])) .ret
@[go_sem ↓] theorem aPO:a6 nB:=a7 _
def pC:PC:=.seq (.gh (.reg [.v 54 5,.v 55 54,⟨some 56,(some (55,true)),.q (.fa 1 (.t 3))⟩,⟨some 57,(some (55,true)),.l (.ld1 (.t 56))⟩,⟨some 58,(some (55,true)),.q (.bin .eql true (.t 57) (.i 8))⟩,⟨some 59,(some (55,true)),.q (.mv (.t 58))⟩,⟨some 60,(some (59,false)),.q (.fa 1 (.t 3))⟩,⟨some 61,(some (59,false)),.l (.ld1 (.t 60))⟩,⟨some 62,(some (59,false)),.q (.bin .eql true (.t 61) (.i 16))⟩,⟨some 63,(some (55,true)),.pick (.t 59) (.k (.bool true)) (.t 62)⟩,⟨some 64,(some (55,true)),.q (.mv (.t 63))⟩,⟨some 65,(some (64,false)),.q (.fa 1 (.t 3))⟩,⟨some 66,(some (64,false)),.l (.ld1 (.t 65))⟩,⟨some 67,(some (64,false)),.q (.bin .eql true (.t 66) (.i 32))⟩,⟨some 68,(some (55,true)),.pick (.t 64) (.k (.bool true)) (.t 67)⟩,.a 69 (.pick (.t 55) (.t 68) (.k (.bool false))),.v 4 69])) .ret
@[go_sem ↓] theorem aNA:a6 pC:=a7 _
def kM:PC:=.seq (.gh (.reg [.q 85 (.fa 2 (.t 3)),.l 86 (.ld1 (.t 85)),.q 87 (.bin .eql true (.t 86) (.k (.string (mk [])))),.v 88 87,⟨some 89,(some (88,true)),.q (.fa 1 (.t 3))⟩,⟨some 90,(some (88,true)),.l (.ld1 (.t 89))⟩,⟨some 91,(some (88,true)),.q (.bin .geq true (.t 90) (.i 1))⟩,.a 92 (.pick (.t 88) (.t 91) (.k (.bool false))),.v 93 92,⟨some 94,(some (93,true)),.q (.fa 1 (.t 3))⟩,⟨some 95,(some (93,true)),.l (.ld1 (.t 94))⟩,⟨some 96,(some (93,true)),.q (.bin .leq true (.t 95) (.i 32))⟩,.a 97 (.pick (.t 93) (.t 96) (.k (.bool false))),.v 98 97,⟨some 99,(some (98,true)),.q (.fa 3 (.t 3))⟩,⟨some 100,(some (98,true)),.l (.ld1 (.t 99))⟩,⟨some 101,(some (98,true)),.q (.lnL (.t 100))⟩,⟨some 102,(some (98,true)),.q (.bin .eql true (.t 101) (.i 1))⟩,.a 103 (.pick (.t 98) (.t 102) (.k (.bool false))),.v 104 103,⟨some 105,(some (104,true)),.l (.ldn 3 (.t 2))⟩,⟨some 106,(some (104,true)),.q (.fa 3 (.t 3))⟩,⟨some 107,(some (104,true)),.l (.ld1 (.t 106))⟩,⟨some 108,(some (104,true)),.l (.ia 4 (.t 107) (.i 0))⟩,⟨some 109,(some (104,true)),.l (.ldn 4 (.t 108))⟩,⟨some 110,(some (104,true)),.cq 90 [(.t 105),(.t 109)]⟩,.a 111 (.pick (.t 104) (.t 110) (.k (.bool false))),.v 4 111])) .ret
@[go_sem ↓] theorem aJW:a6 kM:=a7 _
def BN:PC:=.seq (.gh (.reg [.v 122 7,.v 123 122,⟨some 124,(some (123,true)),.q (.fa 1 (.t 3))⟩,⟨some 125,(some (123,true)),.l (.ld1 (.t 124))⟩,⟨some 126,(some (123,true)),.q (.bin .eql true (.t 125) (.i 0))⟩,.a 127 (.pick (.t 123) (.t 126) (.k (.bool false))),.v 128 127,⟨some 129,(some (128,true)),.q (.fa 3 (.t 3))⟩,⟨some 130,(some (128,true)),.l (.ld1 (.t 129))⟩,⟨some 131,(some (128,true)),.q (.lnL (.t 130))⟩,⟨some 132,(some (128,true)),.q (.bin .eql true (.t 131) (.i 0))⟩,.a 133 (.pick (.t 128) (.t 132) (.k (.bool false))),.v 4 133])) .ret
@[go_sem ↓] theorem aJG:a6 BN:=a7 _
def A9:PC:=.seq (.gh (.reg [.q 115 (.fa 0 (.t 2)),.l 116 (.ldn 3 (.t 115)),.q 117 (.fa 2 (.t 3)),.l 118 (.ld1 (.t 117)),.a 119 (.cl 103 [(.t 116),(.t 118)] []),.v 114 119,.q 120 (.ex (.t 114) 0),.q 121 (.ex (.t 114) 1),.e 6 (.al (.agg #[(.string (mk [])),(.slice none 0 0)]) 95),.s (.st 2 (.t 6) (.t 120)),.v 7 121])) (BN)
@[go_sem ↓] theorem aJO:a6 A9:=a7 _
def AL:PC:=.seq (.gh (.reg [.v 144 9,.v 145 144,⟨some 146,(some (145,true)),.q (.fa 1 (.t 3))⟩,⟨some 147,(some (145,true)),.l (.ld1 (.t 146))⟩,⟨some 148,(some (145,true)),.q (.bin .eql true (.t 147) (.i 0))⟩,.a 149 (.pick (.t 145) (.t 148) (.k (.bool false))),.v 150 149,⟨some 151,(some (150,true)),.q (.fa 3 (.t 3))⟩,⟨some 152,(some (150,true)),.l (.ld1 (.t 151))⟩,⟨some 153,(some (150,true)),.q (.lnL (.t 152))⟩,⟨some 154,(some (150,true)),.q (.bin .eql true (.t 153) (.i 0))⟩,.a 155 (.pick (.t 150) (.t 154) (.k (.bool false))),.v 4 155])) .ret
@[go_sem ↓] theorem aKB:a6 AL:=a7 _
def AH:PC:=.seq (.gh (.reg [.q 137 (.fa 0 (.t 2)),.l 138 (.ldn 3 (.t 137)),.q 139 (.fa 2 (.t 3)),.l 140 (.ld1 (.t 139)),.a 141 (.cl 98 [(.t 138),(.t 140)] []),.v 136 141,.q 142 (.ex (.t 136) 0),.q 143 (.ex (.t 136) 1),.e 8 (.al (.agg #[(.string (mk [])),(.slice none 0 0),(.slice none 0 0)]) 92),.s (.st 3 (.t 8) (.t 142)),.v 9 143])) (AL)
@[go_sem ↓] theorem aJT:a6 AH:=a7 _
def BR:PC:=.seq (.gh (.reg [.q 135 (.bin .eql true (.t 20) (.i 7)),.v 134 135])) (.cond (.t 134) (AH) .skip)
@[go_sem ↓] theorem aJK:a6 BR:=a7 _
def AS:PC:=.seq (.gh (.reg [.q 113 (.bin .eql true (.t 20) (.i 6)),.v 112 113])) (.cond (.t 112) (A9) (BR))
@[go_sem ↓] theorem aJU:a6 AS:=a7 _
def BS:PC:=.seq (.gh (.reg [.q 84 (.bin .eql true (.t 20) (.i 5)),.v 83 84])) (.cond (.t 83) (kM) (AS))
@[go_sem ↓] theorem aKI:a6 BS:=a7 _
def FV:PC:=.seq (.gh (.reg [.q 71 (.bin .eql true (.t 20) (.i 4)),.v 70 71])) (.cond (.t 70) (.seq (.reg [.v 72 5,.v 73 72,⟨some 74,(some (73,true)),.q (.fa 1 (.t 3))⟩,⟨some 75,(some (73,true)),.l (.ld1 (.t 74))⟩,⟨some 76,(some (73,true)),.q (.bin .geq true (.t 75) (.i 1))⟩,.a 77 (.pick (.t 73) (.t 76) (.k (.bool false))),.v 78 77,⟨some 79,(some (78,true)),.q (.fa 1 (.t 3))⟩,⟨some 80,(some (78,true)),.l (.ld1 (.t 79))⟩,⟨some 81,(some (78,true)),.q (.bin .leq true (.t 80) (.i 2000))⟩,.a 82 (.pick (.t 78) (.t 81) (.k (.bool false))),.v 4 82]) .ret) (BS))
@[go_sem ↓] theorem aLS:a6 FV:=a7 _
def GZ:PC:=.seq (.gh (.reg [.q 53 (.bin .eql true (.t 20) (.i 3)),.v 52 53])) (.cond (.t 52) (pC) (FV))
@[go_sem ↓] theorem aK7:a6 GZ:=a7 _
def GE:PC:=.seq (.gh (.reg [.q 30 (.bin .eql true (.t 20) (.i 2)),.v 29 30])) (.cond (.t 29) (nB) (GZ))
@[go_sem ↓] theorem aO1:a6 GE:=a7 _
def aCH:PC:=.seq (.reg [.e 2 (.bx 105 (.t 0)),.e 3 (.bx 28 (.t 1)),.q 4 (.mv (.k (.bool false)))]) (.seq (.reg [.q 10 (.fa 2 (.t 3)),.l 11 (.ld1 (.t 10)),.q 12 (.bin .eql true (.t 11) (.k (.string (mk [])))),.v 13 12,⟨some 14,(some (13,true)),.q (.fa 3 (.t 3))⟩,⟨some 15,(some (13,true)),.l (.ld1 (.t 14))⟩,⟨some 16,(some (13,true)),.q (.lnL (.t 15))⟩,⟨some 17,(some (13,true)),.q (.bin .eql true (.t 16) (.i 0))⟩,.a 18 (.pick (.t 13) (.t 17) (.k (.bool false))),.v 5 18]) (.seq (.seq (.reg [.q 19 (.fa 0 (.t 3)),.l 20 (.ld1 (.t 19))]) (.block 0 (.seq (.reg [.q 22 (.bin .eql true (.t 20) (.i 1)),.v 21 22]) (.cond (.t 21) (.seq (.reg [.v 23 5,.v 24 23,⟨some 25,(some (24,true)),.q (.fa 1 (.t 3))⟩,⟨some 26,(some (24,true)),.l (.ld1 (.t 25))⟩,⟨some 27,(some (24,true)),.q (.bin .eql true (.t 26) (.i 0))⟩,.a 28 (.pick (.t 24) (.t 27) (.k (.bool false))),.v 4 28]) .ret) (GE))))) (.seq (.reg [.q 4 (.mv (.k (.bool false)))]) .ret)))
def aB2:List RV:=[.mv (.t 4)]
theorem aNQ:aM Tryz.prog true ⟨fun r k=>if r=12/\k=25 then .q else .own [],fun r=>[5,6,7,8,9,11,12,13,14,15,16,17,18].contains r⟩ Tryz.f90=some (aCH,aB2):=by kernel_rfl
def FX:PC:=.gh (.reg [.q 29 (.fa 1 (.t 5)),.l 30 (.ld1 (.t 29)),.q 31 (.bin .eql true (.t 30) (.i 0)),.v 32 31,⟨some 33,(some (32,false)),.q (.fa 1 (.t 5))⟩,⟨some 34,(some (32,false)),.l (.ld1 (.t 33))⟩,⟨some 35,(some (32,false)),.q (.bin .eql true (.t 34) (.i 1))⟩,.a 36 (.pick (.t 32) (.k (.bool true)) (.t 35)),.v 7 36])
@[go_sem ↓] theorem aM5:a6 FX:=a7 _
def yG:PC:=.gh (.reg [.q 39 (.fa 1 (.t 4)),.l 40 (.ld1 (.t 39)),.q 41 (.bin .eql true (.t 40) (.i 64)),.v 42 41,⟨some 43,(some (42,false)),.q (.fa 1 (.t 5))⟩,⟨some 44,(some (42,false)),.l (.ld1 (.t 43))⟩,⟨some 45,(some (42,false)),.q (.fa 1 (.t 4))⟩,⟨some 46,(some (42,false)),.l (.ld1 (.t 45))⟩,⟨some 47,(some (42,false)),.q (.bin .sub true (.t 46) (.i 1))⟩,⟨some 48,(some (42,false)),.q (.bin .shl true (.i (-1)) (.t 47))⟩,⟨some 49,(some (42,false)),.q (.bin .geq true (.t 44) (.t 48))⟩,⟨some 50,(some (42,false)),.q (.mv (.t 49))⟩,⟨some 51,(some (50,true)),.q (.fa 1 (.t 5))⟩,⟨some 52,(some (50,true)),.l (.ld1 (.t 51))⟩,⟨some 53,(some (50,true)),.q (.fa 1 (.t 4))⟩,⟨some 54,(some (50,true)),.l (.ld1 (.t 53))⟩,⟨some 55,(some (50,true)),.q (.bin .sub true (.t 54) (.i 1))⟩,⟨some 56,(some (50,true)),.q (.bin .shl true (.i 1) (.t 55))⟩,⟨some 57,(some (50,true)),.q (.bin .lss true (.t 52) (.t 56))⟩,⟨some 58,(some (42,false)),.pick (.t 50) (.t 57) (.k (.bool false))⟩,.a 59 (.pick (.t 42) (.k (.bool true)) (.t 58)),.v 7 59])
@[go_sem ↓] theorem aMW:a6 yG:=a7 _
def BI:PC:=.gh (.reg [.q 62 (.fa 1 (.t 5)),.l 63 (.ld1 (.t 62)),.q 64 (.bin .geq true (.t 63) (.i 0)),.v 65 64,⟨some 66,(some (65,true)),.q (.fa 1 (.t 5))⟩,⟨some 67,(some (65,true)),.l (.ld1 (.t 66))⟩,⟨some 68,(some (65,true)),.q (.fa 1 (.t 4))⟩,⟨some 69,(some (65,true)),.l (.ld1 (.t 68))⟩,⟨some 70,(some (65,true)),.q (.bin .shl true (.i 1) (.t 69))⟩,⟨some 71,(some (65,true)),.q (.bin .lss true (.t 67) (.t 70))⟩,.a 72 (.pick (.t 65) (.t 71) (.k (.bool false))),.v 7 72])
@[go_sem ↓] theorem aJJ:a6 BI:=a7 _
def BV:PC:=.gh (.reg [.q 83 (.fa 2 (.t 8)),.l 84 (.ld1 (.t 83)),.q 85 (.mf 118 [(.t 5)]),.a 86 (.cl 117 [(.t 84),(.t 85)] [2]),.v 7 86])
@[go_sem ↓] theorem aJY:a6 BV:=a7 _
def BO:PC:=.seq (.gh (.reg [.q 76 (.fa 0 (.t 3)),.l 77 (.ldn 3 (.t 76)),.q 78 (.fa 2 (.t 4)),.l 79 (.ld1 (.t 78)),.a 80 (.cl 98 [(.t 77),(.t 79)] []),.v 75 80,.q 81 (.ex (.t 75) 0),.q 82 (.ex (.t 75) 1),.e 8 (.al (.agg #[(.string (mk [])),(.slice none 0 0),(.slice none 0 0)]) 92),.s (.st 3 (.t 8) (.t 81)),.v 9 82])) (BV)
@[go_sem ↓] theorem aJ8:a6 BO:=a7 _
def AO:PC:=.seq (.gh (.reg [.q 74 (.bin .eql true (.t 26) (.i 7)),.v 73 74])) (.cond (.t 73) (BO) .skip)
@[go_sem ↓] theorem aJQ:a6 AO:=a7 _
def F0:PC:=.seq (.gh (.reg [.q 61 (.bin .eql true (.t 26) (.i 3)),.v 60 61])) (.cond (.t 60) (BI) (AO))
@[go_sem ↓] theorem aNH:a6 F0:=a7 _
def IS:PC:=.seq (.gh (.reg [.q 38 (.bin .eql true (.t 26) (.i 2)),.v 37 38])) (.cond (.t 37) (yG) (F0))
@[go_sem ↓] theorem aPH:a6 IS:=a7 _
def jK:PC:=.seq (.seq (.gh (.reg [.v 87 7,.q 88 (.not (.t 87))])) (.cond (.t 88) (.seq (.reg [.q 6 (.mv (.i 4))]) .ret) .skip)) (.seq (.reg [.q 6 (.mv (.i 0))]) .ret)
@[go_sem ↓] theorem aJL:a6 jK:=a7 _
def FU:PC:=.seq (.reg [.e 3 (.bx 105 (.t 0)),.e 4 (.bx 28 (.t 1)),.e 5 (.bx 32 (.t 2)),.q 6 (.mv (.i 0))]) (.seq (.seq (.reg [.q 10 (.fa 2 (.t 5)),.l 11 (.ld1 (.t 10)),.q 12 (.bin .neq true (.t 11) (.k (.string (mk [])))),.v 13 12,⟨some 14,(some (13,false)),.q (.fa 3 (.t 5))⟩,⟨some 15,(some (13,false)),.l (.ld1 (.t 14))⟩,⟨some 16,(some (13,false)),.q (.lnL (.t 15))⟩,⟨some 17,(some (13,false)),.q (.bin .gtr true (.t 16) (.i 0))⟩,.a 18 (.pick (.t 13) (.k (.bool true)) (.t 17)),.v 19 18,⟨some 20,(some (19,false)),.q (.fa 4 (.t 5))⟩,⟨some 21,(some (19,false)),.l (.ld1 (.t 20))⟩,⟨some 22,(some (19,false)),.q (.lnL (.t 21))⟩,⟨some 23,(some (19,false)),.q (.bin .gtr true (.t 22) (.i 0))⟩,.a 24 (.pick (.t 19) (.k (.bool true)) (.t 23))]) (.cond (.t 24) (.seq (.reg [.q 6 (.mv (.i 13))]) .ret) .skip)) (.seq (.reg [.q 7 (.mv (.k (.bool false)))]) (.seq (.seq (.reg [.q 25 (.fa 0 (.t 4)),.l 26 (.ld1 (.t 25))]) (.block 0 (.seq (.reg [.q 28 (.bin .eql true (.t 26) (.i 1)),.v 27 28]) (.cond (.t 27) (FX) (IS))))) (jK))))
def HO:List RV:=[.mv (.t 6)]
theorem aMG:aM Tryz.prog true ⟨fun r k=>if r=13/\k=3 then .own [2] else .own [],fun r=>[7,9,11,12,14,6,8,10,13].contains r⟩ Tryz.f91=some (FU,HO):=by kernel_rfl
def aEQ:PC:=.seq (.reg [.e 3 (.bx 105 (.t 0)),.e 4 (.bx 28 (.t 1)),.e 5 (.bx 32 (.t 2)),.q 6 (.mv (.i 0))]) (.seq (.block 0 (.seq (.reg [.q 8 (.fa 1 (.t 5)),.l 9 (.ld1 (.t 8)),.q 10 (.bin .neq true (.t 9) (.i 0)),.v 11 10,⟨some 12,(some (11,false)),.q (.fa 3 (.t 5))⟩,⟨some 13,(some (11,false)),.l (.ld1 (.t 12))⟩,⟨some 14,(some (11,false)),.q (.lnL (.t 13))⟩,⟨some 15,(some (11,false)),.q (.bin .gtr true (.t 14) (.i 0))⟩,.a 16 (.pick (.t 11) (.k (.bool true)) (.t 15)),.v 17 16,⟨some 18,(some (17,false)),.q (.fa 4 (.t 5))⟩,⟨some 19,(some (17,false)),.l (.ld1 (.t 18))⟩,⟨some 20,(some (17,false)),.q (.lnL (.t 19))⟩,⟨some 21,(some (17,false)),.q (.bin .gtr true (.t 20) (.i 0))⟩,.a 22 (.pick (.t 17) (.k (.bool true)) (.t 21)),.v 7 22]) (.cond (.t 7) (.seq (.reg [.q 6 (.mv (.i 13))]) .ret) (.seq (.reg [.q 24 (.fa 2 (.t 5)),.l 25 (.ld1 (.t 24)),.q 26 (.lnS (.t 25)),.q 27 (.fa 1 (.t 4)),.l 28 (.ld1 (.t 27)),.q 29 (.bin .gtr true (.t 26) (.t 28)),.v 23 29]) (.cond (.t 23) (.seq (.reg [.q 6 (.mv (.i 3))]) .ret) .skip))))) (.seq (.reg [.q 6 (.mv (.i 0))]) .ret))
def aBX:List RV:=[.mv (.t 6)]
theorem aO7:aM Tryz.prog true ⟨fun _ _=>.own [],fun _=>false⟩ Tryz.f92=some (aEQ,aBX):=by kernel_rfl
def M6:PC:=.seq (.reg [.e 3 (.bx 105 (.t 0)),.e 4 (.bx 28 (.t 1)),.e 5 (.bx 32 (.t 2)),.q 6 (.mv (.i 0))]) (.seq (.block 0 (.seq (.reg [.q 11 (.fa 1 (.t 5)),.l 12 (.ld1 (.t 11)),.q 13 (.bin .neq true (.t 12) (.i 0)),.v 14 13,⟨some 15,(some (14,false)),.q (.fa 2 (.t 5))⟩,⟨some 16,(some (14,false)),.l (.ld1 (.t 15))⟩,⟨some 17,(some (14,false)),.q (.bin .neq true (.t 16) (.k (.string (mk []))))⟩,.a 18 (.pick (.t 14) (.k (.bool true)) (.t 17)),.v 19 18,⟨some 20,(some (19,false)),.q (.fa 4 (.t 5))⟩,⟨some 21,(some (19,false)),.l (.ld1 (.t 20))⟩,⟨some 22,(some (19,false)),.q (.lnL (.t 21))⟩,⟨some 23,(some (19,false)),.q (.bin .gtr true (.t 22) (.i 0))⟩,.a 24 (.pick (.t 19) (.k (.bool true)) (.t 23)),.v 10 24]) (.cond (.t 10) (.seq (.reg [.q 6 (.mv (.i 13))]) .ret) (.seq (.reg [.q 26 (.fa 3 (.t 5)),.l 27 (.ld1 (.t 26)),.q 28 (.lnL (.t 27)),.q 29 (.fa 1 (.t 4)),.l 30 (.ld1 (.t 29)),.q 31 (.bin .gtr true (.t 28) (.t 30)),.v 25 31]) (.cond (.t 25) (.seq (.reg [.q 6 (.mv (.i 3))]) .ret) .skip))))) (.seq (.seq (.reg [.q 32 (.fa 3 (.t 5)),.l 33 (.ld1 (.t 32)),.q 34 (.lnL (.t 33)),.q 35 (.mv (.i 0))]) (.block 1 (.loop (.seq (.reg [.q 36 (.bin .lss true (.t 35) (.t 34))]) (.seq (.cond (.t 36) .skip (.exit 1)) (.seq (.block 2 (.seq (.reg [.l 37 (.ia 5 (.t 33) (.t 35)),.l 38 (.ldn 5 (.t 37)),.e 8 (.al (.agg #[(.int .i64 0),(.int .i64 0),(.string (mk [])),(.slice none 0 0),(.slice none 0 0)]) 32),.s (.st 5 (.t 8) (.t 38))]) (.seq (.reg [.l 39 (.ldn 3 (.t 3)),.q 40 (.fa 3 (.t 4)),.l 41 (.ld1 (.t 40)),.l 42 (.ia 4 (.t 41) (.i 0)),.l 43 (.ldn 4 (.t 42)),.l 44 (.ldn 5 (.t 8)),.a 45 (.cq 53 [(.t 39),(.t 43),(.t 44)]),.v 9 45]) (.seq (.reg [.v 46 9,.q 47 (.bin .neq true (.t 46) (.i 0))]) (.cond (.t 47) (.seq (.reg [.v 48 9,.v 6 48]) .ret) .skip))))) (.reg [.q 49 (.bin .add true (.t 35) (.i 1)),.v 35 49]))))))) (.seq (.reg [.q 6 (.mv (.i 0))]) .ret)))
def MR:List RV:=[.mv (.t 6)]
theorem aNL:aM Tryz.prog true ⟨fun r k=>if r=8/\k=6 then .q else .own [],fun _=>false⟩ Tryz.f93=some (M6,MR):=by kernel_rfl
def zM:PC:=.seq (.gh (.reg [.v 63 13,.q 64 (.bin .neq true (.t 63) (.i 0))])) (.cond (.t 64) (.seq (.reg [.v 65 13,.v 6 65]) .ret) .skip)
@[go_sem ↓] theorem aOT:a6 zM:=a7 _
def FG:PC:=.seq (.gh (.reg [.l 57 (.ldn 3 (.t 3)),.q 58 (.fa 2 (.t 11)),.l 59 (.ldn 4 (.t 58)),.q 60 (.fa 1 (.t 10)),.l 61 (.ldn 5 (.t 60)),.a 62 (.cq 53 [(.t 57),(.t 59),(.t 61)]),.v 13 62])) (zM)
@[go_sem ↓] theorem aOY:a6 FG:=a7 _
def HF:PC:=.seq (.gh (.reg [.l 51 (.ldn 2 (.t 7)),.q 52 (.fa 0 (.t 10)),.l 53 (.ld1 (.t 52)),.a 54 (.cl 104 [(.t 51),(.t 53)] []),.v 50 54,.q 55 (.ex (.t 50) 0),.q 56 (.ex (.t 50) 1),.e 11 (.al (.agg #[(.int .i64 0),(.string (mk [])),(.int .i64 0),(.int .i64 0),(.string (mk [])),(.slice none 0 0),(.bool false)]) 97),.s (.st 7 (.t 11) (.t 55)),.v 12 56])) (FG)
@[go_sem ↓] theorem aLQ:a6 HF:=a7 _
def xY:PC:=.seq (.seq (.gh (.reg [.q 22 (.fa 1 (.t 5)),.l 23 (.ld1 (.t 22)),.q 24 (.bin .neq true (.t 23) (.i 0)),.v 25 24,⟨some 26,(some (25,false)),.q (.fa 2 (.t 5))⟩,⟨some 27,(some (25,false)),.l (.ld1 (.t 26))⟩,⟨some 28,(some (25,false)),.q (.bin .neq true (.t 27) (.k (.string (mk []))))⟩,.a 29 (.pick (.t 25) (.k (.bool true)) (.t 28)),.v 30 29,⟨some 31,(some (30,false)),.q (.fa 3 (.t 5))⟩,⟨some 32,(some (30,false)),.l (.ld1 (.t 31))⟩,⟨some 33,(some (30,false)),.q (.lnL (.t 32))⟩,⟨some 34,(some (30,false)),.q (.bin .gtr true (.t 33) (.i 0))⟩,.a 35 (.pick (.t 30) (.k (.bool true)) (.t 34)),.v 36 35,⟨some 37,(some (36,false)),.l (.ldn 2 (.t 7))⟩,⟨some 38,(some (36,false)),.q (.fa 4 (.t 5))⟩,⟨some 39,(some (36,false)),.l (.ld1 (.t 38))⟩,⟨some 40,(some (36,false)),.cq 119 [(.t 37),(.t 39)]⟩,⟨some 41,(some (36,false)),.q (.not (.t 40))⟩,.a 42 (.pick (.t 36) (.k (.bool true)) (.t 41))])) (.cond (.t 42) (.seq (.reg [.q 6 (.mv (.i 13))]) .ret) .skip)) (.seq (.seq (.reg [.q 43 (.fa 4 (.t 5)),.l 44 (.ld1 (.t 43)),.q 45 (.lnL (.t 44)),.q 46 (.mv (.i 0))]) (.block 0 (.loop (.seq (.reg [.q 47 (.bin .lss true (.t 46) (.t 45))]) (.seq (.cond (.t 47) .skip (.exit 0)) (.seq (.block 1 (.seq (.reg [.l 48 (.ia 6 (.t 44) (.t 46)),.l 49 (.ldn 6 (.t 48)),.e 10 (.al (.agg #[(.int .i64 0),(.int .i64 0),(.int .i64 0),(.string (mk [])),(.slice none 0 0),(.slice none 0 0)]) 57),.s (.st 6 (.t 10) (.t 49))]) (HF))) (.reg [.q 66 (.bin .add true (.t 46) (.i 1)),.v 46 66]))))))) (.seq (.reg [.q 6 (.mv (.i 0))]) .ret))
@[go_sem ↓] theorem aN4:a6 xY:=a7 _
def aFS:PC:=.seq (.reg [.e 3 (.bx 105 (.t 0)),.e 4 (.bx 28 (.t 1)),.e 5 (.bx 32 (.t 2)),.q 6 (.mv (.i 0))]) (.seq (.reg [.q 15 (.fa 0 (.t 3)),.l 16 (.ldn 3 (.t 15)),.q 17 (.fa 2 (.t 4)),.l 18 (.ld1 (.t 17)),.a 19 (.cl 103 [(.t 16),(.t 18)] []),.v 14 19,.q 20 (.ex (.t 14) 0),.q 21 (.ex (.t 14) 1),.e 7 (.al (.agg #[(.string (mk [])),(.slice none 0 0)]) 95),.s (.st 2 (.t 7) (.t 20)),.v 8 21]) (xY))
def aB1:List RV:=[.mv (.t 6)]
theorem aLN:aM Tryz.prog true ⟨fun r k=>if r=2/\k=18 then .q else if r=8/\k=5 then .q else .own [],fun r=>[2,7,8,9].contains r⟩ Tryz.f94=some (aFS,aB1):=by kernel_rfl
def xI:PC:=.seq (.reg [.e 3 (.bx 105 (.t 0)),.e 4 (.bx 28 (.t 1)),.e 6 (.al (.agg #[(.int .i64 0),(.int .i64 0),(.string (mk [])),(.slice none 0 0),(.slice none 0 0)]) 32)]) (.seq (.seq (.reg [.v 12 2,.q 13 (.bin .lss true (.t 12) (.i 0)),.v 14 13,⟨some 15,(some (14,false)),.l (.ldn 3 (.t 3))⟩,⟨some 16,(some (14,false)),.l (.ldn 4 (.t 4))⟩,⟨some 17,(some (14,false)),.cq 90 [(.t 15),(.t 16)]⟩,⟨some 18,(some (14,false)),.q (.not (.t 17))⟩,.a 19 (.pick (.t 14) (.k (.bool true)) (.t 18))]) (.cond (.t 19) (.seq (.reg [.q 20 (.bd [(.int .i64 0),(.int .i64 0),(.string (mk [])),(.slice none 0 0),(.slice none 0 0)] []),.s (.st 5 (.t 6) (.t 20))]) .ret) .skip)) (.seq (.reg [.q 21 (.fa 0 (.t 4)),.l 22 (.ld1 (.t 21)),.q 23 (.bd [(.int .i64 0),(.int .i64 0),(.string (mk [])),(.slice none 0 0),(.slice none 0 0)] [(0,1,(.t 22))]),.e 7 (.al (.agg #[(.int .i64 0),(.int .i64 0),(.string (mk [])),(.slice none 0 0),(.slice none 0 0)]) 32),.s (.st 5 (.t 7) (.t 23))]) (.seq (.seq (.reg [.q 24 (.fa 0 (.t 4)),.l 25 (.ld1 (.t 24)),.q 26 (.bin .neq true (.t 25) (.i 6))]) (.cond (.t 26) (.seq (.reg [.l 27 (.ldn 5 (.t 7)),.s (.st 5 (.t 6) (.t 27))]) .ret) .skip)) (.seq (.reg [.q 29 (.fa 0 (.t 3)),.l 30 (.ldn 3 (.t 29)),.q 31 (.fa 2 (.t 4)),.l 32 (.ld1 (.t 31)),.a 33 (.cl 103 [(.t 30),(.t 32)] []),.v 28 33,.q 34 (.ex (.t 28) 0),.q 35 (.ex (.t 28) 1),.e 8 (.al (.agg #[(.string (mk [])),(.slice none 0 0)]) 95),.s (.st 2 (.t 8) (.t 34)),.v 9 35]) (.seq (.seq (.reg [.q 36 (.fa 1 (.t 8)),.l 37 (.ld1 (.t 36)),.q 38 (.lnL (.t 37)),.q 39 (.mv (.i 0))]) (.block 0 (.loop (.seq (.reg [.q 40 (.bin .lss true (.t 39) (.t 38))]) (.seq (.cond (.t 40) .skip (.exit 0)) (.seq (.block 1 (.seq (.reg [.l 41 (.ia 7 (.t 37) (.t 39)),.l 42 (.ldn 7 (.t 41)),.e 11 (.al (.agg #[(.int .i64 0),(.string (mk [])),(.int .i64 0),(.int .i64 0),(.string (mk [])),(.slice none 0 0),(.bool false)]) 97),.s (.st 7 (.t 11) (.t 42))]) (.seq (.reg [.q 43 (.fa 6 (.t 11)),.l 44 (.ld1 (.t 43)),.q 45 (.not (.t 44))]) (.cond (.t 45) (.ord  [.q (.q 46 (.fa 4 (.t 7))),.q (.l 47 (.ld1 (.t 46))),.q (.q 48 (.fa 0 (.t 11))),.q (.l 49 (.ld1 (.t 48))),.q (.l 50 (.ldn 3 (.t 3))),.q (.q 51 (.fa 2 (.t 11))),.q (.l 52 (.ldn 4 (.t 51))),.q (.v 53 2),.q (.q 54 (.bin .sub true (.t 53) (.i 1))),.m (.a 55 (.cl 114 [(.t 50),(.t 52),(.t 54)] [])),.rc (.q 46 (.fa 4 (.t 7))),.rc (.l 47 (.ld1 (.t 46))),.rc (.q 48 (.fa 0 (.t 11))),.rc (.l 49 (.ld1 (.t 48))),.q (.q 56 (.bd [(.int .i64 0),(.int .i64 0),(.int .i64 0),(.string (mk [])),(.slice none 0 0),(.slice none 0 0)] [(0,1,(.t 49)),(1,5,(.t 55))])),.m (.e 57 (.bsl 57 6 [(.t 56)])),.rc (.q 46 (.fa 4 (.t 7))),.rc (.l 47 (.ld1 (.t 46))),.m (.e 58 (.ap 57 6 88 (.t 47) (.t 57))),.q (.q 59 (.fa 4 (.t 7))),.m (.s (.st 1 (.t 59) (.t 58)))]) .skip)))) (.reg [.q 60 (.bin .add true (.t 39) (.i 1)),.v 39 60]))))))) (.seq (.reg [.l 61 (.ldn 5 (.t 7)),.s (.st 5 (.t 6) (.t 61))]) .ret))))))
def x8:List RV:=[.ld (.ldn 5 (.t 6))]
theorem aIW:aM Tryz.prog true ⟨fun r k=>if r=1/\k=5 then .q else .own [],fun _=>false⟩ Tryz.f114=some (xI,x8):=by kernel_rfl
def U1:PC:=.seq (.reg [.q 3 (.mv (.k (.bool false)))]) (.seq (.reg [.v 4 0,.q 5 (.fa 1 (.t 1)),.l 6 (.ld1 (.t 5)),.q 7 (.bin .eql true (.t 4) (.t 6)),.v 3 7]) .ret)
def W5:List RV:=[.mv (.t 3)]
theorem aHW:aM Tryz.prog true ⟨fun _ _=>.own [],fun _=>false⟩ Tryz.f118=some (U1,W5):=by kernel_rfl
def mT:PC:=.seq (.gh (.reg [.v 25 8,.q 26 (.not (.t 25)),.v 27 26,⟨some 28,(some (27,false)),.q (.mv (.t 5))⟩,⟨some 29,(some (27,false)),.q (.bin .gtr true (.t 28) (.i 0))⟩,⟨some 30,(some (27,false)),.q (.mv (.t 29))⟩,⟨some 31,(some (30,true)),.q (.mv (.t 1))⟩,⟨some 32,(some (30,true)),.q (.mv (.t 5))⟩,⟨some 33,(some (30,true)),.q (.bin .sub true (.t 32) (.i 1))⟩,⟨some 34,(some (30,true)),.l (.ia 6 (.t 31) (.t 33))⟩,⟨some 35,(some (30,true)),.q (.fa 0 (.t 34))⟩,⟨some 36,(some (30,true)),.l (.ld1 (.t 35))⟩,⟨some 37,(some (30,true)),.q (.fa 0 (.t 6))⟩,⟨some 38,(some (30,true)),.l (.ld1 (.t 37))⟩,⟨some 39,(some (30,true)),.q (.bin .geq true (.t 36) (.t 38))⟩,⟨some 40,(some (27,false)),.pick (.t 30) (.t 39) (.k (.bool false))⟩,.a 41 (.pick (.t 27) (.k (.bool true)) (.t 40))])) (.cond (.t 41) (.seq (.reg [.q 4 (.mv (.k (.bool false)))]) .ret) .skip)
@[go_sem ↓] theorem aKE:a6 mT:=a7 _
def BF:PC:=.seq (.gh (.reg [.l 19 (.ldn 2 (.t 2)),.q 20 (.fa 0 (.t 6)),.l 21 (.ld1 (.t 20)),.a 22 (.cl 104 [(.t 19),(.t 21)] []),.v 18 22,.q 23 (.ex (.t 18) 0),.q 24 (.ex (.t 18) 1),.e 7 (.al (.agg #[(.int .i64 0),(.string (mk [])),(.int .i64 0),(.int .i64 0),(.string (mk [])),(.slice none 0 0),(.bool false)]) 97),.s (.st 7 (.t 7) (.t 23)),.v 8 24])) (mT)
@[go_sem ↓] theorem aKG:a6 BF:=a7 _
def qH:PC:=.seq (.gh (.reg [.q 50 (.fa 6 (.t 10)),.l 51 (.ld1 (.t 50)),.q 52 (.not (.t 51)),.v 53 52,⟨some 54,(some (53,true)),.q (.mv (.t 1))⟩,⟨some 55,(some (53,true)),.q (.mf 142 [(.t 10)])⟩,⟨some 56,(some (53,true)),.cl 141 [(.t 54),(.t 55)] [1]⟩,⟨some 57,(some (53,true)),.q (.not (.t 56))⟩,.a 58 (.pick (.t 53) (.t 57) (.k (.bool false)))])) (.cond (.t 58) (.seq (.reg [.q 4 (.mv (.k (.bool false)))]) .ret) .skip)
@[go_sem ↓] theorem aGV:a6 qH:=a7 _
def AC:PC:=.seq (.seq (.gh (.reg [.q 43 (.fa 1 (.t 2)),.l 44 (.ld1 (.t 43)),.q 45 (.lnL (.t 44)),.q 46 (.mv (.i 0))])) (.block 2 (.loop (.seq (.reg [.q 47 (.bin .lss true (.t 46) (.t 45))]) (.seq (.cond (.t 47) .skip (.exit 2)) (.seq (.block 3 (.seq (.reg [.l 48 (.ia 7 (.t 44) (.t 46)),.l 49 (.ldn 7 (.t 48)),.e 10 (.al (.agg #[(.int .i64 0),(.string (mk [])),(.int .i64 0),(.int .i64 0),(.string (mk [])),(.slice none 0 0),(.bool false)]) 97),.s (.st 7 (.t 10) (.t 49))]) (qH))) (.reg [.q 59 (.bin .add true (.t 46) (.i 1)),.v 46 59]))))))) (.seq (.reg [.q 4 (.mv (.k (.bool true)))]) .ret)
@[go_sem ↓] theorem aJR:a6 AC:=a7 _
def XW:PC:=.seq (.reg [.e 2 (.bx 95 (.t 0)),.q 4 (.mv (.k (.bool false)))]) (.seq (.seq (.reg [.v 11 1,.q 12 (.lnL (.t 11)),.q 13 (.mv (.i 0))]) (.block 0 (.loop (.seq (.reg [.q 14 (.bin .lss true (.t 13) (.t 12))]) (.seq (.cond (.t 14) .skip (.exit 0)) (.seq (.block 1 (.seq (.reg [.v 15 13,.l 16 (.ia 6 (.t 11) (.t 13)),.l 17 (.ldn 6 (.t 16)),.e 6 (.al (.agg #[(.int .i64 0),(.int .i64 0),(.int .i64 0),(.string (mk [])),(.slice none 0 0),(.slice none 0 0)]) 57),.v 5 15,.s (.st 6 (.t 6) (.t 17))]) (BF))) (.reg [.q 42 (.bin .add true (.t 13) (.i 1)),.v 13 42]))))))) (AC))
def XF:List RV:=[.mv (.t 4)]
theorem aI7:aM Tryz.prog true ⟨fun r k=>if r=11/\k=6 then .own [1] else .own [],fun r=>[4,5,8,11].contains r⟩ Tryz.f119=some (XW,XF):=by kernel_rfl
def YD:PC:=.seq (.reg [.e 2 (.bx 57 (.t 0)),.q 3 (.mv (.k (.bool false)))]) (.seq (.reg [.q 4 (.fa 0 (.t 2)),.l 5 (.ld1 (.t 4)),.q 6 (.fa 0 (.t 1)),.l 7 (.ld1 (.t 6)),.q 8 (.bin .eql true (.t 5) (.t 7)),.v 3 8]) .ret)
def XB:List RV:=[.mv (.t 3)]
theorem aHH:aM Tryz.prog true ⟨fun _ _=>.own [],fun _=>false⟩ Tryz.f142=some (YD,XB):=by kernel_rfl
def oR (v:Vl):Bool:=(v.k != 5) && (v.k != 6) && ((v.l.length:Int) == 0) && ((v.f.length:Int) == 0)
def lL (g:Vl->Int) (most:Int) (d:Int) (x:Vl):Int:=bif decide (d<=most) then max d (g x) else d
def o6 (g:Vl->Int) (most:Int) (d:Int) (x:Int × Vl):Int:=bif decide (d<=most) then max d (g x.2) else d
def H7 (g:Vl->Int) (most:Int) (v:Vl):Int:=bif oR v then 0 else 1 + v.f.foldl (o6 g most) (v.l.foldl (lL g most) 0)
def rD:Nat->Vl->Int
 | 0=>H7 (fun _=>0) (-1)
 | n + 1=>H7 (rD n) n
def iF:Nat->Vl->Int
 | 0=>fun _=>0
 | n + 1=>rD n
theorem y6 (n:Nat):rD n=H7 (iF n) ((n:Int) - 1):=by
 cases n with
 | zero=>rfl
 | succ n=>rw [rD,iF]; congr 1; omega
theorem G1 {g:Vl->Int} {most B:Int} (hg:∀ x,0<=g x/\g x<=B) {d:Int} (h:0<=d/\d<=B) (x:Vl):0<=lL g most d x/\lL g most d x<=B:=by
 unfold lL
 cases decide (d<=most)
 · exact h
 · have:=hg x; show 0<=max d (g x)/\max d (g x)<=B; omega
theorem PN {g:Vl->Int} {most B:Int} (hg:∀ x,0<=g x/\g x<=B) {d:Int} (h:0<=d/\d<=B) (x:Int × Vl):0<=o6 g most d x/\o6 g most d x<=B:=G1 hg h x.2
theorem o9 {α:Type} {f:Int->α->Int} {B:Int} (h:∀ d x,0<=d/\d<=B->0<=f d x/\f d x<=B):∀ (l:List α) (d:Int),0<=d/\d<=B->0<=l.foldl f d/\l.foldl f d<=B
 | [],_,hd=>hd
 | x :: l,d,hd=>o9 h l (f d x) (h d x hd)
theorem pB:∀ (n:Nat) (x:Vl),0<=iF n x/\iF n x<=n
 | 0,_=>⟨Int.le_refl _,Int.le_refl _⟩
 | n + 1,x=>by
  rw [iF,y6]
  unfold H7
  have h1:=o9 (f:=lL (iF n) ((n:Int) - 1)) (fun d x h=>G1 (pB n) h x) x.l 0 ⟨Int.le_refl _,by omega⟩
  have h2:=o9 (f:=o6 (iF n) ((n:Int) - 1)) (fun d x h=>PN (pB n) h x) x.f _ h1
  cases oR x
  · show 0<=1 + _/\1 + _<=_; omega
  · show (0:Int)<=0/\(0:Int)<=_; omega
theorem C6 {α β:Type} {f:β->α->β} {l:List α} {i:Nat} {x:α} (h:l[i]? = some x) (d:β):(l.take (i + 1)).foldl f d=f ((l.take i).foldl f d) x:=by rw [fU h,List.foldl_append]; rfl
def yY (n:Nat):List S->Prop:=fun av=>match av with
 | [.va (.gs r),.va (.c1 (.vl (.int .i64 k)))]=>0 < n/\BH r/\k=(n:Int) - 2/\n<=100
 | _=>False
theorem kX {n:Nat} {av:List S} (h:yY n av):∃ m v,n=m + 1/\av=[.va (.gs (bJ v)),iS .i64 ((m:Int) - 1)]/\VlOk v/\m<=99:=by
 unfold yY at h
 split at h
 · obtain ⟨h0,⟨v,rfl,hv⟩,rfl,hn⟩:=h
   refine ⟨n - 1,v,by omega,?_,hv,by omega⟩
   rw [show (n:Int) - 2=((n - 1:Nat):Int) - 1 by omega]
 · exact h.elim
noncomputable def OM (n:Nat):List S->A:=fun av=>match av with
 | [.va (.gs r),.va (.c1 (.vl (.int .i64 _)))]=>iA .i64 (iF n (C.vv r))
 | _=>.gs []
noncomputable def EF (n:Nat):Fun:=⟨yY n,OM n,fun av h=>by obtain ⟨m,v,_,rfl,_⟩:=kX h; trivial⟩
theorem PD {n:Nat}:∀ av H K,(EF n).sp av H K->av.length=2:=fun av H K h=>by obtain ⟨m,v,_,rfl,_⟩:=kX h.1.1; rfl
attribute [go_sem] EF yY OM
theorem LG:∀ n,Meets Tryz.prog 52 (EF n).sp
 | 0=>⟨by kernel_rfl,by rintro xs vs E ro w K _ _ _ ⟨⟨h,_⟩,_⟩; obtain ⟨m,_,h,_⟩:=kX h; omega⟩
 | n + 1=>by
  refine aE Tryz.func52 aOW 2 (by rw [Tryz.ntmps52]; decide) (aG (LG n) (aA _)) PD ?_
  rintro av H K ⟨⟨h,rfl⟩,hK⟩
  obtain ⟨m,v,hm,rfl,hv,hm99⟩:=kX h
  obtain rfl:m=n:=by omega
  have hK:K (iS .i64 (rD m v)) []:=by
   have:(EF (m + 1)).val [.va (.gs (bJ v)),iS .i64 ((m:Int) - 1)]=iA .i64 (rD m v):=by simp -dsimp only [go_sem,iF]
   rw [this] at hK; exact hK
  clear h hm
  rw [y6] at hK
  unfold H7 at hK
  have hll:=hv.ll
  have hlf:=hv.lf
  have bd1:=fun i=>o9 (f:=lL (iF m) ((m:Int) - 1)) (fun d x h=>G1 (pB m) h x) (v.l.take i) 0 ⟨Int.le_refl _,by omega⟩
  have fin:∀ (z:Int) (R:Hp),(bif oR v then 0 else 1 + v.f.foldl (o6 (iF m) ((m:Int) - 1)) (v.l.foldl (lL (iF m) ((m:Int) - 1)) 0))=z->W.Fin 0 K (iS .i64 z) R:=fun z R h=>by
   rw [h] at hK; exact .sel [] (by simp) (by simp) rfl (.done (by simpa [go_sem] using hK))
  clear hK
  cases hsc:oR v with
  | true=>
   have hs':=hsc
   unfold oR at hs'
   simp (maxSteps:=1000000) -dsimp only [go_sem,aV v,Q5,UF,hs']
   exact fin _ _ (by rw [hsc]; rfl)
  | false=>
   have hs':=hsc
   unfold oR at hs'
   rw [hsc] at fin
   simp (maxSteps:=1000000) -dsimp only [go_sem,aV v,Q5,UF,hs']
   refine aK (α:=Nat) (fun i=>[(1,iS .i64 ((m:Int) - 1)),(2,.va (.c1 (.pt 0 0))),(5,iS .i64 ((v.l.take i).foldl (lL (iF m) ((m:Int) - 1)) 0)),(31,.va (.c1 (.fz (v.l.map bJ)))),(32,iS .i64 v.l.length),(33,iS .i64 i)]) (fun _=>[.cells (bL v) 32])
    (fun i=>i<=v.l.length) (fun i=>v.l.length - i) 0 1 (Nat.zero_le _) ?_ ?_ ?_
   · simp -dsimp only [go_sem]<;>simp
   · simp -dsimp only [go_sem,bL]<;>simp
   intro i hi
   rcases bE i v.l.length with hlt | hge
   · have hg:decide ((i:Int) < (v.l.length:Int))=true:=by simp; omega
     obtain ⟨x,hx⟩:∃ t,v.l[i]? = some t:=⟨_,aY hlt⟩
     have q1:=NG hx
     have hxm:=bK hx
     have k1:=fV (hv.l x hxm)
     have k2:=lO x
     have ft:=C6 (f:=lL (iF m) ((m:Int) - 1)) hx 0
     have hbd:=bd1 i
     generalize hd:(v.l.take i).foldl (lL (iF m) ((m:Int) - 1)) 0=d at *
     have hgb:=pB m x
     cases hc:decide (d<=(m:Int) - 1) with
     | true=>
      have hm0:0 < m:=by have:=of_decide_eq_true hc; omega
      have he:(m:Int) - 1 - 1=(m:Int) - 2:=by omega
      have hn:m<=100:=by omega
      simp (maxSteps:=1000000) -dsimp only [go_sem,hg,↓q1,bL,k1,k2,hc,he,hm0,hn]
      refine ⟨by omega,by omega,by omega,aC (i + 1) 1 (by omega) (by omega) ?_ ?_⟩
      · simp -dsimp only [go_sem,ft,lL,hc]<;>simp
      · simp -dsimp only [go_sem,bL]<;>simp [bL]
     | false=>
      simp (maxSteps:=1000000) -dsimp only [go_sem,hg,↓q1,bL,hc]
      refine ⟨by omega,by omega,aC (i + 1) 1 (by omega) (by omega) ?_ ?_⟩
      · simp -dsimp only [go_sem,ft,lL,hc]<;>simp
      · simp -dsimp only [go_sem,bL]<;>simp [bL]
   · have hg:decide ((i:Int) < (v.l.length:Int))=false:=by simp; omega
     obtain rfl:i=v.l.length:=by omega
     have hbd:=bd1 v.l.length
     rw [List.take_length] at hbd ⊢
     simp (maxSteps:=1000000) -dsimp only [go_sem,hg,bL]
     generalize v.l.foldl (lL (iF m) ((m:Int) - 1)) 0=D at *
     have bd2:=fun i=>o9 (f:=o6 (iF m) ((m:Int) - 1)) (fun d x h=>PN (pB m) h x) (v.f.take i) D hbd
     clear hi hge hg bd1
     refine aK (α:=Nat) (fun i=>[(1,iS .i64 ((m:Int) - 1)),(2,.va (.c1 (.pt 0 0))),(5,iS .i64 ((v.f.take i).foldl (o6 (iF m) ((m:Int) - 1)) D)),(48,.va (.c1 (.fz (v.f.map b8)))),(49,iS .i64 v.f.length),(50,iS .i64 i)]) (fun _=>[.cells (bL v) 32])
      (fun i=>i<=v.f.length) (fun i=>v.f.length - i) 0 1 (Nat.zero_le _) ?_ ?_ ?_
     · simp -dsimp only [go_sem]<;>simp
     · simp -dsimp only [go_sem,bL]<;>simp
     intro i hi
     rcases bE i v.f.length with hlt | hge
     · have hg:decide ((i:Int) < (v.f.length:Int))=true:=by simp; omega
       obtain ⟨x,hx⟩:∃ t,v.f[i]? = some t:=⟨_,aY hlt⟩
       have q1:=yM hx
       have hxm:=bK hx
       have k1:=fV (hv.f x hxm)
       have k2:=lO x.2
       have ft:=C6 (f:=o6 (iF m) ((m:Int) - 1)) hx D
       have hbd2:=bd2 i
       generalize hd:(v.f.take i).foldl (o6 (iF m) ((m:Int) - 1)) D=d at *
       have hgb:=pB m x.2
       cases hc:decide (d<=(m:Int) - 1) with
       | true=>
        have hm0:0 < m:=by have:=of_decide_eq_true hc; omega
        have he:(m:Int) - 1 - 1=(m:Int) - 2:=by omega
        have hn:m<=100:=by omega
        simp (maxSteps:=1000000) -dsimp only [go_sem,hg,↓q1,bL,k1,k2,hc,he,hm0,hn]
        refine ⟨by omega,by omega,by omega,aC (i + 1) 1 (by omega) (by omega) ?_ ?_⟩
        · simp -dsimp only [go_sem,ft,o6,hc]<;>simp
        · simp -dsimp only [go_sem,bL]<;>simp [bL]
       | false=>
        simp (maxSteps:=1000000) -dsimp only [go_sem,hg,↓q1,bL,hc]
        refine ⟨by omega,by omega,aC (i + 1) 1 (by omega) (by omega) ?_ ?_⟩
        · simp -dsimp only [go_sem,ft,o6,hc]<;>simp
        · simp -dsimp only [go_sem,bL]<;>simp [bL]
     · have hg:decide ((i:Int) < (v.f.length:Int))=false:=by simp; omega
       obtain rfl:i=v.f.length:=by omega
       have hbd2:=bd2 v.f.length
       rw [List.take_length] at hbd2 ⊢
       simp (maxSteps:=1000000) -dsimp only [go_sem,hg,bL]
       exact ⟨by omega,fin _ _ rfl⟩
theorem xA:∀ N,Meets Tryz.prog 90 (BJ N).sp
 | 0=>⟨by kernel_rfl,by rintro xs vs E ro w K _ _ _ ⟨⟨h,_⟩,_⟩; obtain ⟨_,a,_,_,_,h⟩:=iO h; have:=a.h_pos; omega⟩
 | N + 1=>by
  refine aE Tryz.func90 aNQ 2 (by rw [Tryz.ntmps90]; decide) (aG (xA N) (aB m7 (aB y5 (aA _)))) EY ?_
  rintro av H K ⟨⟨h,rfl⟩,hK⟩
  obtain ⟨sc,t,rfl,hs,ht,hh⟩:=iO h
  have hK:K (bS (valF sc.ss sc.es t)) []:=by
   have:(BJ (N + 1)).val [.va (.gs (aF sc)),.va (.gs (aN t))]=bA (valF sc.ss sc.es t):=by simp -dsimp only [go_sem]
   rw [this] at hK; exact hK
  clear h
  have fin:∀ (b:Bool) (R:Hp),valF sc.ss sc.es t=b->W.Fin 0 K (bS b) R:=fun b R h=>by
   rw [h] at hK
   exact .sel [] (by simp) (by simp) rfl (.done (by simp -dsimp only [go_sem]; simpa using hK))
  clear hK
  cases t with
  | mk k s n e=>
  have hF:=valF.eq_1 sc.ss sc.es k s n e
  simp (maxSteps:=1000000) -dsimp only [go_sem,aF,aN,aS,aCH,aB2]
  refine ⟨fun k1=>fin _ _ (by rw [hF,k1]; simp only [aL]; ac_rfl),fun k1=>aD rfl (.done ?_)⟩
  rw [k1,aI] at hF
  simp (maxSteps:=1000000) -dsimp only [go_sem,GE]
  refine ⟨fun k2=>aD rfl (.done ?_),fun k2=>aD rfl (.done ?_)⟩
  · rw [k2,aL] at hF
    have hF':valF sc.ss sc.es (.mk k s n e)=((bl n == [] && (e.length:Int) == 0) && (s == 8 || s == 16 || s == 32 || s == 64)):=by rw [hF]; ac_rfl
    clear hF
    cases hp:(bl n == [] && (e.length:Int) == 0) with
    | false=>
     simp (maxSteps:=1000000) -dsimp only [go_sem,nB]
     exact fin _ _ (by rw [hF',hp]; rfl)
    | true=>
     rw [hp,Bool.true_and] at hF'
     cases h8:s == 8 with
     | true=>
      simp (maxSteps:=1000000) -dsimp only [go_sem,nB,h8]
      exact fin _ _ (by rw [hF',h8]; rfl)
     | false=>
     cases h16:s == 16 with
     | true=>
      simp (maxSteps:=1000000) -dsimp only [go_sem,nB,h8,h16]
      exact fin _ _ (by rw [hF',h8,h16]; rfl)
     | false=>
     cases h32:s == 32 with
     | true=>
      simp (maxSteps:=1000000) -dsimp only [go_sem,nB,h8,h16,h32]
      exact fin _ _ (by rw [hF',h8,h16,h32]; rfl)
     | false=>
      simp (maxSteps:=1000000) -dsimp only [go_sem,nB,h8,h16,h32]
      exact fin _ _ (by rw [hF',h8,h16,h32]; rfl)
  rw [k2,aI] at hF
  simp (maxSteps:=1000000) -dsimp only [go_sem,GZ]
  refine ⟨fun k3=>aD rfl (.done ?_),fun k3=>aD rfl (.done ?_)⟩
  · rw [k3] at hF
    simp only [aL,Bool.and_false,Bool.or_false] at hF
    have hF':valF sc.ss sc.es (.mk k s n e)=((bl n == [] && (e.length:Int) == 0) && (s == 8 || s == 16 || s == 32)):=by rw [hF]; ac_rfl
    clear hF
    cases hp:(bl n == [] && (e.length:Int) == 0) with
    | false=>
     simp (maxSteps:=1000000) -dsimp only [go_sem,pC]
     exact fin _ _ (by rw [hF',hp]; rfl)
    | true=>
     rw [hp,Bool.true_and] at hF'
     cases h8:s == 8 with
     | true=>
      simp (maxSteps:=1000000) -dsimp only [go_sem,pC,h8]
      exact fin _ _ (by rw [hF',h8]; rfl)
     | false=>
     cases h16:s == 16 with
     | true=>
      simp (maxSteps:=1000000) -dsimp only [go_sem,pC,h8,h16]
      exact fin _ _ (by rw [hF',h8,h16]; rfl)
     | false=>
      simp (maxSteps:=1000000) -dsimp only [go_sem,pC,h8,h16]
      exact fin _ _ (by rw [hF',h8,h16]; rfl)
  rw [k3,aI] at hF
  simp (maxSteps:=1000000) -dsimp only [go_sem,FV]
  refine ⟨fun k4=>fin _ _ (by rw [hF,k4]; simp only [aL]; ac_rfl),fun k4=>aD rfl (.done ?_)⟩
  rw [k4,aI] at hF
  simp (maxSteps:=1000000) -dsimp only [go_sem,BS]
  refine ⟨fun k5=>aD rfl (.done ?_),fun k5=>aD rfl (.done ?_)⟩
  · rw [k5,aL] at hF
    have no:∀ {R:Hp},(bl n == [])=false\/decide (1<=s)=false\/decide (s<=32)=false\/((e.length:Int) == 1)=false->W.Fin 0 K (bS false) R:=fun h=>fin _ _ (by
     rw [hF]
     rcases h with h | h | h | h
     · rw [h,Bool.and_false,Bool.false_and]
     · rw [h,Bool.false_and,Bool.false_and,Bool.false_and]
     · rw [h,Bool.and_false,Bool.false_and,Bool.false_and]
     · match e,h with
       | [],_=>simp [l0]
       | [u],h=>simp at h
       | u :: v :: r,_=>simp [l0])
    cases h1:bl n == [] with
    | false=>
     simp (maxSteps:=1000000) -dsimp only [go_sem,kM,h1]
     exact no (.inl h1)
    | true=>
    cases h2:decide (1<=s) with
    | false=>
     simp (maxSteps:=1000000) -dsimp only [go_sem,kM,h1,h2]
     exact no (.inr (.inl h2))
    | true=>
    cases h3:decide (s<=32) with
    | false=>
     simp (maxSteps:=1000000) -dsimp only [go_sem,kM,h1,h2,h3]
     exact no (.inr (.inr (.inl h3)))
    | true=>
    cases h4:(e.length:Int) == 1 with
    | false=>
     simp (maxSteps:=1000000) -dsimp only [go_sem,kM,h1,h2,h3,h4]
     exact no (.inr (.inr (.inr h4)))
    | true=>
     have hl1:(e.length:Int)=1:=by simpa using h4
     obtain ⟨u,rfl⟩:∃ u,e=[u]:=List.length_eq_one_iff.1 (by omega)
     have hF':valF sc.ss sc.es (.mk k s n [u])=valF sc.ss sc.es u:=by rw [hF,h1,h2,h3]; simp [l0]
     have hu2:u.h<=N:=by rw [Ty.h,Ty.hs,Ty.hs] at hh; omega
     have hu:eO (aN u):=dQ (ht.e u (by simp [Ty.e]))
     have hsf:=fC hs
     rw [aF] at hsf
     have hsd:=fW sc
     rw [aF] at hsd
     have h4':(((1:Nat):Int) == 1)=true:=rfl
     simp (maxSteps:=1000000) -dsimp only [go_sem,kM,h1,h2,h3,h4']
     refine ⟨⟨by omega,fun r hr=>by subst hr; exact gV u⟩,fun r hr=>?_⟩
     subst hr
     simp (maxSteps:=1000000) -dsimp only [go_sem,hsf,hsd,hu,gV]
     exact ⟨hu2,fin _ _ hF'⟩
  rw [k5,aI] at hF
  simp (maxSteps:=1000000) -dsimp only [go_sem,AS]
  refine ⟨fun k6=>aD rfl (.done ?_),fun k6=>aD rfl (.done ?_)⟩
  · rw [k6,aL] at hF
    simp (maxSteps:=1000000) -dsimp only [go_sem,A9]
    refine kH hs ?_
    simp (maxSteps:=1000000) -dsimp only [go_sem,aP]
    refine aD rfl (.done ?_)
    cases h1:fO sc.ss n<;>cases h2:s == 0 <;>
    · simp (maxSteps:=1000000) -dsimp only [go_sem,BN,h2]
      exact fin _ _ (by rw [hF,h1,h2]; rfl)
  rw [k6,aI] at hF
  simp (maxSteps:=1000000) -dsimp only [go_sem,BR]
  refine ⟨fun k7=>aD rfl (.done ?_),fun k7=>fin _ _ (by rw [hF,k7]; rfl)⟩
  rw [k7,aL] at hF
  simp (maxSteps:=1000000) -dsimp only [go_sem,AH]
  refine mN hs ?_
  simp (maxSteps:=1000000) -dsimp only [go_sem,bI]
  refine aD rfl (.done ?_)
  cases h1:fN sc.es n<;>cases h2:s == 0 <;>
  · simp (maxSteps:=1000000) -dsimp only [go_sem,AL,h2]
    exact fin _ _ (by rw [hF,h1,h2]; rfl)
theorem u6:Meets Tryz.prog 90 r0Fn.sp:=eC 0 xA fun av H K ⟨⟨h,e⟩,hK⟩=>by
 obtain ⟨a,b,rfl,ha,hb⟩:=p7 h
 exact ⟨b.h,⟨⟨⟨fC ha,dQ hb,by rw [eX]; exact Nat.le_refl _⟩,e⟩,hK⟩⟩
def CW (s:Sc) (t:Ty) (n:Int):Bool:=
 bif t.k == 1 then n == 0 || n == 1
 else bif t.k == 2 then t.s == 64 || (decide (-(2 ^ (t.s.toNat - 1):Int)<=n) && decide (n < (2 ^ (t.s.toNat - 1):Int)))
 else bif t.k == 3 then decide (0<=n) && decide (n < (2 ^ t.s.toNat:Int))
 else bif t.k == 7 then ((eU s.es t.n).getD default).vs.any fun x=>x == n else false
def n3 (s:Sc) (t:Ty) (n:Int) (str:ByteArray) (ll lf:Int):Int:=bif !(bl str == []) || decide (0 < ll) || decide (0 < lf) then 13 else bif CW s t n then 0 else 4
def nL (t:Ty) (n:Int) (str:ByteArray) (ll lf:Int):Int:=bif n != 0 || decide (0 < ll) || decide (0 < lf) then 13 else bif decide (t.s < ((bl str).length:Int)) then 3 else 0
def ltO:Option Int->Int->Bool
 | none,_=>true
 | some q,n=>decide (q < n)
def ftA (fs:List Fl):Option Int->List (Int × Vl)->Bool
 | _,[]=>true
 | p,x :: r=>(fF fs x.1).isSome && ltO p x.1 && ftA fs (some x.1) r
theorem FS (fs:List Fl) (p:Option Int) (x:Int × Vl) (r:List (Int × Vl)):ftA fs p (x :: r)=((fF fs x.1).isSome && ltO p x.1 && ftA fs (some x.1) r):=by rw [ftA.eq_def]
theorem JU (fs:List Fl) (p:Option Int):ftA fs p []=true:=by rw [ftA.eq_def]
def pN (l:List (Int × Vl)) (n:Int):Bool:=l.any fun y=>y.1 == n
def fI (fs:List Fl) (l:List (Int × Vl)):Bool:=ftA fs none l && fs.all fun f=>f.opt || pN l f.num
mutual
def iX (s:Sc) (t:Ty):Vl->Int
 | .mk k n str l f=>
  bif !(valF s.ss s.es t) || k != t.k then 13
  else bif t.k == 4 then nL t n str l.length f.length
  else bif t.k == 5 then (bif n != 0 || !(bl str == []) || decide (0 < (f.length:Int)) then 13 else bif decide (t.s < (l.length:Int)) then 3 else j5 s (t.e.headD default) l)
  else bif t.k == 6 then (bif n != 0 || !(bl str == []) || decide (0 < (l.length:Int)) || !(fI ((fS s.ss t.n).getD default).fs f) then 13 else jQ s ((fS s.ss t.n).getD default).fs f)
  else n3 s t n str l.length f.length
def j5 (s:Sc) (t:Ty):List Vl->Int
 | []=>0
 | v :: r=>bif iX s t v != 0 then iX s t v else j5 s t r
def jQ (s:Sc) (fs:List Fl):List (Int × Vl)->Int
 | []=>0
 | (i,v) :: r=>bif iX s ((fF fs i).getD default).ty v != 0 then iX s ((fF fs i).getD default).ty v else jQ s fs r
end
theorem wU (s:Sc) (t:Ty) (v:Vl):iX s t v=bif !(valF s.ss s.es t) || v.k != t.k then 13
 else bif t.k == 4 then nL t v.n v.s v.l.length v.f.length
 else bif t.k == 5 then (bif v.n != 0 || !(bl v.s == []) || decide (0 < (v.f.length:Int)) then 13 else bif decide (t.s < (v.l.length:Int)) then 3 else j5 s (t.e.headD default) v.l)
 else bif t.k == 6 then (bif v.n != 0 || !(bl v.s == []) || decide (0 < (v.l.length:Int)) || !(fI ((fS s.ss t.n).getD default).fs v.f) then 13 else jQ s ((fS s.ss t.n).getD default).fs v.f)
 else n3 s t v.n v.s v.l.length v.f.length:=by cases v; rw [iX]; rfl
theorem FB (s:Sc) (fs:List Fl) (x:Int × Vl) (r:List (Int × Vl)):jQ s fs (x :: r)=bif iX s ((fF fs x.1).getD default).ty x.2 != 0 then iX s ((fF fs x.1).getD default).ty x.2 else jQ s fs r:=by cases x; rw [jQ]
abbrev OX:S:=.va (.c1 (.fn 118 [(false,[.pt 0 0])]))
def aDT:W.Spec:=fun av H K=>∃ (x:Int) (v:Vl),av=[iS .i64 x,.va (.c1 (.pt 0 0))]/\H=[.cells (bL v) 32]/\K (bS (x == v.n)) [.cells (bL v) 32]
theorem aC6 {x:Int} {v:Vl} {K:S->Hp->Prop} (hK:K (bS (x == v.n)) [.cells (bL v) 32]):aDT [iS .i64 x,.va (.c1 (.pt 0 0))] [.cells (bL v) 32] K:=⟨x,v,rfl,rfl,hK⟩
theorem TE:Meets Tryz.prog 118 aDT:=by
 refine aE Tryz.func118 aHW 2 (by rw [Tryz.ntmps118]; decide) (aA _) (fun av H K h=>by obtain ⟨_,_,rfl,_⟩:=h; rfl) ?_
 rintro av H K ⟨x,v,rfl,rfl,hK⟩
 simp -dsimp only [go_sem,bL,U1,W5]
 exact .sel [0] (by simp) (by simp) rfl (.done (by simpa [go_sem,bL] using hK))
def yA (p:Int->Bool):List Int->Nat->Int
 | [],_=>-1
 | x :: l,i=>bif p x then (i:Int) else yA p l (i + 1)
theorem JX (p:Int->Bool):∀ (l:List Int) (i:Nat),decide (0<=yA p l i)=l.any p
 | [],_=>rfl
 | x :: l,i=>by
  rw [List.any_cons,yA]
  cases h:p x
  · rw [aI,JX p l (i + 1),Bool.false_or]
  · simp
def aCL:W.Spec:=fun av H K=>∃ (l:List Int) (v:Vl),av=[.va (.c1 (.fz (l.map cL))),OX]/\H=[.cells (bL v) 32]/\l.length<=9223372036854775807/\K (iS .i64 (yA (fun x=>x == v.n) l 0)) [.cells (bL v) 32]
theorem aC3 {l:List Int} {v:Vl} {K:S->Hp->Prop} (h:l.length<=9223372036854775807) (hK:K (iS .i64 (yA (fun x=>x == v.n) l 0)) [.cells (bL v) 32]):aCL [.va (.c1 (.fz (l.map cL))),OX] [.cells (bL v) 32] K:=⟨l,v,rfl,rfl,h,hK⟩
theorem Z1:Meets Tryz.prog 140 aCL:=by
 refine aE Tryz.func140 aGX 2 (by rw [Tryz.ntmps140]; decide) (aB TE (aA _)) (fun av H K h=>by obtain ⟨_,_,rfl,_⟩:=h; rfl) ?_
 rintro av H K ⟨l,v,rfl,rfl,hl,hK⟩
 simp -dsimp only [go_sem,UR,U8]
 refine aK (α:=Nat) (fun i=>[(0,.va (.c1 (.fz (l.map cL)))),(1,OX),(7,iS .i64 l.length),(8,iS .i64 i)]) (fun _=>[.cells (bL v) 32])
  (fun i=>i<=l.length/\yA (fun x=>x == v.n) (l.drop i) i=yA (fun x=>x == v.n) l 0) (fun i=>l.length - i) 0 1 ⟨Nat.zero_le _,rfl⟩ ?_ ?_ ?_
 · simp -dsimp only [go_sem]<;>simp
 · simp -dsimp only [go_sem,bL]<;>simp
 rintro i ⟨hi,ho⟩
 rcases bE i l.length with hlt | hge
 · have hg:decide ((i:Int) < (l.length:Int))=true:=by simp; omega
   have hx:l[i]? = some l[i]:=aY hlt
   have q2:=aW (row:=cL) hx
   rw [List.drop_eq_getElem_cons hlt,yA] at ho
   generalize l[i]=y at *
   simp -dsimp only [go_sem,hg,↓q2]
   refine ⟨by omega,aC6 ?_⟩
   cases hc:y == v.n with
   | true=>
    rw [hc,aL] at ho
    simp -dsimp only [go_sem]
    exact .sel [0] (by simp) (by simp) rfl (.done (by simpa [go_sem,bL,ho] using hK))
   | false=>
    rw [hc,aI] at ho
    simp -dsimp only [go_sem]
    refine ⟨by omega,aC (i + 1) 1 ⟨by omega,ho⟩ (by omega) ?_ ?_⟩
    · simp -dsimp only [go_sem]<;>simp
    · simp -dsimp only [go_sem,bL]<;>simp [bL]
 · have hg:decide ((i:Int) < (l.length:Int))=false:=by simp; omega
   have:l.drop i=[]:=List.drop_eq_nil_iff.2 (by omega)
   rw [this] at ho
   simp -dsimp only [go_sem,hg]
   exact .sel [0] (by simp) (by simp) rfl (.done (by rw [show yA (fun x=>x == v.n) l 0=-1 from ho.symm] at hK; simpa [go_sem,bL] using hK))
def aCC:W.Spec:=fun av H K=>∃ (l:List Int) (v:Vl),av=[.va (.c1 (.fz (l.map cL))),OX]/\H=[.cells (bL v) 32]/\l.length<=9223372036854775807/\K (bS (l.any fun x=>x == v.n)) [.cells (bL v) 32]
theorem aCV {l:List Int} {v:Vl} {K:S->Hp->Prop} (h:l.length<=9223372036854775807) (hK:K (bS (l.any fun x=>x == v.n)) [.cells (bL v) 32]):aCC [.va (.c1 (.fz (l.map cL))),OX] [.cells (bL v) 32] K:=⟨l,v,rfl,rfl,h,hK⟩
theorem NF:Meets Tryz.prog 117 aCC:=by
 refine aE Tryz.func117 aH2 2 (by rw [Tryz.ntmps117]; decide) (aB Z1 (aA _)) (fun av H K h=>by obtain ⟨_,_,rfl,_⟩:=h; rfl) ?_
 rintro av H K ⟨l,v,rfl,rfl,hl,hK⟩
 simp -dsimp only [go_sem,bL,W1,U7]
 refine aC3 hl ?_
 simp -dsimp only [go_sem,bL,JX]
 exact .sel [0] (by simp) (by simp) rfl (.done (by simpa [go_sem,bL] using hK))
abbrev OC:S:=.va (.c1 (.fn 142 [(false,[.pt 0 0])]))
def veX (x:Int × Vl):List C:=[.vl (.int .i64 x.1),.vl (.int .i64 x.2.k),.vl (.int .i64 x.2.n),.vl (.string x.2.s),.fz (x.2.l.map bJ),.fz (x.2.f.map b8)]
def W3:W.Spec:=fun av H K=>∃ (x:Int × Vl) (f:Fl),av=[.va (.gs (veX x)),.va (.c1 (.pt 0 0))]/\H=[.cells (aX f) 97]/\K (bS (x.1 == f.num)) [.cells (aX f) 97]
theorem ZS {x:Int × Vl} {f:Fl} {K:S->Hp->Prop} (hK:K (bS (x.1 == f.num)) [.cells (aX f) 97]):W3 [.va (.gs (veX x)),.va (.c1 (.pt 0 0))] [.cells (aX f) 97] K:=⟨x,f,rfl,rfl,hK⟩
theorem aFP:Meets Tryz.prog 142 W3:=by
 refine aE Tryz.func142 aHH 2 (by rw [Tryz.ntmps142]; decide) (aA _) (fun av H K h=>by obtain ⟨_,_,rfl,_⟩:=h; rfl) ?_
 rintro av H K ⟨x,f,rfl,rfl,hK⟩
 simp -dsimp only [go_sem,veX,aX,YD,XB]
 exact .sel [0] (by simp) (by simp) rfl (.done (by simpa [go_sem,aX] using hK))
def y8 (n:Int):List (Int × Vl)->Nat->Int
 | [],_=>-1
 | x :: l,i=>bif x.1 == n then (i:Int) else y8 n l (i + 1)
theorem JG (n:Int):∀ (l:List (Int × Vl)) (i:Nat),decide (0<=y8 n l i)=pN l n
 | [],_=>rfl
 | x :: l,i=>by
  rw [pN,List.any_cons,y8]
  cases h:x.1 == n
  · rw [aI,JG n l (i + 1),Bool.false_or]; rfl
  · simp
def aE9:W.Spec:=fun av H K=>∃ (l:List (Int × Vl)) (f:Fl),av=[.va (.c1 (.fz (l.map b8))),OC]/\H=[.cells (aX f) 97]/\l.length<=9223372036854775807/\K (iS .i64 (y8 f.num l 0)) [.cells (aX f) 97]
theorem aBY {l:List (Int × Vl)} {f:Fl} {K:S->Hp->Prop} (h:l.length<=9223372036854775807) (hK:K (iS .i64 (y8 f.num l 0)) [.cells (aX f) 97]):aE9 [.va (.c1 (.fz (l.map b8))),OC] [.cells (aX f) 97] K:=⟨l,f,rfl,rfl,h,hK⟩
theorem Z7:Meets Tryz.prog 157 aE9:=by
 refine aE Tryz.func157 aI8 2 (by rw [Tryz.ntmps157]; decide) (aB aFP (aA _)) (fun av H K h=>by obtain ⟨_,_,rfl,_⟩:=h; rfl) ?_
 rintro av H K ⟨l,f,rfl,rfl,hl,hK⟩
 simp -dsimp only [go_sem,UU,XK]
 refine aK (α:=Nat) (fun i=>[(0,.va (.c1 (.fz (l.map b8)))),(1,OC),(7,iS .i64 l.length),(8,iS .i64 i)]) (fun _=>[.cells (aX f) 97])
  (fun i=>i<=l.length/\y8 f.num (l.drop i) i=y8 f.num l 0) (fun i=>l.length - i) 0 1 ⟨Nat.zero_le _,rfl⟩ ?_ ?_ ?_
 · simp -dsimp only [go_sem]<;>simp
 · simp -dsimp only [go_sem,aX]<;>simp
 rintro i ⟨hi,ho⟩
 rcases bE i l.length with hlt | hge
 · have hg:decide ((i:Int) < (l.length:Int))=true:=by simp; omega
   have hx:l[i]? = some l[i]:=aY hlt
   have q2:=yM hx
   rw [List.drop_eq_getElem_cons hlt,y8] at ho
   generalize l[i]=y at *
   simp -dsimp only [go_sem,hg,↓q2]
   refine ⟨by omega,ZS ?_⟩
   cases hc:y.1 == f.num with
   | true=>
    rw [hc,aL] at ho
    simp -dsimp only [go_sem]
    exact .sel [0] (by simp) (by simp) rfl (.done (by simpa [go_sem,aX,ho] using hK))
   | false=>
    rw [hc,aI] at ho
    simp -dsimp only [go_sem]
    refine ⟨by omega,aC (i + 1) 1 ⟨by omega,ho⟩ (by omega) ?_ ?_⟩
    · simp -dsimp only [go_sem]<;>simp
    · simp -dsimp only [go_sem,aX]<;>simp [aX]
 · have hg:decide ((i:Int) < (l.length:Int))=false:=by simp; omega
   have:l.drop i=[]:=List.drop_eq_nil_iff.2 (by omega)
   rw [this] at ho
   simp -dsimp only [go_sem,hg]
   exact .sel [0] (by simp) (by simp) rfl (.done (by rw [show y8 f.num l 0=-1 from ho.symm] at hK; simpa [go_sem,aX] using hK))
def aCA:W.Spec:=fun av H K=>∃ (l:List (Int × Vl)) (f:Fl),av=[.va (.c1 (.fz (l.map b8))),OC]/\H=[.cells (aX f) 97]/\l.length<=9223372036854775807/\K (bS (pN l f.num)) [.cells (aX f) 97]
theorem aED {l:List (Int × Vl)} {f:Fl} {K:S->Hp->Prop} (h:l.length<=9223372036854775807) (hK:K (bS (pN l f.num)) [.cells (aX f) 97]):aCA [.va (.c1 (.fz (l.map b8))),OC] [.cells (aX f) 97] K:=⟨l,f,rfl,rfl,h,hK⟩
theorem NK:Meets Tryz.prog 141 aCA:=by
 refine aE Tryz.func141 aGM 2 (by rw [Tryz.ntmps141]; decide) (aB Z7 (aA _)) (fun av H K h=>by obtain ⟨_,_,rfl,_⟩:=h; rfl) ?_
 rintro av H K ⟨l,f,rfl,rfl,hl,hK⟩
 simp -dsimp only [go_sem,aX,WM,WN]
 refine aBY hl ?_
 simp -dsimp only [go_sem,aX,JG]
 exact .sel [0] (by simp) (by simp) rfl (.done (by simpa [go_sem,aX] using hK))
def D3 (P:Sc->Ty->Vl->Prop):List S->Prop:=fun av=>match av with
 | [.va (.gs r),.va (.gs q),.va (.gs p)]=>jY r/\eO q/\BH p/\P (C.sc r) (C.ty q) (C.vv p)
 | _=>False
theorem qT {P:Sc->Ty->Vl->Prop} {av:List S} (h:D3 P av):∃ s t v,av=[.va (.gs (aF s)),.va (.gs (aN t)),.va (.gs (bJ v))]/\s.fit/\TyOk t/\VlOk v/\P s t v:=by
 unfold D3 at h
 split at h
 · obtain ⟨⟨s,rfl,hs⟩,⟨t,rfl,ht⟩,⟨v,rfl,hv⟩,h⟩:=h
   rw [fW,eX,sJ] at h
   exact ⟨s,t,v,rfl,hs,ht,hv,h⟩
 · exact h.elim
noncomputable def WH (f:Sc->Ty->Vl->Value):List S->A:=fun av=>match av with
 | [.va (.gs r),.va (.gs q),.va (.gs p)]=>.c1 (.vl (f (C.sc r) (C.ty q) (C.vv p)))
 | _=>.gs []
noncomputable def gX (P:Sc->Ty->Vl->Prop) (f:Sc->Ty->Vl->Value):Fun:=⟨D3 P,WH f,fun av h=>by obtain ⟨_,_,_,rfl,_⟩:=qT h; trivial⟩
theorem kK {P:Sc->Ty->Vl->Prop} {f:Sc->Ty->Vl->Value}:∀ av H K,(gX P f).sp av H K->av.length=3:=fun av H K h=>by obtain ⟨_,_,_,rfl,_⟩:=qT h.1.1; rfl
attribute [go_sem] gX D3 WH
theorem iQ {P:Sc->Ty->Vl->Prop} {f:Sc->Ty->Vl->Value} {av:List S} {H:Hp} {K:S->Hp->Prop} (h:(gX P f).sp av H K) :
 ∃ s t v,av=[.va (.gs (aF s)),.va (.gs (aN t)),.va (.gs (bJ v))]/\H=[]/\s.fit/\TyOk t/\VlOk v/\P s t v/\K (.va (.c1 (.vl (f s t v)))) []:=by
 obtain ⟨⟨h,rfl⟩,hK⟩:=h
 obtain ⟨s,t,v,rfl,hs,ht,hv,hp⟩:=qT h
 have:(gX P f).val [.va (.gs (aF s)),.va (.gs (aN t)),.va (.gs (bJ v))]=.c1 (.vl (f s t v)):=by simp -dsimp only [go_sem]
 rw [this] at hK
 exact ⟨s,t,v,rfl,rfl,hs,ht,hv,hp,hK⟩
theorem aFX:Meets Tryz.prog 92 (gX (fun _ _ _=>True) fun _ t v=>.int .i64 (nL t v.n v.s v.l.length v.f.length)).sp:=by
 refine aE Tryz.func92 aO7 3 (by rw [Tryz.ntmps92]; decide) (aA _) kK ?_
 intro av H K h
 obtain ⟨s,t,v,rfl,rfl,hs,ht,hv,_,hK⟩:=iQ h
 clear h
 have fin:∀ (z:Int) (R:Hp),nL t v.n v.s v.l.length v.f.length=z->W.Fin 0 K (iS .i64 z) R:=fun z R h=>by
  rw [h] at hK; exact .sel [] (by simp) (by simp) rfl (.done (by simpa [go_sem] using hK))
 clear hK
 unfold nL at fin
 cases h1:v.n != 0<;>cases h2:decide (0 < (v.l.length:Int))<;>cases h3:decide (0 < (v.f.length:Int))<;>cases h4:decide (t.s < ((bl v.s).length:Int)) <;>
 · rw [h1,h2,h3,h4] at fin
   simp (maxSteps:=1000000) -dsimp only [go_sem,aF,aO t,aV v,aEQ,aBX,h1,h2,h3,h4]
   exact fin _ _ rfl
theorem aM1 {ss:List St} {es:List En} {t:Ty} (h:valF ss es t=true) (k:(t.k == 2)=true):t.s=8\/t.s=16\/t.s=32\/t.s=64:=by
 cases t with
 | mk k0 s n e=>
  obtain rfl:k0=2:=by have k:(k0 == 2)=true:=k; simpa using k
  rw [valF] at h
  have:(s == 8 || s == 16 || s == 32 || s == 64)=true:=by
   simp only [show ((2:Int) == 1)=false from rfl,show ((2:Int) == 2)=true from rfl,aL,aI,Bool.and_eq_true] at h
   exact h.1.1
  show s=8\/s=16\/s=32\/s=64
  simp only [Bool.or_eq_true,beq_iff_eq] at this
  omega
theorem aLY {ss:List St} {es:List En} {t:Ty} (h:valF ss es t=true) (k:(t.k == 3)=true):t.s=8\/t.s=16\/t.s=32:=by
 cases t with
 | mk k0 s n e=>
  obtain rfl:k0=3:=by have k:(k0 == 3)=true:=k; simpa using k
  rw [valF] at h
  have:(s == 8 || s == 16 || s == 32)=true:=by
   simp only [show ((3:Int) == 1)=false from rfl,show ((3:Int) == 2)=false from rfl,show ((3:Int) == 3)=true from rfl,aL,aI,Bool.and_eq_true,Bool.and_false,Bool.or_false] at h
   exact h.1.1
  show s=8\/s=16\/s=32
  simp only [Bool.or_eq_true,beq_iff_eq] at this
  omega
theorem TA:Meets Tryz.prog 91 (gX (fun s t _=>valF s.ss s.es t=true) fun s t v=>.int .i64 (n3 s t v.n v.s v.l.length v.f.length)).sp:=by
 refine aE Tryz.func91 aMG 3 (by rw [Tryz.ntmps91]; decide) (aB y5 (aB NF (aA _))) kK ?_
 intro av H K h
 obtain ⟨s,t,v,rfl,rfl,hs,ht,hv,hp,hK⟩:=iQ h
 clear h
 have fin:∀ (z:Int) (R:Hp),n3 s t v.n v.s v.l.length v.f.length=z->W.Fin 0 K (iS .i64 z) R:=fun z R h=>by
  rw [h] at hK; exact .sel [] (by simp) (by simp) rfl (.done (by simpa [go_sem] using hK))
 clear hK
 unfold n3 at fin
 cases h1:bl v.s == [] with
 | false=>
  rw [h1] at fin
  simp (maxSteps:=1000000) -dsimp only [go_sem,aF,aO t,aV v,FU,HO,h1]
  exact fin _ _ rfl
 | true=>
 cases h2:decide (0 < (v.l.length:Int)) with
 | true=>
  rw [h1,h2] at fin
  simp (maxSteps:=1000000) -dsimp only [go_sem,aF,aO t,aV v,FU,HO,h1,h2]
  exact fin _ _ rfl
 | false=>
 cases h3:decide (0 < (v.f.length:Int)) with
 | true=>
  rw [h1,h2,h3] at fin
  simp (maxSteps:=1000000) -dsimp only [go_sem,aF,aO t,aV v,FU,HO,h1,h2,h3]
  exact fin _ _ rfl
 | false=>
 rw [h1,h2,h3] at fin
 simp only [Bool.not_true,Bool.or_self,aI] at fin
 unfold CW at fin
 simp (maxSteps:=1000000) -dsimp only [go_sem,aF,aO t,aV v,FU,HO,h1,h2,h3]
 refine ⟨fun k1=>aD rfl (.done ?_),fun k1=>aD rfl (.done ?_)⟩
 · rw [k1,aL] at fin
   simp (maxSteps:=1000000) -dsimp only [go_sem,FX]
   refine aD rfl (.done ?_)
   cases h4:(v.n == 0 || v.n == 1) <;>
   · rw [h4] at fin
     simp (maxSteps:=1000000) -dsimp only [go_sem,jK]
     exact fin _ _ rfl
 rw [k1,aI] at fin
 simp (maxSteps:=1000000) -dsimp only [go_sem,IS]
 refine ⟨fun k2=>aD rfl (.done ?_),fun k2=>aD rfl (.done ?_)⟩
 · rw [k2,aL] at fin
   cases h64:t.s == 64 with
   | true=>
    rw [h64] at fin
    simp (maxSteps:=1000000) -dsimp only [go_sem,yG,h64,Bool.false_and]
    refine aD rfl (.done ?_)
    simp (maxSteps:=1000000) -dsimp only [go_sem,jK]
    exact fin _ _ rfl
   | false=>
    rw [h64,Bool.false_or] at fin
    obtain ⟨b1,b2,e1,e2⟩:8<=t.s/\t.s<=32/\IntKind.i64.wrap (-1 * 2 ^ min (t.s - 1).toNat 64)=-(2 ^ (t.s.toNat - 1):Int)/\IntKind.i64.wrap (1 * 2 ^ min (t.s - 1).toNat 64)=(2 ^ (t.s.toNat - 1):Int):=by
     rcases aM1 hp k2 with hz | hz | hz | hz
     · rw [hz]; decide
     · rw [hz]; decide
     · rw [hz]; decide
     · rw [hz] at h64; simp at h64
    have f1:(0<=t.s - 1)=True:=eq_true (by omega)
    have f2:(-9223372036854775808<=t.s - 1)=True:=eq_true (by omega)
    have f3:(t.s - 1<=9223372036854775807)=True:=eq_true (by omega)
    generalize (2 ^ (t.s.toNat - 1):Int)=hi at *
    cases h4:decide (-hi<=v.n)<;>cases h5:decide (v.n < hi) <;>
    · rw [h4,h5] at fin
      simp (maxSteps:=1000000) -dsimp only [go_sem,yG,h64,e1,e2,h4,h5,f1,f2,f3]
      refine aD rfl (.done ?_)
      simp (maxSteps:=1000000) -dsimp only [go_sem,jK]
      exact fin _ _ rfl
 rw [k2,aI] at fin
 simp (maxSteps:=1000000) -dsimp only [go_sem,F0]
 refine ⟨fun k3=>aD rfl (.done ?_),fun k3=>aD rfl (.done ?_)⟩
 · rw [k3,aL] at fin
   obtain ⟨b1,e1⟩:0<=t.s/\IntKind.i64.wrap (1 * 2 ^ min t.s.toNat 64)=(2 ^ t.s.toNat:Int):=by
    rcases aLY hp k3 with hz | hz | hz
    · rw [hz]; decide
    · rw [hz]; decide
    · rw [hz]; decide
   generalize (2 ^ t.s.toNat:Int)=hi at *
   cases h4:decide (0<=v.n)<;>cases h5:decide (v.n < hi) <;>
   · rw [h4,h5] at fin
     simp (maxSteps:=1000000) -dsimp only [go_sem,BI,e1,h4,h5,b1]
     refine aD rfl (.done ?_)
     simp (maxSteps:=1000000) -dsimp only [go_sem,jK]
     exact fin _ _ rfl
 rw [k3,aI] at fin
 simp (maxSteps:=1000000) -dsimp only [go_sem,AO]
 refine ⟨fun k7=>aD rfl (.done ?_),fun k7=>aD rfl (.done ?_)⟩
 · rw [k7,aL] at fin
   simp (maxSteps:=1000000) -dsimp only [go_sem,BO]
   refine mN (s:=s) hs ?_
   generalize hu:(eU s.es t.n).getD default=u at *
   have hul:u.vs.length<=9223372036854775807:=by
    rw [<-hu]
    cases hf:eU s.es t.n with
    | none=>exact Nat.zero_le _
    | some w=>exact (hs.ok.es w (LQ hf).1).lv
   simp (maxSteps:=1000000) -dsimp only [go_sem,bI]
   refine aD rfl (.done ?_)
   simp (maxSteps:=1000000) -dsimp only [go_sem,BV]
   refine aCV hul ?_
   simp (maxSteps:=1000000) -dsimp only [go_sem,bL]
   refine aD rfl (.done ?_)
   cases h4:u.vs.any fun x=>x == v.n <;>
   · rw [h4] at fin
     simp (maxSteps:=1000000) -dsimp only [go_sem,jK]
     exact fin _ _ rfl
 rw [k7] at fin
 simp (maxSteps:=1000000) -dsimp only [go_sem,jK]
 exact fin _ _ rfl
theorem JL {a b:Int × Vl} (h:b8 a=b8 b):a=b:=by
 obtain ⟨i,x⟩:=a
 obtain ⟨j,y⟩:=b
 obtain ⟨h1,h2⟩:=List.cons.inj h
 have e:i=j:=by simpa using h1
 have e2:x=y:=tF h2
 rw [e,e2]
instance:Inhabited (Int × Vl):=⟨(0,default)⟩
noncomputable def C.ve:=qX b8
@[go_sem] theorem aST (v:Int × Vl):C.ve (b8 v)=v:=jD JL v
@[go_sem] theorem aD6 (l:List (Int × Vl)):(l.map b8).map C.ve=l:=kI JL l
def XN (r:List C):Prop:=∃ u:St,r=aP u/\u.ok/\∀ f ∈ u.fs,TySm f.ty
def aBM (rs:List (List C)):Prop:=∃ l:List (Int × Vl),rs=l.map b8/\l.length * 88<=140737488355328/\∀ x ∈ l,b6 x.1/\VlOk x.2
theorem YT {v:Vl} (h:VlOk v):aBM (v.f.map b8):=⟨v.f,rfl,h.lf,fun x hx=>⟨h.fn x hx,h.f x hx⟩⟩
theorem SK {s:Sc} (hs:s.fit) (n:ByteArray):XN (aP ((fS s.ss n).getD default)):=by
 refine ⟨_,rfl,?_⟩
 cases hf:fS s.ss n with
 | none=>exact ⟨St.ok_default,fun f hf=>(List.not_mem_nil hf).elim⟩
 | some w=>exact ⟨hs.ok.ss w (gE hf).1,(hs.sm w (gE hf).1).2⟩
def xO:List S->Prop:=fun av=>match av with
 | [.va (.gs r),.va (.c1 (.fz rs))]=>XN r/\aBM rs
 | _=>False
theorem oK {av:List S} (h:xO av):∃ (u:St) (l:List (Int × Vl)),av=[.va (.gs (aP u)),.va (.c1 (.fz (l.map b8)))]/\u.ok/\(∀ f ∈ u.fs,TySm f.ty)/\l.length * 88<=140737488355328/\∀ x ∈ l,b6 x.1/\VlOk x.2:=by
 unfold xO at h
 split at h
 · obtain ⟨⟨u,rfl,h1,h2⟩,⟨l,rfl,h3,h4⟩⟩:=h; exact ⟨u,l,rfl,h1,h2,h3,h4⟩
 · exact h.elim
noncomputable def QN:List S->A:=fun av=>match av with
 | [.va (.gs r),.va (.c1 (.fz rs))]=>bA (fI (C.st r).fs (rs.map C.ve))
 | _=>.gs []
noncomputable def ftFn1:Fun:=⟨xO,QN,fun av h=>by obtain ⟨_,_,rfl,_⟩:=oK h; trivial⟩
theorem NV:∀ av H K,ftFn1.sp av H K->av.length=2:=fun av H K h=>by obtain ⟨_,_,rfl,_⟩:=oK h.1.1; rfl
attribute [go_sem] ftFn1 xO QN
def PJ (l:List (Int × Vl)):Nat->Option Int
 | 0=>none
 | j + 1=>(l[j]?).map (·.1)
theorem PQ {l:List (Int × Vl)} {n:Int} {x:Int × Vl} (h:l[n.toNat]? = some x) (p:List C->Prop):(∀ r,(l.map b8)[n.toNat]? = some r->p r)=p [.vl (.int .i64 x.1),.vl (.int .i64 x.2.k),.vl (.int .i64 x.2.n),.vl (.string x.2.s),.fz (x.2.l.map bJ),.fz (x.2.f.map b8)]:=by
 rw [<-QX]; exact oW (row:=b8) h p
theorem aC9:Meets Tryz.prog 119 ftFn1.sp:=by
 refine aE Tryz.func119 aI7 2 (by rw [Tryz.ntmps119]; decide) (aB rH (aB NK (aA _))) NV ?_
 rintro av H K ⟨⟨h,rfl⟩,hK⟩
 obtain ⟨u,l,rfl,hu,hus,hl,hlo⟩:=oK h
 replace hK:K (bS (fI u.fs l)) []:=by
  have:ftFn1.val [.va (.gs (aP u)),.va (.c1 (.fz (l.map b8)))]=bA (fI u.fs l):=by simp -dsimp only [go_sem]
  rw [this] at hK; exact hK
 clear h
 have fin:∀ (b:Bool) (R:Hp),fI u.fs l=b->W.Fin 0 K (bS b) R:=fun b R h=>by
  rw [h] at hK; exact .sel [] (by simp) (by simp) rfl (.done (by simpa [go_sem] using hK))
 clear hK
 have hfl:=hu.len
 generalize hR:u.fs.all (fun f=>f.opt || pN l f.num)=R2
 have hF:fI u.fs l=(ftA u.fs none l && R2):=by rw [<-hR]; rfl
 rw [hF] at fin
 generalize hR0:(ftA u.fs none l && R2)=R0 at fin
 clear hF
 simp (maxSteps:=1000000) -dsimp only [go_sem,aP,XW,XF]
 refine aK (α:=Nat) (fun i=>[(1,.va (.c1 (.fz (l.map b8)))),(2,.va (.c1 (.pt 0 0))),(11,.va (.c1 (.fz (l.map b8)))),(12,iS .i64 l.length),(13,iS .i64 i)]) (fun _=>[.cells (aP u) 95])
  (fun i=>i<=l.length/\(ftA u.fs (PJ l i) (l.drop i) && R2)=R0) (fun i=>l.length - i) 0 1 ⟨Nat.zero_le _,hR0⟩ ?_ ?_ ?_
 · simp -dsimp only [go_sem]<;>simp
 · simp -dsimp only [go_sem,aP]<;>simp
 rintro i ⟨hi,ho⟩
 rcases bE i l.length with hlt | hge
 · have hg:decide ((i:Int) < (l.length:Int))=true:=by simp; omega
   obtain ⟨x,hx⟩:∃ t,l[i]? = some t:=⟨_,aY hlt⟩
   have q1:=yM hx
   have hdr:l.drop i=x :: l.drop (i + 1):=by
    obtain ⟨h,rfl⟩:=aZ.1 hx
    exact List.drop_eq_getElem_cons h
   have hpv:PJ l (i + 1)=some x.1:=by rw [PJ,hx]; rfl
   rw [hdr,FS,<-hpv] at ho
   simp (maxSteps:=1000000) -dsimp only [go_sem,hg,↓q1,aP]
   refine ⟨by omega,aD rfl (.done ?_)⟩
   simp (maxSteps:=1000000) -dsimp only [go_sem,BF]
   refine KA (t:=u) hu hus ?_
   cases hf:fF u.fs x.1 with
   | none=>
    rw [hf] at ho
    simp (maxSteps:=1000000) -dsimp only [go_sem,JS,Option.getD_none,Option.isSome_none]
    refine aD rfl (.done ?_)
    simp (maxSteps:=1000000) -dsimp only [go_sem,mT,Bool.false_and]
    exact fin _ _ ho.symm
   | some g=>
    rw [hf,Option.isSome_some,Bool.true_and] at ho
    simp (maxSteps:=1000000) -dsimp only [go_sem,aX,Option.getD_some,Option.isSome_some]
    refine aD rfl (.done ?_)
    cases hz:decide ((0:Int) < (i:Int)) with
    | false=>
     obtain rfl:i=0:=by have:=of_decide_eq_false hz; omega
     simp (maxSteps:=1000000) -dsimp only [go_sem,mT,hz]
     refine ⟨by omega,aC (0 + 1) 1 ⟨by omega,ho⟩ (by omega) ?_ ?_⟩
     · simp -dsimp only [go_sem]<;>simp
     · simp -dsimp only [go_sem,aP]<;>simp [aP]
    | true=>
     have hz':=of_decide_eq_true hz
     obtain ⟨y,hy⟩:∃ t,l[i - 1]? = some t:=⟨_,aY (by omega)⟩
     have hti:((i:Int) - 1).toNat=i - 1:=by omega
     have q2:=fun p=>PQ (n:=(i:Int) - 1) (x:=y) (by rw [hti]; exact hy) p
     have hpi:PJ l i=some y.1:=by
      match i,hz',hy with
      | j + 1,_,hy=>rw [PJ]; rw [show j + 1 - 1=j by omega] at hy; rw [hy]; rfl
     rw [hpi,ltO] at ho
     have f1:(0<=(i:Int) - 1)=True:=eq_true (by omega)
     have f2:((i:Int) - 1 < (l.length:Int))=True:=eq_true (by omega)
     cases hc:decide (x.1<=y.1) with
     | true=>
      have:decide (y.1 < x.1)=false:=by have:=of_decide_eq_true hc; simp; omega
      rw [this] at ho
      simp (maxSteps:=1000000) -dsimp only [go_sem,mT,hz,↓q2,hc,f1,f2]
      exact ⟨by omega,fin _ _ ho.symm⟩
     | false=>
      have:decide (y.1 < x.1)=true:=by have:=of_decide_eq_false hc; simp; omega
      rw [this,Bool.true_and] at ho
      simp (maxSteps:=1000000) -dsimp only [go_sem,mT,hz,↓q2,hc,f1,f2]
      refine ⟨by omega,by omega,aC (i + 1) 1 ⟨by omega,ho⟩ (by omega) ?_ ?_⟩
      · simp -dsimp only [go_sem]<;>simp
      · simp -dsimp only [go_sem,aP]<;>simp [aP]
 · have hg:decide ((i:Int) < (l.length:Int))=false:=by simp; omega
   obtain rfl:i=l.length:=by omega
   rw [List.drop_length,JU,Bool.true_and] at ho
   simp (maxSteps:=1000000) -dsimp only [go_sem,hg,aP]
   refine aD rfl (.done ?_)
   simp (maxSteps:=1000000) -dsimp only [go_sem,AC]
   clear hi hge hg hR0
   rw [<-hR] at ho
   clear hR
   refine aK (α:=Nat) (fun i=>[(1,.va (.c1 (.fz (l.map b8)))),(2,.va (.c1 (.pt 0 0))),(44,.va (.c1 (.fz (u.fs.map aX)))),(45,iS .i64 u.fs.length),(46,iS .i64 i)]) (fun _=>[.cells (aP u) 95])
    (fun i=>i<=u.fs.length/\(u.fs.drop i).all (fun f=>f.opt || pN l f.num)=R0) (fun i=>u.fs.length - i) 0 1 ⟨Nat.zero_le _,ho⟩ ?_ ?_ ?_
   · simp -dsimp only [go_sem]<;>simp
   · simp -dsimp only [go_sem,aP]<;>simp
   clear ho
   rintro i ⟨hi,ho⟩
   rcases bE i u.fs.length with hlt | hge
   · have hg:decide ((i:Int) < (u.fs.length:Int))=true:=by simp; omega
     obtain ⟨f,hx⟩:∃ t,u.fs[i]? = some t:=⟨_,aY hlt⟩
     have q1:=aW (row:=aX) hx
     rw [m6 hx] at ho
     simp (maxSteps:=1000000) -dsimp only [go_sem,hg,↓q1,aP,aX]
     refine ⟨by omega,aD rfl (.done ?_)⟩
     cases hop:f.opt with
     | true=>
      rw [hop,Bool.true_or,Bool.true_and] at ho
      simp (maxSteps:=1000000) -dsimp only [go_sem,qH]
      refine ⟨by omega,aC (i + 1) 1 ⟨by omega,ho⟩ (by omega) ?_ ?_⟩
      · simp -dsimp only [go_sem]<;>simp
      · simp -dsimp only [go_sem,aP]<;>simp [aP]
     | false=>
      rw [hop,Bool.false_or] at ho
      have cu:=fun K h=>aED (l:=l) (f:=f) (K:=K) (by omega) h
      rw [aX,hop] at cu
      simp (maxSteps:=1000000) -dsimp only [go_sem,qH]
      refine cu _ ?_
      cases hc:pN l f.num with
      | false=>
       rw [hc,Bool.false_and] at ho
       simp (maxSteps:=1000000) -dsimp only [go_sem]
       exact fin _ _ ho.symm
      | true=>
       rw [hc,Bool.true_and] at ho
       simp (maxSteps:=1000000) -dsimp only [go_sem]
       refine ⟨by omega,aC (i + 1) 1 ⟨by omega,ho⟩ (by omega) ?_ ?_⟩
       · simp -dsimp only [go_sem]<;>simp
       · simp -dsimp only [go_sem,aP]<;>simp [aP]
   · have hg:decide ((i:Int) < (u.fs.length:Int))=false:=by simp; omega
     obtain rfl:i=u.fs.length:=by omega
     rw [oN] at ho
     simp (maxSteps:=1000000) -dsimp only [go_sem,hg,aP]
     exact fin _ _ ho.symm
abbrev XG (s:Sc) (t:Ty) (v:Vl):Value:=.int .i64 (iX s t v)
abbrev ckH (N:Nat):Sc->Ty->Vl->Prop:=fun _ _ v=>v.h<=N
def LW (s:Sc) (t:Ty) (v:Vl):Int:=bif v.n != 0 || !(bl v.s == []) || decide (0 < (v.f.length:Int)) then 13 else bif decide (t.s < (v.l.length:Int)) then 3 else j5 s (t.e.headD default) v.l
def MI (s:Sc) (t:Ty) (v:Vl):Int:=bif v.n != 0 || !(bl v.s == []) || decide (0 < (v.l.length:Int)) || !(fI ((fS s.ss t.n).getD default).fs v.f) then 13 else jQ s ((fS s.ss t.n).getD default).fs v.f
theorem iB {t:Ty} (h:TyOk t):eO [.vl (.int .i64 t.k),.vl (.int .i64 t.s),.vl (.string t.n),.fz (t.e.map aN)]:=by rw [<-aO]; exact dQ h
theorem nC (t:Ty):C.ty [.vl (.int .i64 t.k),.vl (.int .i64 t.s),.vl (.string t.n),.fz (t.e.map aN)]=t:=by rw [<-aO,eX]
theorem i7 {s:Sc} (h:s.fit):jY [.vl (.int .i64 s.ver),.fz (s.es.map bI),.fz (s.ss.map aP)]:=fC h
theorem m5 (s:Sc):C.sc [.vl (.int .i64 s.ver),.fz (s.es.map bI),.fz (s.ss.map aP)]=s:=fW s
theorem M1 {ss:List St} {es:List En} {t:Ty} (h:valF ss es t=true) (k:(t.k == 5)=true):∃ u,t.e=[u]/\valF ss es u=true:=by
 cases t with
 | mk k0 s n e=>
  obtain rfl:k0=5:=by have k:(k0 == 5)=true:=k; simpa using k
  exact wG h
theorem aEG (N:Nat) (hc:Meets Tryz.prog 53 (gX (ckH N) XG).sp):Meets Tryz.prog 93 (gX (fun s t v=>valF s.ss s.es t=true/\(t.k == 5)=true/\v.h<=N + 1) fun s t v=>.int .i64 (LW s t v)).sp:=by
 refine aE Tryz.func93 aNL 3 (by rw [Tryz.ntmps93]; decide) (aG hc (aA _)) kK ?_
 intro av H K h
 obtain ⟨s,t,v,rfl,rfl,hs,ht,hv,⟨hp,hk,hh⟩,hK⟩:=iQ h
 clear h
 have fin:∀ (z:Int) (R:Hp),LW s t v=z->W.Fin 0 K (iS .i64 z) R:=fun z R h=>by
  rw [h] at hK; exact .sel [] (by simp) (by simp) rfl (.done (by simpa [go_sem] using hK))
 clear hK
 unfold LW at fin
 obtain ⟨u,he,hu⟩:=M1 hp hk
 have huo:TyOk u:=ht.e u (by rw [he]; simp)
 have hll:=hv.ll
 rw [he] at fin
 simp only [List.headD_cons] at fin
 cases h0:(v.n != 0 || !(bl v.s == []) || decide (0 < (v.f.length:Int))) with
 | true=>
  rw [h0] at fin
  cases h1:v.n != 0<;>cases h2:bl v.s == []<;>cases h3:decide (0 < (v.f.length:Int)) <;>
  first
   | (exfalso; rw [h1,h2,h3] at h0; exact absurd h0 (by decide))
   | (simp (maxSteps:=1000000) -dsimp only [go_sem,aF,aO t,aV v,M6,MR,h1,h2,h3]
      exact fin _ _ rfl)
 | false=>
 rw [h0] at fin
 obtain ⟨h1,h2,h3⟩:(v.n != 0)=false/\(bl v.s == [])=true/\decide (0 < (v.f.length:Int))=false:=by
  simp only [Bool.or_eq_false_iff,Bool.not_eq_false'] at h0; exact ⟨h0.1.1,h0.1.2,h0.2⟩
 cases h4:decide (t.s < (v.l.length:Int)) with
 | true=>
  rw [h4] at fin
  simp (maxSteps:=1000000) -dsimp only [go_sem,aF,aO t,aV v,M6,MR,h1,h2,h3,h4]
  exact fin _ _ rfl
 | false=>
 rw [h4] at fin
 simp only [aI] at fin
 simp (maxSteps:=1000000) -dsimp only [go_sem,aF,aO t,aV v,M6,MR,h1,h2,h3,h4]
 refine aK (α:=Nat) (fun i=>[(3,.va (.c1 (.pt 0 0))),(4,.va (.c1 (.pt 1 0))),(5,.va (.c1 (.pt 2 0))),(33,.va (.c1 (.fz (v.l.map bJ)))),(34,iS .i64 v.l.length),(35,iS .i64 i)]) (fun _=>[.cells (aF s) 105,.cells [.vl (.int .i64 t.k),.vl (.int .i64 t.s),.vl (.string t.n),.fz (t.e.map aN)] 28,.cells (bL v) 32])
  (fun i=>i<=v.l.length/\j5 s u (v.l.drop i)=j5 s u v.l) (fun i=>v.l.length - i) 0 3 ⟨Nat.zero_le _,rfl⟩ ?_ ?_ ?_
 · simp -dsimp only [go_sem]<;>simp
 · simp -dsimp only [go_sem,bL,aF]<;>simp
 rintro i ⟨hi,ho⟩
 rcases bE i v.l.length with hlt | hge
 · have hg:decide ((i:Int) < (v.l.length:Int))=true:=by simp; omega
   obtain ⟨x,hx⟩:∃ t,v.l[i]? = some t:=⟨_,aY hlt⟩
   have q1:=NG hx
   have hxm:=bK hx
   have k1:=fV (hv.l x hxm)
   have k2:=lO x
   have k3:x.h<=N:=by have:=Vl.h_l hxm; omega
   have hdr:v.l.drop i=x :: v.l.drop (i + 1):=by
    obtain ⟨h,rfl⟩:=aZ.1 hx
    exact List.drop_eq_getElem_cons h
   have k4:=iB huo
   have k5:=nC u
   have k6:=i7 hs
   have k7:=m5 s
   rw [hdr,j5] at ho
   rw [he]
   cases h5:iX s u x != 0 with
   | true=>
    rw [h5,aL] at ho
    simp (maxSteps:=1000000) -dsimp only [go_sem,hg,↓q1,bL,aF,aO u,k1,k2,k3,k4,k5,k6,k7,h5,List.getElem?_cons_zero,aH,forall_eq']
    exact ⟨by omega,by omega,fin _ _ ho.symm⟩
   | false=>
    rw [h5,aI] at ho
    simp (maxSteps:=1000000) -dsimp only [go_sem,hg,↓q1,bL,aF,aO u,k1,k2,k3,k4,k5,k6,k7,h5,List.getElem?_cons_zero,aH,forall_eq']
    refine ⟨by omega,by omega,by omega,aC (i + 1) 3 ⟨by omega,ho⟩ (by omega) ?_ ?_⟩
    · simp -dsimp only [go_sem]<;>simp
    · simp -dsimp only [go_sem,bL,aF]<;>simp [aO u]
 · have hg:decide ((i:Int) < (v.l.length:Int))=false:=by simp; omega
   obtain rfl:i=v.l.length:=by omega
   rw [List.drop_length,j5] at ho
   simp (maxSteps:=1000000) -dsimp only [go_sem,hg,bL,aF]
   exact fin _ _ ho.symm
end Go.Proofs.YtkpohmhenegkiaaGreatDoor
