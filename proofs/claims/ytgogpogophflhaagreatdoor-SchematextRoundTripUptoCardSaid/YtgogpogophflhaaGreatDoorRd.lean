/- Lemmas and walks for the proof. -/
import Derived.Test.YtgogpogophflhaaGreatDoorRc
import Derived.Test.YtgogpogophflhaaGreatDoorProg
import Derived.Shelf.Strconv.Itoa3
import Derived.ProofKit
import Derived.OpenShut
import Derived.WalkKit
import Derived.Deep.LoopGhost
import Derived.Deep.QuietTactic
import Derived.BigQuiet
set_option maxRecDepth 100000
set_option maxHeartbeats 8000000
namespace Go.Proofs.YtgogpogophflhaaGreatDoor
open Go.W
mutual
def bO:Ty->Nat × Ty
 | .mk k s n e=>bif k == 5 then D6 e (.mk k s n e) else (0,.mk k s n e)
def D6:List Ty->Ty->Nat × Ty
 | [],d=>(0,d)
 | u :: _,_=>((bO u).1 + 1,(bO u).2)
end
def cB (dp:ByteArray->Int) (t:Ty):Int:=(bO t).1 + bif (bO t).2.k == 6 then dp (bO t).2.n else 0
def fO (dp:ByteArray->Int) (fs:List Fl):Int:=fs.foldl (fun m f=>max m (cB dp f.ty)) 0
def dN (ss:List St):Nat->ByteArray->Int
 | 0,_=>1
 | N + 1,n=>fO (dN ss N) ((fS ss n).getD default).fs + 1
inductive LOk:Ty->Prop
 | stop {k s n e}:(k == 5)=false->LOk (.mk k s n e)
 | list {s n u r}:LOk u->LOk (.mk 5 s n (u :: r))
abbrev nK (d:Int):A:=.c1 (.vl (.int .i64 d))
@[go_sem] theorem aGC (f:Nat->Option Nat) (l:List Int):(l.map nK).map (A.ren f)=l.map nK:=by rw [List.map_map]; rfl
@[go_sem] theorem aFD (n:Nat) (xs:List (List C)) (l:List Int):(l.map nK).map (A.pub n xs)=l.map nK:=by rw [List.map_map]; rfl
structure Dp (ss:List St) (D:ByteArray->Int) (r:ByteArray->Nat):Prop where
 ok:∀ s ∈ ss,s.ok
 eq:∀ n t,fS ss n=some t->D n=fO D t.fs + 1
 lo:∀ n,0<=D n
 hi:∀ n,D n<=1000000000000
 ls:∀ n t,fS ss n=some t->∀ f ∈ t.fs,LOk f.ty
 rf:∀ n t,fS ss n=some t->∀ f ∈ t.fs,((bO f.ty).2.k == 6)=true->∃ u,fS ss (bO f.ty).2.n=some u/\r (bO f.ty).2.n < r n
def tG (D:ByteArray->Int) (ms:List ByteArray) (ds:List Int):Prop:=ms.length=ds.length/\∀ n v,iI (gL ms) (ds.map nK) (.string n)=some v->v=nK (D n)
abbrev HS (ks:List Value) (vs:List St) (ks':List Value) (vs':List En) (ms:List ByteArray) (ds:List Int):Hp:=
 [.map .string ks (vs.map iQ),.map .string ks' (vs'.map i6),.cells [.mp 0,.mp 1] 117,.map .string (gL ms) (ds.map nK),.cells [.mp 3] 158,.cells [.fn 126 [(false,[.pt 4 0]),(false,[.pt 5 0]),(false,[.pt 2 0])]] 159]
def YQ (N:Nat):W.Spec:=fun av H K=>∃ (ss:List St) (D:ByteArray->Int) (r:ByteArray->Nat) (t:St) (ks:List Value) (vs:List St) (ks':List Value) (vs':List En) (ms:List ByteArray) (ds:List Int),
 av=[.va (.gs (aJ t)),.va (.c1 (.pt 4 0)),.va (.c1 (.pt 5 0)),.va (.c1 (.pt 2 0))]/\H=HS ks vs ks' vs' ms ds/\
 kP ks vs ss/\Dp ss D r/\fS ss t.nm=some t/\r t.nm < N/\tG D ms ds/\∀ ms' ds',tG D ms' ds'->K (iS .i64 (D t.nm)) (HS ks vs ks' vs' ms' ds')
theorem LD {D:ByteArray->Int} {ms:List ByteArray} {ds:List Int} (h:tG D ms ds) (n:ByteArray):iI (gL ms) (ds.map nK) (.string n)=none\/iI (gL ms) (ds.map nK) (.string n)=some (nK (D n)):=by
 cases hm:iI (gL ms) (ds.map nK) (.string n) with
 | none=>exact .inl rfl
 | some v=>rw [h.2 n v hm]; exact .inr rfl
theorem KS {D:ByteArray->Int} {ms:List ByteArray} {ds:List Int} (h:tG D ms ds) (n:ByteArray):∃ ms' ds',jU (gL ms) (.string n)=gL ms'/\kI (gL ms) (ds.map nK) (.string n) (nK (D n))=ds'.map nK/\tG D ms' ds':=by
 obtain ⟨ms',ds',h1,h2,h3,h4⟩:=EB nK h.1 n (D n)
 refine ⟨ms',ds',h1,h2,h3,fun k v hk=>?_⟩
 rw [h4] at hk
 by_cases e:k=n
 · subst e; simp at hk; exact hk.symm
 · simp [e] at hk; exact h.2 k v hk
abbrev gF (D:ByteArray->Int):Int->Fl->Int:=fun m f=>max m (cB D f.ty)
theorem wD (D:ByteArray->Int):∀ (l:List Fl) (m:Int),m<=l.foldl (gF D) m
 | [],_=>Int.le_refl _
 | f :: l,m=>by
  have:=wD D l (max m (cB D f.ty))
  show m<=l.foldl (gF D) (max m (cB D f.ty)); omega
theorem QQ {D:ByteArray->Int} {l:List Fl} {i:Nat} {f:Fl} (hx:l[i]? = some f) (m:Int):(l.drop i).foldl (gF D) m=(l.drop (i + 1)).foldl (gF D) (max m (cB D f.ty)):=by
 obtain ⟨h,rfl⟩:=a8.1 hx
 rw [List.drop_eq_getElem_cons h]; rfl
theorem XN:∀ N,Meets Tryz.prog 126 (YQ N)
 | 0=>⟨by kernel_rfl,by rintro xs vs E ro w K _ _ _ ⟨_,_,_,_,_,_,_,_,_,_,_,_,_,_,_,h,_⟩; exact absurd h (Nat.not_lt_zero _)⟩
 | N + 1=>by
  refine aI Tryz.func126 Z9 4 (by rw [Tryz.ntmps126]; decide) (aD (XN N) (aC _)) (fun av H K h=>by obtain ⟨_,_,_,_,_,_,_,_,_,_,rfl,_⟩:=h; rfl) ?_
  rintro av H K ⟨ss,D,r,t,ks,vs,ks',vs',ms,ds,rfl,rfl,h1,h2,ht,hr,hk,hK⟩
  have htok:=h2.ok t (List.mem_of_find?_eq_some ht)
  obtain ⟨_,hl,hfs⟩:=htok
  rcases LD hk t.nm with hm | hm
  · simp (maxSteps:=9^6) -dsimp only [go_sem,aJ,IY,IL,hm]
    have hD:=h2.eq t.nm t ht
    have hDh:=h2.hi t.nm
    refine aT (α:=Nat × Int × List ByteArray × List Int) (fun z=>[(1,.va (.c1 (.pt 4 0))),(2,.va (.c1 (.pt 5 0))),(3,.va (.c1 (.pt 2 0))),(4,.va (.c1 (.pt 6 0))),(8,iS .i64 z.2.1),(23,.va (.c1 (.fz (t.fs.map bD)))),(24,iS .i64 t.fs.length),(25,iS .i64 z.1)])
     (fun z=>HS ks vs ks' vs' z.2.2.1 z.2.2.2 ++ [.cells (aJ t) 56])
     (fun z=>z.1<=t.fs.length/\0<=z.2.1/\(t.fs.drop z.1).foldl (gF D) z.2.1=fO D t.fs/\tG D z.2.2.1 z.2.2.2) (fun z=>t.fs.length - z.1) (0,0,ms,ds) 7 ⟨Nat.zero_le _,Int.le_refl _,rfl,hk⟩ ?_ ?_ ?_
    · simp -dsimp only [go_sem]<;>simp
    · simp -dsimp only [go_sem,aJ]<;>simp
    clear hk hm
    rintro ⟨i,m,ms,ds⟩ ⟨hi,hm0,ho,hk⟩
    simp only at hi hm0 ho hk ⊢
    have hmb:m<=1000000000000:=by have:=wD D (t.fs.drop i) m; rw [ho] at this; omega
    rcases bG i t.fs.length with hlt | hge
    · have hg:decide ((i:Int) < (t.fs.length:Int))=true:=by simp; omega
      obtain ⟨f,hx⟩:∃ nm,t.fs[i]? = some nm:=⟨_,aV hlt⟩
      have q1:=aN (row:=bD) hx
      have hf:f.ok:=hfs f (bT hx)
      rw [QQ hx] at ho
      have hfb:cB D f.ty<=1000000000000:=by have:=wD D (t.fs.drop (i + 1)) (max m (cB D f.ty)); rw [ho] at this; omega
      simp (maxSteps:=9^6) -dsimp only [go_sem,hg,↓q1,bD,jC]
      have hlo:=h2.ls t.nm t ht f (bT hx)
      refine ⟨by omega,⟨yA _,dO _⟩,by rw [dO]; exact Nat.le_refl _,?_⟩
      refine aT (α:=Nat × Ty) (fun z=>[(1,.va (.c1 (.pt 4 0))),(2,.va (.c1 (.pt 5 0))),(3,.va (.c1 (.pt 2 0))),(4,.va (.c1 (.pt 6 0))),(8,iS .i64 m),(11,iS .i64 z.1),(12,.va (.c1 (.pt 8 0))),(23,.va (.c1 (.fz (t.fs.map bD)))),(24,iS .i64 t.fs.length),(25,iS .i64 i)])
       (fun z=>HS ks vs ks' vs' ms ds ++ [.cells (aJ t) 56,.cells (bD f) 64,.cells (aP z.2) 37])
       (fun z=>LOk z.2/\z.1 + (bO z.2).1=(bO f.ty).1/\(bO z.2).2=(bO f.ty).2) (fun z=>z.2.h) (0,f.ty) 9 ⟨hlo,by simp,rfl⟩ ?_ ?_ ?_
      · simp -dsimp only [go_sem]<;>simp
      · simp -dsimp only [go_sem,aJ,bD,dO]<;>simp
      rintro ⟨n,u⟩ ⟨hu1,hu2,hu3⟩
      simp only at hu1 hu2 hu3 ⊢
      have hlv:((bO f.ty).1:Int)<=1000000000000:=by
       have hd0:=h2.lo (bO f.ty).2.n
       unfold cB at hfb
       cases hq:(bO f.ty).2.k == 6<;>rw [hq] at hfb<;>simp only [aM,aG] at hfb<;>omega
      cases hu1 with
      | list hv=>
       rename_i s' n' v r'
       have hl5:bO (.mk 5 s' n' (v :: r'))=((bO v).1 + 1,(bO v).2):=by simp [bO,D6]
       rw [hl5] at hu2 hu3
       simp (maxSteps:=9^6) -dsimp only [go_sem,aP,aU]
       refine ⟨by omega,⟨by omega,fun r hr=>by subst hr; exact dO v⟩,fun r hr=>?_⟩
       subst hr
       simp -dsimp only [go_sem,dO]
       refine ⟨yA v,aB (n + 1,v) 9 ⟨hv,by simp only at hu2 ⊢; omega,hu3⟩ (by simp only [Ty.h,Ty.hs]; omega) ?_ ?_⟩
       · simp -dsimp only [go_sem]<;>simp
       · simp -dsimp only [go_sem,aJ,bD]<;>simp
      | stop hk5=>
       rename_i k' s' n' e'
       have hl0:bO (.mk k' s' n' e')=(0,.mk k' s' n' e'):=by rw [bO,hk5]; rfl
       rw [hl0] at hu2 hu3
       simp only [Nat.add_zero] at hu2
       have hfd:cB D f.ty=(n:Int) + bif k' == 6 then D n' else 0:=by unfold cB; rw [<-hu2,<-hu3]; rfl
       cases k6:k' == 6 with
       | false=>
        rw [k6,aG,Int.add_zero] at hfd
        rw [hfd] at ho
        simp (maxSteps:=9^6) -dsimp only [go_sem,aP,aU,hk5,k6]
        refine ⟨by omega,aB (i + 1,max m (n:Int),ms,ds) 7 ⟨by simp only; omega,by simp only; omega,ho,hk⟩ (by simp only; omega) ?_ ?_⟩
        · simp -dsimp only [go_sem]<;>simp
        · simp -dsimp only [go_sem,aJ]<;>simp
       | true=>
        rw [k6,aM] at hfd
        rw [hfd] at ho
        obtain ⟨w,hw,hrw⟩:=h2.rf t.nm t ht f (bT hx) (by rw [<-hu3]; exact k6)
        rw [<-hu3] at hw hrw
        have hx1:=h1 n'
        rw [show fS ss n'=some w from hw] at hx1
        simp only [Option.map_some] at hx1
        simp (maxSteps:=9^6) -dsimp only [go_sem,aP,aU,hk5,k6,hx1,aJ]
        have hwn:w.nm=n':=by have:=List.find?_some hw; simp only [decide_eq_true_eq] at this; exact this
        refine ⟨ss,D,r,w,ks,vs,ks',vs',ms,ds,rfl,rfl,h1,h2,by rw [hwn]; exact hw,by rw [hwn]; exact Nat.lt_of_lt_of_le hrw (Nat.le_of_lt_succ hr),hk,fun ms' ds' hk'=>?_⟩
        rw [hwn]
        have hd0:=h2.lo n'
        have hd1:=h2.hi n'
        simp (maxSteps:=9^6) -dsimp only [go_sem]
        refine ⟨by omega,by omega,aB (i + 1,max m ((n:Int) + D n'),ms',ds') 7 ⟨by simp only; omega,by simp only; omega,ho,hk'⟩ (by simp only; omega) ?_ ?_⟩
        · simp -dsimp only [go_sem]<;>simp
        · simp -dsimp only [go_sem,aJ]<;>simp
    · have hg:decide ((i:Int) < (t.fs.length:Int))=false:=by simp; omega
      obtain rfl:i=t.fs.length:=by omega
      rw [List.drop_length] at ho
      simp only [List.foldl_nil] at ho
      obtain ⟨ms',ds',p1,p2,p3⟩:=KS hk t.nm
      have e1:m + 1=D t.nm:=by omega
      simp (maxSteps:=9^6) -dsimp only [go_sem,hg,aJ,e1,p1,p2]
      refine ⟨by have:=h2.lo t.nm; omega,by have:=h2.lo t.nm; omega,.sel [0,1,2,3,4,5] (by simp) (by simp) rfl (.done (by simp -dsimp only [go_sem]; simpa [go_sem] using hK ms' ds' p3))⟩
  · simp (maxSteps:=9^6) -dsimp only [go_sem,aJ,IY,IL,hm]
    exact .sel [0,1,2,3,4,5] (by simp) (by simp) rfl (.done (by simp -dsimp only [go_sem]; simpa [go_sem] using hK ms ds hk))
def XZ:W.Spec:=fun av H K=>∃ (ss:List St) (D:ByteArray->Int) (r:ByteArray->Nat) (t:St) (ks:List Value) (vs:List St) (ks':List Value) (vs':List En),av=[mB,.va (.gs (aJ t))]/\H=f0 ks vs ks' vs'/\
 kP ks vs ss/\Dp ss D r/\fS ss t.nm=some t/\K (iS .i64 (D t.nm)) (f0 ks vs ks' vs')
theorem TJ {ss:List St} {D:ByteArray->Int} {r:ByteArray->Nat} {t:St} {ks:List Value} {vs:List St} {ks':List Value} {vs':List En} {K:S->Hp->Prop} (h1:kP ks vs ss) (h2:Dp ss D r) (h3:fS ss t.nm=some t) (hK:K (iS .i64 (D t.nm)) (f0 ks vs ks' vs')) :
 XZ [mB,.va (.gs (aJ t))] (f0 ks vs ks' vs') K:=⟨ss,D,r,t,ks,vs,ks',vs',rfl,rfl,h1,h2,h3,hK⟩
theorem XW:Meets Tryz.prog 114 XZ:=by
 refine iX 0 (t:=fun N=>fun av H K=>∃ (ss:List St) (D:ByteArray->Int) (r:ByteArray->Nat) (t:St) (ks:List Value) (vs:List St) (ks':List Value) (vs':List En),av=[mB,.va (.gs (aJ t))]/\H=f0 ks vs ks' vs'/\
  kP ks vs ss/\Dp ss D r/\fS ss t.nm=some t/\r t.nm < N/\K (iS .i64 (D t.nm)) (f0 ks vs ks' vs')) (fun N=>?_) fun av H K ⟨ss,D,r,t,ks,vs,ks',vs',e1,e2,h1,h2,h3,hK⟩=>⟨r t.nm + 1,ss,D,r,t,ks,vs,ks',vs',e1,e2,h1,h2,h3,Nat.lt_succ_self _,hK⟩
 refine aI Tryz.func114 aAH 2 (by rw [Tryz.ntmps114]; decide) (aD (XN N) (aC _)) (fun av H K h=>by obtain ⟨_,_,_,_,_,_,_,_,rfl,_⟩:=h; rfl) ?_
 rintro av H K ⟨ss,D,r,t,ks,vs,ks',vs',rfl,rfl,h1,h2,ht,hr,hK⟩
 simp -dsimp only [go_sem,aJ,OD,OQ]
 refine ⟨ss,D,r,t,ks,vs,ks',vs',[],[],rfl,rfl,h1,h2,ht,hr,⟨rfl,fun n v h=>by cases h⟩,fun ms ds _=>?_⟩
 simp -dsimp only [go_sem]
 exact .sel [0,1] (by simp) (by simp) rfl (.done (by simp -dsimp only [go_sem]; exact hK))
def yZ (t:St) (b:ByteArray):Prop:=∃ f ∈ t.fs,bW f.ty=true/\bN f.ty=b
def eG (ss:List St) (a b:ByteArray):Prop:=yZ ((fS ss a).getD default) b
inductive Reach (ss:List St):ByteArray->ByteArray->Prop
 | one {a b:ByteArray}:eG ss a b->Reach ss a b
 | more {a b c:ByteArray}:Reach ss a b->eG ss b c->Reach ss a c
theorem Reach.head {ss:List St} {a b c:ByteArray} (h:eG ss a b) (r:Reach ss b c):Reach ss a c:=by
 induction r with
 | one h2=>exact .more (.one h) h2
 | more _ h2 ih=>exact .more ih h2
theorem Reach.trans {ss:List St} {a b c:ByteArray} (h:Reach ss a b) (r:Reach ss b c):Reach ss a c:=by
 induction r with
 | one h2=>exact .more h h2
 | more _ h2 ih=>exact .more ih h2
theorem Reach.first {ss:List St} {a c:ByteArray} (r:Reach ss a c):∃ b,eG ss a b/\(c=b\/Reach ss b c):=by
 induction r with
 | one h=>exact ⟨_,h,.inl rfl⟩
 | more _ h2 ih=>
  obtain ⟨b,h3,h4⟩:=ih
  refine ⟨b,h3,.inr ?_⟩
  rcases h4 with rfl | h4
  · exact .one h2
  · exact .more h4 h2
theorem s9 {o:List ByteArray} {n:ByteArray}:b5 o n=false ↔ n ∉ o:=by
 rw [<-Bool.not_eq_true,oT]
theorem M9 (ss:List St) {N:Nat} (ih:∀ t o,fresh ss o < N->(∀ b,yZ t b->b ∈ cF ss N t o)/\∀ x ∈ cF ss N t o,x ∉ o->∀ y,eG ss x y->y ∈ cF ss N t o) (o:List ByteArray) (f:Fl) (h:fresh ss o < N + 1) :
 (bW f.ty=true->bN f.ty ∈ bP (cF ss N) ss o f)/\∀ x ∈ bP (cF ss N) ss o f,x ∉ o->∀ y,eG ss x y->y ∈ bP (cF ss N) ss o f:=by
 cases c1:bW f.ty with
 | false=>
  have:bP (cF ss N) ss o f=o:=by unfold bP; rw [c1]; rfl
  rw [this]; exact ⟨fun h=>by simp at h,fun x hx hn=>absurd hx hn⟩
 | true=>
 cases c2:b5 o (bN f.ty) with
 | true=>
  have:bP (cF ss N) ss o f=o:=by unfold bP; rw [c1,c2]; rfl
  rw [this]; exact ⟨fun _=>(oT _ _).1 c2,fun x hx hn=>absurd hx hn⟩
 | false=>
  cases hs:fS ss (bN f.ty) with
  | none=>
   have:bP (cF ss N) ss o f=o ++ [bN f.ty]:=by unfold bP; rw [c1,c2,hs]; rfl
   rw [this]
   refine ⟨fun _=>by simp,fun x hx hn y hy=>?_⟩
   have:x=bN f.ty:=by simpa [hn] using hx
   subst this
   unfold eG at hy; rw [hs] at hy
   obtain ⟨g,hg,_⟩:=hy; cases hg
  | some d=>
   have:bP (cF ss N) ss o f=cF ss N d (o ++ [bN f.ty]):=by unfold bP; rw [c1,c2,hs]; rfl
   rw [this]
   have hl:=vY c2 hs
   obtain ⟨i1,i2⟩:=ih d (o ++ [bN f.ty]) (by omega)
   obtain ⟨q,hq⟩:=kW ss N d (o ++ [bN f.ty])
   refine ⟨fun _=>by rw [hq]; simp,fun x hx hn y hy=>?_⟩
   by_cases hxn:x=bN f.ty
   · subst hxn
     unfold eG at hy; rw [hs] at hy
     exact i1 y hy
   · exact i2 x hx (by simp [hn,hxn]) y hy
theorem B9 (ss:List St) {N:Nat} (ih:∀ t o,fresh ss o < N->(∀ b,yZ t b->b ∈ cF ss N t o)/\∀ x ∈ cF ss N t o,x ∉ o->∀ y,eG ss x y->y ∈ cF ss N t o):∀ (l:List Fl) (o:List ByteArray),fresh ss o < N + 1->
 (∀ f ∈ l,bW f.ty=true->bN f.ty ∈ l.foldl (bP (cF ss N) ss) o)/\∀ x ∈ l.foldl (bP (cF ss N) ss) o,x ∉ o->∀ y,eG ss x y->y ∈ l.foldl (bP (cF ss N) ss) o
 | [],o,_=>⟨fun f h=>(List.not_mem_nil h).elim,fun x hx hn=>absurd hx hn⟩
 | f :: l,o,h=>by
  obtain ⟨s1,s2⟩:=M9 ss ih o f h
  have hp:=n8 (kW ss N) ss o f
  obtain ⟨r1,r2⟩:=B9 ss ih l (bP (cF ss N) ss o f) (by have:=hp.fresh (ss:=ss); omega)
  obtain ⟨q,hq⟩:=pU (fun o f=>n8 (kW ss N) ss o f) l (bP (cF ss N) ss o f)
  have hin:∀ x,x ∈ bP (cF ss N) ss o f->x ∈ l.foldl (bP (cF ss N) ss) (bP (cF ss N) ss o f):=fun x hx=>by rw [hq]; simp [hx]
  rw [List.foldl_cons]
  refine ⟨fun g hg hn=>?_,fun x hx hn y hy=>?_⟩
  · rcases List.mem_cons.1 hg with rfl | hg
    · exact hin _ (s1 hn)
    · exact r1 g hg hn
  · by_cases hx2:x ∈ bP (cF ss N) ss o f
    · exact hin _ (s2 x hx2 hn y hy)
    · exact r2 x hx hx2 y hy
theorem J3 (ss:List St):∀ (N:Nat) (t:St) (o:List ByteArray),fresh ss o < N->(∀ b,yZ t b->b ∈ cF ss N t o)/\∀ x ∈ cF ss N t o,x ∉ o->∀ y,eG ss x y->y ∈ cF ss N t o
 | 0,_,_,h=>absurd h (Nat.not_lt_zero _)
 | N + 1,t,o,h=>by
  obtain ⟨r1,r2⟩:=B9 ss (J3 ss N) t.fs o h
  exact ⟨fun b ⟨f,hf,hn,hb⟩=>hb ▸ r1 f hf hn,r2⟩
theorem A3 (ss:List St):∀ (N:Nat) (t:St) (o:List ByteArray),∀ x ∈ cF ss N t o,x ∈ o\/∃ b,yZ t b/\(x=b\/Reach ss b x)
 | 0,_,o=>fun x hx=>.inl hx
 | N + 1,t,o=>by
  have step:∀ (o:List ByteArray) (f:Fl),∀ x ∈ bP (cF ss N) ss o f,x ∈ o\/(bW f.ty=true/\(x=bN f.ty\/Reach ss (bN f.ty) x)):=fun o f x hx=>by
   cases c1:bW f.ty with
   | false=>
    have:bP (cF ss N) ss o f=o:=by unfold bP; rw [c1]; rfl
    rw [this] at hx; exact .inl hx
   | true=>
   cases c2:b5 o (bN f.ty) with
   | true=>
    have:bP (cF ss N) ss o f=o:=by unfold bP; rw [c1,c2]; rfl
    rw [this] at hx; exact .inl hx
   | false=>
    cases hs:fS ss (bN f.ty) with
    | none=>
     have:bP (cF ss N) ss o f=o ++ [bN f.ty]:=by unfold bP; rw [c1,c2,hs]; rfl
     rw [this] at hx
     rcases List.mem_append.1 hx with h | h
     · exact .inl h
     · exact .inr ⟨rfl,.inl (by simpa using h)⟩
    | some d=>
     have:bP (cF ss N) ss o f=cF ss N d (o ++ [bN f.ty]):=by unfold bP; rw [c1,c2,hs]; rfl
     rw [this] at hx
     rcases A3 ss N d _ x hx with h | ⟨b,hb,h⟩
     · rcases List.mem_append.1 h with h | h
       · exact .inl h
       · exact .inr ⟨rfl,.inl (by simpa using h)⟩
     · have hr:eG ss (bN f.ty) b:=by unfold eG; rw [hs]; exact hb
       refine .inr ⟨rfl,.inr ?_⟩
       rcases h with rfl | h
       · exact .one hr
       · exact .head hr h
  have fold:∀ (l:List Fl) (o:List ByteArray),∀ x ∈ l.foldl (bP (cF ss N) ss) o,x ∈ o\/∃ f ∈ l,bW f.ty=true/\(x=bN f.ty\/Reach ss (bN f.ty) x):=by
   intro l
   induction l with
   | nil=>exact fun o x hx=>.inl hx
   | cons f l ih=>
    intro o x hx
    rw [List.foldl_cons] at hx
    rcases ih _ x hx with h | ⟨g,hg,h⟩
    · rcases step o f x h with h | h
      · exact .inl h
      · exact .inr ⟨f,List.mem_cons_self,h⟩
    · exact .inr ⟨g,List.mem_cons_of_mem _ hg,h⟩
  intro x hx
  rcases fold t.fs o x hx with h | ⟨f,hf,hn,h⟩
  · exact .inl h
  · exact .inr ⟨bN f.ty,⟨f,hf,hn,rfl⟩,h⟩
theorem AQ (ss:List St):∀ (N:Nat) (t:St) (o:List ByteArray),o.Nodup->(cF ss N t o).Nodup
 | 0,_,_=>id
 | N + 1,t,o=>by
  have step:∀ (o:List ByteArray) (f:Fl),o.Nodup->(bP (cF ss N) ss o f).Nodup:=fun o f ho=>by
   have app:b5 o (bN f.ty)=false->(o ++ [bN f.ty]).Nodup:=fun c2=>by
    rw [s9] at c2
    rw [List.nodup_append]
    exact ⟨ho,by simp,fun a ha b hb=>by simp at hb; subst hb; exact fun e=>c2 (e ▸ ha)⟩
   unfold bP
   cases c1:bW f.ty with
   | false=>exact ho
   | true=>
   cases c2:b5 o (bN f.ty) with
   | true=>exact ho
   | false=>
    cases hs:fS ss (bN f.ty) with
    | none=>exact app c2
    | some d=>exact AQ ss N d _ (app c2)
  show o.Nodup->(t.fs.foldl (bP (cF ss N) ss) o).Nodup
  generalize t.fs=l
  induction l generalizing o with
  | nil=>exact id
  | cons f l ih=>exact fun h=>ih _ (step o f h)
theorem jD (ss:List St) (n x:ByteArray):x ∈ gE ss n ↔ Reach ss n x:=by
 unfold gE
 constructor
 · intro h
   rcases A3 ss _ _ _ x h with h | ⟨b,hb,h⟩
   · cases h
   · rcases h with rfl | h
     · exact .one hb
     · exact .head hb h
 · intro h
   obtain ⟨c1,c2⟩:=J3 ss (ss.length + 1) ((fS ss n).getD default) [] (Nat.lt_succ_of_le (vH ss []))
   induction h with
   | one h=>exact c1 _ h
   | more _ h2 ih=>exact c2 _ ih (by simp) _ h2
theorem rJ (ss:List St) (n:ByteArray):(gE ss n).Nodup:=AQ ss _ _ _ .nil
theorem L3 {l:List ByteArray} {x:ByteArray}:x ∈ fF l ↔ x ∈ l:=by
 unfold fF
 rw [List.mem_map]
 constructor
 · rintro ⟨y,hy,rfl⟩
   rw [List.mem_mergeSort,List.mem_map] at hy
   obtain ⟨z,hz,rfl⟩:=hy
   rw [lL]; exact hz
 · intro h
   exact ⟨bl x,by rw [List.mem_mergeSort]; exact List.mem_map_of_mem h,lL x⟩
theorem zZ {ss:List St} {n x:ByteArray}:x ∈ cY ss n ↔ Reach ss n x:=by unfold cY; rw [L3,jD]
theorem sH (ss:List St) (n:ByteArray):(cY ss n).length=(gE ss n).length:=nA _
structure Gd (ss:List St) (es:List En):Prop where
 ok:∀ s ∈ ss,s.ok
 n:ss.length<=16
 m:es.length<=16
 val:∀ s ∈ ss,∀ f ∈ s.fs,valF ss es f.ty=true
 lv:∀ s ∈ ss,∀ f ∈ s.fs,(bO f.ty).1<=1000000000
 nd:∀ s ∈ ss,fS ss s.nm=some s
def rW (ss:List St):Prop:=∀ s ∈ ss,b5 (cY ss s.nm) s.nm=false
theorem qE {ss:List St} {es:List En} {s:Int} {n:ByteArray} {e:List Ty} (h:valF ss es (.mk 5 s n e)=true):∃ u,e=[u]/\valF ss es u=true:=by
 rw [valF] at h
 simp only [show ((5:Int) == 1)=false from rfl,show ((5:Int) == 2)=false from rfl,show ((5:Int) == 3)=false from rfl,show ((5:Int) == 4)=false from rfl,show ((5:Int) == 5)=true from rfl,aM,aG,Bool.and_eq_true] at h
 obtain ⟨_,h⟩:=h
 match e,h with
 | [],h=>simp [nW] at h
 | [u],h=>exact ⟨u,rfl,by simpa [nW] using h⟩
 | u :: v :: r,h=>simp [nW] at h
theorem xI (ss:List St) (es:List En):∀ (N:Nat) (t:Ty),t.h<=N->valF ss es t=true->LOk t/\eU t=(bO t).2/\((eU t).k == 5)=false/\valF ss es (eU t)=true
 | 0,t,h,_=>absurd h (by have:=t.h_pos; omega)
 | N + 1,.mk k s n e,h,hv=>by
  cases k5:k == 5 with
  | true=>
   obtain rfl:k=5:=by simpa using k5
   obtain ⟨u,rfl,hu⟩:=qE hv
   obtain ⟨i1,i2,i3,i4⟩:=xI ss es N u (by rw [Ty.h,Ty.hs,Ty.hs] at h; omega) hu
   rw [rX]
   exact ⟨.list i1,by rw [i2]; simp [bO,D6],i3,i4⟩
  | false=>
   have h1:eU (.mk k s n e)=.mk k s n e:=pL (by rw [k5]; rfl)
   rw [h1]
   exact ⟨.stop k5,by rw [bO,k5]; rfl,k5,hv⟩
theorem X2 {ss:List St} {es:List En} {t:Ty} (hv:valF ss es t=true) (hn:bW t=true):eM ss (bN t)=true\/dB es (bN t)=true:=by
 obtain ⟨_,_,_,h⟩:=xI ss es t.h t (Nat.le_refl _) hv
 unfold bW at hn
 unfold bN
 revert h hn
 generalize eU t=u
 cases u with
 | mk k s n e=>
 intro hn h
 simp only [Ty.k,Bool.or_eq_true,beq_iff_eq] at hn
 rcases hn with rfl | rfl
 · left; rw [valF] at h; simp at h; exact h.1.1
 · right; rw [valF] at h; simp at h; exact h.1.1
theorem RG {ss:List St} {es:List En} {t:Ty} (hv:valF ss es t=true) (hk:((bO t).2.k == 6)=true):bW t=true/\bN t=(bO t).2.n/\eM ss (bO t).2.n=true/\LOk t:=by
 obtain ⟨h1,h2,_,h⟩:=xI ss es t.h t (Nat.le_refl _) hv
 unfold bW bN
 rw [h2] at h ⊢
 refine ⟨by rw [hk]; rfl,rfl,?_,h1⟩
 revert h hk
 generalize (bO t).2=u
 cases u with
 | mk k s n e=>
 intro hk h
 obtain rfl:k=6:=by simpa [Ty.k] using hk
 rw [valF] at h; simp at h; exact h.1.1
theorem kH {ss:List St} {n:ByteArray} {t:St} (h:fS ss n=some t):t ∈ ss/\t.nm=n:=⟨List.mem_of_find?_eq_some h,by have:=List.find?_some h; simpa using this⟩
theorem QZ {ss:List St} {a b:ByteArray} (h:eG ss a b):∃ t f,fS ss a=some t/\t ∈ ss/\f ∈ t.fs/\bW f.ty=true/\bN f.ty=b:=by
 obtain ⟨f,hf,hn,hb⟩:=h
 cases hs:fS ss a with
 | none=>rw [hs] at hf; cases hf
 | some t=>rw [hs] at hf; exact ⟨t,f,rfl,(kH hs).1,hf,hn,hb⟩
theorem M5 {ss:List St} {es:List En} (g:Gd ss es) {a b:ByteArray} (h:Reach ss a b):eM ss b=true\/dB es b=true:=by
 have:∃ c,eG ss c b:=by cases h with
  | one h=>exact ⟨_,h⟩
  | more _ h=>exact ⟨_,h⟩
 obtain ⟨c,h⟩:=this
 obtain ⟨t,f,_,ht,hf,hn,rfl⟩:=QZ h
 exact X2 (g.val t ht f hf) hn
theorem rU {α:Type} [DecidableEq α]:∀ {l m:List α},l.Nodup->(∀ x ∈ l,x ∈ m)->l.length<=m.length
 | [],_,_,_=>Nat.zero_le _
 | x :: l,m,h,hs=>by
  have h2:=List.nodup_cons.1 h
  have hx:=hs x List.mem_cons_self
  have:=rU (m:=m.erase x) h2.2 fun y hy=>(List.mem_erase_of_ne (fun e=>h2.1 (by rw [<-e]; exact hy))).2 (hs y (List.mem_cons_of_mem _ hy))
  rw [List.length_erase_of_mem hx] at this
  have hp:=List.length_pos_of_mem hx
  simp only [List.length_cons]; omega
theorem Gd.vlen {ss:List St} {es:List En} (g:Gd ss es) (n:ByteArray):(gE ss n).length<=32:=by
 have h:=rU (m:=ss.map (·.nm) ++ es.map (·.nm)) (rJ ss n) fun x hx=>by
  rw [jD] at hx
  rw [List.mem_append,List.mem_map,List.mem_map]
  rcases M5 g hx with h | h
  · left; unfold eM at h; rw [List.any_eq_true] at h; obtain ⟨t,h1,h2⟩:=h; exact ⟨t,h1,of_decide_eq_true h2⟩
  · right; unfold dB at h; rw [List.any_eq_true] at h; obtain ⟨t,h1,h2⟩:=h; exact ⟨t,h1,of_decide_eq_true h2⟩
 have h1:=g.n
 have h2:=g.m
 simp only [List.length_append,List.length_map] at h
 omega
def pY (ss:List St) (n:ByteArray):Nat:=ss.countP fun s=>b5 (gE ss n) s.nm
theorem A2 {α:Type} {p q:α->Bool}:∀ {l:List α},(∀ x ∈ l,p x=true->q x=true)->(∃ x ∈ l,q x=true/\p x=false)->l.countP p < l.countP q
 | [],_,⟨_,h,_⟩=>by cases h
 | y :: l,h,⟨x,hx,h1,h2⟩=>by
  have hm:=List.countP_mono_left fun z hz=>h z (List.mem_cons_of_mem _ hz)
  have hy:=h y List.mem_cons_self
  rw [List.countP_cons,List.countP_cons]
  rcases List.mem_cons.1 hx with rfl | hx
  · rw [h1,h2]; simp; omega
  · have:=A2 (fun z hz=>h z (List.mem_cons_of_mem _ hz)) ⟨x,hx,h1,h2⟩
    cases hp:p y with
    | true=>rw [hy hp]; simp; exact this
    | false=>cases q y<;>simp<;>omega
theorem HN (ss:List St) (n:ByteArray):pY ss n<=ss.length:=List.countP_le_length
theorem y7 {ss:List St} {n m:ByteArray} {u:St} (h:eG ss n m) (hu:fS ss m=some u) (ha:rW ss):pY ss m < pY ss n:=by
 obtain ⟨h1,h2⟩:=kH hu
 refine A2 (fun s _ hs=>?_) ⟨u,h1,?_,?_⟩
 · rw [oT,jD] at hs ⊢; exact .head h hs
 · rw [oT,jD,h2]; exact .one h
 · rw [s9,jD,<-zZ,<-s9]
   have:=ha u h1
   rw [h2] at this ⊢; exact this
theorem GQ {dp:ByteArray->Int} {B:Int} (hB:0<=B) {l:List Fl} (h:∀ f ∈ l,cB dp f.ty<=B):fO dp l<=B:=by
 have key:∀ (l:List Fl) (m:Int),m<=B->(∀ f ∈ l,cB dp f.ty<=B)->l.foldl (gF dp) m<=B:=by
  intro l
  induction l with
  | nil=>exact fun m hm _=>hm
  | cons f l ih=>exact fun m hm h=>ih _ (by have:=h f List.mem_cons_self; show max m (cB dp f.ty)<=B; omega) fun g hg=>h g (List.mem_cons_of_mem _ hg)
 exact key l 0 hB h
theorem lM (dp:ByteArray->Int) (l:List Fl):0<=fO dp l:=wD dp l 0
theorem HC {dp:ByteArray->Int} {l:List Fl} {f:Fl} (h:f ∈ l):cB dp f.ty<=fO dp l:=by
 have key:∀ (l:List Fl) (m:Int),f ∈ l->cB dp f.ty<=l.foldl (gF dp) m:=by
  intro l
  induction l with
  | nil=>exact fun m h=>by cases h
  | cons g l ih=>
   intro m h
   rcases List.mem_cons.1 h with rfl | h
   · refine Int.le_trans ?_ (wD dp l (max m (cB dp f.ty)))
     omega
   · exact ih _ h
 exact key l 0 h
theorem pW {dp dq:ByteArray->Int} {l:List Fl} (h:∀ f ∈ l,cB dp f.ty=cB dq f.ty):fO dp l=fO dq l:=by
 have key:∀ (l:List Fl) (m:Int),(∀ f ∈ l,cB dp f.ty=cB dq f.ty)->l.foldl (gF dp) m=l.foldl (gF dq) m:=by
  intro l
  induction l with
  | nil=>exact fun _ _=>rfl
  | cons f l ih=>exact fun m h=>by rw [List.foldl_cons,List.foldl_cons,gF,h f List.mem_cons_self]; exact ih _ fun g hg=>h g (List.mem_cons_of_mem _ hg)
 exact key l 0 h
def dK:Nat:=99
def dD (ss:List St) (n:ByteArray):Int:=dN ss (dK + 1) n
theorem QA (ss:List St) (N:Nat) (n:ByteArray):dN ss (N + 1) n=fO (dN ss N) ((fS ss n).getD default).fs + 1:=rfl
theorem PG:dK=99:=rfl
theorem LO (ss:List St) (n:ByteArray):dD ss n=dN ss (dK + 1) n:=rfl
attribute [irreducible] dK
theorem UD (ss:List St):∀ (N:Nat) (n:ByteArray),1<=dN ss N n
 | 0,_=>Int.le_refl _
 | N + 1,n=>by have:=lM (dN ss N) ((fS ss n).getD default).fs; rw [dN]; omega
theorem P2 {ss:List St} {es:List En} (g:Gd ss es):∀ (N:Nat) (n:ByteArray),dN ss N n<=1 + N * 1000000001
 | 0,_=>by rw [dN]; omega
 | N + 1,n=>by
  have:fO (dN ss N) ((fS ss n).getD default).fs<=1000000001 + N * 1000000001:=by
   refine GQ (by omega) fun f hf=>?_
   cases hs:fS ss n with
   | none=>rw [hs] at hf; cases hf
   | some t=>
    rw [hs] at hf
    have h1:=g.lv t (kH hs).1 f hf
    have h2:=P2 g N (bO f.ty).2.n
    unfold cB
    cases (bO f.ty).2.k == 6<;>simp only [aM,aG]<;>omega
  rw [dN]; omega
theorem zD {ss:List St} {es:List En} (g:Gd ss es) {n:ByteArray} {t:St} (hs:fS ss n=some t) {f:Fl} (hf:f ∈ t.fs) (hk:((bO f.ty).2.k == 6)=true):eG ss n (bO f.ty).2.n/\∃ u,fS ss (bO f.ty).2.n=some u:=by
 obtain ⟨h1,h2,h3,_⟩:=RG (g.val t (kH hs).1 f hf) hk
 refine ⟨⟨f,by rw [hs]; exact hf,h1,h2⟩,?_⟩
 rw [<-C8] at h3
 exact Option.isSome_iff_exists.1 h3
theorem AJ {ss:List St} {es:List En} (g:Gd ss es) (ha:rW ss):∀ (N:Nat) (n:ByteArray),pY ss n < N->dN ss (N + 1) n=dN ss N n
 | 0,_,h=>absurd h (Nat.not_lt_zero _)
 | N + 1,n,h=>by
  rw [dN,dN]
  congr 1
  refine pW fun f hf=>?_
  cases hs:fS ss n with
  | none=>rw [hs] at hf; cases hf
  | some t=>
   rw [hs] at hf
   unfold cB
   cases hk:(bO f.ty).2.k == 6 with
   | false=>rfl
   | true=>
    obtain ⟨h1,u,h2⟩:=zD g hs hf hk
    have:=y7 h1 h2 ha
    rw [AJ g ha N _ (by omega)]
theorem B0 (ss:List St) (n:ByteArray):0<=dD ss n:=Int.le_trans (by decide) (UD ss (dK + 1) n)
theorem HP {ss:List St} {es:List En} (g:Gd ss es) (n:ByteArray):dD ss n<=1000000000000:=by
 refine Int.le_trans (P2 g (dK + 1) n) ?_
 have:=PG
 generalize dK=k at *
 subst this
 decide
theorem YV {ss:List St} {es:List En} (g:Gd ss es) (ha:rW ss) (f:Fl):cB (dN ss dK) f.ty=cB (dD ss) f.ty:=by
 have h2:=HN ss (bO f.ty).2.n
 have h3:=g.n
 have h4:=PG
 have h5:=AJ g ha dK (bO f.ty).2.n (by omega)
 unfold cB
 rw [LO,h5]
theorem BP {ss:List St} {es:List En} (g:Gd ss es) (ha:rW ss) {n:ByteArray} {t:St} (hs:fS ss n=some t):dD ss n=fO (dD ss) t.fs + 1:=by
 have h1:=QA ss dK n
 have h2:fO (dN ss dK) t.fs=fO (dD ss) t.fs:=pW fun f _=>YV g ha f
 rw [hs,Option.getD_some,h2] at h1
 rw [LO]
 exact h1
theorem Gd.dp {ss:List St} {es:List En} (g:Gd ss es) (ha:rW ss):Dp ss (dD ss) (pY ss):=by
 refine ⟨g.ok,fun n t hs=>BP g ha hs,B0 ss,HP g,fun n t hs f hf=>(xI ss es _ _ (Nat.le_refl _) (g.val t (kH hs).1 f hf)).1,fun n t hs f hf hk=>?_⟩
 obtain ⟨h1,u,h2⟩:=zD g hs hf hk
 exact ⟨u,h2,y7 h1 h2 ha⟩
def jQ (ss:List St):Int:=bif ss.any (fun t=>b5 (cY ss t.nm) t.nm) then 19 else bif ss.any (fun t=>decide (6 < dD ss t.nm)) then 9 else 0
def UU:W.Spec:=fun av H K=>∃ (s:Sc) (ks:List Value) (vs:List St) (ks':List Value) (vs':List En),av=[.va (.gs (aA s)),mB]/\H=f0 ks vs ks' vs'/\
 kP ks vs s.ss/\Gd s.ss s.es/\s.ok/\K (iS .i64 (jQ s.ss)) (f0 ks vs ks' vs')
theorem SS {s:Sc} {ks:List Value} {vs:List St} {ks':List Value} {vs':List En} {K:S->Hp->Prop} (h1:kP ks vs s.ss) (h2:Gd s.ss s.es) (h3:s.ok) (hK:K (iS .i64 (jQ s.ss)) (f0 ks vs ks' vs')) :
 UU [.va (.gs (aA s)),mB] (f0 ks vs ks' vs') K:=⟨s,ks,vs,ks',vs',rfl,rfl,h1,h2,h3,hK⟩
theorem i7 {α:Type} {l:List α} {p:α->Bool} (h:l.any p=false):∀ x ∈ l,p x=false:=fun x hx=>by
 rw [List.any_eq_false] at h; simpa using h x hx
theorem NF:Meets Tryz.prog 78 UU:=by
 refine aI Tryz.func78 aCB 2 (by rw [Tryz.ntmps78]; decide) (aD aAI (aL xR (aD XW (aC _)))) (fun av H K h=>by obtain ⟨_,_,_,_,_,rfl,_⟩:=h; rfl) ?_
 rintro av H K ⟨s,ks,vs,ks',vs',rfl,rfl,h1,hg,hs,hK⟩
 have fin:∀ (x:Int) (R:Hp),jQ s.ss=x->W.Fin 2 K (iS .i64 x) (.map .string ks (vs.map iQ) :: .map .string ks' (vs'.map i6) :: R):=fun x R h=>by
  rw [h] at hK
  exact .sel [0,1] (by simp) (by simp) rfl (.done (by simp -dsimp only [go_sem]; simpa using hK))
 obtain ⟨_,_,hls,_,hss⟩:=hs
 simp -dsimp only [go_sem,aA,XM,TN]
 refine aT (α:=Nat) (fun i=>[(2,.va (.c1 (.pt 2 0))),(3,.va (.c1 (.pt 3 0))),(10,.va (.c1 (.fz (s.ss.map aJ)))),(11,iS .i64 s.ss.length),(12,iS .i64 i)]) (fun _=>[.map .string ks (vs.map iQ),.map .string ks' (vs'.map i6),.cells (aA s) 25,.cells [.mp 0,.mp 1] 117])
  (fun i=>i<=s.ss.length/\(s.ss.drop i).any (fun t=>b5 (cY s.ss t.nm) t.nm)=s.ss.any (fun t=>b5 (cY s.ss t.nm) t.nm)) (fun i=>s.ss.length - i) 0 4 ⟨Nat.zero_le _,rfl⟩ ?_ ?_ ?_
 · simp -dsimp only [go_sem]<;>simp
 · simp -dsimp only [go_sem,aA]<;>simp
 rintro i ⟨hi,ho⟩
 rcases bG i s.ss.length with hlt | hge
 · have hgi:decide ((i:Int) < (s.ss.length:Int))=true:=by simp; omega
   obtain ⟨t,hx⟩:∃ t,s.ss[i]? = some t:=⟨_,aV hlt⟩
   have q1:=aN (row:=aJ) hx
   rw [cX hx] at ho
   have hv:=hg.vlen t.nm
   have hbs:qD ((cY s.ss t.nm).map bI):=mP (by rw [sH]; omega)
   simp (maxSteps:=9^6) -dsimp only [go_sem,hgi,↓q1,aJ,aA]
   refine ⟨by omega,UJ h1 hss (by omega) ?_⟩
   simp (maxSteps:=9^6) -dsimp only [go_sem,hbs]
   cases hc:b5 (cY s.ss t.nm) t.nm with
   | true=>
    rw [hc,Bool.true_or] at ho
    simp -dsimp only [go_sem]
    exact fin 19 _ (by unfold jQ; rw [<-ho]; rfl)
   | false=>
    rw [hc,Bool.false_or] at ho
    simp -dsimp only [go_sem]
    refine ⟨by omega,aB (i + 1) 4 ⟨by omega,ho⟩ (by omega) ?_ ?_⟩
    · simp -dsimp only [go_sem]<;>simp
    · simp -dsimp only [go_sem,aA]<;>simp
 · have hgi:decide ((i:Int) < (s.ss.length:Int))=false:=by simp; omega
   obtain rfl:i=s.ss.length:=by omega
   rw [eV] at ho
   have ha:rW s.ss:=fun t ht=>i7 ho.symm t ht
   have hD:=hg.dp ha
   have hF:jQ s.ss=bif s.ss.any (fun t=>decide (6 < dD s.ss t.nm)) then 9 else 0:=by unfold jQ; rw [<-ho]; rfl
   simp -dsimp only [go_sem,hgi,aA]
   refine aT (α:=Nat) (fun i=>[(3,.va (.c1 (.pt 3 0))),(25,.va (.c1 (.fz (s.ss.map aJ)))),(26,iS .i64 s.ss.length),(27,iS .i64 i)]) (fun _=>[.map .string ks (vs.map iQ),.map .string ks' (vs'.map i6),.cells (aA s) 25,.cells [.mp 0,.mp 1] 117])
    (fun i=>i<=s.ss.length/\(s.ss.drop i).any (fun t=>decide (6 < dD s.ss t.nm))=s.ss.any (fun t=>decide (6 < dD s.ss t.nm))) (fun i=>s.ss.length - i) 0 4 ⟨Nat.zero_le _,rfl⟩ ?_ ?_ ?_
   · simp -dsimp only [go_sem]<;>simp
   · simp -dsimp only [go_sem,aA]<;>simp
   clear ho
   rintro i ⟨hi,ho⟩
   rcases bG i s.ss.length with hlt | hge
   · have hgi:decide ((i:Int) < (s.ss.length:Int))=true:=by simp; omega
     obtain ⟨t,hx⟩:∃ t,s.ss[i]? = some t:=⟨_,aV hlt⟩
     have q1:=aN (row:=aJ) hx
     rw [cX hx] at ho
     have hnd:=hg.nd t (bT hx)
     simp (maxSteps:=9^6) -dsimp only [go_sem,hgi,↓q1,aJ,aA]
     refine ⟨by omega,TJ h1 hD hnd ?_⟩
     simp (maxSteps:=9^6) -dsimp only [go_sem]
     cases hc:decide (6 < dD s.ss t.nm) with
     | true=>
      rw [hc,Bool.true_or] at ho
      simp -dsimp only [go_sem]
      exact fin 9 _ (by rw [hF,<-ho]; rfl)
     | false=>
      rw [hc,Bool.false_or] at ho
      simp -dsimp only [go_sem]
      refine ⟨by omega,aB (i + 1) 4 ⟨by omega,ho⟩ (by omega) ?_ ?_⟩
      · simp -dsimp only [go_sem]<;>simp
      · simp -dsimp only [go_sem,aA]<;>simp
   · have hgi:decide ((i:Int) < (s.ss.length:Int))=false:=by simp; omega
     obtain rfl:i=s.ss.length:=by omega
     rw [eV] at ho
     simp -dsimp only [go_sem,hgi,aA]
     exact fin 0 _ (by rw [hF,<-ho]; rfl)
def f6 (s:Sc) (i:Nat):Int:=match s.es[i]? with
 | some e=>bif !(gQ (bl e.nm)) then 5 else bif dB (s.es.take i) e.nm then 7 else lT e
 | none=>0
def gJ (s:Sc) (i:Nat):Int:=match s.ss[i]? with
 | some t=>bif gV s i t.nm != 0 then gV s i t.nm else nO s.ss s.es t
 | none=>0
def qW (s:Sc):Int:=fE (f6 s) (s.es.length - 0) 0
def pJ (s:Sc):Int:=fE (gJ s) (s.ss.length - 0) 0
def cH (s:Sc):Int:=bif decide (s.ver < 1) || decide (999 < s.ver) then 4 else bif cM s then 3 else bif qW s != 0 then qW s else bif pJ s != 0 then pJ s else jQ s.ss
inductive TySm:Ty->Prop
 | mk {k s:Int} {n:ByteArray} {e:List Ty}:e.length<=1000000000->(∀ t ∈ e,TySm t)->TySm (.mk k s n e)
structure Sc.fit (s:Sc):Prop where
 ok:s.ok
 lv:∀ t ∈ s.ss,∀ f ∈ t.fs,(bO f.ty).1<=1000000000
 sm:∀ t ∈ s.ss,t.fs.length<=1000000000/\∀ f ∈ t.fs,TySm f.ty
 en:∀ e ∈ s.es,e.ns.length<=1000000000/\e.vs.length<=1000000000
theorem KD {f:Nat->Int} {m:Nat}:∀ (k i:Nat),i + k=m->fE f (m - i) i=0->∀ j,i<=j->j < m->f j=0
 | 0,i,h,_=>fun j h1 h2=>by omega
 | k + 1,i,h,h0=>fun j h1 h2=>by
  have hi:i < m:=by omega
  by_cases e:f i=0
  · rw [mD hi e] at h0
    rcases bG i j with h3 | h3
    · exact KD k (i + 1) (by omega) h0 j h3 h2
    · obtain rfl:i=j:=by omega
      exact e
  · rw [kJ hi e] at h0; exact absurd h0 e
theorem mT {f:Nat->Int} {m:Nat} (h:fE f (m - 0) 0=0):∀ j,j < m->f j=0:=fun j hj=>KD m 0 (by omega) h j (Nat.zero_le _) hj
theorem M4 {ss:List St} {i:Nat} {t:St} (hx:ss[i]? = some t) (h:eM (ss.take i) t.nm=false):fS ss t.nm=some t:=by
 obtain ⟨hl,ht⟩:=a8.1 hx
 have h1:(ss.take i).find? (fun s=>decide (s.nm=t.nm))=none:=by
  rw [List.find?_eq_none]
  intro x hx
  have:=i7 h x hx
  simpa using this
 have h2:ss=ss.take i ++ (t :: ss.drop (i + 1)):=by rw [<-ht,<-List.drop_eq_getElem_cons hl,List.take_append_drop]
 unfold fS
 rw [h2,List.find?_append,h1]
 simp
theorem F8 {ss:List St} {es:List En} {t:St} (h:nO ss es t=0):∀ f ∈ t.fs,(1<=f.num/\f.num<=127)/\bR (bl f.nm)=true/\valF ss es f.ty=true:=fun f hf=>by
 obtain ⟨i,hi⟩:=List.mem_iff_getElem?.1 hf
 have:=mT h i (a8.1 hi).1
 unfold kE at this
 rw [hi] at this
 simp only at this
 cases c1:decide (f.num < 1) || decide (127 < f.num) with
 | true=>rw [c1] at this; simp at this
 | false=>
 rw [c1] at this
 simp only [aG] at this
 revert this
 generalize (decide (0 < (i:Int)) && (match t.fs[i - 1]? with | some g=>decide (f.num<=g.num) | none=>false))=b
 intro this
 cases b with
 | true=>simp at this
 | false=>
 simp only [aG] at this
 simp only [Bool.or_eq_false_iff,decide_eq_false_iff_not] at c1
 refine ⟨by omega,?_⟩
 cases c2:bR (bl f.nm) with
 | false=>rw [c2] at this; simp at this
 | true=>
 rw [c2] at this
 cases c3:(t.fs.take i).any (fun g=>decide (g.nm=f.nm)) with
 | true=>rw [c3] at this; simp at this
 | false=>
 rw [c3] at this
 cases c4:valF ss es f.ty with
 | false=>rw [c4] at this; simp at this
 | true=>exact ⟨rfl,rfl⟩
theorem yW {s:Sc} {i:Nat} {n:ByteArray} (h:gV s i n=0):gQ (bl n)=true/\dB s.es n=false/\eM (s.ss.take i) n=false:=by
 unfold gV at h
 cases c1:gQ (bl n) with
 | false=>rw [c1] at h; simp at h
 | true=>
 rw [c1] at h
 cases c2:dB s.es n with
 | true=>rw [c2] at h; simp at h
 | false=>
 rw [c2] at h
 cases c3:eM (s.ss.take i) n with
 | true=>rw [c3] at h; simp at h
 | false=>exact ⟨rfl,rfl,rfl⟩
theorem yB {s:Sc} {i:Nat} {t:St} (hx:s.ss[i]? = some t) (h:gJ s i=0):gV s i t.nm=0/\nO s.ss s.es t=0:=by
 unfold gJ at h
 rw [hx] at h
 simp only at h
 by_cases e:gV s i t.nm=0
 · rw [e] at h; exact ⟨e,by simpa using h⟩
 · rw [show (gV s i t.nm != 0)=true by simpa using e] at h
   exact absurd h e
theorem RQ {s:Sc} {i:Nat} {t:En} (hx:s.es[i]? = some t) (h:f6 s i=0):gQ (bl t.nm)=true/\dB (s.es.take i) t.nm=false/\lT t=0:=by
 unfold f6 at h
 rw [hx] at h
 simp only at h
 cases c1:gQ (bl t.nm) with
 | false=>rw [c1] at h; simp at h
 | true=>
 rw [c1] at h
 cases c2:dB (s.es.take i) t.nm with
 | true=>rw [c2] at h; simp at h
 | false=>
 rw [c2] at h
 exact ⟨rfl,rfl,by simpa using h⟩
theorem uD {s:Sc} (h:cM s=false):s.es.length<=16/\s.es.length + s.ss.length<=16/\(∀ e ∈ s.es,e.ns.length<=16)/\∀ t ∈ s.ss,t.fs.length<=16:=by
 unfold cM at h
 simp only [Bool.or_eq_false_iff,decide_eq_false_iff_not] at h
 obtain ⟨⟨⟨h1,h2⟩,h3⟩,h4⟩:=h
 refine ⟨by omega,by omega,fun e he=>?_,fun t ht=>?_⟩
 · have:=i7 h3 e he; simp at this; exact this
 · have:=i7 h4 t ht; simp at this; exact this
theorem yV {s:Sc} (hf:s.fit) (h1:cM s=false) (h2:pJ s=0):Gd s.ss s.es:=by
 obtain ⟨l1,l2,l3,l4⟩:=uD h1
 have key:∀ t ∈ s.ss,∃ i,s.ss[i]? = some t/\gV s i t.nm=0/\nO s.ss s.es t=0:=fun t ht=>by
  obtain ⟨i,hi⟩:=List.mem_iff_getElem?.1 ht
  exact ⟨i,hi,yB hi (mT h2 i (a8.1 hi).1)⟩
 refine ⟨hf.ok.ss,by omega,by omega,fun t ht f hm=>?_,hf.lv,fun t ht=>?_⟩
 · obtain ⟨i,hi,c1,c2⟩:=key t ht
   exact (F8 c2 f hm).2.2
 · obtain ⟨i,hi,c1,c2⟩:=key t ht
   exact M4 hi (yW c1).2.2
def jT (r:List C):Prop:=∃ s:Sc,r=aA s/\s.fit
theorem g6 {s:Sc} (h:s.fit):jT (aA s):=⟨s,rfl,h⟩
noncomputable def ckFn:Fun:=mX jT C.sc fun s=>.int .i64 (cH s)
attribute [go_sem] ckFn
theorem j3 {a b:Int} (h:a ≠ 0):(bif a != 0 then a else b)=a:=by rw [bne,beq_eq_false_iff_ne.2 h]; rfl
theorem lF {a b:Int} (h:a=0):(bif a != 0 then a else b)=b:=by rw [h]; rfl
theorem KR:Meets Tryz.prog 31 ckFn.sp:=by
 refine aI Tryz.func31 aBQ 1 (by rw [Tryz.ntmps31]; decide) (aL UN (aL AM (aL IF (aD ME (aL H3 (aD CK (aD NF (aC _)))))))) iE ?_
 rintro av H K ⟨⟨h,rfl⟩,hK⟩
 obtain ⟨_,rfl,s,rfl,hs⟩:=eK h
 have hK:K (iS .i64 (cH s)) []:=by
  have:ckFn.val [.va (.gs (aA s))]=iA .i64 (cH s):=by simp -dsimp only [go_sem]
  rw [this] at hK; exact hK
 clear h
 have hfit:=hs
 have hsc:oH (aA s):=yQ hs.ok
 obtain ⟨⟨hv,hle,hls,hes,hss⟩,hlv,_,_⟩:=hs
 have fin:∀ (x:Int) (R:Hp),cH s=x->W.Fin 0 K (iS .i64 x) R:=fun x R h1=>by
  rw [h1] at hK
  exact .z ((by simpa [go_sem] using hK))
 have hsc':=hsc
 simp only [aA] at hsc'
 have hdec:C.sc [.vl (.int .i64 s.ver),.fz (s.es.map aQ),.fz (s.ss.map aJ)]=s:=fX s
 simp (maxSteps:=9^6) -dsimp only [go_sem,aA,TO,UK,hsc',hdec]
 refine ⟨fun h1=>fin 4 _ (by unfold cH; rw [h1]; rfl),fun c1=>⟨fun h1=>fin 3 _ (by unfold cH; rw [c1,h1]; rfl),fun c2=>?_⟩⟩
 have hF:cH s=bif qW s != 0 then qW s else bif pJ s != 0 then pJ s else jQ s.ss:=by unfold cH; rw [c1,c2]; rfl
 refine aT (α:=Nat) (fun i=>[(1,.va (.c1 (.pt 0 0))),(24,.va (.c1 (.fz (s.es.map aQ)))),(25,iS .i64 s.es.length),(26,iS .i64 i)]) (fun _=>[.cells (aA s) 25])
  (fun i=>i<=s.es.length/\fE (f6 s) (s.es.length - i) i=qW s) (fun i=>s.es.length - i) 0 1 ⟨Nat.zero_le _,rfl⟩ ?_ ?_ ?_
 · simp -dsimp only [go_sem]<;>simp
 · simp -dsimp only [go_sem,aA]<;>simp
 rintro i ⟨hi,ho⟩
 rcases bG i s.es.length with hlt | hge
 · have hg:decide ((i:Int) < (s.es.length:Int))=true:=by simp; omega
   obtain ⟨e,hx⟩:∃ e,s.es[i]? = some e:=⟨_,aV hlt⟩
   have q1:=aN (row:=aQ) hx
   have he:e.ok:=hes e (bT hx)
   have hie:vQ (aQ e):=y6 he
   have hie':=hie
   simp only [aQ] at hie'
   have hed:C.en [.vl (.string e.nm),.fz (e.ns.map bI),.fz (e.vs.map dS)]=e:=DG e
   have hA:f6 s i=bif !(gQ (bl e.nm)) then 5 else bif dB (s.es.take i) e.nm then 7 else lT e:=by unfold f6; rw [hx]
   have fin':∀ (x:Int) (R:Hp),f6 s i=x->x ≠ 0->W.Fin 0 K (iS .i64 x) R:=fun x R h1 h2=>fin x R (by
    rw [hF,<-ho,kJ hlt (by rw [h1]; exact h2),h1]; exact j3 h2)
   have cP:f6 s i=0->fE (f6 s) (s.es.length - (i + 1)) (i + 1)=qW s:=fun h1=>by rw [<-ho,mD hlt h1]
   simp (maxSteps:=9^6) -dsimp only [go_sem,hg,↓q1,aQ,aA]
   refine ⟨by omega,fun h1=>fin' 5 _ (by rw [hA,h1]; rfl) (by decide),fun c3=>?_⟩
   rw [c3] at hA
   simp only [aG] at hA
   have hlj:=nD s.es i
   simp -dsimp only [gI R6]
   refine ⟨by simp; omega,?_⟩
   generalize hm:s.es.take i=m at *
   refine aT (α:=Nat) (fun j=>[(1,.va (.c1 (.pt 0 0))),(4,.va (.c1 (.pt 1 0))),(24,.va (.c1 (.fz (s.es.map aQ)))),(25,iS .i64 s.es.length),(26,iS .i64 i),(38,.va (.c1 (.fz (m.map aQ)))),(39,iS .i64 m.length),(40,iS .i64 j)]) (fun _=>[.cells (aA s) 25,.cells (aQ e) 62])
    (fun j=>j<=m.length/\dB (m.drop j) e.nm=dB m e.nm) (fun j=>m.length - j) 0 2 ⟨Nat.zero_le _,rfl⟩ ?_ ?_ ?_
   · simp -dsimp only [go_sem]<;>simp
     rw [<-hm]; exact ⟨List.map_take.symm,by simp⟩
   · simp -dsimp only [go_sem,aA,aQ]<;>simp
   rintro j ⟨hj,ho2⟩
   rcases bG j m.length with hjt | hjg
   · have hgj:decide ((j:Int) < (m.length:Int))=true:=by simp; omega
     obtain ⟨d,hd⟩:∃ e,m[j]? = some e:=⟨_,aV hjt⟩
     have q5:=aN (row:=aQ) hd
     rw [dB,cX hd] at ho2
     simp (maxSteps:=9^6) -dsimp only [go_sem,hgj,↓q5,aQ,aA,c7]
     and_intros
     all_goals first
      | omega
      | skip
     · intro hc
       rw [hc,Bool.true_or] at ho2
       exact fin' 7 _ (by rw [hA,<-ho2]; rfl) (by decide)
     · intro hc
       rw [hc,Bool.false_or] at ho2
       refine ⟨by omega,aB (j + 1) 2 ⟨by omega,ho2⟩ (by omega) ?_ ?_⟩
       · simp -dsimp only [go_sem]<;>simp
       · simp -dsimp only [go_sem,aA,aQ]<;>simp
   · have hgj:decide ((j:Int) < (m.length:Int))=false:=by simp; omega
     obtain rfl:j=m.length:=by omega
     rw [dB,eV] at ho2
     rw [<-ho2] at hA
     simp only [aG] at hA
     simp (maxSteps:=9^6) -dsimp only [go_sem,hgj,aQ,aA,hie',hed]
     refine ⟨fun h1=>fin' _ _ hA (by simpa using h1),fun h1=>?_⟩
     refine ⟨by omega,aB (i + 1) 1 ⟨by omega,cP (by rw [hA]; simpa using h1)⟩ (by omega) ?_ ?_⟩
     · simp -dsimp only [go_sem]<;>simp
     · simp -dsimp only [go_sem,aA]<;>simp
 · have hg:decide ((i:Int) < (s.es.length:Int))=false:=by simp; omega
   obtain rfl:i=s.es.length:=by omega
   rw [lW] at ho
   rw [lF ho.symm] at hF
   simp (maxSteps:=9^6) -dsimp only [go_sem,hg,aA]
   refine XT hfit.ok fun ks vs ks' vs' x1 x2=>?_
   simp (maxSteps:=9^6) -dsimp only [go_sem]
   clear hi hge hg
   refine aT (α:=Nat) (fun i=>[(1,.va (.c1 (.pt 0 0))),(8,.va (.c1 (.pt 3 0))),(59,.va (.c1 (.fz (s.ss.map aJ)))),(60,iS .i64 s.ss.length),(61,iS .i64 i)]) (fun _=>[.cells (aA s) 25,.map .string ks (vs.map iQ),.map .string ks' (vs'.map i6),.cells [.mp 1,.mp 2] 117])
    (fun i=>i<=s.ss.length/\fE (gJ s) (s.ss.length - i) i=pJ s) (fun i=>s.ss.length - i) 0 4 ⟨Nat.zero_le _,rfl⟩ ?_ ?_ ?_
   · simp -dsimp only [go_sem]<;>simp
   · simp -dsimp only [go_sem,aA]<;>simp
   clear ho
   rintro i ⟨hi,ho⟩
   rcases bG i s.ss.length with hlt | hge
   · have hg:decide ((i:Int) < (s.ss.length:Int))=true:=by simp; omega
     obtain ⟨t,hx⟩:∃ e,s.ss[i]? = some e:=⟨_,aV hlt⟩
     have q1:=aN (row:=aJ) hx
     have ht:t.ok:=hss t (bT hx)
     have hA:gJ s i=bif gV s i t.nm != 0 then gV s i t.nm else nO s.ss s.es t:=by unfold gJ; rw [hx]
     have fin':∀ (x:Int) (R:Hp),gJ s i=x->x ≠ 0->W.Fin 0 K (iS .i64 x) R:=fun x R h1 h2=>fin x R (by
      rw [hF,<-ho,kJ hlt (by rw [h1]; exact h2),h1]; exact j3 h2)
     have cP:gJ s i=0->fE (gJ s) (s.ss.length - (i + 1)) (i + 1)=pJ s:=fun h1=>by rw [<-ho,mD hlt h1]
     have q0:decide (0<=(i:Int))=true:=by simp
     simp (maxSteps:=9^6) -dsimp only [go_sem,hg,↓q1,aJ,aA,hsc',hdec,Int.toNat_natCast]
     refine ⟨by omega,⟨by omega,by omega⟩,fun h1=>fin' _ _ (by rw [hA]; exact j3 (by simpa using h1)) (by simpa using h1),fun h1=>?_⟩
     have h1:gV s i t.nm=0:=by simpa using h1
     rw [lF h1] at hA
     refine T9 x1 x2 ht ?_
     simp (maxSteps:=9^6) -dsimp only [go_sem]
     refine ⟨fun h1=>fin' _ _ hA (by simpa using h1),fun h1=>?_⟩
     refine ⟨by omega,aB (i + 1) 4 ⟨by omega,cP (by rw [hA]; simpa using h1)⟩ (by omega) ?_ ?_⟩
     · simp -dsimp only [go_sem]<;>simp
     · simp -dsimp only [go_sem,aA]<;>simp
   · have hg:decide ((i:Int) < (s.ss.length:Int))=false:=by simp; omega
     obtain rfl:i=s.ss.length:=by omega
     rw [lW] at ho
     rw [lF ho.symm] at hF
     simp (maxSteps:=9^6) -dsimp only [go_sem,hg,aA]
     refine SS x1 (yV hfit c2 ho.symm) hfit.ok ?_
     simp (maxSteps:=9^6) -dsimp only [go_sem]
     exact fin _ _ hF
def VY (s:Sc) (n:ByteArray):Bool:=cH s == 0 && eM s.ss n
theorem wA {s:Sc} (hf:s.fit) (h:cH s=0):Gd s.ss s.es/\rW s.ss/\qW s=0/\pJ s=0/\cM s=false/\1<=s.ver/\s.ver<=999/\∀ t ∈ s.ss,dD s.ss t.nm<=6:=by
 unfold cH at h
 cases c1:decide (s.ver < 1) || decide (999 < s.ver) with
 | true=>rw [c1] at h; simp at h
 | false=>
 rw [c1] at h
 cases c2:cM s with
 | true=>rw [c2] at h; simp at h
 | false=>
 rw [c2] at h
 simp only [aG] at h
 by_cases e1:qW s=0
 · rw [lF e1] at h
   by_cases e2:pJ s=0
   · rw [lF e2] at h
     have g:=yV hf c2 e2
     unfold jQ at h
     cases c3:s.ss.any (fun t=>b5 (cY s.ss t.nm) t.nm) with
     | true=>rw [c3] at h; simp at h
     | false=>
     rw [c3] at h
     cases c4:s.ss.any (fun t=>decide (6 < dD s.ss t.nm)) with
     | true=>rw [c4] at h; simp at h
     | false=>
     simp only [Bool.or_eq_false_iff,decide_eq_false_iff_not] at c1
     refine ⟨g,i7 c3,e1,e2,rfl,by omega,by omega,fun t ht=>?_⟩
     have:=i7 c4 t ht
     simpa using this
   · rw [j3 e2] at h; exact absurd h e2
 · rw [j3 e1] at h; exact absurd h e1
theorem nX {α:Type} {l:List α} {i:Nat} {x:α} (h:l[i]? = some x):l.take (i + 1)=l.take i ++ [x]:=by rw [List.take_add_one,h]; rfl
theorem WG (t:Ty):∀ c ∈ aP t,c.shut=true/\c.one:=by rw [bX]; simp [go_sem,C.shut]
theorem DY {α:Type} {l:List α} {i:Nat} {x:α} (hx:l[i]? = some x) (p:α->Bool):(l.drop i).find? p=bif p x then some x else (l.drop (i + 1)).find? p:=by
 obtain ⟨h,rfl⟩:=a8.1 hx
 rw [List.drop_eq_getElem_cons h,List.find?_cons]
 cases p l[i]<;>rfl
def N5:W.Spec:=fun av H K=>∃ (s:Sc) (n:ByteArray),av=[.va (.gs (aA s)),tS n]/\H=[]/\s.fit/\K (.tu [.gs (aJ ((fS s.ss n).getD default)),bA (eM s.ss n)]) []
theorem GX {s:Sc} {n:ByteArray} {K:S->Hp->Prop} (h:s.fit) (hK:K (.tu [.gs (aJ ((fS s.ss n).getD default)),bA (eM s.ss n)]) []):N5 [.va (.gs (aA s)),tS n] [] K:=⟨s,n,rfl,rfl,h,hK⟩
theorem QK:aJ default=[.vl (.string (mk [])),.fz []]:=rfl
@[go_sem] theorem aF2 (t:Ty) (H:Hp):(aP t).map (C.bor H)=aP t:=by rw [bX]; rfl
noncomputable def qN (a b:Ty):Bool:=@decide (a=b) (Classical.propDecidable _)
theorem J0 {a b:Ty} (h:a=b):qN a b=true:=by unfold qN; simp [h]
theorem KG {a b:Ty} (h:a ≠ b):qN a b=false:=by unfold qN; simp [h]
theorem HE {a b:Ty}:qN a b=true ↔ a=b:=by unfold qN; simp
def BO (N:Nat):List S->Prop:=fun av=>match av with
 | [.va (.gs r),.va (.gs q)]=>e8 r/\e8 q/\(C.ty r).h<=N
 | _=>False
theorem mL {N:Nat} {av:List S} (h:BO N av):∃ a b,av=[.va (.gs (aP a)),.va (.gs (aP b))]/\TyOk a/\TyOk b/\a.h<=N:=by
 unfold BO at h
 split at h
 · obtain ⟨⟨a,rfl,ha⟩,⟨b,rfl,hb⟩,hh⟩:=h
   rw [iC] at hh
   exact ⟨a,b,rfl,ha,hb,hh⟩
 · exact h.elim
noncomputable def IT:List S->A:=fun av=>match av with
 | [.va (.gs r),.va (.gs q)]=>bA (qN (C.ty r) (C.ty q))
 | _=>.gs []
noncomputable def I5 (N:Nat):Fun:=⟨BO N,IT,fun av h=>by obtain ⟨a,b,rfl,_⟩:=mL h; trivial⟩
theorem MQ {N:Nat}:∀ av H K,(I5 N).sp av H K->av.length=2:=fun av H K h=>by obtain ⟨a,b,rfl,_⟩:=mL h.1.1; rfl
attribute [go_sem] I5 BO IT
theorem HQ {k s k' s':Int} {n n':ByteArray} {e e':List Ty}:(Ty.mk k s n e=Ty.mk k' s' n' e') ↔ (k=k'/\s=s'/\n=n'/\e=e'):=by simp
def HT:List S->Prop:=fun av=>match av with
 | [.va (.gs r),.va (.gs q)]=>e8 r/\e8 q
 | _=>False
theorem AH {av:List S} (h:HT av):∃ a b,av=[.va (.gs (aP a)),.va (.gs (aP b))]/\TyOk a/\TyOk b:=by
 unfold HT at h
 split at h
 · obtain ⟨⟨a,rfl,ha⟩,⟨b,rfl,hb⟩⟩:=h
   exact ⟨a,b,rfl,ha,hb⟩
 · exact h.elim
noncomputable def sFn:Fun:=⟨HT,IT,fun av h=>by obtain ⟨a,b,rfl,_⟩:=AH h; trivial⟩
attribute [go_sem] sFn HT
theorem QF:∀ (m:Nat) (r:List UInt8) (i:Nat) (out:List UInt8),r.length=m->(quoL i r out).1<=i + r.length:=by
 intro m
 induction m using Nat.strongRecOn with
 | ind m ih=>
  intro r i out hm
  cases r with
  | nil=>rw [p8]; exact Nat.le_add_right _ _
  | cons c r=>
   rw [gS]
   simp only [List.length_cons] at hm ⊢
   cases (decide (c < 32) || decide (126 < c)) with
   | true=>simp
   | false=>
    cases (c == 34) with
    | true=>simp
    | false=>
     cases (c == 92) with
     | true=>
      simp only [aG,aM]
      cases r with
      | nil=>simp
      | cons d r'=>
       simp only [List.length_cons] at hm ⊢
       cases (d == 34 || d == 92) with
       | true=>simp only [aM]; have:=ih r'.length (by omega) r' (i + 2) (out ++ [d]) rfl; omega
       | false=>simp
     | false=>
      simp only [aG]
      have:=ih r.length (by omega) r (i + 1) (out ++ [c]) rfl; omega
structure Told (l:List UInt8) (p:Nat) (k:Int) (x:List UInt8) (n:Int) (z:Nat):Prop where
 zero:k=0->p=l.length/\x=[]/\n=0
 one:k ≠ 0->∃ c,l[p]? = some c/\p < z/\z<=l.length/\0 < k/\k<=4/\32 < c.toNat/\c.toNat ≠ 35/\(c == 34)=(k == 3)/\(k == 1)=bQ c.toNat
theorem xG {l:List UInt8} {a:Nat} (ha:a<=l.length):(∀ {e t},jS l a=.bad e t->0<=t/\t<=l.length)/\∀ {k x n z},jS l a=.ok k x n z->k=1:=by
 have:=tP (p:=aW) ha
 unfold jS
 simp only
 cases decide (16 < b8 aW l a - a)<;>cases (l[b8 aW l a]? == some 45)<;>simp [R.bad.injEq,R.ok.injEq]
 all_goals (intros; omega)
theorem zU {l:List UInt8} {a:Nat} {c:UInt8} (hc:l[a]? = some c):(∀ {e t},kN l a=.bad e t->0<=t/\t<=l.length)/\∀ {k x n z},kN l a=.ok k x n z->k=2:=by
 have hlt:a < l.length:=(a8.1 hc).1
 have hge:(bif l[a]? == some 45 then a + 1 else a)<=l.length:=by cases (l[a]? == some 45)<;>simp<;>omega
 have hz2:=tP (p:=bV) hge
 unfold kN
 simp only
 generalize (List.drop (bif l[a]? == some 45 then a + 1 else a) (List.take (b8 bV l (bif l[a]? == some 45 then a + 1 else a)) l))=q
 cases (q == [] || (q[0]? == some 48 && (decide (1 < q.length) || l[a]? == some 45))) with
 | true=>simp only [aM,R.bad.injEq,reduceCtorEq,false_implies,implies_true,and_true]; rintro e t ⟨rfl,rfl⟩; omega
 | false=>
  simp only [aG]
  split
  · simp only [R.bad.injEq,reduceCtorEq,false_implies,implies_true,and_true]; rintro e t ⟨rfl,rfl⟩; omega
  · cases pO l (b8 bV l (bif l[a]? == some 45 then a + 1 else a))<;>simp only [aM,aG,R.bad.injEq,R.ok.injEq,reduceCtorEq,false_implies,implies_true,and_true,true_and]
    · rintro k x n z ⟨rfl,_⟩; rfl
    · rintro e t ⟨rfl,rfl⟩; omega
theorem wE {l:List UInt8} {a:Nat} (ha:a < l.length):(∀ {e t},jE l a=.bad e t->0<=t/\t<=l.length)/\∀ {k x n z},jE l a=.ok k x n z->k=3:=by
 have:=QF _ (l.drop (a + 1)) (a + 1) [] rfl
 simp only [List.length_drop] at this
 unfold jE
 split
 · rename_i i hq
   rw [hq] at this
   simp only at this
   constructor
   · intro e t h; simp only [R.bad.injEq] at h; omega
   · intro k x n z h; cases h
 · rename_i z o hq
   cases decide (200 < o.length)<;>simp [R.bad.injEq,R.ok.injEq]
   all_goals (intros; omega)
def HM (c:UInt8):Bool:=
 (!(bQ c.toNat || bV c || c == 45 || c == 34 || eS c.toNat) || (decide (32 < c.toNat) && c.toNat != 35)) && (!bQ c.toNat || !(c == 34)) && (!(bV c || c == 45) || !(c == 34)) && (!eS c.toNat || !(c == 34))
theorem LK (c:UInt8):HM c=true:=cU (by decide +kernel) c
theorem r9 {l:List UInt8} {p:Nat} (hp:p<=l.length):(∀ {e t},eT l p=.bad e t->e ≠ 0/\0<=t/\t<=l.length)/\∀ {k x n z},eT l p=.ok k x n z->Told l p k x n z:=by
 obtain ⟨hb,ho⟩:=wI hp
 refine ⟨fun {e t} h=>⟨hb h,?_⟩,fun {k x n z} h=>?_⟩
 · unfold eT at h
   split at h
   · cases h
   · rename_i c hc
     have hlt:p < l.length:=(a8.1 hc).1
     revert h
     cases bQ c.toNat with
     | true=>exact fun h=>(xG hp).1 h
     | false=>
      cases (bV c || c == 45) with
      | true=>exact fun h=>(zU hc).1 h
      | false=>
       cases (c == 34) with
       | true=>exact fun h=>(wE hlt).1 h
       | false=>
        cases eS c.toNat with
        | true=>intro h; cases h
        | false=>intro h; simp only [aG,R.bad.injEq] at h; omega
 · obtain ⟨o1,o2⟩:=ho h
   unfold eT at h
   split at h
   · simp only [R.ok.injEq] at h
     exact ⟨fun h0=>⟨o1 h0,h.2.1.symm,h.2.2.1.symm⟩,fun h0=>absurd h.1.symm h0⟩
   · rename_i c hc
     have hlt:p < l.length:=(a8.1 hc).1
     have hs:=LK c
     unfold HM at hs
     have key:∀ {q:Int},k=q->0 < q->q<=4->(32 < c.toNat/\c.toNat ≠ 35)->(c == 34)=(q == 3)->(q == 1)=bQ c.toNat->Told l p k x n z:=by
      rintro q rfl h1 h2 h3 h4 h5
      obtain ⟨h6,h7⟩:=o2 (by omega)
      exact ⟨fun h=>by omega,fun _=>⟨c,hc,h6,h7,h1,h2,h3.1,h3.2,h4,h5⟩⟩
     revert h hs
     cases hL:bQ c.toNat with
     | true=>
      intro h hs
      simp at hs
      exact key ((xG hp).2 h) (by omega) (by omega) hs.1.1.1 (by simpa using hs.1.1.2) (by rw [hL]; rfl)
     | false=>
      cases hd:(bV c || c == 45) with
      | true=>
       intro h hs
       have hd':bV c=true\/c=45:=by simpa using hd
       simp only [Bool.false_or,hd,Bool.true_or,Bool.not_true,Bool.not_false,Bool.and_true,Bool.true_and,Bool.and_eq_true] at hs
       simp at hs
       exact key ((zU hc).2 h) (by omega) (by omega) hs.1.1 (by simpa using hs.1.2) (by rw [hL]; rfl)
      | false=>
       cases h4:(c == 34) with
       | true=>
        intro h hs
        have:c=34:=by simpa using h4
        subst this
        exact key ((wE hlt).2 h) (by omega) (by omega) (by decide) (by rfl) (by rw [hL]; rfl)
       | false=>
        cases hm:eS c.toNat with
        | true=>
         intro h hs
         simp only [Bool.false_or,hd,Bool.or_true,Bool.not_true,Bool.not_false,Bool.and_true,Bool.true_and,Bool.and_eq_true] at hs
         simp at hs
         simp only [aG,aM,R.ok.injEq] at h
         exact key h.1.symm (by omega) (by omega) hs (by rw [h4]; rfl) (by rw [hL]; rfl)
        | false=>intro h hs; cases h
def rM (l:List UInt8):Nat->List Tk->Prop
 | _,[]=>False
 | a,t :: ts=>a<=t.a/\t.a<=l.length/\∃ z,Told l t.a t.k t.x t.n z/\(t.k=0->ts=[])/\(t.k ≠ 0->rM l z ts)
theorem AX {l:List UInt8}:∀ (f a:Nat) (ts:List Tk),a<=l.length->l.length < f + a->fI f l a=.ok ts->rM l a ts
 | 0,a,ts,ha,hf,h=>by omega
 | f + 1,a,ts,ha,hf,h=>by
  have hpl:b6 l a<=l.length:=p9 ha
  have hpa:a<=b6 l a:=C1
  rw [fI] at h
  split at h
  · cases h
  · rename_i k x n z hR
    have ht:=(r9 hpl).2 hR
    cases hk:k == 0 with
    | true=>
     rw [hk] at h
     simp only [aM,SR.ok.injEq] at h
     subst h
     exact ⟨hpa,hpl,z,ht,fun _=>rfl,fun h=>absurd (by simpa using hk) h⟩
    | false=>
     rw [hk] at h
     have hk':k ≠ 0:=by simpa using hk
     obtain ⟨c,_,h1,h2,_⟩:=ht.one hk'
     cases hr:fI f l z with
     | bad e t=>rw [hr] at h; cases h
     | ok us=>
      rw [hr] at h
      simp only [aG,SR.cons,SR.ok.injEq] at h
      subst h
      exact ⟨hpa,hpl,z,ht,fun h=>absurd h hk',fun _=>AX f z us h2 (by omega) hr⟩
theorem CV {l:List UInt8}:∀ (f a:Nat) (e t:Int),a<=l.length->fI f l a=.bad e t->e ≠ 0/\0<=t/\t<=l.length
 | 0,a,e,t,ha,h=>by cases h
 | f + 1,a,e,t,ha,h=>by
  have hpl:b6 l a<=l.length:=p9 ha
  rw [fI] at h
  split at h
  · rename_i e' t' hR
    have:=(r9 hpl).1 hR
    simp only [SR.bad.injEq] at h
    obtain ⟨rfl,rfl⟩:=h; exact this
  · rename_i k x n z hR
    have ht:=(r9 hpl).2 hR
    cases hk:k == 0 with
    | true=>rw [hk] at h; cases h
    | false=>
     rw [hk] at h
     have hk':k ≠ 0:=by simpa using hk
     obtain ⟨c,_,h1,h2,_⟩:=ht.one hk'
     cases hr:fI f l z with
     | bad e' t'=>rw [hr] at h; simp only [aG,SR.cons,SR.bad.injEq] at h; obtain ⟨rfl,rfl⟩:=h; exact CV f z _ _ h2 hr
     | ok us=>rw [hr] at h; cases h
theorem IC (l:List UInt8):(bH l).err ≠ 0/\(bH l).toks=[]/\0<=(bH l).off/\(bH l).off<=l.length\/(bH l).err=0/\(bH l).off=0/\l.length<=4000/\rM l 0 (bH l).toks:=by
 unfold bH
 cases h:decide (4000 < l.length) with
 | true=>left; exact ⟨by simp [SR.err],rfl,by simp [SR.off],by simp [SR.off]⟩
 | false=>
  have h4:l.length<=4000:=by simpa using h
  simp only [aG]
  cases hr:fI (l.length + 1) l 0 with
  | bad e t=>left; obtain ⟨h1,h2,h3⟩:=CV _ _ _ _ (by omega) hr; exact ⟨h1,rfl,h2,h3⟩
  | ok ts=>right; exact ⟨rfl,rfl,h4,AX _ _ _ (by omega) (by omega) hr⟩
theorem HG {l:List UInt8} {a:Nat} {ts:List Tk} (h:rM l a ts):0 < ts.length:=by
 cases ts with
 | nil=>exact h.elim
 | cons t ts=>simp
theorem DS {l:List UInt8}:∀ {a:Nat} {ts:List Tk},rM l a ts->ts.length + a<=l.length + 1
 | a,[],h=>h.elim
 | a,t :: ts,⟨h1,h2,z,h3,h4,h5⟩=>by
  rcases Decidable.em (t.k=0) with h0 | h0
  · rw [h4 h0]; simp only [List.length_cons,List.length_nil]; omega
  · obtain ⟨c,_,g1,_⟩:=h3.one h0
    have:=DS (h5 h0)
    simp only [List.length_cons]; omega
theorem G1 {l:List UInt8}:∀ {a:Nat} {ts:List Tk} {i:Nat} {t:Tk},rM l a ts->ts[i]? = some t->
 a<=t.a/\t.a<=l.length/\(∃ z,Told l t.a t.k t.x t.n z)/\(t.k=0 ↔ i + 1=ts.length)/\∀ u,0 < i->ts[i - 1]? = some u->u.a < t.a
 | a,[],i,t,h,_=>h.elim
 | a,s :: ts,0,t,⟨h1,h2,z,h3,h4,h5⟩,hi=>by
  simp at hi; subst hi
  refine ⟨h1,h2,⟨z,h3⟩,⟨fun h=>by rw [h4 h]; rfl,fun h=>?_⟩,fun u h=>by omega⟩
  rcases Decidable.em (s.k=0) with h0 | h0
  · exact h0
  · have:=HG (h5 h0); simp only [List.length_cons] at h; omega
 | a,s :: ts,i + 1,t,⟨h1,h2,z,h3,h4,h5⟩,hi=>by
  simp at hi
  have h0:s.k ≠ 0:=fun h=>by rw [h4 h] at hi; simp at hi
  obtain ⟨c,_,g1,g2,_⟩:=h3.one h0
  obtain ⟨q1,q2,q3,q4,q5⟩:=G1 (h5 h0) hi
  refine ⟨by omega,q2,q3,by rw [q4]; simp,fun u _ hu=>?_⟩
  simp only [Nat.add_sub_cancel] at hu
  cases i with
  | zero=>simp at hu; subst hu; omega
  | succ i=>simp at hu; exact q5 u (by omega) (by simpa using hu)
def Got:R->ByteArray->Int->Int->Int->Int->Prop
 | .ok _ x n z,x',n',z',e',t'=>x'=mk x/\n'=n/\z'=z/\e'=0/\t'=0
 | .bad e t,_,_,_,e',t'=>e'=e/\t'=t
def decV:Nat->List UInt8->Nat
 | n,[]=>n
 | n,c :: l=>decV (10 * n + (c.toNat - 48)) l
theorem m0 (n:Nat):decV n []=n:=by rw [decV.eq_def]
theorem j6 (n:Nat) (c:UInt8) (l:List UInt8):decV n (c :: l)=decV (10 * n + (c.toNat - 48)) l:=by rw [decV.eq_def]
theorem GA:∀ (l:List UInt8) (n:Nat),n<=decV n l
 | [],n=>by rw [m0]; exact Nat.le_refl n
 | c :: l,n=>by have:=GA l (10 * n + (c.toNat - 48)); rw [j6]; omega
theorem J4 (lim n:Nat) (c:UInt8) (l:List UInt8):valL lim n (c :: l)=if (lim - (c.toNat - 48)) / 10 < n then none else valL lim (10 * n + (c.toNat - 48)) l:=by rw [valL.eq_def]
theorem C7 {lim:Nat} (h9:9<=lim):∀ (l:List UInt8) (n:Nat),n<=lim->(∀ c ∈ l,bV c=true)->valL lim n l=bif decide (decV n l<=lim) then some (decV n l) else none
 | [],n,hn,_=>by rw [m0,valL.eq_def]; simp [hn]
 | c :: l,n,hn,hd=>by
  have hc:=lE.1 (hd c (by simp))
  rw [J4,j6]
  generalize c.toNat=d at hc ⊢
  by_cases h:(lim - (d - 48)) / 10 < n
  · have:=GA l (10 * n + (d - 48))
    have h2:decide (decV (10 * n + (d - 48)) l<=lim)=false:=by simp only [decide_eq_false_iff_not]; omega
    rw [if_pos h,h2]; rfl
  · rw [if_neg h]
    exact C7 h9 l _ (by omega) (fun x hx=>hd x (by simp [hx]))
theorem Got.bad {r:R} {e t:Int} (h:r=.bad e t) {x:ByteArray} {n z:Int}:Got r x n z e t:=by subst h; exact ⟨rfl,rfl⟩
theorem Got.ok {r:R} {k:Int} {x:List UInt8} {n:Int} {z:Nat} (h:r=.ok k x n z):Got r (mk x) n z 0 0:=by subst h; exact ⟨rfl,rfl,rfl,rfl,rfl⟩
theorem D9 (l:List UInt8):bR l=true ↔ ∃ c,l[0]? = some c/\l.length<=16/\bQ c.toNat=true/\∀ x ∈ l,aW x=true:=by
 cases l with
 | nil=>simp [bR]
 | cons c l=>simp [bR,and_assoc]
structure Ends (ts:List Tk):Prop where
 pos:0 < ts.length
 le:ts.length<=4001
 last:∀ (i:Nat) (t:Tk),ts[i]? = some t->(t.k=0 ↔ i + 1=ts.length)
abbrev fQ (T:TypeId) (ts:List Tk) (n:Nat):B:=.cells [.fz (ts.map kU),.vl (.int .i64 n)] T
theorem L9 (T:TypeId) (ts:List Tk) (n:Nat):fQ T ts (n + 1)=.cells [.fz (ts.map kU),.vl (.int .i64 ((n:Int) + 1))] T:=rfl
def j0 (T:TypeId) (post:List Tk->Nat->(S->Hp->Prop)->Prop):W.Spec:=fun xs H K=>
 match xs,H with
 | [.va (.c1 (.pt 0 0))],[.cells [.fz r,.vl (.int .i64 a)] T']=>T'=T/\∃ (ts:List Tk) (n:Nat),r=ts.map kU/\a=n/\Ends ts/\n < ts.length/\post ts n K
 | _,_=>False
theorem rV {T:TypeId} {post:List Tk->Nat->(S->Hp->Prop)->Prop} {xs:List S} {H:Hp} {K:S->Hp->Prop} (h:j0 T post xs H K) :
 ∃ ts n,xs=[.va (.c1 (.pt 0 0))]/\H=[fQ T ts n]/\Ends ts/\n < ts.length/\post ts n K:=by
 unfold j0 at h
 split at h
 · obtain ⟨rfl,ts,n,rfl,rfl,h1,h2,h3⟩:=h; exact ⟨ts,n,rfl,rfl,h1,h2,h3⟩
 · exact h.elim
theorem CY {T:TypeId} {post:List Tk->Nat->(S->Hp->Prop)->Prop}:∀ xs H K,j0 T post xs H K->xs.length=1:=fun xs H K h=>by obtain ⟨ts,n,rfl,_⟩:=rV h; rfl
attribute [go_sem ↓] j0
def cP (ts:List Tk) (n:Nat):Nat:=if n + 1 < ts.length then n + 1 else n
def fU (T:TypeId):W.Spec:=j0 T fun ts n K=>∀ t,ts[n]? = some t->K (.va (.gs (kU t))) [fQ T ts n]
def iB (T:TypeId):W.Spec:=j0 T fun ts n K=>∀ t,ts[n]? = some t->K (.va (.gs (kU t))) [fQ T ts (cP ts n)]
attribute [go_sem ↓] fU iB
theorem qG:Meets Tryz.prog 38 (fU 123):=by
 refine aI Tryz.func38 aB9 1 (by rw [Tryz.ntmps38]; decide) (aC _) CY ?_
 intro xs H K h
 obtain ⟨ts,n,rfl,rfl,hE,hn,hK⟩:=rV h
 simp -dsimp only [go_sem,TQ,TH]
 refine ⟨fun h=>?_,fun _=>⟨by omega,fun t ht=>.sel [0] (by simp) (by simp) rfl (.done (hK t ht))⟩⟩
 have:=hE.pos; simp at h; simp [h] at this
theorem HU:Meets Tryz.prog 81 (iB 123):=by
 refine aI Tryz.func81 aB8 1 (by rw [Tryz.ntmps81]; decide) (aD qG (aC _)) CY ?_
 intro xs H K h
 obtain ⟨ts,n,rfl,rfl,hE,hn,hK⟩:=rV h
 simp -dsimp only [go_sem,W6,WK]
 refine ⟨ts,n,rfl,rfl,hE,hn,fun t ht=>?_⟩
 have hK:=hK t ht
 have hle:=hE.le
 refine ⟨by omega,fun h=>⟨by omega,?_⟩,fun h=>?_⟩
 · have e:cP ts n=n + 1:=if_pos (by simp at h; omega)
   rw [e,L9] at hK
   exact .sel [0] (by simp) (by simp) rfl (.done hK)
 · have e:cP ts n=n:=if_neg (by simp at h; omega)
   rw [e] at hK
   exact .sel [0] (by simp) (by simp) rfl (.done hK)
def gH (k:Int) (w:List UInt8) (t:Tk):Bool:=t.k == k && t.x == w
def qZ (k:Int) (w:List UInt8) (ts:List Tk) (n:Nat) (t:Tk):Nat:=bif gH k w t then cP ts n else n
def fC (k:Int) (T:TypeId):W.Spec:=fun xs H K=>
 match xs,H with
 | [.va (.c1 (.pt 0 0)),.va (.c1 (.vl (.string w)))],[.cells [.fz r,.vl (.int .i64 a)] T']=>T'=T/\∃ (ts:List Tk) (n:Nat),r=ts.map kU/\a=n/\Ends ts/\n < ts.length/\
  ∀ t,ts[n]? = some t->K (bS (gH k (bl w) t)) [fQ T ts (qZ k (bl w) ts n t)]
 | _,_=>False
theorem oE {k:Int} {T:TypeId} {xs:List S} {H:Hp} {K:S->Hp->Prop} (h:fC k T xs H K) :
 ∃ w ts n,xs=[.va (.c1 (.pt 0 0)),tS w]/\H=[fQ T ts n]/\Ends ts/\n < ts.length/\∀ t,ts[n]? = some t->K (bS (gH k (bl w) t)) [fQ T ts (qZ k (bl w) ts n t)]:=by
 unfold fC at h
 split at h
 · obtain ⟨rfl,ts,n,rfl,rfl,h1,h2,h3⟩:=h; exact ⟨_,ts,n,rfl,rfl,h1,h2,h3⟩
 · exact h.elim
theorem wH {k:Int} {T:TypeId}:∀ xs H K,fC k T xs H K->xs.length=2:=fun xs H K h=>by obtain ⟨w,ts,n,rfl,_⟩:=oE h; rfl
def gA (T:TypeId):W.Spec:=fun xs H K=>
 match xs,H with
 | [.va (.c1 (.pt 0 0)),.va (.c1 (.vl (.int .i64 k))),.va (.c1 (.vl (.string w)))],[.cells [.fz r,.vl (.int .i64 a)] T']=>T'=T/\∃ (ts:List Tk) (n:Nat),r=ts.map kU/\a=n/\Ends ts/\n < ts.length/\
  ∀ t,ts[n]? = some t->K (bS (gH k (bl w) t)) [fQ T ts (qZ k (bl w) ts n t)]
 | _,_=>False
theorem uG {T:TypeId} {xs:List S} {H:Hp} {K:S->Hp->Prop} (h:gA T xs H K) :
 ∃ k w ts n,xs=[.va (.c1 (.pt 0 0)),iS .i64 k,tS w]/\H=[fQ T ts n]/\Ends ts/\n < ts.length/\∀ t,ts[n]? = some t->K (bS (gH k (bl w) t)) [fQ T ts (qZ k (bl w) ts n t)]:=by
 unfold gA at h
 split at h
 · obtain ⟨rfl,ts,n,rfl,rfl,h1,h2,h3⟩:=h; exact ⟨_,_,ts,n,rfl,rfl,h1,h2,h3⟩
 · exact h.elim
theorem H9 {T:TypeId}:∀ xs H K,gA T xs H K->xs.length=3:=fun xs H K h=>by obtain ⟨k,w,ts,n,rfl,_⟩:=uG h; rfl
attribute [go_sem ↓] fC gA
theorem P1:Meets Tryz.prog 116 (gA 123):=by
 refine aI Tryz.func116 Y1 3 (by rw [Tryz.ntmps116]; decide) (aD qG (aD HU (aC _))) H9 ?_
 intro xs H K h
 obtain ⟨k,w,ts,n,rfl,rfl,hE,hn,hK⟩:=uG h
 simp -dsimp only [go_sem,OP,O5]
 refine ⟨ts,n,rfl,rfl,hE,hn,fun t ht=>?_⟩
 have hK:=hK t ht
 have hg:(t.k != k || !t.x == bl w)=!(gH k (bl w) t):=by simp [gH,bne,Bool.not_and]
 rw [hg]
 refine ⟨fun h=>?_,fun h=>⟨ts,n,rfl,rfl,hE,hn,fun u hu=>?_⟩⟩
 · have h:gH k (bl w) t=false:=by simpa using h
   simp only [qZ,h,aG] at hK
   exact .sel [0] (by simp) (by simp) rfl (.done hK)
 · have h:gH k (bl w) t=true:=by simpa using h
   simp only [qZ,h,aM] at hK
   exact .sel [0] (by simp) (by simp) rfl (.done hK)
theorem JR:Meets Tryz.prog 82 (fC 4 123):=by
 refine aI Tryz.func82 aBJ 2 (by rw [Tryz.ntmps82]; decide) (aD P1 (aC _)) wH ?_
 intro xs H K h
 obtain ⟨w,ts,n,rfl,rfl,hE,hn,hK⟩:=oE h
 simp -dsimp only [go_sem,X7,VL]
 refine ⟨ts,n,rfl,rfl,hE,hn,fun t ht=>.done ?_⟩
 exact hK t ht
theorem XQ:Meets Tryz.prog 80 (fC 1 123):=by
 refine aI Tryz.func80 aCO 2 (by rw [Tryz.ntmps80]; decide) (aD P1 (aC _)) wH ?_
 intro xs H K h
 obtain ⟨w,ts,n,rfl,rfl,hE,hn,hK⟩:=oE h
 simp -dsimp only [go_sem,VR,U2]
 refine ⟨ts,n,rfl,rfl,hE,hn,fun t ht=>.done ?_⟩
 exact hK t ht
def kC:W.Spec:=fun xs H K=>
 match xs,H with
 | [.va (.c1 (.vl (.string s)))],[]=>((bH (bl s)).err=0->K (.tu [.c1 (.pt 0 0),iA .i64 0,iA .i64 0]) [fQ 123 (bH (bl s)).toks 0])/\
  ((bH (bl s)).err ≠ 0->K (.tu [.c1 (.vl (.pointer none)),iA .i64 (bH (bl s)).err,iA .i64 (bH (bl s)).off]) [])
 | _,_=>False
theorem wO {xs:List S} {H:Hp} {K:S->Hp->Prop} (h:kC xs H K):∃ s,xs=[tS s]/\H=[]/\((bH (bl s)).err=0->K (.tu [.c1 (.pt 0 0),iA .i64 0,iA .i64 0]) [fQ 123 (bH (bl s)).toks 0])/\
 ((bH (bl s)).err ≠ 0->K (.tu [.c1 (.vl (.pointer none)),iA .i64 (bH (bl s)).err,iA .i64 (bH (bl s)).off]) []):=by
 unfold kC at h
 split at h
 · exact ⟨_,rfl,rfl,h.1,h.2⟩
 · exact h.elim
attribute [go_sem ↓] kC
theorem aCD:Meets Tryz.prog 33 kC:=by
 refine aI Tryz.func33 aEH 1 (by rw [Tryz.ntmps33]; decide) (aD aAL (aC _)) (fun xs H K h=>by obtain ⟨s,rfl,_⟩:=wO h; rfl) ?_
 intro xs H K h
 obtain ⟨s,rfl,rfl,hK1,hK2⟩:=wO h
 simp -dsimp only [go_sem,SU,T8]
 refine ⟨fun h=>.done (hK2 (by simpa using h)),fun h=>?_⟩
 have hK:=hK1 (by simpa using h)
 exact .sel [0] (by simp) (by simp) rfl (.done hK)
def digs (n:Nat):List UInt8:=(if h:n < 10 then [] else digs (n / 10)) ++ [(48 + n % 10).toUInt8]
 termination_by n
 decreasing_by omega
theorem mO {n:Nat} (h:n < 10):digs n=[(48 + n).toUInt8]:=by
 rw [digs.eq_1,dif_pos h,Nat.mod_eq_of_lt h]; rfl
theorem sY {n:Nat} (h:10<=n):digs n=digs (n / 10) ++ [(48 + n % 10).toUInt8]:=by
 rw [digs.eq_1,dif_neg (by omega)]
theorem FA:∀ (k n:Nat),n < 10 ^ (k + 1)->(digs n).length<=k + 1
 | 0,n,h=>by rw [mO (by omega)]; simp
 | k + 1,n,h=>by
  rcases bG n 10 with h1 | h1
  · rw [mO h1]; simp
  · rw [sY h1,List.length_append]
    have:=FA k (n / 10) (by rw [Nat.pow_succ] at h; omega)
    simp; omega
def bM (n:Int):List UInt8:=bif decide (n < 0) then 45 :: digs n.natAbs else digs n.natAbs
def DC (c:UInt8):List UInt8:=bif c == 34 || c == 92 then [92,c] else [c]
def yC (l:List UInt8):List UInt8:=34 :: l.flatMap DC ++ [34]
def qX (c:UInt8):Bool:=decide (32<=c) && decide (c<=126)
def hZ (k:Int) (x:List UInt8) (n:Int):List UInt8:=bif k == 1 then x else bif k == 2 then bM n else bif k == 3 then yC x else bif k == 4 then x else []
def G4 (k:Int) (x:List UInt8) (n:Int):Bool:=
 bif k == 1 then n == 0 && bR x else bif k == 2 then x == [] else bif k == 3 then n == 0 && (decide (x.length<=200) && x.all qX) else bif k == 4 then n == 0 && (match x with | [c]=>eS c.toNat | _=>false) else false
structure Tx where
 k:Int
 x:List UInt8
 n:Int
 a:Int
structure TkFit (t:Tx):Prop where
 lo:-9223372036854775808<=t.n
 hi:t.n<=9223372036854775807
 len:t.x.length<=100000
theorem iZ {n:Int} (h1:-9223372036854775808<=n) (h2:n<=9223372036854775807):(bM n).length<=21:=by
 have:=FA 19 n.natAbs (by omega)
 unfold bM
 cases decide (n < 0)<;>simp<;>omega
theorem D2 {l x rest:List UInt8} {a:Nat} (h:l.drop a=x ++ rest):(l.take (a + x.length)).drop a=x:=by
 rw [List.drop_take,h,Nat.add_sub_cancel_left,List.take_left]
theorem CE {l x rest:List UInt8} {a:Nat} (h:l.drop a=x ++ rest) (j:Nat):l[a + x.length + j]? = rest[j]?:=by
 have:(l.drop a)[x.length + j]? = rest[j]?:=by rw [h,List.getElem?_append_right (by omega)]; congr 1; omega
 rw [<-this,List.getElem?_drop]; congr 1; omega
theorem sE {l x:List UInt8} {a:Nat} {c:UInt8} (h:l.drop a=c :: x):l[a]? = some c:=by
 have:(l.drop a)[0]? = some c:=by rw [h]; rfl
 rwa [List.getElem?_drop,Nat.add_zero] at this
theorem GJ {l x:List UInt8} {a:Nat} {c:UInt8} (h:l.drop a=c :: x):l.drop (a + 1)=x:=by
 rw [<-List.drop_drop,h]; rfl
theorem AO {l rest:List UInt8} {a:Nat} {c:UInt8} (h:l.drop a=c :: rest) (hx:eS c.toNat=true):eT l a=.ok 4 [c] 0 (a + 1)/\∃ c,l[a]? = some c/\(c == 32 || c == 9 || c == 10)=false/\(c == 35)=false:=by
 have hc:=sE h
 have hsk:=cU (p:=fun c=>!(eS c.toNat) || ((!(c == 32 || c == 9 || c == 10) && !(c == 35)) && (!(bQ c.toNat) && !(bV c || c == 45) && !(c == 34)))) (by decide +kernel) c
 simp only [hx,Bool.not_true,Bool.false_or,Bool.and_eq_true,Bool.not_eq_true'] at hsk
 obtain ⟨h1,⟨h2,h3⟩,h4⟩:=hsk
 exact ⟨by simp only [eT,hc,h2,h3,h4,hx,aM,aG],c,hc,h1⟩
theorem FW:∀ (x rest out:List UInt8) (i:Nat),x.all qX=true->quoL i (x.flatMap DC ++ 34 :: rest) out=(i + (x.flatMap DC).length + 1,some (out ++ x))
 | [],rest,out,i,_=>by
  rw [List.flatMap_nil,List.nil_append,gS]
  simp
 | c :: x,rest,out,i,h=>by
  rw [List.all_cons,Bool.and_eq_true] at h
  obtain ⟨h1,h2⟩:=h
  have ih:=fun i out=>FW x rest out i h2
  rw [List.flatMap_cons,List.append_assoc]
  unfold qX at h1
  have hlo:(decide (c < 32) || decide (126 < c))=false:=by
   simp only [Bool.and_eq_true,decide_eq_true_eq,UInt8.le_iff_toNat_le] at h1
   simp only [Bool.or_eq_false_iff,decide_eq_false_iff_not,UInt8.lt_iff_toNat_lt]
   exact ⟨by omega,by omega⟩
  rw [show DC c=bif c == 34 || c == 92 then [92,c] else [c] from rfl]
  cases hq:(c == 34 || c == 92) with
  | true=>
   rw [aM,List.cons_append,gS]
   have e1:(decide ((92:UInt8) < 32) || decide ((126:UInt8) < 92))=false:=by decide
   have e2:((92:UInt8) == 34)=false:=by decide
   have e3:((92:UInt8) == 92)=true:=by decide
   rw [e1,e2,e3]
   simp only [aM,aG,List.cons_append,List.nil_append,hq]
   rw [ih]
   simp; omega
  | false=>
   simp only [Bool.or_eq_false_iff] at hq
   rw [aG,List.cons_append,List.nil_append,gS,hlo,hq.1,hq.2]
   simp only [aG]
   rw [ih]
   simp; omega
theorem zR {l x rest:List UInt8} {a:Nat} (h:l.drop a=yC x ++ rest) (hl:x.length<=200) (hx:x.all qX=true):eT l a=.ok 3 x 0 (a + (yC x).length)/\∃ c,l[a]? = some c/\(c == 32 || c == 9 || c == 10)=false/\(c == 35)=false:=by
 have h':l.drop a=34 :: (x.flatMap DC ++ 34 :: rest):=by rw [h]; simp [yC]
 have hc:=sE h'
 refine ⟨?_,34,hc,by decide,by decide⟩
 have e1:bQ ((34:UInt8).toNat:Int)=false:=by decide
 have e2:(bV 34 || (34:UInt8) == 45)=false:=by decide
 have h200:decide (200 < x.length)=false:=by simp; omega
 simp only [eT,hc,e1,e2,aG,jE,GJ h',FW x rest [] (a + 1) hx,List.nil_append,h200]
 simp [yC]
 omega
theorem uP:∀ (k m:Nat),m < 10 ^ (k + 1)->∀ c ∈ digs m,bV c=true
 | 0,m,h=>fun c hc=>by
  rw [mO (by omega)] at hc
  simp only [List.mem_cons,List.not_mem_nil,or_false] at hc
  subst hc
  rw [lE,UInt8.toNat_ofNat']
  omega
 | k + 1,m,h=>fun c hc=>by
  rcases bG m 10 with h1 | h1
  · exact uP 0 m (by omega) c hc
  · rw [sY h1,List.mem_append] at hc
    rcases hc with hc | hc
    · exact uP k (m / 10) (by rw [Nat.pow_succ] at h; omega) c hc
    · simp only [List.mem_cons,List.not_mem_nil,or_false] at hc
      subst hc
      rw [lE,UInt8.toNat_ofNat']
      omega
theorem zI (m:Nat):digs m ≠ []:=by rw [digs.eq_1]; simp
theorem sK:∀ (k m:Nat),m < 10 ^ (k + 1)->0 < m->(digs m)[0]? ≠ some 48
 | 0,m,h,h0=>by
  rw [mO (by omega)]
  simp only [List.getElem?_cons_zero,ne_eq,aF]
  intro e
  have:=congrArg UInt8.toNat e
  rw [UInt8.toNat_ofNat'] at this
  have:(48 + m) % 256=48:=this
  omega
 | k + 1,m,h,h0=>by
  rcases bG m 10 with h1 | h1
  · exact sK 0 m (by omega) h0
  · rw [sY h1,List.getElem?_append_left (List.length_pos_iff.2 (zI _))]
    exact sK k (m / 10) (by rw [Nat.pow_succ] at h; omega) (by omega)
theorem EQ (c:UInt8):∀ (l:List UInt8) (n:Nat),decV n (l ++ [c])=10 * decV n l + (c.toNat - 48)
 | [],n=>by rw [List.nil_append,j6,m0,m0]
 | d :: l,n=>by rw [List.cons_append,j6,j6,EQ c l]
theorem rE:∀ (k m:Nat),m < 10 ^ (k + 1)->decV 0 (digs m)=m
 | 0,m,h=>by
  rw [mO (by omega),j6,m0,UInt8.toNat_ofNat']
  omega
 | k + 1,m,h=>by
  rcases bG m 10 with h1 | h1
  · exact rE 0 m (by omega)
  · rw [sY h1,EQ,rE k (m / 10) (by rw [Nat.pow_succ] at h; omega),UInt8.toNat_ofNat']
    omega
abbrev okT (t:Tx):Bool:=G4 t.k t.x t.n
abbrev iW (t:Tx):List UInt8:=hZ t.k t.x t.n
abbrev CD (t:Tx):Int × List UInt8 × Int:=(t.k,t.x,t.n)
abbrev bY (t:Tk):Int × List UInt8 × Int:=(t.k,t.x,t.n)
def S1:PC:=.seq (.reg [.e 1 (.bx 25 (.t 0)),.q 2 (.mv (.k (.string (mk []))))]) (.seq (.seq (.reg [.l 12 (.ldn 3 (.t 1)),.a 13 (.cq 31 [(.t 12)]),.q 14 (.bin .neq true (.t 13) (.i 0))]) (.cond (.t 14) (.seq (.reg [.q 2 (.mv (.k (.string (mk []))))]) .ret) .skip)) (.seq (.reg [.q 15 (.fa 0 (.t 1)),.l 16 (.ld1 (.t 15)),.a 17 (.cq 32 [(.t 16)]),.q 18 (.bin .add true (.k (.string (mk [118,101,114,115,105,111,110,32]))) (.t 17)),.q 19 (.bin .add true (.t 18) (.k (.string (mk [59,10])))),.v 3 19]) (.seq (.seq (.reg [.q 20 (.fa 1 (.t 1)),.l 21 (.ld1 (.t 20)),.q 22 (.lnL (.t 21)),.q 23 (.mv (.i 0))]) (.block 0 (.loop (.seq (.reg [.q 24 (.bin .lss true (.t 23) (.t 22))]) (.seq (.cond (.t 24) .skip (.exit 0)) (.seq (.block 1 (.seq (.reg [.l 25 (.ia 3 (.t 21) (.t 23)),.l 26 (.ldn 3 (.t 25)),.e 5 (.al (.agg #[(.string (mk [])),(.slice none 0 0),(.slice none 0 0)]) 62),.s (.st 3 (.t 5) (.t 26))]) (.seq (.reg [.v 27 3,.q 28 (.fa 0 (.t 5)),.l 29 (.ld1 (.t 28)),.q 30 (.bin .add true (.k (.string (mk [101,110,117,109,32]))) (.t 29)),.q 31 (.bin .add true (.t 30) (.k (.string (mk [32,123,32])))),.q 32 (.bin .add true (.t 27) (.t 31)),.v 3 32]) (.seq (.seq (.reg [.q 33 (.fa 1 (.t 5)),.l 34 (.ld1 (.t 33)),.q 35 (.lnL (.t 34)),.q 36 (.mv (.i 0))]) (.block 2 (.loop (.seq (.reg [.q 37 (.bin .lss true (.t 36) (.t 35))]) (.seq (.cond (.t 37) .skip (.exit 2)) (.seq (.block 3 (.seq (.reg [.v 38 36,.l 39 (.ia 1 (.t 34) (.t 36)),.l 40 (.ld1 (.t 39)),.v 6 38,.v 7 40]) (.seq (.seq (.reg [.v 41 6,.q 42 (.bin .gtr true (.t 41) (.i 0))]) (.cond (.t 42) (.reg [.v 43 3,.q 44 (.bin .add true (.t 43) (.k (.string (mk [44,32])))),.v 3 44]) .skip)) (.reg [.v 45 3,.v 46 7,.q 47 (.bin .add true (.t 46) (.k (.string (mk [32,61,32])))),.q 48 (.fa 2 (.t 5)),.l 49 (.ld1 (.t 48)),.v 50 6,.l 51 (.ia 1 (.t 49) (.t 50)),.l 52 (.ld1 (.t 51)),.a 53 (.cq 32 [(.t 52)]),.q 54 (.bin .add true (.t 47) (.t 53)),.q 55 (.bin .add true (.t 45) (.t 54)),.v 3 55])))) (.reg [.q 56 (.bin .add true (.t 36) (.i 1)),.v 36 56]))))))) (.reg [.v 57 3,.q 58 (.bin .add true (.t 57) (.k (.string (mk [32,125,10])))),.v 3 58]))))) (.reg [.q 59 (.bin .add true (.t 23) (.i 1)),.v 23 59]))))))) (.seq (.seq (.reg [.q 60 (.fa 2 (.t 1)),.l 61 (.ld1 (.t 60)),.q 62 (.lnL (.t 61)),.q 63 (.mv (.i 0))]) (.block 4 (.loop (.seq (.reg [.q 64 (.bin .lss true (.t 63) (.t 62))]) (.seq (.cond (.t 64) .skip (.exit 4)) (.seq (.block 5 (.seq (.reg [.l 65 (.ia 2 (.t 61) (.t 63)),.l 66 (.ldn 2 (.t 65)),.e 9 (.al (.agg #[(.string (mk [])),(.slice none 0 0)]) 56),.s (.st 2 (.t 9) (.t 66))]) (.seq (.reg [.v 67 3,.q 68 (.fa 0 (.t 9)),.l 69 (.ld1 (.t 68)),.q 70 (.bin .add true (.k (.string (mk [115,116,114,117,99,116,32]))) (.t 69)),.q 71 (.bin .add true (.t 70) (.k (.string (mk [32,123,10])))),.q 72 (.bin .add true (.t 67) (.t 71)),.v 3 72]) (.seq (.seq (.reg [.q 73 (.fa 1 (.t 9)),.l 74 (.ld1 (.t 73)),.q 75 (.lnL (.t 74)),.q 76 (.mv (.i 0))]) (.block 6 (.loop (.seq (.reg [.q 77 (.bin .lss true (.t 76) (.t 75))]) (.seq (.cond (.t 77) .skip (.exit 6)) (.seq (.block 7 (.seq (.reg [.l 78 (.ia 7 (.t 74) (.t 76)),.l 79 (.ldn 7 (.t 78)),.e 11 (.al (.agg #[(.int .i64 0),(.string (mk [])),(.int .i64 0),(.int .i64 0),(.string (mk [])),(.slice none 0 0),(.bool false)]) 64),.s (.st 7 (.t 11) (.t 79))]) (.seq (.reg [.v 80 3,.q 81 (.fa 0 (.t 11)),.l 82 (.ld1 (.t 81)),.a 83 (.cq 32 [(.t 82)]),.q 84 (.bin .add true (.k (.string (mk [32,32]))) (.t 83)),.q 85 (.bin .add true (.t 84) (.k (.string (mk [32])))),.q 86 (.fa 1 (.t 11)),.l 87 (.ld1 (.t 86)),.q 88 (.bin .add true (.t 85) (.t 87)),.q 89 (.bin .add true (.t 88) (.k (.string (mk [58,32])))),.q 90 (.fa 2 (.t 11)),.l 91 (.ldn 4 (.t 90)),.a 92 (.cq 16 [(.t 91)]),.q 93 (.bin .add true (.t 89) (.t 92)),.q 94 (.bin .add true (.t 80) (.t 93)),.v 3 94]) (.seq (.seq (.reg [.q 95 (.fa 6 (.t 11)),.l 96 (.ld1 (.t 95))]) (.cond (.t 96) (.reg [.v 97 3,.q 98 (.bin .add true (.t 97) (.k (.string (mk [63])))),.v 3 98]) .skip)) (.reg [.v 99 3,.q 100 (.bin .add true (.t 99) (.k (.string (mk [59,10])))),.v 3 100]))))) (.reg [.q 101 (.bin .add true (.t 76) (.i 1)),.v 76 101]))))))) (.reg [.v 102 3,.q 103 (.bin .add true (.t 102) (.k (.string (mk [125,10])))),.v 3 103]))))) (.reg [.q 104 (.bin .add true (.t 63) (.i 1)),.v 63 104]))))))) (.seq (.reg [.v 105 3,.v 2 105]) .ret)))))
def XA:List RV:=[.mv (.t 2)]
theorem aBS:aY Tryz.prog true ⟨fun r k=>if r=1/\k=1 then .q else if r=3/\k=2 then .q else if r=13/\k=8 then .q else if r=24/\k=3 then .q else if r=24/\k=12 then .q else .own [],fun _=>false⟩ Tryz.f10=some (S1,XA):=by kernel_rfl
def XL:PC:=.seq (.reg [.e 1 (.bx 37 (.t 0)),.q 2 (.mv (.k (.string (mk []))))]) (.seq (.reg [.q 3 (.mv (.k (.string (mk []))))]) (.seq (.seq (.reg [.q 4 (.mv (.i 0))]) (.block 0 (.loop (.seq (.seq (.reg [.q 6 (.fa 0 (.t 1)),.l 7 (.ld1 (.t 6)),.q 8 (.bin .eql true (.t 7) (.i 5))]) (.cond (.t 8) .skip (.exit 0))) (.seq (.block 1 (.seq (.seq (.reg [.q 11 (.fa 1 (.t 1)),.l 12 (.ld1 (.t 11)),.q 13 (.bin .lss true (.t 12) (.i 0)),.v 14 13,⟨some 15,(some (14,false)),.q (.fa 2 (.t 1))⟩,⟨some 16,(some (14,false)),.l (.ld1 (.t 15))⟩,⟨some 17,(some (14,false)),.q (.bin .neq true (.t 16) (.k (.string (mk []))))⟩,.a 18 (.pick (.t 14) (.k (.bool true)) (.t 17)),.v 19 18,⟨some 20,(some (19,false)),.q (.fa 3 (.t 1))⟩,⟨some 21,(some (19,false)),.l (.ld1 (.t 20))⟩,⟨some 22,(some (19,false)),.q (.lnL (.t 21))⟩,⟨some 23,(some (19,false)),.q (.bin .neq true (.t 22) (.i 1))⟩,.a 24 (.pick (.t 19) (.k (.bool true)) (.t 23)),.v 25 24,⟨some 26,(some (25,false)),.q (.mv (.t 4))⟩,⟨some 27,(some (25,false)),.q (.bin .eql true (.t 26) (.i 6))⟩,.a 28 (.pick (.t 25) (.k (.bool true)) (.t 27))]) (.cond (.t 28) (.seq (.reg [.q 2 (.mv (.k (.string (mk []))))]) .ret) .skip)) (.seq (.reg [.v 29 3,.q 30 (.fa 1 (.t 1)),.l 31 (.ld1 (.t 30)),.a 32 (.cq 32 [(.t 31)]),.q 33 (.bin .add true (.k (.string (mk [108,105,115,116,91]))) (.t 32)),.q 34 (.bin .add true (.t 33) (.k (.string (mk [93,32,111,102,32])))),.q 35 (.bin .add true (.t 29) (.t 34)),.v 3 35]) (.reg [.q 36 (.fa 3 (.t 1)),.l 37 (.ld1 (.t 36)),.l 38 (.ia 4 (.t 37) (.i 0)),.l 39 (.ldn 4 (.t 38)),.s (.st 4 (.t 1) (.t 39))])))) (.reg [.v 9 4,.q 10 (.bin .add true (.t 9) (.i 1)),.v 4 10])))))) (.seq (.reg [.l 40 (.ldn 4 (.t 1)),.a 41 (.cq 53 [(.t 40)]),.v 5 41]) (.seq (.seq (.reg [.v 42 5,.q 43 (.bin .eql true (.t 42) (.k (.string (mk []))))]) (.cond (.t 43) (.seq (.reg [.q 2 (.mv (.k (.string (mk []))))]) .ret) .skip)) (.seq (.reg [.v 44 3,.v 45 5,.q 46 (.bin .add true (.t 44) (.t 45)),.v 2 46]) .ret)))))
def TF:List RV:=[.mv (.t 2)]
theorem aEQ:aY Tryz.prog true ⟨fun r k=>if r=7/\k=3 then .q else if r=9/\k=1 then .q else .own [],fun _=>false⟩ Tryz.f16=some (XL,TF):=by kernel_rfl
def MV:PC:=.seq (.reg [.q 4 (.mv (.k (.bool false)))]) (.seq (.reg [.v 5 0,.q 6 (.nc (.t 5)),.q 7 (.fa 1 (.t 6)),.l 8 (.ld1 (.t 7)),.q 9 (.not (.t 8)),.v 10 9,⟨some 11,(some (10,true)),.q (.mv (.t 0))⟩,⟨some 12,(some (10,true)),.q (.nc (.t 11))⟩,⟨some 13,(some (10,true)),.q (.fa 0 (.t 12))⟩,⟨some 14,(some (10,true)),.l (.ld1 (.t 13))⟩,⟨some 15,(some (10,true)),.q (.mv (.t 1))⟩,⟨some 16,(some (10,true)),.cl 80 [(.t 14),(.t 15)] [1]⟩,.a 17 (.pick (.t 10) (.t 16) (.k (.bool false))),.v 4 17]) .ret)
def MS:List RV:=[.mv (.t 4)]
theorem aCF:aY Tryz.prog true ⟨fun r k=>if r=1/\k=11 then .own [1] else .own [],fun _=>false⟩ Tryz.f34=some (MV,MS):=by kernel_rfl
def NU:PC:=.seq (.reg [.v 2 0,.q 3 (.nc (.t 2)),.q 4 (.fa 1 (.t 3)),.l 5 (.ld1 (.t 4)),.q 6 (.not (.t 5))]) (.cond (.t 6) (.reg [.v 7 0,.v 8 0,.v 9 0,.q 10 (.nc (.t 9)),.q 11 (.fa 0 (.t 10)),.l 12 (.ld1 (.t 11)),.a 13 (.cl 38 [(.t 12)] [1]),.q 14 (.fld1 3 (.t 13)),.q 15 (.nc (.t 7)),.q 16 (.fa 1 (.t 15)),.s (.st 1 (.t 16) (.k (.bool true))),.q 17 (.nc (.t 8)),.q 18 (.fa 2 (.t 17)),.s (.st 1 (.t 18) (.t 14))]) .skip)
def L8:List RV:=[]
theorem aBW:aY Tryz.prog true ⟨fun r k=>if r=1/\k=6 then .own [1] else .own [],fun _=>false⟩ Tryz.f35=some (NU,L8):=by kernel_rfl
def E7:PC:=.seq (.gh (.reg [.v 30 0,.q 31 (.nc (.t 30)),.q 32 (.fa 0 (.t 31)),.l 33 (.ld1 (.t 32)),.a 34 (.cl 81 [(.t 33)] [1])])) (.seq (.reg [.q 35 (.fa 2 (.t 5)),.l 36 (.ld1 (.t 35)),.v 4 36]) .ret)
@[go_sem ↓] theorem aCY:cW E7:=cZ _
def C9:PC:=.seq (.seq (.gh (.reg [.v 11 0,.q 12 (.nc (.t 11)),.q 13 (.fa 1 (.t 12)),.l 14 (.ld1 (.t 13)),.v 15 14,⟨some 16,(some (15,false)),.q (.fa 0 (.t 5))⟩,⟨some 17,(some (15,false)),.l (.ld1 (.t 16))⟩,⟨some 18,(some (15,false)),.q (.bin .neq true (.t 17) (.i 2))⟩,.a 19 (.pick (.t 15) (.k (.bool true)) (.t 18)),.v 20 19,⟨some 21,(some (20,false)),.q (.mv (.t 1))⟩,⟨some 22,(some (20,false)),.q (.mv (.t 21))⟩,⟨some 23,(some (22,true)),.q (.fa 2 (.t 5))⟩,⟨some 24,(some (22,true)),.l (.ld1 (.t 23))⟩,⟨some 25,(some (22,true)),.q (.bin .lss true (.t 24) (.i 0))⟩,⟨some 26,(some (20,false)),.pick (.t 22) (.t 25) (.k (.bool false))⟩,.a 27 (.pick (.t 20) (.k (.bool true)) (.t 26))])) (.cond (.t 27) (.seq (.reg [.v 28 0,.a 29 (.cl 35 [(.t 28)] [0,1,2,3])]) (.seq (.reg [.q 4 (.mv (.i 0))]) .ret)) .skip)) (E7)
@[go_sem ↓] theorem aBI:cW C9:=cZ _
def WI:PC:=.seq (.reg [.q 4 (.mv (.i 0))]) (.seq (.reg [.v 6 0,.q 7 (.nc (.t 6)),.q 8 (.fa 0 (.t 7)),.l 9 (.ld1 (.t 8)),.a 10 (.cl 38 [(.t 9)] [1]),.e 5 (.al (.agg #[(.int .i64 0),(.string (mk [])),(.int .i64 0),(.int .i64 0)]) 74),.s (.st 4 (.t 5) (.t 10))]) (C9))
def X8:List RV:=[.mv (.t 4)]
theorem aB3:aY Tryz.prog true ⟨fun r k=>if r=1/\k=4 then .own [1] else if r=3/\k=1 then .own [0,1,2,3] else if r=5/\k=4 then .own [1] else .own [],fun r=>[2,5].contains r⟩ Tryz.f36=some (WI,X8):=by kernel_rfl
def L6:PC:=.seq (.reg [.v 4 0,.q 5 (.nc (.t 4)),.q 6 (.fa 1 (.t 5)),.l 7 (.ld1 (.t 6)),.q 8 (.not (.t 7)),.v 9 8,⟨some 10,(some (9,true)),.q (.mv (.t 0))⟩,⟨some 11,(some (9,true)),.q (.nc (.t 10))⟩,⟨some 12,(some (9,true)),.q (.fa 0 (.t 11))⟩,⟨some 13,(some (9,true)),.l (.ld1 (.t 12))⟩,⟨some 14,(some (9,true)),.q (.mv (.t 1))⟩,⟨some 15,(some (9,true)),.cl 82 [(.t 13),(.t 14)] [1]⟩,⟨some 16,(some (9,true)),.q (.not (.t 15))⟩,.a 17 (.pick (.t 9) (.t 16) (.k (.bool false)))]) (.cond (.t 17) (.reg [.v 18 0,.a 19 (.cl 35 [(.t 18)] [0,1,2,3])]) .skip)
def NQ:List RV:=[]
theorem aDD:aY Tryz.prog true ⟨fun r k=>if r=0/\k=11 then .own [1] else if r=1/\k=1 then .own [0,1,2,3] else .own [],fun _=>false⟩ Tryz.f37=some (L6,NQ):=by kernel_rfl
def CC:PC:=.seq (.gh (.reg [.v 27 0,.a 28 (.cl 37 [(.t 27),(.k (.string (mk [61])))] [0,1,2,3])])) (.gh (.ord  [.q (.q 29 (.fa 2 (.t 3))),.q (.l 30 (.ld1 (.t 29))),.q (.v 31 0),.m (.a 32 (.cl 36 [(.t 31),(.k (.bool false))] [0,1,2,3])),.rc (.q 29 (.fa 2 (.t 3))),.rc (.l 30 (.ld1 (.t 29))),.m (.e 33 (.bsl 3 1 [(.t 32)])),.rc (.q 29 (.fa 2 (.t 3))),.rc (.l 30 (.ld1 (.t 29))),.m (.e 34 (.ap 3 1 8 (.t 30) (.t 33))),.q (.q 35 (.fa 2 (.t 3))),.m (.s (.st 1 (.t 35) (.t 34)))]))
@[go_sem ↓] theorem aCH:cW CC:=cZ _
def DO:PC:=.gh (.reg [.v 18 0,.a 19 (.cl 84 [(.t 18),(.k (.string (mk [44])))] [0,1,2,3]),.v 4 19])
@[go_sem ↓] theorem aB7:cW DO:=cZ _
def pc39_9:PC:=.seq (.gh (.reg [.v 36 0,.a 37 (.cl 37 [(.t 36),(.k (.string (mk [125])))] [0,1,2,3])])) (.seq (.reg [.l 38 (.ldn 3 (.t 3)),.s (.st 3 (.t 2) (.t 38))]) .ret)
@[go_sem ↓] theorem aBM:cW pc39_9:=cZ _
def XI:PC:=.seq (.reg [.e 2 (.al (.agg #[(.string (mk [])),(.slice none 0 0),(.slice none 0 0)]) 62)]) (.seq (.reg [.v 5 0,.a 6 (.cl 83 [(.t 5),(.k (.bool true))] [0,1,2,3]),.q 7 (.bd [(.string (mk [])),(.slice none 0 0),(.slice none 0 0)] [(0,1,(.t 6))]),.e 3 (.al (.agg #[(.string (mk [])),(.slice none 0 0),(.slice none 0 0)]) 62),.s (.st 3 (.t 3) (.t 7))]) (.seq (.reg [.v 8 0,.a 9 (.cl 37 [(.t 8),(.k (.string (mk [123])))] [0,1,2,3])]) (.seq (.seq (.reg [.q 4 (.mv (.k (.bool true)))]) (.block 0 (.loop (.seq (.seq (.reg [.v 10 4,.v 11 10,⟨some 12,(some (11,true)),.q (.mv (.t 0))⟩,⟨some 13,(some (11,true)),.q (.nc (.t 12))⟩,⟨some 14,(some (11,true)),.q (.fa 1 (.t 13))⟩,⟨some 15,(some (11,true)),.l (.ld1 (.t 14))⟩,⟨some 16,(some (11,true)),.q (.not (.t 15))⟩,.a 17 (.pick (.t 11) (.t 16) (.k (.bool false)))]) (.cond (.t 17) .skip (.exit 0))) (.seq (.block 1 (.seq (.ord  [.q (.q 20 (.fa 1 (.t 3))),.q (.l 21 (.ld1 (.t 20))),.q (.v 22 0),.m (.a 23 (.cl 83 [(.t 22),(.k (.bool false))] [0,1,2,3])),.rc (.q 20 (.fa 1 (.t 3))),.rc (.l 21 (.ld1 (.t 20))),.m (.e 24 (.bsl 9 1 [(.t 23)])),.rc (.q 20 (.fa 1 (.t 3))),.rc (.l 21 (.ld1 (.t 20))),.m (.e 25 (.ap 9 1 16 (.t 21) (.t 24))),.q (.q 26 (.fa 1 (.t 3))),.m (.s (.st 1 (.t 26) (.t 25)))]) (CC))) (DO)))))) (pc39_9))))
def I8:List RV:=[.ld (.ldn 3 (.t 2))]
theorem aDP:aY Tryz.prog true ⟨fun r k=>if r=1/\k=1 then .own [0,1,2,3] else if r=2/\k=1 then .own [0,1,2,3] else if r=6/\k=3 then .own [0,1,2,3] else if r=7/\k=1 then .own [0,1,2,3] else if r=8/\k=3 then .own [0,1,2,3] else if r=5/\k=1 then .own [0,1,2,3] else if r=9/\k=1 then .own [0,1,2,3] else .own [],fun r=>[7,8,9,5].contains r⟩ Tryz.f39=some (XI,I8):=by kernel_rfl
def yR:PC:=.gh (.reg [.q 44 (.fa 1 (.t 3)),.l 45 (.ld1 (.t 44)),.l 46 (.ldn 7 (.t 4)),.e 47 (.bsl 64 7 [(.t 46)]),.e 48 (.ap 64 7 88 (.t 45) (.t 47)),.q 49 (.fa 1 (.t 3)),.s (.st 1 (.t 49) (.t 48))])
@[go_sem ↓] theorem aA5:cW yR:=cZ _
def zG:PC:=.seq (.gh (.reg [.v 42 0,.a 43 (.cl 37 [(.t 42),(.k (.string (mk [59])))] [0,1,2,3])])) (yR)
@[go_sem ↓] theorem aA3:cW zG:=cZ _
def CQ:PC:=.seq (.gh (.reg [.v 39 0,.a 40 (.cl 84 [(.t 39),(.k (.string (mk [63])))] [0,1,2,3]),.q 41 (.fa 6 (.t 4)),.s (.st 1 (.t 41) (.t 40))])) (zG)
@[go_sem ↓] theorem aCS:cW CQ:=cZ _
def D1:PC:=.seq (.gh (.reg [.v 36 0,.a 37 (.cl 55 [(.t 36)] [0,1,2,3]),.q 38 (.fa 2 (.t 4)),.s (.st 4 (.t 38) (.t 37))])) (CQ)
@[go_sem ↓] theorem aDZ:cW D1:=cZ _
def EK:PC:=.seq (.gh (.reg [.v 34 0,.a 35 (.cl 37 [(.t 34),(.k (.string (mk [58])))] [0,1,2,3])])) (D1)
@[go_sem ↓] theorem aEL:cW EK:=cZ _
def EU:PC:=.seq (.gh (.reg [.v 29 0,.a 30 (.cl 36 [(.t 29),(.k (.bool false))] [0,1,2,3]),.v 31 0,.a 32 (.cl 83 [(.t 31),(.k (.bool false))] [0,1,2,3]),.q 33 (.bd [(.int .i64 0),(.string (mk [])),(.int .i64 0),(.int .i64 0),(.string (mk [])),(.slice none 0 0),(.bool false)] [(0,1,(.t 30)),(1,1,(.t 32))]),.e 4 (.al (.agg #[(.int .i64 0),(.string (mk [])),(.int .i64 0),(.int .i64 0),(.string (mk [])),(.slice none 0 0),(.bool false)]) 64),.s (.st 7 (.t 4) (.t 33))])) (EK)
@[go_sem ↓] theorem aEK:cW EU:=cZ _
def DK:PC:=.seq (.seq (.gh (.reg [.v 20 0,.q 21 (.nc (.t 20)),.q 22 (.fa 0 (.t 21)),.l 23 (.ld1 (.t 22)),.a 24 (.cl 38 [(.t 23)] [1]),.q 25 (.fld1 0 (.t 24)),.q 26 (.bin .neq true (.t 25) (.i 2))])) (.cond (.t 26) (.seq (.reg [.v 27 0,.a 28 (.cl 35 [(.t 27)] [0,1,2,3])]) (.exit 0)) .skip)) (EU)
@[go_sem ↓] theorem aD9:cW DK:=cZ _
def pc40_12:PC:=.seq (.gh (.reg [.l 50 (.ldn 2 (.t 3)),.s (.st 2 (.t 2) (.t 50))])) .ret
@[go_sem ↓] theorem aA9:cW pc40_12:=cZ _
def XG:PC:=.seq (.reg [.e 2 (.al (.agg #[(.string (mk [])),(.slice none 0 0)]) 56)]) (.seq (.reg [.v 5 0,.a 6 (.cl 83 [(.t 5),(.k (.bool true))] [0,1,2,3]),.q 7 (.bd [(.string (mk [])),(.slice none 0 0)] [(0,1,(.t 6))]),.e 3 (.al (.agg #[(.string (mk [])),(.slice none 0 0)]) 56),.s (.st 2 (.t 3) (.t 7))]) (.seq (.reg [.v 8 0,.a 9 (.cl 37 [(.t 8),(.k (.string (mk [123])))] [0,1,2,3])]) (.seq (.block 0 (.loop (.seq (.seq (.reg [.v 10 0,.q 11 (.nc (.t 10)),.q 12 (.fa 1 (.t 11)),.l 13 (.ld1 (.t 12)),.q 14 (.not (.t 13)),.v 15 14,⟨some 16,(some (15,true)),.q (.mv (.t 0))⟩,⟨some 17,(some (15,true)),.cl 84 [(.t 16),(.k (.string (mk [125])))] [0,1,2,3]⟩,⟨some 18,(some (15,true)),.q (.not (.t 17))⟩,.a 19 (.pick (.t 15) (.t 18) (.k (.bool false)))]) (.cond (.t 19) .skip (.exit 0))) (.block 1 (DK))))) (pc40_12))))
def JG:List RV:=[.ld (.ldn 2 (.t 2))]
theorem aBG:aY Tryz.prog true ⟨fun r k=>if r=1/\k=1 then .own [0,1,2,3] else if r=2/\k=1 then .own [0,1,2,3] else if r=3/\k=7 then .own [0,1,2,3] else if r=4/\k=4 then .own [1] else if r=5/\k=1 then .own [0,1,2,3] else if r=6/\k=1 then .own [0,1,2,3] else if r=6/\k=3 then .own [0,1,2,3] else if r=7/\k=1 then .own [0,1,2,3] else if r=8/\k=1 then .own [0,1,2,3] else if r=9/\k=1 then .own [0,1,2,3] else if r=10/\k=1 then .own [0,1,2,3] else .own [],fun r=>[4,6,7,8,9,10,12,11].contains r⟩ Tryz.f40=some (XG,JG):=by kernel_rfl
def WR:PC:=.seq (.reg [.e 1 (.bx 37 (.t 0)),.q 2 (.mv (.k (.string (mk []))))]) (.seq (.seq (.reg [.q 5 (.fa 3 (.t 1)),.l 6 (.ld1 (.t 5)),.q 7 (.lnL (.t 6)),.q 8 (.bin .gtr true (.t 7) (.i 0))]) (.cond (.t 8) (.seq (.reg [.q 2 (.mv (.k (.string (mk []))))]) .ret) .skip)) (.seq (.reg [.q 3 (.mv (.k (.string (mk [105,110,116]))))]) (.seq (.seq (.reg [.q 9 (.fa 0 (.t 1)),.l 10 (.ld1 (.t 9))]) (.block 0 (.seq (.block 5 (.seq (.block 4 (.seq (.block 3 (.seq (.block 2 (.seq (.block 1 (.seq (.seq (.seq (.reg [.q 12 (.bin .eql true (.t 10) (.i 1)),.v 11 12]) (.cond (.t 11) (.exit 1) .skip)) (.seq (.seq (.reg [.q 14 (.bin .eql true (.t 10) (.i 3)),.v 13 14]) (.cond (.t 13) (.exit 2) .skip)) (.seq (.seq (.reg [.q 16 (.bin .eql true (.t 10) (.i 2)),.v 15 16]) (.cond (.t 15) (.exit 3) .skip)) (.seq (.seq (.reg [.q 18 (.bin .eql true (.t 10) (.i 4)),.v 17 18]) (.cond (.t 17) (.exit 4) .skip)) (.seq (.seq (.reg [.q 20 (.bin .eql true (.t 10) (.i 6)),.v 19 20]) (.cond (.t 19) .skip (.reg [.q 21 (.bin .eql true (.t 10) (.i 7)),.v 19 21]))) (.cond (.t 19) (.exit 5) .skip)))))) (.exit 0))) (.seq (.seq (.reg [.q 22 (.fa 1 (.t 1)),.l 23 (.ld1 (.t 22)),.q 24 (.bin .eql true (.t 23) (.i 0)),.v 25 24,⟨some 26,(some (25,true)),.q (.fa 2 (.t 1))⟩,⟨some 27,(some (25,true)),.l (.ld1 (.t 26))⟩,⟨some 28,(some (25,true)),.q (.bin .eql true (.t 27) (.k (.string (mk []))))⟩,.a 29 (.pick (.t 25) (.t 28) (.k (.bool false)))]) (.cond (.t 29) (.seq (.reg [.q 2 (.mv (.k (.string (mk [98,111,111,108]))))]) .ret) .skip)) (.exit 0)))) (.reg [.q 3 (.mv (.k (.string (mk [117,105,110,116]))))]))) (.seq (.seq (.reg [.q 30 (.fa 1 (.t 1)),.l 31 (.ld1 (.t 30)),.q 32 (.bin .eql true (.t 31) (.i 64)),.v 33 32,⟨some 34,(some (33,true)),.q (.fa 0 (.t 1))⟩,⟨some 35,(some (33,true)),.l (.ld1 (.t 34))⟩,⟨some 36,(some (33,true)),.q (.bin .eql true (.t 35) (.i 2))⟩,.a 37 (.pick (.t 33) (.t 36) (.k (.bool false))),.v 4 37]) (.seq (.reg [.q 38 (.fa 2 (.t 1)),.l 39 (.ld1 (.t 38)),.q 40 (.bin .eql true (.t 39) (.k (.string (mk [])))),.v 41 40,⟨some 42,(some (41,true)),.q (.fa 1 (.t 1))⟩,⟨some 43,(some (41,true)),.l (.ld1 (.t 42))⟩,⟨some 44,(some (41,true)),.q (.bin .eql true (.t 43) (.i 8))⟩,⟨some 45,(some (41,true)),.q (.mv (.t 44))⟩,⟨some 46,(some (45,false)),.q (.fa 1 (.t 1))⟩,⟨some 47,(some (45,false)),.l (.ld1 (.t 46))⟩,⟨some 48,(some (45,false)),.q (.bin .eql true (.t 47) (.i 16))⟩,⟨some 49,(some (41,true)),.pick (.t 45) (.k (.bool true)) (.t 48)⟩,⟨some 50,(some (41,true)),.q (.mv (.t 49))⟩,⟨some 51,(some (50,false)),.q (.fa 1 (.t 1))⟩,⟨some 52,(some (50,false)),.l (.ld1 (.t 51))⟩,⟨some 53,(some (50,false)),.q (.bin .eql true (.t 52) (.i 32))⟩,⟨some 54,(some (41,true)),.pick (.t 50) (.k (.bool true)) (.t 53)⟩,⟨some 55,(some (41,true)),.q (.mv (.t 54))⟩,⟨some 56,(some (55,false)),.q (.mv (.t 4))⟩,⟨some 57,(some (41,true)),.pick (.t 55) (.k (.bool true)) (.t 56)⟩,.a 58 (.pick (.t 41) (.t 57) (.k (.bool false)))]) (.cond (.t 58) (.seq (.reg [.v 59 3,.q 60 (.fa 1 (.t 1)),.l 61 (.ld1 (.t 60)),.a 62 (.cq 32 [(.t 61)]),.q 63 (.bin .add true (.t 59) (.t 62)),.v 2 63]) .ret) .skip))) (.exit 0)))) (.seq (.seq (.reg [.q 64 (.fa 1 (.t 1)),.l 65 (.ld1 (.t 64)),.q 66 (.bin .geq true (.t 65) (.i 0)),.v 67 66,⟨some 68,(some (67,true)),.q (.fa 2 (.t 1))⟩,⟨some 69,(some (67,true)),.l (.ld1 (.t 68))⟩,⟨some 70,(some (67,true)),.q (.bin .eql true (.t 69) (.k (.string (mk []))))⟩,.a 71 (.pick (.t 67) (.t 70) (.k (.bool false)))]) (.cond (.t 71) (.seq (.reg [.q 72 (.fa 1 (.t 1)),.l 73 (.ld1 (.t 72)),.a 74 (.cq 32 [(.t 73)]),.q 75 (.bin .add true (.k (.string (mk [116,101,120,116,91]))) (.t 74)),.q 76 (.bin .add true (.t 75) (.k (.string (mk [93])))),.v 2 76]) .ret) .skip)) (.exit 0)))) (.seq (.seq (.reg [.q 77 (.fa 1 (.t 1)),.l 78 (.ld1 (.t 77)),.q 79 (.bin .eql true (.t 78) (.i 0)),.v 80 79,⟨some 81,(some (80,true)),.q (.fa 2 (.t 1))⟩,⟨some 82,(some (80,true)),.l (.ld1 (.t 81))⟩,⟨some 83,(some (80,true)),.cq 95 [(.t 82)]⟩,.a 84 (.pick (.t 80) (.t 83) (.k (.bool false))),.v 85 84,⟨some 86,(some (85,true)),.q (.fa 2 (.t 1))⟩,⟨some 87,(some (85,true)),.l (.ld1 (.t 86))⟩,⟨some 88,(some (85,true)),.ix (.t 87) (.i 0)⟩,⟨some 89,(some (85,true)),.q (.bin .geq true (.t 88) (.k (.int .u8 65)))⟩,.a 90 (.pick (.t 85) (.t 89) (.k (.bool false))),.v 91 90,⟨some 92,(some (91,true)),.q (.fa 2 (.t 1))⟩,⟨some 93,(some (91,true)),.l (.ld1 (.t 92))⟩,⟨some 94,(some (91,true)),.ix (.t 93) (.i 0)⟩,⟨some 95,(some (91,true)),.q (.bin .leq true (.t 94) (.k (.int .u8 90)))⟩,.a 96 (.pick (.t 91) (.t 95) (.k (.bool false)))]) (.cond (.t 96) (.seq (.reg [.q 97 (.fa 2 (.t 1)),.l 98 (.ld1 (.t 97)),.v 2 98]) .ret) .skip)) (.exit 0))))) (.seq (.reg [.q 2 (.mv (.k (.string (mk []))))]) .ret))))
def WW:List RV:=[.mv (.t 2)]
theorem aCI:aY Tryz.prog true ⟨fun r k=>if r=16/\k=3 then .q else if r=18/\k=2 then .q else if r=19/\k=6 then .q else .own [],fun _=>false⟩ Tryz.f53=some (WR,WW):=by kernel_rfl
def x7:PC:=.seq (.gh (.reg [.v 13 0,.q 14 (.nc (.t 13)),.q 15 (.fa 1 (.t 14)),.l 16 (.ld1 (.t 15)),.q 17 (.not (.t 16)),.v 18 17,⟨some 19,(some (18,true)),.q (.mv (.t 0))⟩,⟨some 20,(some (18,true)),.cl 34 [(.t 19),(.k (.string (mk [111,102])))] [0,1,2,3]⟩,⟨some 21,(some (18,true)),.q (.not (.t 20))⟩,.a 22 (.pick (.t 18) (.t 21) (.k (.bool false)))])) (.cond (.t 22) (.reg [.v 23 0,.a 24 (.cl 35 [(.t 23)] [0,1,2,3])]) .skip)
@[go_sem ↓] theorem aBV:cW x7:=cZ _
def yD:PC:=.gh (.reg [.v 32 5,.q 33 (.bin .sub true (.t 32) (.i 1)),.v 5 33])
@[go_sem ↓] theorem aAY:cW yD:=cZ _
def zN:PC:=.seq (.gh (.reg [.l 41 (.ldn 4 (.t 3)),.s (.st 4 (.t 2) (.t 41))])) .ret
@[go_sem ↓] theorem aA6:cW zN:=cZ _
def DF:PC:=.seq (.seq (.gh (.reg [.v 27 4,.q 28 (.lnL (.t 27)),.q 29 (.bin .sub true (.t 28) (.i 1)),.v 5 29])) (.block 2 (.loop (.seq (.seq (.reg [.v 30 5,.q 31 (.bin .geq true (.t 30) (.i 0))]) (.cond (.t 31) .skip (.exit 2))) (.seq (.block 3 (.reg [.v 34 4,.v 35 5,.l 36 (.ia 1 (.t 34) (.t 35)),.l 37 (.ld1 (.t 36)),.l 38 (.ldn 4 (.t 3)),.e 39 (.bsl 37 4 [(.t 38)]),.q 40 (.bd [(.int .i64 0),(.int .i64 0),(.string (mk [])),(.slice none 0 0)] [(0,1,(.i 5)),(1,1,(.t 37)),(3,1,(.t 39))]),.s (.st 4 (.t 3) (.t 40))])) (yD)))))) (zN)
@[go_sem ↓] theorem aDR:cW DF:=cZ _
def DM:PC:=.seq (.gh (.reg [.v 25 0,.a 26 (.cl 98 [(.t 25)] [0,1,2,3]),.s (.st 4 (.t 3) (.t 26))])) (DF)
@[go_sem ↓] theorem aCJ:cW DM:=cZ _
def XB:PC:=.seq (.reg [.e 2 (.al (.agg #[(.int .i64 0),(.int .i64 0),(.string (mk [])),(.slice none 0 0)]) 37)]) (.seq (.reg [.e 3 (.al (.agg #[(.int .i64 0),(.int .i64 0),(.string (mk [])),(.slice none 0 0)]) 37)]) (.seq (.reg [.q 4 (.mv (.k (.slice none 0 0)))]) (.seq (.block 0 (.loop (.seq (.seq (.reg [.v 6 0,.a 7 (.cl 34 [(.t 6),(.k (.string (mk [108,105,115,116])))] [0,1,2,3])]) (.cond (.t 7) .skip (.exit 0))) (.block 1 (.seq (.reg [.v 8 4,.v 9 0,.a 10 (.cl 97 [(.t 9)] [0,1,2,3]),.e 11 (.bsl 3 1 [(.t 10)]),.e 12 (.ap 3 1 8 (.t 8) (.t 11)),.v 4 12]) (x7)))))) (DM))))
def TT:List RV:=[.ld (.ldn 4 (.t 2))]
theorem aD6:aY Tryz.prog true ⟨fun r k=>if r=3/\k=1 then .own [0,1,2,3] else if r=4/\k=2 then .own [0,1,2,3] else if r=5/\k=7 then .own [0,1,2,3] else if r=6/\k=1 then .own [0,1,2,3] else if r=7/\k=1 then .own [0,1,2,3] else .own [],fun r=>[5,7,8,12,10].contains r⟩ Tryz.f55=some (XB,TT):=by kernel_rfl
def CT:PC:=.seq (.gh (.reg [.v 37 0,.q 38 (.nc (.t 37)),.q 39 (.fa 0 (.t 38)),.l 40 (.ld1 (.t 39)),.a 41 (.cl 81 [(.t 40)] [1])])) (.seq (.reg [.q 42 (.fa 1 (.t 5)),.l 43 (.ld1 (.t 42)),.v 4 43]) .ret)
@[go_sem ↓] theorem aBY:cW CT:=cZ _
def D5:PC:=.seq (.seq (.gh (.reg [.v 11 0,.q 12 (.nc (.t 11)),.q 13 (.fa 1 (.t 12)),.l 14 (.ld1 (.t 13)),.v 15 14,⟨some 16,(some (15,false)),.q (.fa 0 (.t 5))⟩,⟨some 17,(some (15,false)),.l (.ld1 (.t 16))⟩,⟨some 18,(some (15,false)),.q (.bin .neq true (.t 17) (.i 1))⟩,.a 19 (.pick (.t 15) (.k (.bool true)) (.t 18)),.v 20 19,⟨some 21,(some (20,false)),.q (.mv (.t 1))⟩,⟨some 22,(some (20,false)),.q (.mv (.t 21))⟩,⟨some 23,(some (22,true)),.q (.fa 1 (.t 5))⟩,⟨some 24,(some (22,true)),.l (.ld1 (.t 23))⟩,⟨some 25,(some (22,true)),.ix (.t 24) (.i 0)⟩,⟨some 26,(some (22,true)),.q (.bin .lss true (.t 25) (.k (.int .u8 65)))⟩,⟨some 27,(some (22,true)),.q (.mv (.t 26))⟩,⟨some 28,(some (27,false)),.q (.fa 1 (.t 5))⟩,⟨some 29,(some (27,false)),.l (.ld1 (.t 28))⟩,⟨some 30,(some (27,false)),.ix (.t 29) (.i 0)⟩,⟨some 31,(some (27,false)),.q (.bin .gtr true (.t 30) (.k (.int .u8 90)))⟩,⟨some 32,(some (22,true)),.pick (.t 27) (.k (.bool true)) (.t 31)⟩,⟨some 33,(some (20,false)),.pick (.t 22) (.t 32) (.k (.bool false))⟩,.a 34 (.pick (.t 20) (.k (.bool true)) (.t 33))])) (.cond (.t 34) (.seq (.reg [.v 35 0,.a 36 (.cl 35 [(.t 35)] [0,1,2,3])]) (.seq (.reg [.q 4 (.mv (.k (.string (mk []))))]) .ret)) .skip)) (CT)
@[go_sem ↓] theorem aCQ:cW D5:=cZ _
def T7:PC:=.seq (.reg [.q 4 (.mv (.k (.string (mk []))))]) (.seq (.reg [.v 6 0,.q 7 (.nc (.t 6)),.q 8 (.fa 0 (.t 7)),.l 9 (.ld1 (.t 8)),.a 10 (.cl 38 [(.t 9)] [1]),.e 5 (.al (.agg #[(.int .i64 0),(.string (mk [])),(.int .i64 0),(.int .i64 0)]) 74),.s (.st 4 (.t 5) (.t 10))]) (D5))
def X1:List RV:=[.mv (.t 4)]
theorem aEA:aY Tryz.prog true ⟨fun r k=>if r=1/\k=4 then .own [1] else if r=3/\k=1 then .own [0,1,2,3] else if r=5/\k=4 then .own [1] else .own [],fun r=>[2,5].contains r⟩ Tryz.f83=some (T7,X1):=by kernel_rfl
def MJ:PC:=.seq (.reg [.q 4 (.mv (.k (.bool false)))]) (.seq (.reg [.v 5 0,.q 6 (.nc (.t 5)),.q 7 (.fa 1 (.t 6)),.l 8 (.ld1 (.t 7)),.q 9 (.not (.t 8)),.v 10 9,⟨some 11,(some (10,true)),.q (.mv (.t 0))⟩,⟨some 12,(some (10,true)),.q (.nc (.t 11))⟩,⟨some 13,(some (10,true)),.q (.fa 0 (.t 12))⟩,⟨some 14,(some (10,true)),.l (.ld1 (.t 13))⟩,⟨some 15,(some (10,true)),.q (.mv (.t 1))⟩,⟨some 16,(some (10,true)),.cl 82 [(.t 14),(.t 15)] [1]⟩,.a 17 (.pick (.t 10) (.t 16) (.k (.bool false))),.v 4 17]) .ret)
def NM:List RV:=[.mv (.t 4)]
theorem aDA:aY Tryz.prog true ⟨fun r k=>if r=1/\k=11 then .own [1] else .own [],fun _=>false⟩ Tryz.f84=some (MJ,NM):=by kernel_rfl
def WX:PC:=.seq (.reg [.q 2 (.mv (.i 0))]) (.seq (.reg [.v 4 0,.a 5 (.cl 37 [(.t 4),(.k (.string (mk [91])))] [0,1,2,3])]) (.seq (.reg [.v 6 0,.a 7 (.cl 36 [(.t 6),(.k (.bool true))] [0,1,2,3]),.v 3 7]) (.seq (.reg [.v 8 0,.a 9 (.cl 37 [(.t 8),(.k (.string (mk [93])))] [0,1,2,3])]) (.seq (.reg [.v 10 3,.v 2 10]) .ret))))
def UR:List RV:=[.mv (.t 2)]
theorem aDM:aY Tryz.prog true ⟨fun r k=>if r=1/\k=1 then .own [0,1,2,3] else if r=2/\k=1 then .own [0,1,2,3] else if r=3/\k=1 then .own [0,1,2,3] else .own [],fun _=>false⟩ Tryz.f97=some (WX,UR):=by kernel_rfl
def sV:PC:=.gh (.reg [.v 28 4,.q 29 (.bin .lss true (.t 28) (.i 64)),.v 30 29,⟨some 31,(some (30,true)),.q (.mv (.t 0))⟩,⟨some 32,(some (30,true)),.q (.mv (.t 4))⟩,⟨some 33,(some (30,true)),.cq 32 [(.t 32)]⟩,⟨some 34,(some (30,true)),.q (.bin .add true (.k (.string (mk [117,105,110,116]))) (.t 33))⟩,⟨some 35,(some (30,true)),.cl 34 [(.t 31),(.t 34)] [0,1,2,3]⟩,.a 36 (.pick (.t 30) (.t 35) (.k (.bool false)))])
@[go_sem ↓] theorem aBA:cW sV:=cZ _
def zF:PC:=.seq (.gh (.reg [.v 40 0,.a 41 (.cl 83 [(.t 40),(.k (.bool true))] [0,1,2,3]),.q 42 (.bd [(.int .i64 0),(.int .i64 0),(.string (mk [])),(.slice none 0 0)] [(0,1,(.i 6)),(2,1,(.t 41))]),.s (.st 4 (.t 2) (.t 42))])) .ret
@[go_sem ↓] theorem aAZ:cW zF:=cZ _
def DZ:PC:=.seq (.seq (.gh (.reg [.e 15 (.bsl 3 1 [(.i 8),(.i 16),(.i 32),(.i 64)]),.q 16 (.lnL (.t 15)),.q 17 (.mv (.i 0))])) (.block 1 (.loop (.seq (.reg [.q 18 (.bin .lss true (.t 17) (.t 16))]) (.seq (.cond (.t 18) .skip (.exit 1)) (.seq (.block 2 (.seq (.reg [.l 19 (.ia 1 (.t 15) (.t 17)),.l 20 (.ld1 (.t 19)),.v 4 20]) (.seq (.seq (.reg [.v 21 0,.v 22 4,.a 23 (.cq 32 [(.t 22)]),.q 24 (.bin .add true (.k (.string (mk [105,110,116]))) (.t 23)),.a 25 (.cl 34 [(.t 21),(.t 24)] [0,1,2,3])]) (.cond (.t 25) (.seq (.reg [.v 26 4,.q 27 (.bd [(.int .i64 0),(.int .i64 0),(.string (mk [])),(.slice none 0 0)] [(0,1,(.i 2)),(1,1,(.t 26))]),.s (.st 4 (.t 2) (.t 27))]) .ret) .skip)) (.seq (sV) (.cond (.t 36) (.seq (.reg [.v 37 4,.q 38 (.bd [(.int .i64 0),(.int .i64 0),(.string (mk [])),(.slice none 0 0)] [(0,1,(.i 3)),(1,1,(.t 37))]),.s (.st 4 (.t 2) (.t 38))]) .ret) .skip))))) (.reg [.q 39 (.bin .add true (.t 17) (.i 1)),.v 17 39]))))))) (zF)
@[go_sem ↓] theorem aDW:cW DZ:=cZ _
def VA:PC:=.seq (.reg [.e 2 (.al (.agg #[(.int .i64 0),(.int .i64 0),(.string (mk [])),(.slice none 0 0)]) 37)]) (.seq (.block 0 (.seq (.reg [.v 6 0,.a 7 (.cl 34 [(.t 6),(.k (.string (mk [98,111,111,108])))] [0,1,2,3]),.v 5 7]) (.cond (.t 5) (.seq (.reg [.q 8 (.bd [(.int .i64 0),(.int .i64 0),(.string (mk [])),(.slice none 0 0)] [(0,1,(.i 1))]),.s (.st 4 (.t 2) (.t 8))]) .ret) (.seq (.reg [.v 10 0,.a 11 (.cl 34 [(.t 10),(.k (.string (mk [116,101,120,116])))] [0,1,2,3]),.v 9 11]) (.cond (.t 9) (.seq (.reg [.v 12 0,.a 13 (.cl 97 [(.t 12)] [0,1,2,3]),.q 14 (.bd [(.int .i64 0),(.int .i64 0),(.string (mk [])),(.slice none 0 0)] [(0,1,(.i 4)),(1,1,(.t 13))]),.s (.st 4 (.t 2) (.t 14))]) .ret) .skip))))) (DZ))
def VM:List RV:=[.ld (.ldn 4 (.t 2))]
theorem aD0:aY Tryz.prog true ⟨fun r k=>if r=1/\k=1 then .own [0,1,2,3] else if r=3/\k=1 then .own [0,1,2,3] else if r=4/\k=1 then .own [0,1,2,3] else if r=8/\k=2 then .q else if r=8/\k=4 then .own [0,1,2,3] else if r=10/\k=5 then .q else if r=10/\k=7 then .own [0,1,2,3] else if r=13/\k=1 then .own [0,1,2,3] else .own [],fun r=>[5,13,10].contains r⟩ Tryz.f98=some (VA,VM):=by kernel_rfl
end Go.Proofs.YtgogpogophflhaaGreatDoor
namespace Go.Proofs
open Go.Shelf
def Tryz.laysM171_ren:Go.Shelf.Ren:=⟨fun | 171=>32 | 243=>79 | 246=>115 | 283=>127 | 284=>128 | 285=>129 | 286=>130 | 129=>135 | 317=>134 | 318=>136 | 319=>137 | 320=>138 | 337=>150 | 338=>151 | n=>n,fun | 3=>3 | 9=>9 | 2=>2 | 4=>4 | 171=>161 | 0=>0 | 53=>127 | 37=>44 | 5=>5 | 173=>164 | 212=>170 | 51=>171 | 20=>20 | 213=>172 | 46=>168 | 232=>189 | 233=>190 | n=>n,fun | 17=>0 | 18=>2 | 19=>3 | n=>n⟩
theorem Tryz.lays171:Go.Proofs.Lays.n171 Tryz.prog Tryz.laysM171_ren:={
 mixed:=by kernel_rfl
 f129:=Tryz.func135.trans (congrArg some (by kernel_rfl))
 f171:=Tryz.func32.trans (congrArg some (by kernel_rfl))
 f243:=Tryz.func79.trans (congrArg some (by kernel_rfl))
 f246:=Tryz.func115.trans (congrArg some (by kernel_rfl))
 f283:=Tryz.func127.trans (congrArg some (by kernel_rfl))
 f284:=Tryz.func128.trans (congrArg some (by kernel_rfl))
 f285:=Tryz.func129.trans (congrArg some (by kernel_rfl))
 f286:=Tryz.func130.trans (congrArg some (by kernel_rfl))
 f317:=Tryz.func134.trans (congrArg some (by kernel_rfl))
 f318:=Tryz.func136.trans (congrArg some (by kernel_rfl))
 f319:=Tryz.func137.trans (congrArg some (by kernel_rfl))
 f320:=Tryz.func138.trans (congrArg some (by kernel_rfl))
 f337:=Tryz.func150.trans (congrArg some (by kernel_rfl))
 f338:=Tryz.func151.trans (congrArg some (by kernel_rfl))
 t0:=Tryz.underlying0
 a0:=Tryz.isAgg0
 z0:=Tryz.sizeOf0
 v0:=Tryz.zeroValue0
 t2:=Tryz.underlying2
 a2:=Tryz.isAgg2
 z2:=Tryz.sizeOf2
 v2:=Tryz.zeroValue2
 t3:=Tryz.underlying3
 a3:=Tryz.isAgg3
 z3:=Tryz.sizeOf3
 v3:=Tryz.zeroValue3
 t4:=Tryz.underlying4
 a4:=Tryz.isAgg4
 z4:=Tryz.sizeOf4
 v4:=Tryz.zeroValue4
 t5:=Tryz.underlying5
 a5:=Tryz.isAgg5
 z5:=Tryz.sizeOf5
 v5:=Tryz.zeroValue5
 t9:=Tryz.underlying9
 a9:=Tryz.isAgg9
 z9:=Tryz.sizeOf9
 v9:=Tryz.zeroValue9
 t20:=Tryz.underlying20
 a20:=Tryz.isAgg20
 z20:=Tryz.sizeOf20
 v20:=Tryz.zeroValue20
 t37:=Tryz.underlying44
 a37:=Tryz.isAgg44
 z37:=Tryz.sizeOf44
 v37:=Tryz.zeroValue44
 t46:=Tryz.underlying168
 a46:=Tryz.isAgg168
 z46:=Tryz.sizeOf168
 v46:=Tryz.zeroValue168
 t51:=Tryz.underlying171
 a51:=Tryz.isAgg171
 z51:=Tryz.sizeOf171
 v51:=Tryz.zeroValue171
 t53:=Tryz.underlying127
 a53:=Tryz.isAgg127
 z53:=Tryz.sizeOf127
 v53:=Tryz.zeroValue127
 t171:=Tryz.underlying161
 a171:=Tryz.isAgg161
 z171:=Tryz.sizeOf161
 v171:=Tryz.zeroValue161
 t173:=Tryz.underlying164
 a173:=Tryz.isAgg164
 z173:=Tryz.sizeOf164
 v173:=Tryz.zeroValue164
 t212:=Tryz.underlying170
 a212:=Tryz.isAgg170
 z212:=Tryz.sizeOf170
 v212:=Tryz.zeroValue170
 t213:=Tryz.underlying172
 a213:=Tryz.isAgg172
 z213:=Tryz.sizeOf172
 t232:=Tryz.underlying189
 a232:=Tryz.isAgg189
 z232:=Tryz.sizeOf189
 v232:=Tryz.zeroValue189
 t233:=Tryz.underlying190
 a233:=Tryz.isAgg190
 z233:=Tryz.sizeOf190
 v233:=Tryz.zeroValue190
 g17:=by kernel_rfl
 g18:=by kernel_rfl
 g19:=by kernel_rfl }
theorem Tryz.laysM171:Go.Proofs.LaysM.n171 Tryz.prog Tryz.laysM171_ren:={ Tryz.lays171 with
 i0:=by kernel_rfl
 i2:=by kernel_rfl
 i3:=by kernel_rfl
 i4:=by kernel_rfl
 i5:=by kernel_rfl
 i9:=by kernel_rfl
 i20:=by kernel_rfl
 i37:=by kernel_rfl
 i46:=by kernel_rfl
 i51:=by kernel_rfl
 i53:=by kernel_rfl
 i171:=by kernel_rfl
 i173:=by kernel_rfl
 i212:=by kernel_rfl
 i232:=by kernel_rfl
 i233:=by kernel_rfl
 m17:=by kernel_rfl
 m18:=by kernel_rfl
 m19:=by kernel_rfl }
open Go.RowKit Go.Sort Go.Lib in
theorem Tryz.strconv_Itoa (n:Int) (h0:-9223372036854775808<=n) (h1:n<=9223372036854775807) (w:World) (htab:Lib.TabIs Tryz.prog w "internal/strconv.uint64pow10" .u64 Lib.pow10Tab) :
 Calls Tryz.prog 32 #[.int .i64 n] w fun e w'=>e=.returned (.string ⟨(Lib.itoa n).toArray⟩)/\∃ k os,w'=grow (w.drewN k) os:=Any.strconv_Itoa Tryz.laysM171 n h0 h1 w htab
end Go.Proofs
namespace Go.Proofs.YtgogpogophflhaaGreatDoor
open Go.W
theorem jZ {x:List UInt8} (h:bR x=true):x.length<=16:=by
 rcases bG 16 x.length with h1 | h1
 · rw [rY h1] at h; cases h
 · exact h1
theorem rZ:∀ (m:Nat) (r:List UInt8) (i:Nat) (out:List UInt8) (z:Nat) (o:List UInt8),r.length<=m->out.all qX=true->quoL i r out=(z,some o)->o.all qX=true
 | _,[],i,out,z,o,_,_,h=>by rw [p8] at h; cases h
 | 0,c :: r,i,out,z,o,hm,_,_=>by simp at hm
 | m + 1,c :: r,i,out,z,o,hm,ho,h=>by
  rw [gS] at h
  have app:∀ d:UInt8,qX d=true->(out ++ [d]).all qX=true:=fun d hd=>by rw [List.all_append,ho]; simp [hd]
  cases c1:decide (c < 32) || decide (126 < c) with
  | true=>rw [c1] at h; cases h
  | false=>
  rw [c1,aG] at h
  have hp:qX c=true:=by
   unfold qX
   simp only [Bool.or_eq_false_iff,decide_eq_false_iff_not,UInt8.not_lt] at c1
   simp [c1.1,c1.2]
  cases c2:c == 34 with
  | true=>
   rw [c2] at h
   simp only [aM,Prod.mk.injEq,aF] at h
   rw [<-h.2]; exact ho
  | false=>
  rw [c2,aG] at h
  cases c3:c == 92 with
  | false=>
   rw [c3,aG] at h
   exact rZ m r _ _ z o (by simp at hm; omega) (app c hp) h
  | true=>
   rw [c3,aM] at h
   cases r with
   | nil=>cases h
   | cons d r=>
    simp only at h
    cases c4:d == 34 || d == 92 with
    | false=>rw [c4] at h; cases h
    | true=>
     rw [c4,aM] at h
     refine rZ m r _ _ z o (by simp at hm; omega) (app d ?_) h
     rw [Bool.or_eq_true] at c4
     rcases c4 with e | e<;>rw [eq_of_beq e]<;>decide
structure Gtk (k:Int) (x:List UInt8) (n:Int):Prop where
 e:k=0->x=[]/\n=0
 o:k ≠ 0->G4 k x n=true
 i:cD n
theorem LS {l:List UInt8} {p:Nat} {k n:Int} {x:List UInt8} {z:Nat} (h:eT l p=.ok k x n z):Gtk k x n:=by
 have z0:cD 0:=⟨by decide,by decide⟩
 unfold eT at h
 split at h
 · simp only [R.ok.injEq] at h
   obtain ⟨rfl,rfl,rfl,_⟩:=h
   exact ⟨fun _=>⟨rfl,rfl⟩,fun h=>absurd rfl h,z0⟩
 · rename_i c hc
   cases c1:bQ c.toNat with
   | true=>
    rw [c1,aM] at h
    unfold jS at h
    simp only at h
    cases d1:decide (16 < b8 aW l p - p) with
    | true=>rw [d1] at h; cases h
    | false=>
     rw [d1,aG] at h
     cases d2:l[b8 aW l p]? == some 45 with
     | true=>rw [d2] at h; cases h
     | false=>
      rw [d2,aG] at h
      simp only [R.ok.injEq] at h
      obtain ⟨rfl,rfl,rfl,rfl⟩:=h
      refine ⟨fun h=>absurd h (by decide),fun _=>?_,z0⟩
      have hx:bR ((l.take (b8 aW l p)).drop p)=true:=by
       have hlt:=(a8.1 hc).1
       have hw:aW c=true:=by
        have:=cU (p:=fun c=>!bQ c.toNat || aW c) (by decide +kernel) c
        rw [c1] at this; exact this
       have hg:p + 1<=b8 aW l p:=by rw [<-lV hc hw]; exact zO
       refine (D9 _).2 ⟨c,?_,?_,c1,fun d hd=>vF d hd⟩
       · rw [List.getElem?_drop,Nat.add_zero,List.getElem?_take_of_lt (by omega),hc]
       · have:=of_decide_eq_false d1
         simp only [List.length_drop,List.length_take]; omega
      show ((0:Int) == 0 && bR _)=true
      rw [hx]; rfl
   | false=>
   rw [c1,aG] at h
   cases c2:bV c || c == 45 with
   | true=>
    rw [c2,aM] at h
    unfold kN at h
    simp only at h
    have hd:∀ d ∈ (l.take (b8 bV l (bif l[p]? == some 45 then p + 1 else p))).drop (bif l[p]? == some 45 then p + 1 else p),bV d=true:=fun d hd=>vF d hd
    generalize (l.take (b8 bV l (bif l[p]? == some 45 then p + 1 else p))).drop (bif l[p]? == some 45 then p + 1 else p)=s at *
    generalize (l[p]? == some 45)=neg at *
    cases d1:s == [] || (s[0]? == some 48 && (decide (1 < s.length) || neg)) with
    | true=>rw [d1] at h; cases h
    | false=>
    rw [d1,aG] at h
    cases hv:valL (dY neg) 0 s with
    | none=>rw [hv] at h; cases h
    | some m=>
    rw [hv] at h
    simp only at h
    have hm:=G2 (lim:=dY neg) (by cases neg<;>decide) (Nat.zero_le _) hd hv
    cases d2:pO l (b8 bV l (bif neg then p + 1 else p)) with
    | true=>rw [d2] at h; cases h
    | false=>
     rw [d2,aG] at h
     simp only [R.ok.injEq] at h
     obtain ⟨rfl,rfl,rfl,rfl⟩:=h
     refine ⟨fun h=>absurd h (by decide),fun _=>rfl,?_⟩
     cases neg with
     | true=>have hm:m<=9223372036854775808:=hm; show cD (-(m:Int)); unfold cD; omega
     | false=>have hm:m<=9223372036854775807:=hm; show cD (m:Int); unfold cD; omega
   | false=>
   rw [c2,aG] at h
   cases c3:c == 34 with
   | true=>
    rw [c3,aM] at h
    unfold jE at h
    split at h
    · cases h
    · rename_i z' o ho
      cases d1:decide (200 < o.length) with
      | true=>rw [d1] at h; cases h
      | false=>
       rw [d1,aG] at h
       simp only [R.ok.injEq] at h
       obtain ⟨rfl,rfl,rfl,rfl⟩:=h
       refine ⟨fun h=>absurd h (by decide),fun _=>?_,z0⟩
       have h1:=rZ _ _ _ [] _ _ (Nat.le_refl _) rfl ho
       have h2:decide (o.length<=200)=true:=by have:=of_decide_eq_false d1; simp; omega
       show ((0:Int) == 0 && (decide (o.length<=200) && o.all qX))=true
       rw [h1,h2]; rfl
   | false=>
   rw [c3,aG] at h
   cases c4:eS c.toNat with
   | false=>rw [c4] at h; cases h
   | true=>
    rw [c4,aM] at h
    simp only [R.ok.injEq] at h
    obtain ⟨rfl,rfl,rfl,rfl⟩:=h
    refine ⟨fun h=>absurd h (by decide),fun _=>?_,z0⟩
    show ((0:Int) == 0 && eS c.toNat)=true
    rw [c4]; rfl
theorem xX {l:List UInt8}:∀ (f a:Nat) (ts:List Tk),fI f l a=.ok ts->∀ t ∈ ts,Gtk t.k t.x t.n
 | 0,a,ts,h=>by cases h; intro t ht; cases ht
 | f + 1,a,ts,h=>by
  rw [fI] at h
  split at h
  · cases h
  · rename_i k x n z hR
    have hg:=LS hR
    cases hk:k == 0 with
    | true=>
     rw [hk] at h
     simp only [aM,SR.ok.injEq] at h
     subst h
     intro t ht
     rw [List.mem_singleton.1 ht]; exact hg
    | false=>
     rw [hk] at h
     cases hr:fI f l z with
     | bad e t=>rw [hr] at h; cases h
     | ok us=>
      rw [hr] at h
      simp only [aG,SR.cons,SR.ok.injEq] at h
      subst h
      intro t ht
      rcases List.mem_cons.1 ht with rfl | ht
      · exact hg
      · exact xX f z us hr t ht
theorem IV (l:List UInt8):∀ t ∈ (bH l).toks,Gtk t.k t.x t.n:=by
 unfold bH
 cases h:decide (4000 < l.length) with
 | true=>intro t ht; cases ht
 | false=>
  rw [aG]
  cases hr:fI (l.length + 1) l 0 with
  | bad e t=>intro t ht; cases ht
  | ok ts=>exact xX _ _ _ hr
theorem Q9 {k:Int} {x:List UInt8} {n:Int} (h:G4 k x n=true):x.length<=200:=by
 unfold G4 at h
 cases c1:k == 1 with
 | true=>rw [c1,aM,Bool.and_eq_true] at h; have:=jZ h.2; omega
 | false=>
 rw [c1,aG] at h
 cases c2:k == 2 with
 | true=>rw [c2,aM] at h; rw [eq_of_beq h]; exact Nat.zero_le _
 | false=>
 rw [c2,aG] at h
 cases c3:k == 3 with
 | true=>rw [c3,aM,Bool.and_eq_true,Bool.and_eq_true] at h; exact of_decide_eq_true h.2.1
 | false=>
 rw [c3,aG] at h
 cases c4:k == 4 with
 | false=>rw [c4] at h; cases h
 | true=>
  rw [c4,aM,Bool.and_eq_true] at h
  match x,h with
  | [],_=>exact Nat.zero_le _
  | [_],_=>exact (by decide:1<=200)
  | _ :: _ :: _,h=>exact absurd h.2 (by simp)
theorem Gtk.len {k:Int} {x:List UInt8} {n:Int} (h:Gtk k x n):x.length<=200:=by
 by_cases hk:k=0
 · rw [(h.e hk).1]; exact Nat.zero_le _
 · exact Q9 (h.o hk)
theorem K3 {l:List UInt8} {ts:List Tk} (h:rM l 0 ts) (hl:l.length<=4000):Ends ts:=
 ⟨HG h,by have:=DS h; omega,fun i t ht=>(G1 h ht).2.2.2.1⟩
theorem LW {l:List UInt8}:∀ {a:Nat} {ts:List Tk},rM l a ts->∀ t ∈ ts,t.a<=l.length
 | _,[],_=>fun t ht=>by cases ht
 | _,t :: ts,⟨_,h2,z,_,h4,h5⟩=>fun u hu=>by
  rcases List.mem_cons.1 hu with rfl | hu
  · exact h2
  · by_cases h0:t.k=0
    · rw [h4 h0] at hu; cases hu
    · exact LW (h5 h0) u hu
structure Tks (ts:List Tk):Prop where
 e:Ends ts
 g:∀ t ∈ ts,Gtk t.k t.x t.n
 a:∀ t ∈ ts,t.a<=4000
theorem KU {l:List UInt8} (h:(bH l).err=0):Tks (bH l).toks:=by
 rcases IC l with ⟨h1,_⟩ | ⟨_,_,h3,h4⟩
 · exact absurd h h1
 · exact ⟨K3 h4 h3,IV l,fun t ht=>by have:=LW h4 t ht; omega⟩
theorem zY:∀ n:Nat,Lib.decDigits n=digs n:=fun n=>by
 induction n using Nat.strongRecOn with
 | _ n ih=>
  rw [Lib.decDigits,digs]
  by_cases h:n < 10
  · have e:n % 10=n:=Nat.mod_eq_of_lt h
    simp [h,e,Nat.toUInt8]
  · rw [dif_neg h,dif_neg h,ih (n / 10) (by omega)]
theorem KL (n:Int):Lib.itoa n=bM n:=by
 unfold Lib.itoa bM
 by_cases h:n < 0
 · rw [if_pos h,decide_eq_true h,zY]; rfl
 · rw [if_neg h,decide_eq_false h,zY,show n.toNat=n.natAbs by omega]; rfl
def B4:List S->Prop:=fun av=>match av with
 | [.va (.c1 (.vl (.int .i64 n)))]=>-9223372036854775808<=n/\n<=9223372036854775807
 | _=>False
theorem x8 {av:List S} (h:B4 av):∃ n:Int,av=[iS .i64 n]/\-9223372036854775808<=n/\n<=9223372036854775807:=by
 unfold B4 at h
 split at h
 · exact ⟨_,rfl,h⟩
 · exact h.elim
def OI:List S->A:=fun av=>match av with
 | [.va (.c1 (.vl (.int .i64 n)))]=>tA (mk (bM n))
 | _=>.gs []
def itFn:Fun:=⟨B4,OI,fun av h=>by obtain ⟨_,rfl,_⟩:=x8 h; trivial⟩
attribute [go_sem ↓] B4 OI itFn
theorem X4 {ro:RO} {w:World} (h:GR Tryz.prog ro w):Lib.TabIs Tryz.prog w "internal/strconv.uint64pow10" .u64 Lib.pow10Tab:=by
 have:=(h _ (List.mem_singleton.2 rfl) _ Tryz.laysM171.m17).2
 unfold Lib.TabIs
 rw [this,Lib.pow10Tab,List.map_map]
 rfl
theorem BQ:Meets Tryz.prog 32 itFn.sp:=by
 refine ⟨by kernel_rfl,?_⟩
 rintro xs vs E ro w K hl hrel hr ⟨⟨h,hE⟩,hK⟩ hG
 obtain ⟨n,rfl,h0,h1⟩:=x8 h
 obtain ⟨v0,rfl⟩:∃ v0,vs=[v0]:=by
  match vs,hl with
  | [v0],_=>exact ⟨v0,rfl⟩
 have e0:v0=.int .i64 n:=hrel 0 _ _ rfl rfl
 subst e0
 refine (Tryz.strconv_Itoa n h0 h1 w (X4 hG)).mono ?_
 rintro e w' ⟨rfl,k,os,rfl⟩
 refine ⟨tS (mk (bM n)),_,E,ro,rfl,by rw [KL]; rfl,by rw [hE]; exact hK,?_⟩
 have hk:∀ j,j < w.heap.size->(Sort.grow (w.drewN k) os).heap[j]? = w.heap[j]?:=fun j hj=>by
  simp [Sort.grow,World.drewN,Array.getElem?_append_left hj]
 exact hr.grown hk (by simp [Sort.grow,World.drewN]) rfl rfl rfl
structure Fs where
 bad:Bool
 off:Int
 n:Nat
structure Po where
 ver:Int
 es:List (List C)
 ss:List (List C)
instance:Inhabited Tk:=⟨⟨0,[],0,0⟩⟩
def bB (ts:List Tk) (n:Nat):Tk:=ts.getD n default
abbrev pB (o:Po) (b:Bool) (a:Int):B:=.cells [.pt 1 0,.vl (.bool b),.vl (.int .i64 a),.vl (.int .i64 o.ver),.sl 2 o.es.length,.sl 3 o.ss.length] 70
abbrev pH (o:Po) (ts:List Tk) (z:Fs):Hp:=[pB o z.bad z.off,fQ 123 ts z.n,.row o.es 62 3,.row o.ss 56 2]
def fG (ts:List Tk) (z:Fs):Fs:=bif z.bad then z else ⟨true,(bB ts z.n).a,z.n⟩
def aX (k:Int) (w:List UInt8) (ts:List Tk) (z:Fs):Bool:=!z.bad && gH k w (bB ts z.n)
def bK (k:Int) (w:List UInt8) (ts:List Tk) (z:Fs):Fs:=bif aX k w ts z then ⟨false,z.off,cP ts z.n⟩ else z
def cA (w:List UInt8) (ts:List Tk) (z:Fs):Fs:=bif aX 4 w ts z then ⟨false,z.off,cP ts z.n⟩ else fG ts z
def iL (c:Bool) (ts:List Tk) (z:Fs):Bool:=!z.bad && ((bB ts z.n).k == 1 && (!c || (match (bB ts z.n).x with | b :: _=>decide (65<=b) && decide (b<=90) | []=>false)))
def dM (c:Bool) (ts:List Tk) (z:Fs):ByteArray:=bif iL c ts z then mk (bB ts z.n).x else mk []
def cO (c:Bool) (ts:List Tk) (z:Fs):Fs:=bif iL c ts z then ⟨false,z.off,cP ts z.n⟩ else fG ts z
def mA (c:Bool) (ts:List Tk) (z:Fs):Bool:=!z.bad && ((bB ts z.n).k == 2 && (!c || decide (0<=(bB ts z.n).n)))
def jM (c:Bool) (ts:List Tk) (z:Fs):Int:=bif mA c ts z then (bB ts z.n).n else 0
def jK (c:Bool) (ts:List Tk) (z:Fs):Fs:=bif mA c ts z then ⟨false,z.off,cP ts z.n⟩ else fG ts z
def kR (ts:List Tk) (z:Fs):Int:=jM true ts (cA [91] ts z)
def kL (ts:List Tk) (z:Fs):Fs:=cA [93] ts (jK true ts (cA [91] ts z))
theorem lB {ts:List Tk} {n:Nat} (h:n < ts.length):ts[n]? = some (bB ts n):=by simp [bB,List.getD_eq_getElem?_getD,aV h]
theorem vB {ts:List Tk} {n:Nat} (h:n < ts.length):bB ts n ∈ ts:=bT (lB h)
theorem mW {T:TypeId} {ts:List Tk} {n:Nat} {K:S->Hp->Prop} (he:Ends ts) (h:n < ts.length) (hK:K (.va (.gs (kU (bB ts n)))) [fQ T ts n]):fU T [.va (.c1 (.pt 0 0))] [fQ T ts n] K:=
 ⟨rfl,ts,n,rfl,rfl,he,h,fun t ht=>by rw [lB h] at ht; cases ht; exact hK⟩
theorem EV {T:TypeId} {ts:List Tk} {n:Nat} {K:S->Hp->Prop} (he:Ends ts) (h:n < ts.length) (hK:K (.va (.gs (kU (bB ts n)))) [fQ T ts (cP ts n)]):iB T [.va (.c1 (.pt 0 0))] [fQ T ts n] K:=
 ⟨rfl,ts,n,rfl,rfl,he,h,fun t ht=>by rw [lB h] at ht; cases ht; exact hK⟩
theorem sF {k:Int} {T:TypeId} {w:ByteArray} {ts:List Tk} {n:Nat} {K:S->Hp->Prop} (he:Ends ts) (h:n < ts.length) (hK:K (bS (gH k (bl w) (bB ts n))) [fQ T ts (qZ k (bl w) ts n (bB ts n))]):fC k T [.va (.c1 (.pt 0 0)),tS w] [fQ T ts n] K:=
 ⟨rfl,ts,n,rfl,rfl,he,h,fun t ht=>by rw [lB h] at ht; cases ht; exact hK⟩
theorem yK (k:Int) (w:List UInt8) (ts:List Tk) (n:Nat) (t:Tk):qZ k w ts n t=bif gH k w t then cP ts n else n:=rfl
attribute [-go_sem] fU iB fC j0 gA
end Go.Proofs.YtgogpogophflhaaGreatDoor
namespace Go.Proofs.YtgogpogophflhaaGreatDoor
open Go.W
attribute [-go_sem] fU iB fC j0 gA
def nC (av0:List S) (V:List Tk->Fs->S) (F:List Tk->Fs->Fs):List S->Hp->(S->Hp->Prop)->Prop:=fun av H K=>
 ∃ o ts z,av=.va (.c1 (.pt 0 0)) :: av0/\H=pH o ts z/\Tks ts/\z.n < ts.length/\K (V ts z) (pH o ts (F ts z))
theorem jJ {av0:List S} {V:List Tk->Fs->S} {F:List Tk->Fs->Fs} {o:Po} {ts:List Tk} {z:Fs} {K:S->Hp->Prop} (h1:Tks ts) (h2:z.n < ts.length) (hK:K (V ts z) (pH o ts (F ts z))) :
 nC av0 V F (.va (.c1 (.pt 0 0)) :: av0) (pH o ts z) K:=⟨o,ts,z,rfl,rfl,h1,h2,hK⟩
def OC:List Tk->Fs->S:=fun _ _=>.tu []
def pF:W.Spec:=nC [] OC fG
def sS:W.Spec:=fun av H K=>∃ w,nC [tS w] (fun ts z=>bS (aX 1 (bl w) ts z)) (bK 1 (bl w)) av H K
def wM:W.Spec:=fun av H K=>∃ w,nC [tS w] (fun ts z=>bS (aX 4 (bl w) ts z)) (bK 4 (bl w)) av H K
def mS:W.Spec:=fun av H K=>∃ w,nC [tS w] OC (cA (bl w)) av H K
def tB:W.Spec:=fun av H K=>∃ c,nC [bS c] (fun ts z=>tS (dM c ts z)) (cO c) av H K
def m9:W.Spec:=fun av H K=>∃ c,nC [bS c] (fun ts z=>iS .i64 (jM c ts z)) (jK c) av H K
def JT:W.Spec:=nC [] (fun ts z=>iS .i64 (kR ts z)) kL
section
variable {o:Po} {ts:List Tk} {z:Fs} {K:S->Hp->Prop}
theorem jW (h1:Tks ts) (h2:z.n < ts.length) (hK:K (.tu []) (pH o ts (fG ts z))):pF [.va (.c1 (.pt 0 0))] (pH o ts z) K:=jJ h1 h2 hK
theorem hY {w:ByteArray} (h1:Tks ts) (h2:z.n < ts.length) (hK:K (bS (aX 1 (bl w) ts z)) (pH o ts (bK 1 (bl w) ts z))):sS [.va (.c1 (.pt 0 0)),tS w] (pH o ts z) K:=⟨w,jJ (F:=bK 1 (bl w)) h1 h2 hK⟩
theorem yL {w:ByteArray} (h1:Tks ts) (h2:z.n < ts.length) (hK:K (bS (aX 4 (bl w) ts z)) (pH o ts (bK 4 (bl w) ts z))):wM [.va (.c1 (.pt 0 0)),tS w] (pH o ts z) K:=⟨w,jJ (F:=bK 4 (bl w)) h1 h2 hK⟩
theorem gX {w:ByteArray} (h1:Tks ts) (h2:z.n < ts.length) (hK:K (.tu []) (pH o ts (cA (bl w) ts z))):mS [.va (.c1 (.pt 0 0)),tS w] (pH o ts z) K:=⟨w,jJ (F:=cA (bl w)) h1 h2 hK⟩
theorem m4 {c:Bool} (h1:Tks ts) (h2:z.n < ts.length) (hK:K (tS (dM c ts z)) (pH o ts (cO c ts z))):tB [.va (.c1 (.pt 0 0)),bS c] (pH o ts z) K:=⟨c,jJ (F:=cO c) h1 h2 hK⟩
theorem tR {c:Bool} (h1:Tks ts) (h2:z.n < ts.length) (hK:K (iS .i64 (jM c ts z)) (pH o ts (jK c ts z))):m9 [.va (.c1 (.pt 0 0)),bS c] (pH o ts z) K:=⟨c,jJ (F:=jK c) h1 h2 hK⟩
theorem GM (h1:Tks ts) (h2:z.n < ts.length) (hK:K (iS .i64 (kR ts z)) (pH o ts (kL ts z))):JT [.va (.c1 (.pt 0 0))] (pH o ts z) K:=jJ h1 h2 hK
end
theorem nJ {ts:List Tk} {n:Nat} (h:n < ts.length):n<=cP ts n/\cP ts n < ts.length:=by
 unfold cP; split<;>omega
theorem j8 (ts:List Tk) (z:Fs):(fG ts z).n=z.n:=by unfold fG; cases z.bad<;>rfl
theorem dC {w:List UInt8} {ts:List Tk} {z:Fs} (h:z.n < ts.length):z.n<=(cA w ts z).n/\(cA w ts z).n < ts.length:=by
 unfold cA
 cases aX 4 w ts z
 · rw [aG,j8]; exact ⟨Nat.le_refl _,h⟩
 · exact nJ h
theorem fW {k:Int} {w:List UInt8} {ts:List Tk} {z:Fs} (h:z.n < ts.length):z.n<=(bK k w ts z).n/\(bK k w ts z).n < ts.length:=by
 unfold bK
 cases aX k w ts z
 · exact ⟨Nat.le_refl _,h⟩
 · exact nJ h
theorem fM {c:Bool} {ts:List Tk} {z:Fs} (h:z.n < ts.length):z.n<=(cO c ts z).n/\(cO c ts z).n < ts.length:=by
 unfold cO
 cases iL c ts z
 · rw [aG,j8]; exact ⟨Nat.le_refl _,h⟩
 · exact nJ h
theorem n5 {c:Bool} {ts:List Tk} {z:Fs} (h:z.n < ts.length):z.n<=(jK c ts z).n/\(jK c ts z).n < ts.length:=by
 unfold jK
 cases mA c ts z
 · rw [aG,j8]; exact ⟨Nat.le_refl _,h⟩
 · exact nJ h
theorem xA {ts:List Tk} {z:Fs} (h:z.n < ts.length):z.n<=(kL ts z).n/\(kL ts z).n < ts.length:=by
 unfold kL
 have h1:=dC (w:=[91]) h
 have h2:=n5 (c:=true) h1.2
 have h3:=dC (w:=[93]) h2.2
 omega
theorem oX:Meets Tryz.prog 35 pF:=by
 refine aI Tryz.func35 aBW 1 (by rw [Tryz.ntmps35]; decide) (aD qG (aC _)) (fun av H K h=>by obtain ⟨_,_,_,rfl,_⟩:=h; rfl) ?_
 rintro av H K ⟨o,ts,⟨b,a,n⟩,rfl,rfl,ht,hn,hK⟩
 unfold fG OC at hK
 cases b with
 | true=>
  simp (maxSteps:=9^6) -dsimp only [go_sem,NU,L8]
  exact .done hK
 | false=>
  simp (maxSteps:=9^6) -dsimp only [go_sem,NU,L8]
  refine mW ht.e hn ?_
  simp (maxSteps:=9^6) -dsimp only [go_sem]
  exact .done hK
theorem EY:Meets Tryz.prog 34 sS:=by
 refine aI Tryz.func34 aCF 2 (by rw [Tryz.ntmps34]; decide) (aD XQ (aC _)) (fun av H K h=>by obtain ⟨_,_,_,_,rfl,_⟩:=h; rfl) ?_
 rintro av H K ⟨w,o,ts,⟨b,a,n⟩,rfl,rfl,ht,hn,hK⟩
 unfold bK aX at hK
 cases b with
 | true=>
  simp (maxSteps:=9^6) -dsimp only [go_sem,MV,MS]
  exact .done hK
 | false=>
  simp (maxSteps:=9^6) -dsimp only [go_sem,MV,MS]
  refine sF ht.e hn ?_
  rw [yK]
  have hK:K (bS (!false && gH 1 (bl w) (bB ts n))) (pH o ts (bif !false && gH 1 (bl w) (bB ts n) then ⟨false,a,cP ts n⟩ else ⟨false,a,n⟩)):=hK
  cases hh:gH 1 (bl w) (bB ts n)<;>rw [hh] at hK<;>(simp (maxSteps:=9^6) -dsimp only [go_sem]; exact .done hK)
theorem O6:Meets Tryz.prog 84 wM:=by
 refine aI Tryz.func84 aDA 2 (by rw [Tryz.ntmps84]; decide) (aD JR (aC _)) (fun av H K h=>by obtain ⟨_,_,_,_,rfl,_⟩:=h; rfl) ?_
 rintro av H K ⟨w,o,ts,⟨b,a,n⟩,rfl,rfl,ht,hn,hK⟩
 unfold bK aX at hK
 cases b with
 | true=>
  simp (maxSteps:=9^6) -dsimp only [go_sem,MJ,NM]
  exact .done hK
 | false=>
  simp (maxSteps:=9^6) -dsimp only [go_sem,MJ,NM]
  refine sF ht.e hn ?_
  rw [yK]
  have hK:K (bS (!false && gH 4 (bl w) (bB ts n))) (pH o ts (bif !false && gH 4 (bl w) (bB ts n) then ⟨false,a,cP ts n⟩ else ⟨false,a,n⟩)):=hK
  cases hh:gH 4 (bl w) (bB ts n)<;>rw [hh] at hK<;>(simp (maxSteps:=9^6) -dsimp only [go_sem]; exact .done hK)
theorem v6:Meets Tryz.prog 37 mS:=by
 refine aI Tryz.func37 aDD 2 (by rw [Tryz.ntmps37]; decide) (aD JR (aD oX (aC _))) (fun av H K h=>by obtain ⟨_,_,_,_,rfl,_⟩:=h; rfl) ?_
 rintro av H K ⟨w,o,ts,⟨b,a,n⟩,rfl,rfl,ht,hn,hK⟩
 unfold cA aX OC at hK
 cases b with
 | true=>
  simp (maxSteps:=9^6) -dsimp only [go_sem,L6,NQ]
  exact .done hK
 | false=>
  simp (maxSteps:=9^6) -dsimp only [go_sem,L6,NQ]
  refine sF ht.e hn ?_
  rw [yK]
  cases hh:gH 4 (bl w) (bB ts n) with
  | true=>
   rw [hh] at hK
   simp (maxSteps:=9^6) -dsimp only [go_sem]
   exact .done hK
  | false=>
   rw [hh] at hK
   simp (maxSteps:=9^6) -dsimp only [go_sem]
   refine jW (z:=⟨false,a,n⟩) ht hn ?_
   simp (maxSteps:=9^6) -dsimp only [go_sem]
   exact .done hK
theorem YH {c b:Bool} {ts:List Tk} {a:Int} {n:Nat} (h:(b || (bB ts n).k != 2 || c && decide ((bB ts n).n < 0))=true):mA c ts ⟨b,a,n⟩=false:=by
 unfold mA
 simp only
 cases b
 · cases hk:(bB ts n).k == 2
   · rfl
   · rw [bne,hk] at h
     cases c
     · cases h
     · have:(bB ts n).n < 0:=by simpa using h
       simp; omega
 · rfl
theorem WV {c b:Bool} {ts:List Tk} {a:Int} {n:Nat} (h:(b || (bB ts n).k != 2 || c && decide ((bB ts n).n < 0))=false):mA c ts ⟨b,a,n⟩=true/\b=false:=by
 unfold mA
 simp only
 cases b
 · cases hk:(bB ts n).k == 2
   · rw [bne,hk] at h; cases h
   · rw [bne,hk] at h
     cases c
     · exact ⟨rfl,rfl⟩
     · have:¬ (bB ts n).n < 0:=by simpa using h
       refine ⟨?_,rfl⟩
       simp; omega
 · cases h
theorem xK:Meets Tryz.prog 36 m9:=by
 refine aI Tryz.func36 aB3 2 (by rw [Tryz.ntmps36]; decide) (aD qG (aD HU (aD oX (aC _)))) (fun av H K h=>by obtain ⟨_,_,_,_,rfl,_⟩:=h; rfl) ?_
 rintro av H K ⟨c,o,ts,⟨b,a,n⟩,rfl,rfl,ht,hn,hK⟩
 have hK:K (iS .i64 (jM c ts ⟨b,a,n⟩)) (pH o ts (jK c ts ⟨b,a,n⟩)):=hK
 have bad:mA c ts ⟨b,a,n⟩=false->K (iS .i64 0) (pH o ts (fG ts ⟨b,a,n⟩)):=fun h=>by
  unfold jM jK at hK; rw [h] at hK; exact hK
 have good:mA c ts ⟨b,a,n⟩=true->K (iS .i64 (bB ts n).n) (pH o ts ⟨false,a,cP ts n⟩):=fun h=>by
  unfold jM jK at hK; rw [h] at hK; exact hK
 clear hK
 simp (maxSteps:=9^6) -dsimp only [go_sem,WI,X8]
 refine mW ht.e hn ?_
 simp (maxSteps:=9^6) -dsimp only [go_sem,kU]
 refine bL rfl (.done ?_)
 simp (maxSteps:=9^6) -dsimp only [go_sem,C9]
 refine ⟨fun h1 h2=>by rw [h1,h2]; rfl,fun h=>?_,fun h=>?_⟩
 · refine jW (z:=⟨b,a,n⟩) ht hn ?_
   simp (maxSteps:=9^6) -dsimp only [go_sem]
   refine .sel [0,1,2,3] (by simp) (by simp) rfl (.done ?_)
   simp (maxSteps:=9^6) -dsimp only [go_sem]
   exact bad (YH h)
 · refine bL rfl (.done ?_)
   simp (maxSteps:=9^6) -dsimp only [go_sem,E7]
   refine EV ht.e hn ?_
   simp (maxSteps:=9^6) -dsimp only [go_sem]
   refine .sel [0,1,2,3] (by simp) (by simp) rfl (.done ?_)
   simp (maxSteps:=9^6) -dsimp only [go_sem]
   have g:=WV (a:=a) h
   obtain ⟨g,rfl⟩:=g
   exact good g
theorem QT {t:Tk} (h:Gtk t.k t.x t.n) (hk:t.k=1):t.x ≠ []:=by
 have:=h.o (by rw [hk]; decide)
 rw [hk] at this
 have h2:bR t.x=true:=by
  have h3:(t.n == 0 && bR t.x)=true:=this
  rw [Bool.and_eq_true] at h3; exact h3.2
 intro e
 rw [e] at h2
 cases h2
theorem ZB {c b:Bool} {ts:List Tk} {a:Int} {n:Nat} {c1 c2:UInt8} (h1:(!(b || (bB ts n).k != 1) && c)=true->(bB ts n).x[0]? = some c1)
 (h2:(!(b || (bB ts n).k != 1) && c && !decide ((c1.toNat:Int) < 65))=true->(bB ts n).x[0]? = some c2)
 (h:(b || (bB ts n).k != 1 || c && (decide ((c1.toNat:Int) < 65) || decide (90 < (c2.toNat:Int))))=true):iL c ts ⟨b,a,n⟩=false:=by
 unfold iL
 simp only
 cases b
 · cases hk:(bB ts n).k == 1
   · rfl
   · rw [bne,hk] at h h1 h2
     cases c
     · cases h
     · have g1:=h1 rfl
       cases hx:(bB ts n).x with
       | nil=>rfl
       | cons d r=>
        rw [hx] at g1 h2
        have e1:d=c1:=bJ g1
        subst e1
        have h64:∀ m:Nat,(m:Int) < 65->m < 65:=fun m=>by omega
        by_cases hd:(d.toNat:Int) < 65
        · have:¬ (65:UInt8)<=d:=fun hh=>by
           have:=UInt8.le_iff_toNat_le.1 hh
           simp at this; omega
          simp [this]
        · have e2:d=c2:=bJ (h2 (by simpa using hd))
          subst e2
          have:90 < (d.toNat:Int):=by
           simp [hd] at h; exact h
          have:¬ d<=(90:UInt8):=fun hh=>by
           have:=UInt8.le_iff_toNat_le.1 hh
           simp at this; omega
          simp [this]
 · rfl
theorem W2 {c b:Bool} {ts:List Tk} {a:Int} {n:Nat} {c1 c2:UInt8} (h1:(!(b || (bB ts n).k != 1) && c)=true->(bB ts n).x[0]? = some c1)
 (h2:(!(b || (bB ts n).k != 1) && c && !decide ((c1.toNat:Int) < 65))=true->(bB ts n).x[0]? = some c2)
 (h:(b || (bB ts n).k != 1 || c && (decide ((c1.toNat:Int) < 65) || decide (90 < (c2.toNat:Int))))=false):iL c ts ⟨b,a,n⟩=true/\b=false:=by
 unfold iL
 simp only
 cases b
 · refine ⟨?_,rfl⟩
   cases hk:(bB ts n).k == 1
   · rw [bne,hk] at h; cases h
   · rw [bne,hk] at h h1 h2
     cases c
     · rfl
     · have g1:=h1 rfl
       cases hx:(bB ts n).x with
       | nil=>rw [hx] at g1; cases g1
       | cons d r=>
        rw [hx] at g1 h2
        have e1:d=c1:=bJ g1
        subst e1
        have hd:¬ (d.toNat:Int) < 65:=fun hd=>by simp [hd] at h
        have e2:d=c2:=bJ (h2 (by simpa using hd))
        subst e2
        have h90:¬ 90 < (d.toNat:Int):=fun hd=>by simp [hd] at h
        have q1:(65:UInt8)<=d:=UInt8.le_iff_toNat_le.2 (by simp; omega)
        have q2:d<=(90:UInt8):=UInt8.le_iff_toNat_le.2 (by simp; omega)
        simp [q1,q2]
 · cases h
theorem B6:Meets Tryz.prog 83 tB:=by
 refine aI Tryz.func83 aEA 2 (by rw [Tryz.ntmps83]; decide) (aD qG (aD HU (aD oX (aC _)))) (fun av H K h=>by obtain ⟨_,_,_,_,rfl,_⟩:=h; rfl) ?_
 rintro av H K ⟨c,o,ts,⟨b,a,n⟩,rfl,rfl,ht,hn,hK⟩
 have hK:K (tS (dM c ts ⟨b,a,n⟩)) (pH o ts (cO c ts ⟨b,a,n⟩)):=hK
 have bad:iL c ts ⟨b,a,n⟩=false->K (tS (mk [])) (pH o ts (fG ts ⟨b,a,n⟩)):=fun h=>by
  unfold dM cO at hK; rw [h] at hK; exact hK
 have good:iL c ts ⟨b,a,n⟩=true->K (tS (mk (bB ts n).x)) (pH o ts ⟨false,a,cP ts n⟩):=fun h=>by
  unfold dM cO at hK; rw [h] at hK; exact hK
 clear hK
 simp (maxSteps:=9^6) -dsimp only [go_sem,T7,X1]
 refine mW ht.e hn ?_
 simp (maxSteps:=9^6) -dsimp only [go_sem,kU]
 refine bL rfl (.done ?_)
 simp (maxSteps:=9^6) -dsimp only [go_sem,D5]
 have ne:((!(b || (bB ts n).k != 1) && c)=true)->(0:Int)<=0/\(0:Int) < ((bB ts n).x.length:Int):=fun h=>by
  have hk:(bB ts n).k=1:=by
   cases b
   · cases hk:(bB ts n).k == 1
     · rw [bne,hk] at h; cases c<;>cases h
     · exact eq_of_beq hk
   · cases h
  have this:(bB ts n).x ≠ []:=QT (ht.g _ (vB hn)) hk
  have:=List.length_pos_iff.2 this
  omega
 refine ⟨ne,fun c1 h1=>⟨fun h=>ne (by rw [Bool.and_eq_true] at h; exact h.1),fun c2 h2=>⟨fun hA hB=>by rw [hA,hB]; rfl,fun hA hB=>by rw [hA,hB]; rfl,fun h=>?_,fun h=>?_⟩⟩⟩
 · refine jW (z:=⟨b,a,n⟩) ht hn ?_
   simp (maxSteps:=9^6) -dsimp only [go_sem]
   refine .sel [0,1,2,3] (by simp) (by simp) rfl (.done ?_)
   simp (maxSteps:=9^6) -dsimp only [go_sem]
   exact bad (ZB h1 h2 h)
 · refine bL rfl (.done ?_)
   simp (maxSteps:=9^6) -dsimp only [go_sem,CT]
   refine EV ht.e hn ?_
   simp (maxSteps:=9^6) -dsimp only [go_sem]
   refine .sel [0,1,2,3] (by simp) (by simp) rfl (.done ?_)
   simp (maxSteps:=9^6) -dsimp only [go_sem]
   have g:=W2 (a:=a) h1 h2 h
   obtain ⟨g,rfl⟩:=g
   exact good g
theorem PT:Meets Tryz.prog 36 m9->Meets Tryz.prog 97 JT:=by
 intro hnum
 refine aI Tryz.func97 aDM 1 (by rw [Tryz.ntmps97]; decide) (aD v6 (aD hnum (aC _))) (fun av H K h=>by obtain ⟨_,_,_,rfl,_⟩:=h; rfl) ?_
 rintro av H K ⟨o,ts,z,rfl,rfl,ht,hn,hK⟩
 have hK:K (iS .i64 (kR ts z)) (pH o ts (kL ts z)):=hK
 unfold kL kR at hK
 simp (maxSteps:=9^6) -dsimp only [go_sem,WX,UR]
 refine gX ht hn ?_
 have h1:=dC (w:=[91]) hn
 have e1:cA (bl (mk [91])) ts z=cA [91] ts z:=rfl
 rw [e1]
 generalize cA [91] ts z=z1 at *
 simp (maxSteps:=9^6) -dsimp only [go_sem]
 refine tR ht h1.2 ?_
 have h2:=n5 (c:=true) h1.2
 simp (maxSteps:=9^6) -dsimp only [go_sem]
 refine gX ht h2.2 ?_
 simp (maxSteps:=9^6) -dsimp only [go_sem]
 exact .done hK
end Go.Proofs.YtgogpogophflhaaGreatDoor
namespace Go.Proofs.YtgogpogophflhaaGreatDoor
open Go.W
attribute [-go_sem] fU iB fC j0 gA
def szs:List Int:=[8,16,32,64]
def rT (n:Int):List UInt8:=[105,110,116] ++ bM n
def nP (n:Int):List UInt8:=[117,105,110,116] ++ bM n
def gM:List UInt8:=[98,111,111,108]
def wText:List UInt8:=[116,101,120,116]
def nY (ts:List Tk) (z:Fs):List Int->Ty × Fs
 | []=>(.mk 6 0 (dM true ts z) [],cO true ts z)
 | s :: r=>bif aX 1 (rT s) ts z then (.mk 2 s (mk []) [],bK 1 (rT s) ts z) else bif decide (s < 64) && aX 1 (nP s) ts z then (.mk 3 s (mk []) [],bK 1 (nP s) ts z) else nY ts z r
def kG (ts:List Tk) (z:Fs):Ty × Fs:=
 bif aX 1 gM ts z then (.mk 1 0 (mk []) [],bK 1 gM ts z)
 else bif aX 1 wText ts z then (.mk 4 (kR ts (bK 1 wText ts z)) (mk []) [],kL ts (bK 1 wText ts z))
 else nY ts z szs
def IW (F:List Tk->Fs->Ty × Fs):W.Spec:=nC [] (fun ts z=>.va (.gs (aP (F ts z).1))) fun ts z=>(F ts z).2
theorem LQ {F:List Tk->Fs->Ty × Fs} {o:Po} {ts:List Tk} {z:Fs} {K:S->Hp->Prop} (h1:Tks ts) (h2:z.n < ts.length) (hK:K (.va (.gs (aP (F ts z).1))) (pH o ts (F ts z).2)):IW F [.va (.c1 (.pt 0 0))] (pH o ts z) K:=jJ (V:=fun ts z=>.va (.gs (aP (F ts z).1))) (F:=fun ts z=>(F ts z).2) h1 h2 hK
theorem f8 {k:Int} {w:List UInt8} {ts:List Tk} {z:Fs} (h:aX k w ts z=false):bK k w ts z=z:=by unfold bK; rw [h]; rfl
theorem SZ:bM 8=[56]:=by simp [bM,digs,Nat.toUInt8]
theorem L4:bM 16=[49,54]:=by simp [bM,digs,Nat.toUInt8]
theorem NI:bM 32=[51,50]:=by simp [bM,digs,Nat.toUInt8]
theorem V7:bM 64=[54,52]:=by simp [bM,digs,Nat.toUInt8]
theorem RK:Meets Tryz.prog 98 (IW kG):=by
 refine aI Tryz.func98 aD0 1 (by rw [Tryz.ntmps98]; decide) (aD EY (aD (PT xK) (aD B6 (aL BQ (aC _))))) (fun av H K h=>by obtain ⟨_,_,_,rfl,_⟩:=h; rfl) ?_
 rintro av H K ⟨o,ts,z,rfl,rfl,ht,hn,hK⟩
 have hK:K (.va (.gs (aP (kG ts z).1))) (pH o ts (kG ts z).2):=hK
 have fin:∀ (t:Ty) (z':Fs) (R:Hp),kG ts z=(t,z')->W.Fin 4 K (.va (.gs [.vl (.int .i64 t.k),.vl (.int .i64 t.s),.vl (.string t.n),.fz (t.e.map aP)])) (pH o ts z' ++ R):=fun t z' R h=>by
  rw [h] at hK
  refine .sel [0,1,2,3] (by simp) (by simp) rfl (.done ?_)
  rw [bX] at hK
  simpa [go_sem] using hK
 unfold kG at fin
 simp (maxSteps:=9^6) -dsimp only [go_sem,VA,VM]
 refine hY ht hn ?_
 rw [show bl (mk [98,111,111,108])=gM from rfl]
 cases h1:aX 1 gM ts z with
 | true=>
  rw [h1] at fin
  simp (maxSteps:=9^6) -dsimp only [go_sem]
  exact fin _ _ _ rfl
 | false=>
 rw [h1] at fin
 rw [f8 h1]
 simp (maxSteps:=9^6) -dsimp only [go_sem]
 refine hY ht hn ?_
 rw [show bl (mk [116,101,120,116])=wText from rfl]
 have hn1:=fW (k:=1) (w:=wText) hn
 cases h2:aX 1 wText ts z with
 | true=>
  rw [h2] at fin
  simp (maxSteps:=9^6) -dsimp only [go_sem]
  refine GM ht hn1.2 ?_
  simp (maxSteps:=9^6) -dsimp only [go_sem]
  exact fin _ _ _ rfl
 | false=>
 rw [h2] at fin
 rw [f8 h2]
 simp (maxSteps:=9^6) -dsimp only [go_sem]
 refine bL rfl (.done ?_)
 simp (maxSteps:=9^6) -dsimp only [go_sem,DZ]
 refine aT (α:=Nat) (fun i=>[(0,.va (.c1 (.pt 0 0))),(2,.va (.c1 (.pt 4 0))),(15,.va (.c1 (.sl 5 4))),(16,iS .i64 4),(17,iS .i64 i)]) (fun _=>[pB o z.bad z.off,fQ 123 ts z.n,.row o.es 62 3,.row o.ss 56 2,.cells [.vl (.int .i64 0),.vl (.int .i64 0),.vl (.string (mk [])),.vl (.slice none 0 0)] 37,.row (szs.map dS) 3 1])
  (fun i=>i<=4/\nY ts z (szs.drop i)=nY ts z szs) (fun i=>4 - i) 0 6 ⟨Nat.zero_le _,rfl⟩ ?_ ?_ ?_
 · simp -dsimp only [go_sem]<;>simp
 · simp -dsimp only [go_sem,szs,List.map_cons,List.map_nil]<;>simp
 rintro i ⟨hi,ho⟩
 have hl4:szs.length=4:=rfl
 rcases bG i 4 with hlt | hge
 · have hg:decide ((i:Int) < 4)=true:=by simp; omega
   obtain ⟨s,hx⟩:∃ s,szs[i]? = some s:=⟨_,aV (by omega)⟩
   have hd:szs.drop i=s :: szs.drop (i + 1):=List.drop_eq_getElem_cons (by omega) |>.trans (by rw [(a8.1 hx).2])
   have hs:8<=s/\s<=64:=by
    have:=bT hx
    simp only [szs,List.mem_cons,List.not_mem_nil,or_false] at this
    omega
   have hsl:=iZ (n:=s) (by omega) (by omega)
   rw [hd,nY] at ho
   simp (maxSteps:=9^6) -dsimp only [go_sem,hg,List.length_map,hl4]
   refine ⟨⟨by omega,by omega⟩,by omega,fun x hx'=>?_⟩
   obtain rfl:s=x:=bJ (hx.symm.trans hx')
   refine ⟨⟨by omega,by omega⟩,by omega,hY ht hn ?_⟩
   rw [show bl (mk (105 :: 110 :: 116 :: bM s))=rT s from rfl]
   cases h3:aX 1 (rT s) ts z with
   | true=>
    rw [h3] at ho
    rw [aG,aG,<-ho] at fin
    simp (maxSteps:=9^6) -dsimp only [go_sem]
    exact fin _ _ _ rfl
   | false=>
   rw [h3,aG] at ho
   rw [f8 h3]
   simp (maxSteps:=9^6) -dsimp only [go_sem]
   cases h4:decide (s < 64) with
   | false=>
    rw [h4] at ho
    refine bL rfl (.done ?_)
    simp (maxSteps:=9^6) -dsimp only [go_sem,sV,h4]
    refine ⟨by omega,aB (i + 1) 6 ⟨by omega,ho⟩ (by omega) ?_ ?_⟩
    · simp -dsimp only [go_sem]<;>simp
    · simp -dsimp only [go_sem]<;>simp
   | true=>
   rw [h4,Bool.true_and] at ho
   refine bL rfl (.done ?_)
   simp (maxSteps:=9^6) -dsimp only [go_sem,sV,h4]
   refine ⟨⟨by omega,by omega⟩,by omega,hY ht hn ?_⟩
   rw [show bl (mk (117 :: 105 :: 110 :: 116 :: bM s))=nP s from rfl]
   cases h5:aX 1 (nP s) ts z with
   | true=>
    rw [h5] at ho
    rw [aG,aG,<-ho] at fin
    simp (maxSteps:=9^6) -dsimp only [go_sem]
    exact fin _ _ _ rfl
   | false=>
   rw [h5,aG] at ho
   rw [f8 h5]
   simp (maxSteps:=9^6) -dsimp only [go_sem]
   refine ⟨by omega,aB (i + 1) 6 ⟨by omega,ho⟩ (by omega) ?_ ?_⟩
   · simp -dsimp only [go_sem]<;>simp
   · simp -dsimp only [go_sem]<;>simp
 · have hg:decide ((i:Int) < 4)=false:=by simp; omega
   obtain rfl:i=4:=by omega
   rw [aG,aG,<-ho] at fin
   simp (maxSteps:=9^6) -dsimp only [go_sem,hg]
   refine bL rfl (.done ?_)
   simp (maxSteps:=9^6) -dsimp only [go_sem,zF]
   refine m4 ht hn ?_
   simp (maxSteps:=9^6) -dsimp only [go_sem]
   exact fin _ _ _ rfl
end Go.Proofs.YtgogpogophflhaaGreatDoor
namespace Go.Proofs.YtgogpogophflhaaGreatDoor
open Go.W
attribute [-go_sem] fU iB fC j0 gA
def eW:List UInt8:=[108,105,115,116]
def tZ:List UInt8:=[111,102]
def sD (ts:List Tk) (z:Fs):Fs:=bif aX 1 tZ ts z then ⟨false,z.off,cP ts z.n⟩ else fG ts z
def lR (ts:List Tk):Nat->List Int->Fs->List Int × Fs
 | 0,d,z=>(d,z)
 | f + 1,d,z=>bif aX 1 eW ts z then lR ts f (d ++ [kR ts (bK 1 eW ts z)]) (sD ts (kL ts (bK 1 eW ts z))) else (d,z)
def cT (d:List Int) (t:Ty):Ty:=d.foldr (fun s t=>.mk 5 s (mk []) [t]) t
def oZ (ts:List Tk) (z:Fs):Ty × Fs:=(cT (lR ts (ts.length + 1) [] z).1 (kG ts (lR ts (ts.length + 1) [] z).2).1,(kG ts (lR ts (ts.length + 1) [] z).2).2)
theorem kX (ts:List Tk) (f:Nat) (d:List Int) (z:Fs):lR ts (f + 1) d z=bif aX 1 eW ts z then lR ts f (d ++ [kR ts (bK 1 eW ts z)]) (sD ts (kL ts (bK 1 eW ts z))) else (d,z):=rfl
theorem tF {k:Int} {w:List UInt8} {ts:List Tk} {z:Fs} (hk0:k ≠ 0) (he:Ends ts) (hn:z.n < ts.length) (h:aX k w ts z=true):cP ts z.n=z.n + 1/\z.n + 1 < ts.length/\z.bad=false:=by
 unfold aX at h
 rw [Bool.and_eq_true] at h
 obtain ⟨h1,h2⟩:=h
 have hb:z.bad=false:=by cases hb:z.bad with
  | false=>rfl
  | true=>rw [hb] at h1; cases h1
 have hk:(bB ts z.n).k=k:=by
  unfold gH at h2
  rw [Bool.and_eq_true] at h2
  exact eq_of_beq h2.1
 have hne:¬ (z.n + 1=ts.length):=fun e=>by
  have:=(he.last _ _ (lB hn)).2 e
  rw [hk] at this; exact hk0 this
 have hlt:z.n + 1 < ts.length:=by omega
 exact ⟨if_pos hlt,hlt,hb⟩
theorem N6 {ts:List Tk} {z:Fs} (h:z.n < ts.length):z.n<=(sD ts z).n/\(sD ts z).n < ts.length:=by
 unfold sD
 cases aX 1 tZ ts z
 · rw [aG,j8]; exact ⟨Nat.le_refl _,h⟩
 · exact nJ h
theorem OH {ts:List Tk} {z:Fs} (h:z.n < ts.length):∀ l:List Int,z.n<=(nY ts z l).2.n/\(nY ts z l).2.n < ts.length
 | []=>fM h
 | s :: r=>by
  rw [nY]
  cases aX 1 (rT s) ts z
  · cases decide (s < 64) && aX 1 (nP s) ts z
    · exact OH h r
    · exact fW h
  · exact fW h
theorem Z1 {ts:List Tk} {z:Fs} (h:z.n < ts.length):z.n<=(kG ts z).2.n/\(kG ts z).2.n < ts.length:=by
 unfold kG
 cases aX 1 gM ts z
 · cases aX 1 wText ts z
   · exact OH h _
   · have h1:=fW (k:=1) (w:=wText) h
     have h2:=xA h1.2
     exact ⟨Nat.le_trans h1.1 h2.1,h2.2⟩
 · exact fW h
theorem IZ {ts:List Tk}:∀ (f:Nat) (d:List Int) (z:Fs),z.n < ts.length->z.n<=(lR ts f d z).2.n/\(lR ts f d z).2.n < ts.length
 | 0,d,z,h=>⟨Nat.le_refl _,h⟩
 | f + 1,d,z,h=>by
  rw [kX]
  cases aX 1 eW ts z
  · exact ⟨Nat.le_refl _,h⟩
  · have h1:=fW (k:=1) (w:=eW) h
    have h2:=xA h1.2
    have h3:=N6 h2.2
    have h4:=IZ f (d ++ [kR ts (bK 1 eW ts z)]) _ h3.2
    rw [aM]
    omega
theorem PB {ts:List Tk} {z:Fs} (h:z.n < ts.length):z.n<=(oZ ts z).2.n/\(oZ ts z).2.n < ts.length:=by
 have h1:=IZ (ts.length + 1) [] z h
 have h2:=Z1 h1.2
 exact ⟨Nat.le_trans h1.1 h2.1,h2.2⟩
theorem HW (d:List Int) (s:Int) (t:Ty):cT (d ++ [s]) t=cT d (.mk 5 s (mk []) [t]):=by simp [cT]
theorem TZ:Meets Tryz.prog 55 (IW oZ):=by
 refine aI Tryz.func55 aD6 1 (by rw [Tryz.ntmps55]; decide) (aD EY (aD (PT xK) (aD oX (aD RK (aC _))))) (fun av H K h=>by obtain ⟨_,_,_,rfl,_⟩:=h; rfl) ?_
 rintro av H K ⟨o,ts,z0,rfl,rfl,ht,hn0,hK⟩
 have hK:K (.va (.gs (aP (oZ ts z0).1))) (pH o ts (oZ ts z0).2):=hK
 have hle:=ht.e.le
 unfold oZ at hK
 simp (maxSteps:=9^6) -dsimp only [go_sem,XB,TT]
 refine cQ (α:=Nat × List Int × Fs) (fun x=>[(0,.va (.c1 (.pt 0 0))),(2,.va (.c1 (.pt 4 0))),(3,.va (.c1 (.pt 5 0))),(4,.va (.c1 (.sl 6 x.2.1.length)))])
  (fun x=>[pB o x.2.2.bad x.2.2.off,fQ 123 ts x.2.2.n,.row o.es 62 3,.row o.ss 56 2,.cells [.vl (.int .i64 0),.vl (.int .i64 0),.vl (.string (mk [])),.vl (.slice none 0 0)] 37,.cells [.vl (.int .i64 0),.vl (.int .i64 0),.vl (.string (mk [])),.vl (.slice none 0 0)] 37,.row (x.2.1.map dS) 3 1])
  (fun x=>x.2.2.n < ts.length/\x.2.1.length + x.1<=ts.length + 1/\ts.length < x.2.2.n + x.1/\lR ts x.1 x.2.1 x.2.2=lR ts (ts.length + 1) [] z0)
  (fun x=>x.1) (.nil 4 3 1 rfl (iO (ts.length + 1,[],z0) 7 ⟨hn0,by simp,by simp only; omega,rfl⟩ ?_ ?_)) ?_
 · simp -dsimp only [go_sem]<;>simp
 · simp -dsimp only [go_sem]<;>simp
 rintro ⟨f,d,z⟩ ⟨h1,h2,h3,h4⟩
 simp only at h1 h2 h3 h4
 obtain ⟨f,rfl⟩:∃ g,f=g + 1:=⟨f - 1,by omega⟩
 rw [kX] at h4
 simp (maxSteps:=9^6) -dsimp only [go_sem]
 refine hY ht h1 ?_
 rw [show bl (mk [108,105,115,116])=eW from rfl]
 cases hl:aX 1 eW ts z with
 | true=>
  rw [hl,aM] at h4
  obtain ⟨g1,g2,g3⟩:=tF (by decide) ht.e h1 hl
  have e1:bK 1 eW ts z=⟨false,z.off,z.n + 1⟩:=by unfold bK; rw [hl,g1]; rfl
  rw [e1] at h4 ⊢
  simp (maxSteps:=9^6) -dsimp only [go_sem]
  have hb:=xA (z:=⟨false,z.off,z.n + 1⟩) g2
  refine GM (z:=⟨false,z.off,z.n + 1⟩) ht g2 ?_
  generalize kR ts ⟨false,z.off,z.n + 1⟩=v at *
  generalize kL ts ⟨false,z.off,z.n + 1⟩=z1 at *
  simp only at hb
  simp (maxSteps:=9^6) -dsimp only [go_sem]
  have nxtl:∀ z2:Fs,z1.n<=z2.n->z2.n < ts.length->sD ts z1=z2->z2.n < ts.length/\(d ++ [v]).length + f<=ts.length + 1/\ts.length < z2.n + f/\lR ts f (d ++ [v]) z2=lR ts (ts.length + 1) [] z0:=fun z2 q1 q2 q3=>by
   subst q3
   refine ⟨q2,?_,by omega,h4⟩
   rw [List.length_append,List.length_singleton]; omega
  clear h4
  refine ⟨by omega,bL rfl (.done ?_)⟩
  obtain ⟨b1,o1,n1⟩:=z1
  simp only at hb nxtl
  cases b1 with
  | true=>
   simp (maxSteps:=9^6) -dsimp only [go_sem,x7]
   refine aB (f,d ++ [v],⟨true,o1,n1⟩) 7 (nxtl _ (Nat.le_refl _) hb.2 (by simp [sD,aX,fG])) (by simp) ?_ ?_
   · simp -dsimp only [go_sem]<;>simp
   · simp -dsimp only [go_sem]<;>simp
  | false=>
  simp (maxSteps:=9^6) -dsimp only [go_sem,x7]
  refine hY (z:=⟨false,o1,n1⟩) ht hb.2 ?_
  rw [show bl (mk [111,102])=tZ from rfl]
  cases hw:aX 1 tZ ts ⟨false,o1,n1⟩ with
  | true=>
   have e2:bK 1 tZ ts ⟨false,o1,n1⟩=⟨false,o1,cP ts n1⟩:=by unfold bK; rw [hw]; rfl
   rw [e2]
   have g4:=nJ hb.2
   simp (maxSteps:=9^6) -dsimp only [go_sem]
   refine aB (f,d ++ [v],⟨false,o1,cP ts n1⟩) 7 (nxtl _ g4.1 g4.2 (by simp [sD,hw])) (by simp) ?_ ?_
   · simp -dsimp only [go_sem]<;>simp
   · simp -dsimp only [go_sem]<;>simp
  | false=>
   rw [f8 hw]
   simp (maxSteps:=9^6) -dsimp only [go_sem]
   refine jW (z:=⟨false,o1,n1⟩) ht hb.2 ?_
   simp (maxSteps:=9^6) -dsimp only [go_sem]
   refine aB (f,d ++ [v],fG ts ⟨false,o1,n1⟩) 7 (nxtl _ (by rw [j8]; exact Nat.le_refl _) (by rw [j8]; exact hb.2) (by simp [sD,hw])) (by simp) ?_ ?_
   · simp -dsimp only [go_sem]<;>simp
   · simp -dsimp only [go_sem]<;>simp
 | false=>
  rw [hl,aG] at h4
  rw [<-h4] at hK
  rw [f8 hl]
  simp (maxSteps:=9^6) -dsimp only [go_sem]
  refine bL rfl (.done ?_)
  simp (maxSteps:=9^6) -dsimp only [go_sem,DM]
  refine LQ ht h1 ?_
  simp only at hK
  generalize kG ts z=r at *
  obtain ⟨t,z'⟩:=r
  simp only at hK
  simp (maxSteps:=9^6) -dsimp only [go_sem,bX t]
  refine bL rfl (.done ?_)
  simp (maxSteps:=9^6) -dsimp only [go_sem,DF]
  refine ⟨by omega,?_⟩
  refine aT (α:=Nat × Ty) (fun x=>[(2,.va (.c1 (.pt 4 0))),(3,.va (.c1 (.pt 5 0))),(4,.va (.c1 (.sl 6 d.length))),(5,iS .i64 ((x.1:Int) - 1))])
   (fun x=>[pB o z'.bad z'.off,fQ 123 ts z'.n,.row o.es 62 3,.row o.ss 56 2,.cells [.vl (.int .i64 0),.vl (.int .i64 0),.vl (.string (mk [])),.vl (.slice none 0 0)] 37,.cells [.vl (.int .i64 x.2.k),.vl (.int .i64 x.2.s),.vl (.string x.2.n),.fz (x.2.e.map aP)] 37,.row (d.map dS) 3 1])
   (fun x=>x.1<=d.length/\cT (d.take x.1) x.2=cT d t) (fun x=>x.1) (d.length,t) 7 ⟨Nat.le_refl _,by rw [List.take_length]⟩ ?_ ?_ ?_
  · simp -dsimp only [go_sem]<;>simp
  · simp -dsimp only [go_sem]<;>simp
  rintro ⟨m,u⟩ ⟨hm,hu⟩
  simp only at hm hu
  cases m with
  | zero=>
   have g0:decide ((0:Int)<=((0:Nat):Int) - 1)=false:=rfl
   simp (maxSteps:=9^6) -dsimp only [go_sem,g0]
   refine bL rfl (.done ?_)
   simp (maxSteps:=9^6) -dsimp only [go_sem,zN]
   refine .sel [0,1,2,3] (by simp) (by simp) rfl (.done ?_)
   simp (maxSteps:=9^6) -dsimp only [go_sem]
   have e:u=cT d t:=hu
   rw [bX,<-e] at hK
   exact hK
  | succ m=>
   have g0:decide ((0:Int)<=(m:Int))=true:=decide_eq_true (by omega)
   have em:((m + 1:Nat):Int) - 1=(m:Int):=by omega
   obtain ⟨s,hx⟩:∃ s,d[m]? = some s:=⟨_,aV (by omega)⟩
   have htk:d.take (m + 1)=d.take m ++ [s]:=by rw [List.take_add_one,hx]; rfl
   rw [htk,HW] at hu
   simp (maxSteps:=9^6) -dsimp only [go_sem,g0,em]
   refine ⟨⟨by omega,by omega⟩,by omega,fun x hx'=>?_⟩
   obtain rfl:s=x:=bJ (hx.symm.trans hx')
   refine bL rfl (.pub 7 _ _ _ rfl (.done ?_))
   simp (maxSteps:=9^6) -dsimp only [go_sem,yD,dA]
   refine ⟨by omega,aB (m,.mk 5 s (mk []) [u]) 7 ⟨by omega,hu⟩ (by simp) ?_ ?_⟩
   · simp -dsimp only [go_sem,em]<;>simp
   · simp -dsimp only [go_sem,Ty.k,Ty.s,Ty.n,Ty.e,List.map_cons,List.map_nil,bX u]<;>simp
end Go.Proofs.YtgogpogophflhaaGreatDoor
namespace Go.Proofs.YtgogpogophflhaaGreatDoor
open Go.W
attribute [-go_sem] fU iB fC j0 gA
def nT (ts:List Tk) (z:Fs):Fs:=jK false ts (cA [61] ts (cO false ts z))
def l8 (ts:List Tk):Nat->List ByteArray->List Int->Fs->(List ByteArray × List Int) × Fs
 | 0,a,b,z=>((a,b),z)
 | f + 1,a,b,z=>bif z.bad then ((a,b),z) else
  bif aX 4 [44] ts (nT ts z) then l8 ts f (a ++ [dM false ts z]) (b ++ [jM false ts (cA [61] ts (cO false ts z))]) (bK 4 [44] ts (nT ts z))
  else ((a ++ [dM false ts z],b ++ [jM false ts (cA [61] ts (cO false ts z))]),nT ts z)
theorem pP (ts:List Tk) (f:Nat) (a:List ByteArray) (b:List Int) (z:Fs):l8 ts (f + 1) a b z=bif z.bad then ((a,b),z) else
 bif aX 4 [44] ts (nT ts z) then l8 ts f (a ++ [dM false ts z]) (b ++ [jM false ts (cA [61] ts (cO false ts z))]) (bK 4 [44] ts (nT ts z))
 else ((a ++ [dM false ts z],b ++ [jM false ts (cA [61] ts (cO false ts z))]),nT ts z):=rfl
def iU (ts:List Tk) (z:Fs):En × Fs:=
 (⟨dM true ts z,(l8 ts (ts.length + 1) [] [] (cA [123] ts (cO true ts z))).1.1,(l8 ts (ts.length + 1) [] [] (cA [123] ts (cO true ts z))).1.2⟩,cA [125] ts (l8 ts (ts.length + 1) [] [] (cA [123] ts (cO true ts z))).2)
theorem PO {ts:List Tk} {z:Fs} (h:z.n < ts.length):z.n<=(nT ts z).n/\(nT ts z).n < ts.length:=by
 have h1:=fM (c:=false) h
 have h2:=dC (w:=[61]) h1.2
 have h3:=n5 (c:=false) h2.2
 unfold nT
 omega
theorem PS {ts:List Tk}:∀ (f:Nat) (a:List ByteArray) (b:List Int) (z:Fs),z.n < ts.length->z.n<=(l8 ts f a b z).2.n/\(l8 ts f a b z).2.n < ts.length
 | 0,a,b,z,h=>⟨Nat.le_refl _,h⟩
 | f + 1,a,b,z,h=>by
  rw [pP]
  cases z.bad
  · have h1:=PO h
    cases aX 4 [44] ts (nT ts z)
    · exact h1
    · have h2:=fW (k:=4) (w:=[44]) h1.2
      have h3:=PS f (a ++ [dM false ts z]) (b ++ [jM false ts (cA [61] ts (cO false ts z))]) _ h2.2
      rw [aG,aM]
      omega
  · exact ⟨Nat.le_refl _,h⟩
theorem PZ {ts:List Tk} {z:Fs} (h:z.n < ts.length):z.n<=(iU ts z).2.n/\(iU ts z).2.n < ts.length:=by
 have h1:=fM (c:=true) h
 have h2:=dC (w:=[123]) h1.2
 have h3:=PS (ts.length + 1) [] [] _ h2.2
 have h4:=dC (w:=[125]) h3.2
 unfold iU
 simp only
 omega
def HR:W.Spec:=nC [] (fun ts z=>.va (.gs (aQ (iU ts z).1))) fun ts z=>(iU ts z).2
theorem U0 {o:Po} {ts:List Tk} {z:Fs} {K:S->Hp->Prop} (h1:Tks ts) (h2:z.n < ts.length) (hK:K (.va (.gs (aQ (iU ts z).1))) (pH o ts (iU ts z).2)):HR [.va (.c1 (.pt 0 0))] (pH o ts z) K:=jJ (V:=fun ts z=>.va (.gs (aQ (iU ts z).1))) (F:=fun ts z=>(iU ts z).2) h1 h2 hK
theorem WU:Meets Tryz.prog 39 HR:=by
 refine aI Tryz.func39 aDP 1 (by rw [Tryz.ntmps39]; decide) (aD B6 (aD v6 (aD xK (aD O6 (aC _))))) (fun av H K h=>by obtain ⟨_,_,_,rfl,_⟩:=h; rfl) ?_
 rintro av H K ⟨o,ts,z0,rfl,rfl,ht,hn0,hK⟩
 have hK:K (.va (.gs (aQ (iU ts z0).1))) (pH o ts (iU ts z0).2):=hK
 have hle:=ht.e.le
 unfold iU at hK
 simp (maxSteps:=9^6) -dsimp only [go_sem,XI,I8]
 refine m4 ht hn0 ?_
 have hn1:=(fM (c:=true) hn0).2
 simp only at hK
 generalize dM true ts z0=nm at *
 generalize cO true ts z0=z1 at *
 simp (maxSteps:=9^6) -dsimp only [go_sem]
 refine gX ht hn1 ?_
 rw [show bl (mk [123])=[123] from rfl]
 have hn2:=(dC (w:=[123]) hn1).2
 generalize cA [123] ts z1=z2 at *
 simp (maxSteps:=9^6) -dsimp only [go_sem]
 refine cQ (α:=Nat × Bool × List ByteArray × List Int × Fs) (fun x=>[(0,.va (.c1 (.pt 0 0))),(2,.va (.c1 (.pt 4 0))),(3,.va (.c1 (.pt 5 0))),(4,bS x.2.1)])
  (fun x=>[pB o x.2.2.2.2.bad x.2.2.2.2.off,fQ 123 ts x.2.2.2.2.n,.row o.es 62 3,.row o.ss 56 2,.cells [.vl (.string (mk [])),.vl (.slice none 0 0),.vl (.slice none 0 0)] 62,.cells [.vl (.string nm),.sl 6 x.2.2.1.length,.sl 7 x.2.2.2.1.length] 62,.row (x.2.2.1.map bI) 9 1,.row (x.2.2.2.1.map dS) 3 1])
  (fun x=>x.2.2.2.2.n < ts.length/\x.2.2.1.length + x.1<=ts.length + 1/\x.2.2.2.1.length + x.1<=ts.length + 1/\(x.2.1=true->ts.length < x.2.2.2.2.n + x.1)/\(bif x.2.1 then l8 ts x.1 x.2.2.1 x.2.2.2.1 x.2.2.2.2 else ((x.2.2.1,x.2.2.2.1),x.2.2.2.2))=l8 ts (ts.length + 1) [] [] z2)
  (fun x=>x.1) (.nilc 5 1 9 1 _ _ rfl rfl (.nilc 5 2 3 1 _ _ rfl rfl (iO (ts.length + 1,true,[],[],z2) 8 ⟨hn2,by simp,by simp,fun _=>by simp only; omega,rfl⟩ ?_ ?_))) ?_
 · simp -dsimp only [go_sem]<;>simp
 · simp -dsimp only [go_sem]<;>simp
 rintro ⟨f,m,a,b,z⟩ ⟨h1,h2,h2',h3,h4⟩
 simp only at h1 h2 h2' h3 h4
 have fin:l8 ts (ts.length + 1) [] [] z2=((a,b),z)->vc [(83,Entry.s tB),(37,Entry.s mS),(36,Entry.s m9),(84,Entry.s wM)] 4 pc39_9.ungh
  (eL [(0,.va (.c1 (.pt 0 0))),(2,.va (.c1 (.pt 4 0))),(3,.va (.c1 (.pt 5 0)))]) [pB o z.bad z.off,fQ 123 ts z.n,.row o.es 62 3,.row o.ss 56 2,.cells [.vl (.string (mk [])),.vl (.slice none 0 0),.vl (.slice none 0 0)] 62,.cells [.vl (.string nm),.sl 6 a.length,.sl 7 b.length] 62,.row (a.map bI) 9 1,.row (b.map dS) 3 1] (gW 4 I8 K):=fun e=>by
  rw [e] at hK
  simp (maxSteps:=9^6) -dsimp only [go_sem,pc39_9,I8]
  refine gX ht h1 ?_
  rw [show bl (mk [125])=[125] from rfl]
  simp (maxSteps:=9^6) -dsimp only [go_sem]
  refine .pub 6 _ _ _ rfl (.pub 7 _ _ _ rfl (.sel [0,1,2,3] (by simp) (by simp [dA]) rfl (.done ?_)))
  simp (maxSteps:=9^6) -dsimp only [go_sem,dA]
  exact hK
 cases m with
 | false=>
  rw [aG] at h4
  simp (maxSteps:=9^6) -dsimp only [go_sem]
  refine dW 8 (fin h4.symm) ?_ ?_
  · simp -dsimp only [go_sem]<;>simp
  · simp -dsimp only [go_sem]<;>simp
 | true=>
  rw [aM] at h4
  have h3:=h3 rfl
  obtain ⟨f,rfl⟩:∃ g,f=g + 1:=⟨f - 1,by omega⟩
  rw [pP] at h4
  obtain ⟨bb,oo,n⟩:=z
  cases bb with
  | true=>
   rw [aM] at h4
   simp (maxSteps:=9^6) -dsimp only [go_sem]
   refine dW 8 (fin h4.symm) ?_ ?_
   · simp -dsimp only [go_sem]<;>simp
   · simp -dsimp only [go_sem]<;>simp
  | false=>
   clear fin
   rw [aG] at h4
   simp (maxSteps:=9^6) -dsimp only [go_sem]
   refine m4 (z:=⟨false,oo,n⟩) ht h1 ?_
   have g1:=fM (c:=false) (z:=⟨false,oo,n⟩) h1
   unfold nT at h4
   generalize dM false ts ⟨false,oo,n⟩=w at *
   generalize cO false ts ⟨false,oo,n⟩=y1 at *
   simp (maxSteps:=9^6) -dsimp only [go_sem]
   refine ⟨by omega,bL rfl (.done ?_)⟩
   simp (maxSteps:=9^6) -dsimp only [go_sem,CC]
   refine gX ht g1.2 ?_
   rw [show bl (mk [61])=[61] from rfl]
   have g2:=dC (w:=[61]) g1.2
   generalize cA [61] ts y1=y2 at *
   simp (maxSteps:=9^6) -dsimp only [go_sem]
   refine Gh.done ?_
   simp (maxSteps:=9^6) -dsimp only [go_sem]
   refine tR ht g2.2 ?_
   have g3:=n5 (c:=false) g2.2
   generalize jM false ts y2=v at *
   generalize jK false ts y2=y3 at *
   simp (maxSteps:=9^6) -dsimp only [go_sem]
   refine ⟨by omega,bL rfl (.done ?_)⟩
   simp (maxSteps:=9^6) -dsimp only [go_sem,DO]
   refine yL ht g3.2 ?_
   rw [show bl (mk [44])=[44] from rfl]
   cases hc:aX 4 [44] ts y3 with
   | true=>
    obtain ⟨q1,q2,q3⟩:=tF (by decide) ht.e g3.2 hc
    have e1:bK 4 [44] ts y3=⟨false,y3.off,y3.n + 1⟩:=by unfold bK; rw [hc,q1]; rfl
    rw [hc,aM,e1] at h4
    rw [e1]
    simp (maxSteps:=9^6) -dsimp only [go_sem]
    refine aB (f,true,a ++ [w],b ++ [v],⟨false,y3.off,y3.n + 1⟩) 8 ⟨q2,?_,?_,?_,h4⟩ (by simp) ?_ ?_
    · simp only [List.length_append,List.length_singleton]; omega
    · simp only [List.length_append,List.length_singleton]; omega
    · intro _
      simp only at g1 h3 ⊢
      omega
    · simp -dsimp only [go_sem]<;>simp
    · simp -dsimp only [go_sem]<;>simp
   | false=>
    rw [hc,aG] at h4
    rw [f8 hc]
    simp (maxSteps:=9^6) -dsimp only [go_sem]
    refine aB (f,false,a ++ [w],b ++ [v],y3) 8 ⟨g3.2,?_,?_,fun h=>(by cases h),h4⟩ (by simp) ?_ ?_
    · simp only [List.length_append,List.length_singleton]; omega
    · simp only [List.length_append,List.length_singleton]; omega
    · simp -dsimp only [go_sem]<;>simp
    · simp -dsimp only [go_sem]<;>simp
end Go.Proofs.YtgogpogophflhaaGreatDoor
namespace Go.Proofs.YtgogpogophflhaaGreatDoor
open Go.W
attribute [-go_sem] fU iB fC j0 gA
def FP (ts:List Tk) (z:Fs):Fs:=cA [58] ts (cO false ts (jK false ts z))
def GU (ts:List Tk) (z:Fs):Fs:=(oZ ts (FP ts z)).2
def pD (ts:List Tk) (z:Fs):Fl × Fs:=(⟨jM false ts z,dM false ts (jK false ts z),(oZ ts (FP ts z)).1,aX 4 [63] ts (GU ts z)⟩,cA [59] ts (bK 4 [63] ts (GU ts z)))
def nR (ts:List Tk):Nat->List Fl->Fs->List Fl × Fs
 | 0,l,z=>(l,z)
 | f + 1,l,z=>bif z.bad then (l,z) else bif aX 4 [125] ts z then (l,bK 4 [125] ts z) else bif (bB ts z.n).k != 2 then (l,fG ts z) else nR ts f (l ++ [(pD ts z).1]) (pD ts z).2
theorem mZ (ts:List Tk) (f:Nat) (l:List Fl) (z:Fs):nR ts (f + 1) l z=bif z.bad then (l,z) else bif aX 4 [125] ts z then (l,bK 4 [125] ts z) else bif (bB ts z.n).k != 2 then (l,fG ts z) else nR ts f (l ++ [(pD ts z).1]) (pD ts z).2:=rfl
def jF (ts:List Tk) (z:Fs):St × Fs:=(⟨dM true ts z,(nR ts (ts.length + 1) [] (cA [123] ts (cO true ts z))).1⟩,(nR ts (ts.length + 1) [] (cA [123] ts (cO true ts z))).2)
theorem U3 {c:Bool} {ts:List Tk} {z:Fs} (he:Ends ts) (hn:z.n < ts.length) (h:mA c ts z=true):cP ts z.n=z.n + 1/\z.n + 1 < ts.length/\z.bad=false:=by
 unfold mA at h
 rw [Bool.and_eq_true,Bool.and_eq_true] at h
 obtain ⟨h1,h2,_⟩:=h
 have hb:z.bad=false:=by cases hb:z.bad with
  | false=>rfl
  | true=>rw [hb] at h1; cases h1
 have hne:¬ (z.n + 1=ts.length):=fun e=>by
  have:=(he.last _ _ (lB hn)).2 e
  rw [eq_of_beq h2] at this; cases this
 have hlt:z.n + 1 < ts.length:=by omega
 exact ⟨if_pos hlt,hlt,hb⟩
theorem JJ {ts:List Tk} {z:Fs} (h:z.n < ts.length):(jK false ts z).n<=(pD ts z).2.n/\(pD ts z).2.n < ts.length:=by
 have h1:=n5 (c:=false) h
 have h2:=fM (c:=false) h1.2
 have h3:=dC (w:=[58]) h2.2
 have h4:=PB h3.2
 have h5:=fW (k:=4) (w:=[63]) h4.2
 have h6:=dC (w:=[59]) h5.2
 unfold pD GU FP
 simp only
 omega
theorem NY {ts:List Tk}:∀ (f:Nat) (l:List Fl) (z:Fs),z.n < ts.length->z.n<=(nR ts f l z).2.n/\(nR ts f l z).2.n < ts.length
 | 0,l,z,h=>⟨Nat.le_refl _,h⟩
 | f + 1,l,z,h=>by
  rw [mZ]
  cases z.bad
  · cases aX 4 [125] ts z
    · cases (bB ts z.n).k != 2
      · have h1:=JJ h
        have h0:=n5 (c:=false) h
        have h3:=NY f (l ++ [(pD ts z).1]) _ h1.2
        rw [aG,aG,aG]
        omega
      · rw [aM,aG,aG,j8]; exact ⟨Nat.le_refl _,h⟩
    · exact fW h
  · exact ⟨Nat.le_refl _,h⟩
theorem O8 {ts:List Tk} {z:Fs} (h:z.n < ts.length):z.n<=(jF ts z).2.n/\(jF ts z).2.n < ts.length:=by
 have h1:=fM (c:=true) h
 have h2:=dC (w:=[123]) h1.2
 have h3:=NY (ts.length + 1) [] _ h2.2
 unfold jF
 simp only
 omega
def IX:W.Spec:=nC [] (fun ts z=>.va (.gs (aJ (jF ts z).1))) fun ts z=>(jF ts z).2
theorem UB {o:Po} {ts:List Tk} {z:Fs} {K:S->Hp->Prop} (h1:Tks ts) (h2:z.n < ts.length) (hK:K (.va (.gs (aJ (jF ts z).1))) (pH o ts (jF ts z).2)):IX [.va (.c1 (.pt 0 0))] (pH o ts z) K:=jJ (V:=fun ts z=>.va (.gs (aJ (jF ts z).1))) (F:=fun ts z=>(jF ts z).2) h1 h2 hK
theorem MC:Meets Tryz.prog 40 IX:=by
 refine aI Tryz.func40 aBG 1 (by rw [Tryz.ntmps40]; decide) (aD B6 (aD v6 (aD xK (aD O6 (aD qG (aD oX (aD TZ (aC _)))))))) (fun av H K h=>by obtain ⟨_,_,_,rfl,_⟩:=h; rfl) ?_
 rintro av H K ⟨o,ts,z0,rfl,rfl,ht,hn0,hK⟩
 have hK:K (.va (.gs (aJ (jF ts z0).1))) (pH o ts (jF ts z0).2):=hK
 have hle:=ht.e.le
 unfold jF at hK
 simp (maxSteps:=9^6) -dsimp only [go_sem,XG,JG]
 refine m4 ht hn0 ?_
 have hn1:=(fM (c:=true) hn0).2
 simp only at hK
 generalize dM true ts z0=nm at *
 generalize cO true ts z0=z1 at *
 simp (maxSteps:=9^6) -dsimp only [go_sem]
 refine gX ht hn1 ?_
 rw [show bl (mk [123])=[123] from rfl]
 have hn2:=(dC (w:=[123]) hn1).2
 generalize cA [123] ts z1=z2 at *
 simp (maxSteps:=9^6) -dsimp only [go_sem]
 refine cQ (α:=Nat × List Fl × Fs) (fun x=>[(0,.va (.c1 (.pt 0 0))),(2,.va (.c1 (.pt 4 0))),(3,.va (.c1 (.pt 5 0)))])
  (fun x=>[pB o x.2.2.bad x.2.2.off,fQ 123 ts x.2.2.n,.row o.es 62 3,.row o.ss 56 2,.cells [.vl (.string (mk [])),.vl (.slice none 0 0)] 56,.cells [.vl (.string nm),.sl 6 x.2.1.length] 56,.row (x.2.1.map bD) 64 7])
  (fun x=>x.2.2.n < ts.length/\x.2.1.length + x.1<=ts.length + 1/\ts.length < x.2.2.n + x.1/\nR ts x.1 x.2.1 x.2.2=nR ts (ts.length + 1) [] z2)
  (fun x=>x.1) (.nilc 5 1 64 7 _ _ rfl rfl (iO (ts.length + 1,[],z2) 7 ⟨hn2,by simp,by simp only; omega,rfl⟩ ?_ ?_)) ?_
 · simp -dsimp only [go_sem]<;>simp
 · simp -dsimp only [go_sem]<;>simp
 rintro ⟨f,l,z⟩ ⟨h1,h2,h3,h4⟩
 simp only at h1 h2 h3 h4
 obtain ⟨f,rfl⟩:∃ g,f=g + 1:=⟨f - 1,by omega⟩
 rw [mZ] at h4
 have fin:∀ z',nR ts (ts.length + 1) [] z2=(l,z')->vc [(83,Entry.s tB),(37,Entry.s mS),(36,Entry.s m9),(84,Entry.s wM),(38,Entry.s (fU 123)),(35,Entry.s pF),(55,Entry.s (IW oZ))] 4 pc40_12.ungh
  (eL [(0,.va (.c1 (.pt 0 0))),(2,.va (.c1 (.pt 4 0))),(3,.va (.c1 (.pt 5 0)))]) [pB o z'.bad z'.off,fQ 123 ts z'.n,.row o.es 62 3,.row o.ss 56 2,.cells [.vl (.string (mk [])),.vl (.slice none 0 0)] 56,.cells [.vl (.string nm),.sl 6 l.length] 56,.row (l.map bD) 64 7] (gW 4 JG K):=fun z' e=>by
  rw [e] at hK
  simp (maxSteps:=9^6) -dsimp only [go_sem,pc40_12,JG]
  refine .pub 6 _ _ _ rfl (.sel [0,1,2,3] (by simp) (by simp [dA]) rfl (.done ?_))
  simp (maxSteps:=9^6) -dsimp only [go_sem,dA]
  exact hK
 obtain ⟨bb,oo,n⟩:=z
 cases bb with
 | true=>
  rw [aM] at h4
  simp (maxSteps:=9^6) -dsimp only [go_sem]
  refine dW 7 (fin _ h4.symm) ?_ ?_
  · simp -dsimp only [go_sem]<;>simp
  · simp -dsimp only [go_sem]<;>simp
 | false=>
 rw [aG] at h4
 simp (maxSteps:=9^6) -dsimp only [go_sem]
 refine yL (z:=⟨false,oo,n⟩) ht h1 ?_
 rw [show bl (mk [125])=[125] from rfl]
 cases hh:aX 4 [125] ts ⟨false,oo,n⟩ with
 | true=>
  rw [hh,aM] at h4
  simp (maxSteps:=9^6) -dsimp only [go_sem]
  refine dW 7 (fin _ h4.symm) ?_ ?_
  · simp -dsimp only [go_sem]<;>simp
  · simp -dsimp only [go_sem]<;>simp
 | false=>
 rw [hh,aG] at h4
 rw [f8 hh]
 simp (maxSteps:=9^6) -dsimp only [go_sem]
 refine bL rfl (.done ?_)
 simp (maxSteps:=9^6) -dsimp only [go_sem,DK]
 refine mW ht.e h1 ?_
 simp only at h4
 cases hk:(bB ts n).k != 2 with
 | true=>
  rw [hk,aM] at h4
  simp (maxSteps:=9^6) -dsimp only [go_sem,kU,hk]
  refine jW (z:=⟨false,oo,n⟩) ht h1 ?_
  simp (maxSteps:=9^6) -dsimp only [go_sem]
  refine dW 7 (fin _ h4.symm) ?_ ?_
  · simp -dsimp only [go_sem]<;>simp
  · simp -dsimp only [go_sem]<;>simp
 | false=>
 rw [hk,aG] at h4
 clear fin
 simp (maxSteps:=9^6) -dsimp only [go_sem,kU,hk]
 refine bL rfl (.done ?_)
 simp (maxSteps:=9^6) -dsimp only [go_sem,EU]
 have hnu:mA false ts ⟨false,oo,n⟩=true:=by unfold mA; rw [bne_eq_false_iff_eq] at hk; simp [hk]
 obtain ⟨q1,q2,_⟩:=U3 ht.e h1 hnu
 have q1:cP ts n=n + 1:=q1
 have hz1:jK false ts ⟨false,oo,n⟩=⟨false,oo,n + 1⟩:=by unfold jK; rw [hnu]; simp [q1]
 have hgo:=JJ h1
 rw [hz1] at hgo
 simp only at hgo
 unfold pD GU FP at h4 hgo
 rw [hz1] at h4 hgo
 refine tR (z:=⟨false,oo,n⟩) ht h1 ?_
 rw [hz1]
 generalize jM false ts ⟨false,oo,n⟩=v at *
 simp (maxSteps:=9^6) -dsimp only [go_sem]
 refine m4 (z:=⟨false,oo,n + 1⟩) ht q2 ?_
 have g1:=fM (c:=false) (z:=⟨false,oo,n + 1⟩) q2
 generalize dM false ts ⟨false,oo,n + 1⟩=w at *
 generalize cO false ts ⟨false,oo,n + 1⟩=y1 at *
 simp (maxSteps:=9^6) -dsimp only [go_sem]
 refine bL rfl (.done ?_)
 simp (maxSteps:=9^6) -dsimp only [go_sem,EK]
 refine gX ht g1.2 ?_
 rw [show bl (mk [58])=[58] from rfl]
 have g2:=dC (w:=[58]) g1.2
 generalize cA [58] ts y1=y2 at *
 simp (maxSteps:=9^6) -dsimp only [go_sem]
 refine bL rfl (.done ?_)
 simp (maxSteps:=9^6) -dsimp only [go_sem,D1]
 refine LQ ht g2.2 ?_
 have g3:=PB g2.2
 generalize oZ ts y2=r at *
 obtain ⟨t,y3⟩:=r
 simp only at h4 hgo g3 ⊢
 simp (maxSteps:=9^6) -dsimp only [go_sem,bX t]
 refine bL rfl (.done ?_)
 simp (maxSteps:=9^6) -dsimp only [go_sem,CQ]
 refine yL ht g3.2 ?_
 rw [show bl (mk [63])=[63] from rfl]
 have g4:=fW (k:=4) (w:=[63]) g3.2
 generalize aX 4 [63] ts y3=op at *
 generalize bK 4 [63] ts y3=y4 at *
 simp (maxSteps:=9^6) -dsimp only [go_sem]
 refine bL rfl (.done ?_)
 simp (maxSteps:=9^6) -dsimp only [go_sem,zG]
 refine gX ht g4.2 ?_
 rw [show bl (mk [59])=[59] from rfl]
 have g5:=dC (w:=[59]) g4.2
 generalize cA [59] ts y4=y5 at *
 simp (maxSteps:=9^6) -dsimp only [go_sem]
 refine bL rfl (.done ?_)
 simp (maxSteps:=9^6) -dsimp only [go_sem,yR]
 refine ⟨by omega,aB (f,l ++ [⟨v,w,t,op⟩],y5) 7 ⟨g5.2,?_,?_,h4⟩ (by simp) ?_ ?_⟩
 · simp only [List.length_append,List.length_singleton]; omega
 · simp only at g1 h3 ⊢; omega
 · simp -dsimp only [go_sem]<;>simp
 · simp -dsimp only [go_sem,bD]<;>simp
end Go.Proofs.YtgogpogophflhaaGreatDoor
namespace Go.W
open Go.RowKit
structure Stay (w w':World):Prop where
 os:w'.os=w.os
 out:w'.output=w.output
 size:w.heap.size<=w'.heap.size
 keep:∀ b:Nat,b < w.heap.size->w'.heap[b]? = w.heap[b]?
theorem Stay.kept {w w':World} (h:Stay w w') (may:MemPlace->Prop):w.keptBut w' may:=by
 refine ⟨h.os,h.out,fun i hi=>?_⟩
 rw [h.keep i hi]
 split
 · rename_i h1 h2; rw [h1] at h2; cases h2; exact ⟨rfl,rfl,rfl,fun _ _=>rfl⟩
 · rename_i h1 h2; rw [h1] at h2; cases h2; exact Or.inr ⟨rfl,rfl⟩
 · rfl
theorem Stay.frozen {w w':World} (h:Stay w w') {a:Addr} (ha:a.block < w.heap.size):w'.frozen? a=w.frozen? a:=by
 unfold World.frozen?; rw [h.keep _ ha]
theorem Stay.cell {w w':World} (h:Stay w w') {a:Addr} (ha:a.block < w.heap.size):w'.cell? a=w.cell? a:=by
 unfold World.cell?; rw [h.keep _ ha]
theorem SA {w:World} {ro:RO} (h:∀ (b off:Nat) (v:Value),ro b off=some v->w.cell? ⟨b,off,none⟩=some v) (hz:∀ b,ro.st b=0):Rel ⟨w,dQ [],ro,gm []⟩ [] ro w where
 own:=fun n g blk h=>by simp at h
 inj:=fun n m gn gm bn bm b h=>by simp at h
 apart:=fun b off v _ n g blk h=>by simp at h
 rd:=fun b off v hv=>⟨h b off v hv,fun q=>absurd (hz b) q⟩
 ro0:=fun _ _ _ h=>⟨h,rfl⟩
 rob:=fun b off v h=>.inl h
 par:=fun n b g blk h=>by simp at h
 gx:=.refl _
 sz:=Nat.le_refl _
 keep:=fun b _ _=>rfl
 os:=rfl
 tape:=rfl
 output:=rfl
theorem Meets.run {P:Program} {f:FuncId} {s:Fun} (hm:Meets P f s.sp) {av:List S} {vs:List Value} {ro:RO} {w:World} {x:A} (hpre:s.pre av) (hval:s.val av=x) (hl:av.length=vs.length)
 (hrel:∀ (i:Nat) (x:S) (v:Value),av[i]? = some x->vs[i]? = some v->x.rel (gm []) ro v) (hro:∀ (b off:Nat) (v:Value),ro b off=some v->w.cell? ⟨b,off,none⟩=some v) (hG:GR P ro w) (hz:∀ b,ro.st b=0:=by intro _; rfl) :
 Calls P f vs.toArray w fun e w'=>∃ v γ ro',e=.returned v/\S.rel γ ro' (.va x) v/\Stay w w':=by
 subst hval
 refine (hm.2 av vs [] ro w (fun r H=>r=.va (s.val av)/\H=[]) hl hrel (SA hro hz) ⟨⟨hpre,rfl⟩,rfl,rfl⟩ hG).mono ?_
 rintro e w' ⟨r,v,E',ro',rfl,h1,⟨rfl,h2⟩,h3⟩
 exact ⟨v,_,ro',rfl,h1,h3.os,h3.output,h3.sz,fun b hb=>h3.keep b hb (by simp [dQ])⟩
theorem Meets.yes {P:Program} {f:FuncId} {s:Fun} (hm:Meets P f s.sp) {av:List S} {vs:List Value} {ro:RO} {w:World} (hpre:s.pre av) (hval:s.val av=.c1 (.vl (.bool true))) (hl:av.length=vs.length)
 (hrel:∀ (i:Nat) (x:S) (v:Value),av[i]? = some x->vs[i]? = some v->x.rel (gm []) ro v) (hro:∀ (b off:Nat) (v:Value),ro b off=some v->w.cell? ⟨b,off,none⟩=some v) (hG:GR P ro w) (hz:∀ b,ro.st b=0:=by intro _; rfl) :
 Calls P f vs.toArray w fun e w'=>e=.returned (.bool true)/\Stay w w':=by
 refine (hm.run hpre hval hl hrel hro hG hz).mono ?_
 rintro e w' ⟨v,γ,ro',rfl,h1,h2⟩
 have:v=.bool true:=h1
 exact ⟨by rw [this],h2⟩
section
variable {H:Type} {enc:TypeId × Value->H} {P:Program}
theorem C4 {f:Func} {s:ChangeSpec} {apart fresh handsOn again:Bool} {W W':World} {args:Array Value} {v:Value} {ds gs:List (DataW H)} {before pa pv:List MemPlace}
 (hW:DataW.Whole enc P f.params.toList s.vars apart W args.toList ds gs before)
 (hres:∀ (b:Nat) (sp:Nat->Bool) (hd:Bool),DataW.TrodAll enc P W' b sp hd f.resultTypes.toList (v.resultList f.resultTypes.size) (s.fn H (ds ++ gs)).results [])
 (hargs:∀ sp:Nat->Bool,(∀ p ∈ before,sp p.block=true)->DataW.TrodAll enc P W' 0 sp true f.params.toList args.toList (s.fn H (ds ++ gs)).args pa)
 (hvars:∀ sp:Nat->Bool,(∀ p ∈ before,sp p.block=true)->DataW.TrodVars enc P W' sp s.vars (s.fn H (ds ++ gs)).vars pv)
 (hps:before=pa ++ pv) (hs:Stay W W')
 (hok:∀ (j:Nat) (t:TypeId) (r:Value),f.resultTypes[j]? = some t->(v.resultList f.resultTypes.size)[j]? = some r->Value.okWide P W' .any 0 t r) :
 s.post enc P f apart fresh handsOn again W args v W':=by
 have hlt:∀ p ∈ before,p.block < W.heap.size:=fun p hp=>hW.lt p hp
 have hsp:∀ p ∈ before,(fun b=>decide (b < W.heap.size)) p.block=true:=fun p hp=>by simpa using hlt p hp
 have hall:∀ p ∈ before,(fun _:Nat=>true) p.block=true:=fun _ _=>rfl
 obtain ⟨_,_,_,_,_,hz,hn⟩:=id hW
 refine ⟨ds,gs,before,[],pa,pv,hW,hres _ _ _,hargs _ hsp,hvars _ hsp,World.keptBut_mono (fun p hp=>⟨hp,.inr ?_⟩) (hs.kept (· ∈ before)),fun _=>⟨hok,_,_,([] ++ pa) ++ pv,
  ⟨[] ++ pa,pv,ChangeShapes.trodAll_append (hargs _ hall) (hres _ _ _),hvars _ hall,rfl,fun b off hp=>?_,fun ha=>?_⟩,fun p hp _=>?_⟩⟩
 · rw [hps,List.mem_append] at hp; exact hp
 · have hb:MemPlace.cell b off ∈ before:=by rw [hps]; simpa using hp
   rw [hs.frozen (hlt _ hb)]
   exact hz b off hb
 · have:=hn ha
   rw [hps] at this
   simpa using this
 · rw [hps]
   simpa using hp
end
def rB:Nat->Code->Option (Code × Code)
 | 0,.seq x y=>some (x,y)
 | n + 1,.seq _ y=>rB n y
 | _,_=>none
def tD:Nat->PC->Option (PC × PC)
 | 0,.seq _ y=>some (.skip,y)
 | n + 1,.seq x y=>(tD n y).map fun t=>(.seq x t.1,t.2)
 | _,_=>none
def rR (Mid:Fr->Hp->Prop) (K:Ex->Fr->Hp->Prop):Ex->Fr->Hp->Prop
 | .n,fr,H=>Mid fr H
 | ex,fr,H=>K ex fr H
section
variable {P:Program} {N:Nat} {nw:Bool} {X:Ctx} {Γ:dH}
theorem JS {h:Hint} {x y:Code} {pc:PC} (hpc:tr P nw N h (.seq x y)=some pc):∃ px py,tr P nw N h x=some px/\tr P nw N h y=some py/\pc=.seq px py:=by
 simp only [tr] at hpc
 split at hpc
 · rename_i px py hx hy; exact ⟨px,py,hx,hy,(bJ hpc).symm⟩
 · cases hpc
theorem CN (hm:MeetsIn P X Γ) {h:Hint} {k0:Nat} (hk0:X.g0.length=k0) {K:Ex->Fr->Hp->Prop} {Mid:Fr->Hp->Prop} {Q:Exit->Act->World->Prop}
 (hQ:∀ ex fr' E' ro' a' w',ex ≠ .n->K ex fr' (hp E')->FRel N (gm E') ro' fr' a'->Rel X E' ro' w'->Q ex.to a' w') :
 ∀ (n:Nat) (c:Code) (pc pre post:PC) (r c2:Code),tr P nw N h c=some pc->rB n c=some (r,c2)->tD n pc=some (pre,post)->
 tr P nw N h c2=some post/\∀ (fr:Fr) (E:Es) (ro:RO) (a:Act) (w:World),FRel N (gm E) ro fr a->Rel X E ro w->vc Γ k0 pre fr (hp E) (rR Mid K)->
  (∀ fr' E' ro' a' w',Mid fr' (hp E')->FRel N (gm E') ro' fr' a'->Rel X E' ro' w'->r.wp P (Exit.then (c2.wp P Q) Q) a' w')->c.wp P Q a w
 | 0,.seq x y,pc,pre,post,r,c2,hpc,hc,hp=>by
  obtain ⟨px,py,hx,hy,rfl⟩:=JS hpc
  simp only [rB,aF,Prod.mk.injEq] at hc
  simp only [tD,aF,Prod.mk.injEq] at hp
  obtain ⟨rfl,rfl⟩:=hc
  obtain ⟨rfl,rfl⟩:=hp
  refine ⟨hy,fun fr E ro a w hf hr hv hmid=>?_⟩
  simp only [vc] at hv
  exact wp_seq (hmid fr E ro a w hv hf hr)
 | n + 1,.seq x y,pc,pre,post,r,c2,hpc,hc,hp=>by
  obtain ⟨px,py,hx,hy,rfl⟩:=JS hpc
  simp only [rB] at hc
  simp only [tD,Option.map_eq_some_iff,Prod.mk.injEq] at hp
  obtain ⟨⟨t1,t2⟩,ht,rfl,rfl⟩:=hp
  obtain ⟨h1,h2⟩:=CN hm hk0 hQ n y py t1 t2 r c2 hy hc ht
  refine ⟨h1,fun fr E ro a w hf hr hv hmid=>?_⟩
  simp only [vc] at hv
  refine wp_seq (p7 hm hk0 x px hx fr E ro a w _ hf hr hv _ ?_)
  intro ex fr' E' ro' a' w' hK hf' hr'
  cases ex with
  | n=>exact h2 fr' E' ro' a' w' hf' hr' hK hmid
  | e id=>exact hQ (.e id) _ _ _ _ _ (by simp) hK hf' hr'
  | r=>exact hQ .r _ _ _ _ _ (by simp) hK hf' hr'
theorem Q7 {f:FuncId} {o1 o2:Oper} {VV:Array TypeId} {id s d:Nat} {a:Act} {w:World} {v:Value} {Q:Exit->Act->World->Prop} {R:Ending->World->Prop} (h1:o1.op=.move (.tmp s)) (g1:o1.guard=none) (d1:o1.dst=some d)
 (h2:o2.op=.call { callee:=.value (.func f),args:=#[.tmp d],argTypes:=VV }) (g2:o2.guard=none) (hs:a.tmps.getD s undef=v) (hd:d < a.tmps.size) (he:lZ P f=true)
 (hc:Calls P f #[v] w R) (hR:∀ e w',R e w'->∃ u,e=.returned u/\Q .normal ((a.put o1.dst v).put o2.dst u) w'):(Code.region id #[o1,o2] false).wp P Q a w:=by
 refine wp_region_list ?_
 simp only [wpList]
 rw [if_pos (dP g1 _)]
 refine .inl ?_
 have r1:(execOp a.eval o1).run P w=.ok (.value v) w:=by simp [execOp,h1,Act.eval,hs]
 unfold Oper.wp
 rw [r1,Oper.upon_value,if_pos (dP g2 _)]
 refine .inl ?_
 have hv:(a.put o1.dst v).tmps.getD d undef=v:=by
  simp only [Act.put,d1]
  rw [Array.getD_eq_getD_getElem?,Array.getElem?_setIfInBounds_self_of_lt hd]; rfl
 have he':=lX he #[v] w
 have r2:(execOp (a.put o1.dst v).eval o2).run P w=.ok (.enter f #[v]) w:=by
  simp [execOp,h2,resolve,Act.eval,hv,Deferred.ofValue,invoke,he']
 rw [r2,Oper.upon_enter]
 refine hc.mono fun e w' he=>?_
 obtain ⟨u,rfl,hq⟩:=hR e w' he
 exact hq
end
open Classical in
noncomputable def roG (P:Program) (ro:RO):RO:=⟨fun b off=>if off=0/\∃ x ∈ BT,P.globalNamed x.1=some b then ro b off else none,ro.st⟩
theorem HF (P:Program) (ro:RO):Ext (roG P ro) ro:=fun b off v h=>by
 simp only [roG] at h
 split at h
 · exact ⟨h,rfl⟩
 · cases h
theorem R8 {P:Program} {ro:RO} {b off:Nat} {v:Value} (h:roG P ro b off=some v):off=0:=by
 simp only [roG] at h
 split at h
 · rename_i hc; exact hc.1
 · cases h
theorem GR.roG {P:Program} {ro:RO} {w:World} (h:GR P ro w):GR P (roG P ro) w:=fun x hx g hg=>⟨by
 obtain ⟨v,hv⟩:=(h x hx g hg).1
 refine ⟨v,?_⟩
 exact (if_pos ⟨rfl,x,hx,hg⟩).trans hv,(h x hx g hg).2⟩
theorem Rel.nilRo {w:World} {ro ro1:RO} {pb:List Nat} (h:Rel ⟨w,pb,ro,[]⟩ [] ro w) (he:Ext ro1 ro):Rel ⟨w,[],ro1,[]⟩ [] ro1 w where
 own:=fun n g blk h=>by simp at h
 inj:=fun n m gn gm bn bm b h=>by simp at h
 apart:=fun b off v _ n g blk h=>by simp at h
 rd:=fun b off v hv=>by
  have h1:=he b off v hv
  rw [<-h1.2]
  exact h.rd b off v h1.1
 ro0:=.refl _
 rob:=fun b off v h=>.inl h
 par:=fun n b g blk h=>by simp at h
 gx:=.refl _
 sz:=Nat.le_refl _
 keep:=fun b _ _=>rfl
 os:=rfl
 tape:=rfl
 output:=rfl
def AR (w:World) (ro ro':RO):RO:=⟨fun b off=>if b < w.heap.size then ro b off else ro' b off,fun b=>if b < w.heap.size then ro.st b else ro'.st b⟩
theorem Rel.widen {w w':World} {ro ro1 ro':RO} {E':Es} (h:Rel ⟨w,[],ro,[]⟩ [] ro w) (he:Ext ro1 ro) (k:Rel ⟨w,[],ro1,[]⟩ E' ro' w'):Ext ro' (AR w ro ro')/\Rel ⟨w,[],ro,[]⟩ E' (AR w ro ro') w':=by
 have hx:Ext ro' (AR w ro ro'):=fun b off v hv=>by
  simp only [AR]
  rcases k.rob b off v hv with h1 | ⟨h1 | h1,_⟩
  · have h2:=he b off v h1
    have hlt:=h.cell_lt h2.1
    rw [if_pos hlt,if_pos hlt]
    exact ⟨h2.1,h2.2.trans (k.ro0 b off v h1).2.symm⟩
  · have hlt:¬ b < w.heap.size:=Nat.not_lt.2 h1
    rw [if_neg hlt,if_neg hlt]; exact ⟨hv,rfl⟩
  · cases h1
 have hpar:∀ (n b:Nat) (g:Gb) (blk:B),E'[n]? = some (g,blk)->g.ob=some b->blk.live=true->¬ b < w.heap.size:=fun n b g blk h1 h2 h3=>by
  rcases k.par n b g blk h1 h2 h3 with q | q
  · exact Nat.not_lt.2 q
  · cases q
 refine ⟨hx,⟨fun n g blk hn=>?_,k.inj,fun b off v hv n g blk hn hb=>?_,fun b off v hv=>?_,fun b off v hv=>?_,fun b off v hv=>?_,k.par,k.gx,k.sz,k.keep,k.os,k.tape,k.output⟩⟩
 · by_cases hl:blk.live=true
   · exact (k.own n g blk hn).same (.refl _) hx fun _ _=>rfl
   · cases blk<;>simp [B.live] at hl; trivial
 · by_cases hl:blk.live=true
   · have hlt:=hpar n b g blk hn hb hl
     simp only [AR] at hv
     rw [if_neg hlt] at hv
     exact k.apart b off v hv n g blk hn hb
   · simpa using hl
 · simp only [AR] at hv ⊢
   split at hv
   · rename_i hlt
     rw [if_pos hlt]
     exact (h.rd b off v hv).same (k.keep b hlt (by simp))
   · rename_i hlt
     rw [if_neg hlt]
     exact k.rd b off v hv
 · have hlt:=h.cell_lt hv
   simp only [AR]
   rw [if_pos hlt,if_pos hlt]; exact ⟨hv,rfl⟩
 · simp only [AR] at hv ⊢
   split at hv
   · exact .inl hv
   · rename_i hlt
     rw [if_neg hlt]
     rcases k.rob b off v hv with h1 | ⟨_,h2⟩
     · exact absurd (h.cell_lt (he b off v h1).1) hlt
     · exact .inr ⟨.inl (Nat.not_lt.1 hlt),h2⟩
theorem LH {P:Program} {nw:Bool} {Γ:dH} {f:FuncId} {fn:Func} {c r c2:Code} {n:Nat} {pc pre post:PC} {rs:List RV} {h:Hint} (hf:P.funcs[f]? = some fn) (hb:fn.body=some c) (hpc:aY P nw h fn=some (pc,rs))
 (hcut:rB n c=some (r,c2)) (hcp:tD n pc=some (pre,post)) (hm:gG P Γ) {s:Spec} (hlen:∀ az H K,s az H K->az.length<=fn.ntmps) (hH:∀ az H K,s az H K->H=[]/\∀ x ∈ az,∃ v,x=.va (.c1 (.vl v)))
 {Mid:(S->Hp->Prop)->Fr->Hp->Prop} (hs:∀ az K,s az [] K->vc Γ 0 pre (tU az) [] (rR (Mid K) (gW 0 rs K)))
 (hr:∀ (K:S->Hp->Prop) (w0:World) (ro0:RO) (fr:Fr) (E:Es) (ro:RO) (a:Act) (w:World),(∀ b off v,ro0 b off=some v->off=0/\b < w0.heap.size)->Mid K fr (hp E)->FRel fn.ntmps (gm E) ro fr a->Rel ⟨w0,[],ro0,[]⟩ E ro w->GR P ro w->
   ∀ Q:Exit->Act->World->Prop,(∀ fr' E' ro' a' w',vc Γ 0 post fr' (hp E') (gW 0 rs K)->FRel fn.ntmps (gm E') ro' fr' a'->Rel ⟨w0,[],ro0,[]⟩ E' ro' w'->Q .normal a' w')->r.wp P Q a w):Meets P f s:=by
 unfold aY at hpc
 split at hpc
 · cases hpc
 rename_i hnm
 rw [hb] at hpc
 simp only at hpc
 obtain ⟨hpc,hrs⟩:tr P nw fn.ntmps h c=some pc/\nQ P fn.results.toList=some rs:=by
  cases h1:tr P nw fn.ntmps h c with
  | none=>rw [h1] at hpc; cases hpc
  | some p1=>
   cases h2:nQ P fn.results.toList with
   | none=>rw [h1,h2] at hpc; cases hpc
   | some r1=>
    rw [h1,h2] at hpc
    simp only [aF,Prod.mk.injEq] at hpc
    exact ⟨congrArg some hpc.1,congrArg some hpc.2⟩
 refine ⟨by simp [lZ,hf,hb,hnm],?_⟩
 intro az vs E ro w K hl hrel hr0 hsp hG
 obtain ⟨hE,hflat⟩:=hH az (hp E) K hsp
 have hE0:E=[]:=by cases E with
  | nil=>rfl
  | cons x r=>simp [hp] at hE
 subst hE0
 have hlN:=hlen az _ K hsp
 have hG1:=hG.roG
 have hr1:Rel ⟨w,[],roG P ro,[]⟩ [] (roG P ro) w:=hr0.nilRo (HF P ro)
 refine calls_of_wp hf hb ?_
 have hfr:FRel fn.ntmps (gm []) (roG P ro) (tU az) { tmps:=vs.toArray ++ Array.replicate (fn.ntmps - vs.toArray.size) undef,defers:=[] }:=by
  refine ⟨by simp; omega,fun i=>?_,rfl⟩
  unfold tU
  rw [List.getD_eq_getElem?_getD]
  cases hi:az[i]? with
  | none=>trivial
  | some x=>
   have hlt:i < vs.length:=by rw [<-hl]; exact (a8.1 hi).1
   have hv:vs[i]? = some vs[i]:=aV hlt
   have:=hrel i x _ hi hv
   simp only [Option.getD_some]
   have he:(vs.toArray ++ Array.replicate (fn.ntmps - vs.toArray.size) undef).getD i undef=vs[i]:=by
    rw [Array.getD_eq_getD_getElem?,Array.getElem?_append_left (by simpa using hlt)]
    simp [hlt]
   simp only [he]
   obtain ⟨u,rfl⟩:=hflat x (bT hi)
   exact this
 have fin:∀ fr' E' ro' a' w',sM fr' (hp E') rs (fun l=>Fin 0 K (AD l).nf (hp E'))->FRel fn.ntmps (gm E') ro' fr' a'->Rel ⟨w,[],roG P ro,[]⟩ E' ro' w'->
  a'.defers=[]/\∃ v,(results fn a'.tmps).run P w'=.ok v w'/\∃ r v' E'' ro'',Ending.returned v=.returned v'/\S.rel (gm E'') ro'' r v'/\K r (hp E'')/\Rel ⟨w,dQ [],ro,gm []⟩ E'' ro'' w':=by
  intro fr' E' ro' a' w' h1 h4 h5
  obtain ⟨l,us,h3,hrun,hus⟩:=rF h4 h5 hrs h1
  refine ⟨h4.defers,(if h:us.toArray.size=1 then us.toArray[0] else .tuple us.toArray),?_,?_⟩
  · simp only [tY,Array.mapM_eq_mapM_toList,Sem.run_bind,Sem.run_map,hrun,Result.andThen_ok,Sem.run_pure]
  · have hrel:(AD l).rel (gm E') ro' (if h:us.toArray.size=1 then us.toArray[0] else .tuple us.toArray):=by
     match l,us,hus with
     | [],us,hus=>have:=hus.nil_inv; subst this; exact ⟨[],rfl,.nil⟩
     | [y],us,hus=>
      obtain ⟨u,m',rfl,hy,hm'⟩:=hus.cons_inv
      have:=hm'.nil_inv
      subst this
      exact hy
     | y :: z :: r,us,hus=>
      have:¬ us.toArray.size=1:=by have:=hus.1; simp at this ⊢; omega
      rw [dif_neg this]
      exact ⟨us,rfl,hus⟩
    obtain ⟨r',E'',ro'',hK,hr',hR⟩:=AW (X:=⟨w,[],roG P ro,[]⟩) rfl h3 rfl (S.rel_nf hrel) h5
    obtain ⟨g1,g2⟩:=hr0.widen (HF P ro) hR
    exact ⟨r',_,E'',_,rfl,S.rel_mono (.refl _) g1 hr',hK,g2⟩
 have hmI:MeetsIn P ⟨w,[],roG P ro,[]⟩ Γ:=⟨hG1,fun x hx g hg hb=>(by cases hb),hm⟩
 have hQ:∀ ex fr' E' ro' a' w',gW 0 rs K ex fr' (hp E')->FRel fn.ntmps (gm E') ro' fr' a'->Rel ⟨w,[],roG P ro,[]⟩ E' ro' w'->bodyPost P fn (fun e w'=>∃ r v E' ro',e=.returned v/\S.rel (gm E') ro' r v/\K r (hp E')/\Rel ⟨w,dQ [],ro,gm []⟩ E' ro' w') ex.to a' w':=by
  intro ex fr' E' ro' a' w' hK h4 h5
  cases ex with
  | n=>exact fin fr' E' ro' a' w' hK h4 h5
  | r=>exact fin fr' E' ro' a' w' hK h4 h5
  | e id=>exact hK.elim
 obtain ⟨q1,q2⟩:=CN hmI (X:=⟨w,[],roG P ro,[]⟩) rfl (K:=gW 0 rs K) (Mid:=Mid K) (Q:=bodyPost P fn _) (fun ex fr' E' ro' a' w' _ hK h4 h5=>hQ ex fr' E' ro' a' w' hK h4 h5) n c pc pre post r c2 hpc hcut hcp
 refine q2 _ [] _ _ _ hfr hr1 (hs az K hsp) fun fr' E' ro' a' w' h1 h2 h3=>?_
 refine hr K w (roG P ro) fr' E' ro' a' w' (fun b off v hv=>⟨R8 hv,hr1.cell_lt hv⟩) h1 h2 h3 (hmI.at h3) _ fun fr2 E2 ro2 a2 w2 k1 k2 k3=>?_
 exact p7 hmI (X:=⟨w,[],roG P ro,[]⟩) rfl c2 post q1 fr2 E2 ro2 a2 w2 _ k2 k3 k1 _ hQ
end Go.W
namespace Go.Proofs.YtgogpogophflhaaGreatDoor
open Go.W
theorem yE {ro:RO} {xs:List (List C)} {v:Value} (h:FzR ro xs v) {i sz:Nat} {r:List C} (hr:xs[i]? = some r) (hz:r.length=sz) (hs:0 < sz) :
 ∃ b off cap,v=.slice (some ⟨b,off,none⟩) xs.length cap/\(ro.st b=0\/(ro.st b=sz/\off % sz=0))/\∀ k c,r[k]? = some c->∃ u,ro b (off + i * sz + k)=some u/\c.fv ro u:=by
 obtain ⟨b,off,cap,rfl,h2⟩:=KO h hr hz
 refine ⟨b,off,cap,rfl,?_,h2⟩
 generalize hv:Value.slice (some ⟨b,off,none⟩) xs.length cap=v at h
 obtain ⟨_,sz',ob,oa,koa,cap',vs,k1,k2,k3,k4,k5,k6,k7,k8⟩:=h
 have hi:i < xs.length:=(a8.1 hr).1
 have hne:xs ≠ []:=fun e=>by subst e; simp at hi
 have hob:=k3 hne
 obtain rfl:=koa hne
 have hmem:=bT hr
 have hs':sz'=sz:=by rw [<-k1 r hmem,hz]
 subst hs'
 cases ob with
 | none=>simp at hob
 | some y=>
  simp only [qR,Option.map_some,Nat.add_zero,Value.slice.injEq,aF,Addr.mk.injEq] at hv
  obtain ⟨⟨rfl,rfl,_⟩,_,_⟩:=hv
  have hk:0 < r.length:=by omega
  have hfl:xs.flatten[i * sz' + 0]? = some r[0]:=by rw [hJ k1 hi hs,hr]; exact aV hk
  exact k8 _ _ hfl
theorem x6 {ro ro2:RO} {xs ys:List (List C)} {v:Value} (h:FzR ro xs v) (hl:ys.length=xs.length) (hst:ro2.st=ro.st)
 (hy:∀ (i:Nat) (x y:List C),xs[i]? = some x->ys[i]? = some y->y.length=x.length/\∀ b off cap,v=.slice (some ⟨b,off,none⟩) xs.length cap->(ro.st b=0\/(ro.st b=x.length/\off % x.length=0))->
   ∀ (j:Nat) (c c':C) (u:Value),x[j]? = some c->y[j]? = some c'->ro b (off + i * x.length + j)=some u->c.fv ro u->∃ u',ro2 b (off + i * x.length + j)=some u'/\c'.fv ro2 u'/\c'.shut=true):FzR ro2 ys v:=by
 have hrow:∀ (i:Nat) (x:List C),xs[i]? = some x->0 < x.length->∃ b off cap,v=.slice (some ⟨b,off,none⟩) xs.length cap/\(ro.st b=0\/(ro.st b=x.length/\off % x.length=0))/\∀ k c,x[k]? = some c->∃ u,ro b (off + i * x.length + k)=some u/\c.fv ro u:=
  fun i x hx hp=>yE h hx rfl hp
 generalize hv:v=v' at h
 obtain ⟨_,sz,ob,oa,koa,cap,vs,k1,k2,k3,k4,k5,k6,k7,k8⟩:=h
 subst hv
 have hz:∀ y ∈ ys,y.length=sz:=fun y hm=>by
  obtain ⟨i,hi⟩:=List.mem_iff_getElem?.1 hm
  have hlt:=(a8.1 hi).1
  have hx:xs[i]? = some xs[i]:=aV (by omega)
  rw [(hy i _ y hx hi).1]
  exact k1 _ (List.getElem_mem _)
 have hcell:∀ (k:Nat) (c':C),ys.flatten[k]? = some c'->∃ u,ro2 (ob.getD (0,0)).1 ((ob.getD (0,0)).2 + k)=some u/\c'.fv ro2 u/\c'.shut=true:=fun k c' hk=>by
  have hkl:k < ys.length * sz:=by
   have h1:=(a8.1 hk).1
   rwa [jY _ hz] at h1
  have hsz:0 < sz:=Nat.pos_of_ne_zero fun e=>by subst e; omega
  have hi:k / sz < ys.length:=(Nat.div_lt_iff_lt_mul hsz).2 hkl
  have hj:=Nat.mod_lt k hsz
  have hg:=hJ hz hi hj
  rw [Nat.mul_comm,Nat.div_add_mod,hk] at hg
  have hyi:ys[k / sz]? = some ys[k / sz]:=aV hi
  have hi':k / sz < xs.length:=by rw [<-hl]; exact hi
  have hxi:xs[k / sz]? = some xs[k / sz]:=aV hi'
  rw [hyi,Option.bind_some] at hg
  have hxl:(xs[k / sz]).length=sz:=k1 _ (List.getElem_mem _)
  obtain ⟨q1,q2⟩:=hy _ _ _ hxi hyi
  have hxp:0 < (xs[k / sz]).length:=by rw [hxl]; exact hsz
  obtain ⟨b,off,cp,e1,e2,e3⟩:=hrow _ _ hxi hxp
  have hjx:k % sz < (xs[k / sz]).length:=by rw [hxl]; exact hj
  have hxj:(xs[k / sz])[k % sz]? = some ((xs[k / sz])[k % sz]):=aV hjx
  obtain ⟨u,e4,e5⟩:=e3 _ _ hxj
  obtain ⟨u',f1,f2,f3⟩:=q2 b off cp e1 e2 _ _ _ u hxj hg.symm e4 e5
  have hne:xs ≠ []:=fun e=>by
   rw [e] at hi'
   exact Nat.not_lt_zero _ hi'
  have hob:=k3 hne
  have hoa:=koa hne
  cases ob with
  | none=>simp at hob
  | some y=>
   rw [hoa] at e1
   simp only [qR,Option.map_some,Nat.add_zero,Value.slice.injEq,aF,Addr.mk.injEq] at e1
   obtain ⟨⟨e6,e7,_⟩,_,_⟩:=e1
   refine ⟨u',?_,f2,f3⟩
   simp only [Option.getD_some]
   rw [hxl,Nat.add_assoc,Nat.mul_comm,Nat.div_add_mod] at f1
   rw [e6,e7]; exact f1
 rw [<-hl]
 refine .mk ys sz ob oa (fun hne=>koa fun e=>hne (List.eq_nil_of_length_eq_zero (by rw [hl,e]; rfl))) cap (fun k=>(ro2 (ob.getD (0,0)).1 ((ob.getD (0,0)).2 + k)).getD undef) hz (by rw [hl]; exact k2) (fun hne=>k3 fun e=>hne (List.eq_nil_of_length_eq_zero (by rw [hl,e]; rfl)))
  (fun k c hk=>?_) (fun k u hk=>?_) (fun k zs hk=>?_) (fun c hc=>?_) (fun k c hk=>?_)
 · obtain ⟨u,h1,_,_⟩:=hcell k c hk
   rw [h1]; rfl
 · obtain ⟨u',h1,h2,_⟩:=hcell k _ hk
   have h2:u'=u:=h2
   simp only [h1,Option.getD_some]; exact h2
 · obtain ⟨u',h1,h2,_⟩:=hcell k _ hk
   have h2:FzR ro2 zs u':=h2
   simp only [h1,Option.getD_some]; exact h2
 · obtain ⟨k,hk⟩:=List.mem_iff_getElem?.1 hc
   exact (hcell k c hk).choose_spec.2.2
 · rw [hst]
   have hkl:k < xs.flatten.length:=by
    have h1:=(a8.1 hk).1
    rw [jY _ hz] at h1
    rw [jY _ k1,<-hl]; exact h1
   exact k8 k _ (aV hkl)
structure TyAt (ro:RO) (b off:Nat) (t:Ty):Prop where
 k:ro b off=some (.int .i64 t.k)
 s:ro b (off + 1)=some (.int .i64 t.s)
 n:ro b (off + 2)=some (.string t.n)
 e:∃ v,ro b (off + 3)=some v/\FzR ro (t.e.map aP) v
 st:ro.st b=0\/(ro.st b=4/\off % 4=0)\/(ro.st b=7/\off % 7=2)
theorem JY {ro:RO} {l:List Ty} {v:Value} {i:Nat} {t:Ty} (h:FzR ro (l.map aP) v) (hi:l[i]? = some t):∃ b off cap,v=.slice (some ⟨b,off,none⟩) l.length cap/\TyAt ro b (off + i * 4) t:=by
 obtain ⟨b,off,cap,h1,h2,h3⟩:=yE h (i:=i) (sz:=4) (r:=aP t) (by rw [List.getElem?_map,hi]; rfl) (by rw [bX]; rfl) (by decide)
 rw [List.length_map] at h1
 rw [bX] at h3
 obtain ⟨u0,a0,b0⟩:=h3 0 _ rfl
 obtain ⟨u1,a1,b1⟩:=h3 1 _ rfl
 obtain ⟨u2,a2,b2⟩:=h3 2 _ rfl
 obtain ⟨u3,a3,b3⟩:=h3 3 _ rfl
 have b0:u0=_:=b0
 have b1:u1=_:=b1
 have b2:u2=_:=b2
 subst b0 b1 b2
 refine ⟨b,off,cap,h1,a0,a1,a2,⟨u3,a3,b3⟩,?_⟩
 rcases h2 with h2 | ⟨h2,h4⟩
 · exact .inl h2
 · exact .inr (.inl ⟨h2,by omega⟩)
theorem VH {ro:RO} {l:List Fl} {v:Value} {i:Nat} {f:Fl} (h:FzR ro (l.map bD) v) (hi:l[i]? = some f):∃ b off cap,v=.slice (some ⟨b,off,none⟩) l.length cap/\TyAt ro b (off + i * 7 + 2) f.ty:=by
 obtain ⟨b,off,cap,h1,h2,h3⟩:=yE h (i:=i) (sz:=7) (r:=bD f) (by rw [List.getElem?_map,hi]; rfl) rfl (by decide)
 rw [List.length_map] at h1
 obtain ⟨u0,a0,b0⟩:=h3 2 _ rfl
 obtain ⟨u1,a1,b1⟩:=h3 3 _ rfl
 obtain ⟨u2,a2,b2⟩:=h3 4 _ rfl
 obtain ⟨u3,a3,b3⟩:=h3 5 _ rfl
 have b0:u0=_:=b0
 have b1:u1=_:=b1
 have b2:u2=_:=b2
 subst b0 b1 b2
 refine ⟨b,off,cap,h1,a0,a1,a2,⟨u3,a3,b3⟩,?_⟩
 rcases h2 with h2 | ⟨h2,h4⟩
 · exact .inl h2
 · exact .inr (.inr ⟨h2,by omega⟩)
def rG (ns:List ByteArray) (n:ByteArray):Bool:=ns.any fun m=>decide (m=n)
mutual
def jN (ns:List ByteArray):Ty->Ty
 | .mk k s n e=>bif k == 5 then .mk k s n (zK ns e) else bif k == 6 && rG ns n then .mk 7 s n e else .mk k s n e
def zK (ns:List ByteArray):List Ty->List Ty
 | []=>[]
 | t :: r=>jN ns t :: zK ns r
end
def JC (ns:List ByteArray) (f:Fl):Fl:=⟨f.num,f.nm,jN ns f.ty,f.opt⟩
def oM (ns:List ByteArray) (s:St):St:=⟨s.nm,s.fs.map (JC ns)⟩
def A0 (d:List Int) (t0 t:Ty):Prop:=t=cT d t0/\t0.k ≠ 5/\t0.e=[]
theorem uO {ns:List ByteArray} {t0:Ty}:∀ d:List Int,jN ns (cT d t0)=cT d (jN ns t0)
 | []=>rfl
 | s :: d=>by
  show jN ns (.mk 5 s (mk []) [cT d t0])=.mk 5 s (mk []) [cT d (jN ns t0)]
  rw [jN,zK,zK,uO d]; rfl
theorem C5 {ns:List ByteArray} {t:Ty} (h:t.k ≠ 5):jN ns t=bif t.k == 6 && rG ns t.n then .mk 7 t.s t.n t.e else t:=by
 cases t with
 | mk k s n e=>
  have h:k ≠ 5:=h
  rw [jN,beq_eq_false_iff_ne.2 h]; rfl
def InA (ro:RO) (t0:Ty):List Int->Nat->Nat->Nat->Nat->Prop
 | [],b,off,b',o'=>(b=b'/\off=o')/\TyAt ro b off t0
 | s :: d,b,off,b',o'=>TyAt ro b off (cT (s :: d) t0)/\∃ b1 o1 cap,ro b (off + 3)=some (.slice (some ⟨b1,o1,none⟩) 1 cap)/\InA ro t0 d b1 o1 b' o'
theorem CX {ro:RO} {t0:Ty}:∀ (d:List Int) (b off:Nat),TyAt ro b off (cT d t0)->∃ b' o',InA ro t0 d b off b' o'
 | [],b,off,h=>⟨b,off,⟨rfl,rfl⟩,h⟩
 | s :: d,b,off,h=>by
  obtain ⟨v,h1,h2⟩:=h.e
  have h2:FzR ro ([cT d t0].map aP) v:=h2
  obtain ⟨b1,o1,cap,rfl,h3⟩:=JY h2 (i:=0) rfl
  obtain ⟨b',o',h4⟩:=CX d b1 (o1 + 0 * 4) h3
  rw [Nat.zero_mul,Nat.add_zero] at h4
  exact ⟨b',o',h,b1,o1,cap,h1,h4⟩
theorem InA.at {ro:RO} {t0:Ty}:∀ {d:List Int} {b off b' o':Nat},InA ro t0 d b off b' o'->TyAt ro b' o' t0
 | [],b,off,b',o',⟨⟨h1,h2⟩,h⟩=>by subst h1 h2; exact h
 | s :: d,b,off,b',o',⟨_,b1,o1,cap,_,h⟩=>h.at
theorem InA.fst {ro:RO} {t0:Ty}:∀ {d:List Int} {b off b' o':Nat},InA ro t0 d b off b' o'->TyAt ro b off (cT d t0)
 | [],b,off,b',o',⟨⟨h1,h2⟩,h⟩=>h
 | s :: d,b,off,b',o',⟨h,_⟩=>h
theorem InA.uniq {ro:RO} {t0:Ty}:∀ {d:List Int} {b off b' o' b2 o2:Nat},InA ro t0 d b off b' o'->InA ro t0 d b off b2 o2->b'=b2/\o'=o2
 | [],b,off,b',o',b2,o2,⟨⟨h1,h2⟩,_⟩,⟨⟨h3,h4⟩,_⟩=>⟨h1.symm.trans h3,h2.symm.trans h4⟩
 | s :: d,b,off,b',o',b2,o2,⟨_,b1,o1,cap,e1,h⟩,⟨_,b3,o3,cap3,e2,h2⟩=>by
  rw [e1] at e2
  simp only [aF,Value.slice.injEq,Addr.mk.injEq] at e2
  obtain ⟨⟨rfl,rfl,_⟩,_,_⟩:=e2
  exact h.uniq h2
def kK (ns:List ByteArray) (ro:RO) (a:Nat × Nat):Prop:=
 ro a.1 a.2=some (.int .i64 6)/\(∃ m ∈ ns,ro a.1 (a.2 + 2)=some (.string m))/\((ro.st a.1=4/\a.2 % 4=0)\/(ro.st a.1=7/\a.2 % 7=2))
def n4 (L:List (Nat × Nat)) (ro:RO):RO:=⟨fun b off=>if (b,off) ∈ L then some (.int .i64 7) else ro b off,ro.st⟩
theorem d8 {L:List (Nat × Nat)} {ro:RO} {b off:Nat} (h:(b,off) ∉ L):n4 L ro b off=ro b off:=if_neg h
theorem JN {L:List (Nat × Nat)} {ro:RO} {b off:Nat} (h:(b,off) ∈ L):n4 L ro b off=some (.int .i64 7):=if_pos h
section
variable {ns:List ByteArray} {ro:RO} {L:List (Nat × Nat)}
theorem DV {n:ByteArray}:rG ns n=true ↔ n ∈ ns:=by
 unfold rG
 rw [List.any_eq_true]
 constructor
 · rintro ⟨m,h1,h2⟩
   rw [<-of_decide_eq_true h2]; exact h1
 · exact fun h=>⟨n,h,decide_eq_true rfl⟩
theorem GG {xs:List (List C)} {v:Value} (hL:∀ a ∈ L,kK ns ro a) (h:FzR ro xs v) (hz:∀ x ∈ xs,x.length=1) (hv:∀ x ∈ xs,∀ c ∈ x,∃ u,c=.vl u):FzR (n4 L ro) xs v:=by
 refine x6 h rfl rfl fun i x y hx hy=>?_
 rw [hx] at hy
 obtain rfl:=bJ hy
 refine ⟨rfl,fun b off cap _ hst j c c' u h1 h2 h3 h4=>?_⟩
 rw [h1] at h2
 obtain rfl:=bJ h2
 have hxm:=bT hx
 obtain ⟨w,rfl⟩:=hv x hxm c (bT h1)
 refine ⟨u,?_,h4,rfl⟩
 rw [d8 fun hin=>?_]
 · exact h3
 · have:=(hL _ hin).2.2
   rw [hz x hxm] at hst
   simp only at this
   omega
theorem FL {v:Value} (h:FzR ro [] v):FzR (n4 L ro) [] v:=x6 h rfl rfl fun i x y hx=>by simp at hx
structure Ty4 (ro:RO) (b off:Nat) (t:Ty):Prop where
 k:ro b off=some (.int .i64 t.k)
 s:ro b (off + 1)=some (.int .i64 t.s)
 n:ro b (off + 2)=some (.string t.n)
 e:∃ v,ro b (off + 3)=some v/\FzR ro (t.e.map aP) v
theorem Ty4.cell {b off:Nat} {t:Ty} (h:Ty4 ro b off t) {j:Nat} {c:C} (hc:(aP t)[j]? = some c):∃ u,ro b (off + j)=some u/\c.fv ro u/\c.shut=true:=by
 rw [bX] at hc
 match j,hc with
 | 0,hc=>cases hc; exact ⟨_,h.k,rfl,rfl⟩
 | 1,hc=>cases hc; exact ⟨_,h.s,rfl,rfl⟩
 | 2,hc=>cases hc; exact ⟨_,h.n,rfl,rfl⟩
 | 3,hc=>cases hc; obtain ⟨v,h1,h2⟩:=h.e; exact ⟨v,h1,h2,rfl⟩
 | j + 4,hc=>cases hc
theorem vX {b off:Nat} {t:Ty} (hL:∀ a ∈ L,kK ns ro a) (h:TyAt ro b off t):(b,off + 1) ∉ L/\(b,off + 2) ∉ L/\(b,off + 3) ∉ L:=by
 have hs:=h.st
 refine ⟨fun hin=>?_,fun hin=>?_,fun hin=>?_⟩<;>(have:=(hL _ hin).2.2; simp only at this; omega)
theorem J2 {t0:Ty} (hL:∀ a ∈ L,kK ns ro a) (h5:t0.k ≠ 5) (he:t0.e=[]):∀ (d:List Int) (b off b' o':Nat),InA ro t0 d b off b' o'->(t0.k=6->t0.n ∈ ns->(b',o') ∈ L)->Ty4 (n4 L ro) b off (cT d (jN ns t0))
 | [],b,off,b',o',⟨⟨h1,h2⟩,h⟩,hc=>by
  subst h1 h2
  obtain ⟨n1,n2,n3⟩:=vX hL h
  obtain ⟨v,hv,hf⟩:=h.e
  rw [he] at hf
  show Ty4 (n4 L ro) b off (jN ns t0)
  rw [C5 h5]
  cases hk:t0.k == 6 && rG ns t0.n with
  | true=>
   rw [Bool.and_eq_true] at hk
   have hin:=hc (eq_of_beq hk.1) (DV.1 hk.2)
   exact ⟨JN hin,by rw [d8 n1]; exact h.s,by rw [d8 n2]; exact h.n,v,by rw [d8 n3]; exact hv,by
    show FzR _ (t0.e.map aP) v
    rw [he]; exact FL hf⟩
  | false=>
   have n0:(b,off) ∉ L:=fun hin=>by
    obtain ⟨m1,⟨m,hm,m2⟩,_⟩:=hL _ hin
    simp only at m1 m2
    rw [h.k] at m1
    rw [h.n] at m2
    have e1:t0.k=6:=by simpa using m1
    have e2:t0.n=m:=by simpa using m2
    rw [e1,e2] at hk
    rw [DV.2 hm] at hk
    cases hk
   exact ⟨by rw [d8 n0]; exact h.k,by rw [d8 n1]; exact h.s,by rw [d8 n2]; exact h.n,v,by rw [d8 n3]; exact hv,by
    show FzR _ (t0.e.map aP) v
    rw [he]; exact FL hf⟩
 | s :: d,b,off,b',o',⟨h,b1,o1,cap,h1,h2⟩,hc=>by
  obtain ⟨n1,n2,n3⟩:=vX hL h
  have n0:(b,off) ∉ L:=fun hin=>by
   have m1:=(hL _ hin).1
   simp only at m1
   rw [h.k] at m1
   have e1:(5:Int)=6:=by
    have:(cT (s :: d) t0).k=6:=by simpa using m1
    exact this
   cases e1
  have ih:=J2 hL h5 he d b1 o1 b' o' h2 hc
  obtain ⟨v,hv,hf⟩:=h.e
  rw [h1] at hv
  obtain rfl:=bJ hv
  refine ⟨by rw [d8 n0]; exact h.k,by rw [d8 n1]; exact h.s,by rw [d8 n2]; exact h.n,_,by rw [d8 n3]; exact h1,?_⟩
  have hf:FzR ro [aP (cT d t0)] (.slice (some ⟨b1,o1,none⟩) 1 cap):=hf
  show FzR (n4 L ro) [aP (cT d (jN ns t0))] _
  refine x6 hf rfl rfl fun i x y hx hy=>?_
  match i,hx,hy with
  | 0,hx,hy=>
   obtain rfl:=bJ hx
   obtain rfl:=bJ hy
   refine ⟨by rw [bX,bX]; rfl,fun b2 o2 cap2 e2 _ j c c' u k1 k2 k3 k4=>?_⟩
   simp only [Value.slice.injEq,aF,Addr.mk.injEq] at e2
   obtain ⟨⟨rfl,rfl,_⟩,_,_⟩:=e2
   have:=ih.cell k2
   rwa [Nat.zero_mul,Nat.add_zero]
  | i + 1,hx,hy=>cases hx
def FlOk (ns:List ByteArray) (L:List (Nat × Nat)) (ro:RO) (f:Fl) (b off:Nat):Prop:=∃ d t0,A0 d t0 f.ty/\∀ b' o',InA ro t0 d b off b' o'->t0.k=6->t0.n ∈ ns->(b',o') ∈ L
theorem YO {fs:List Fl} {v:Value} (hL:∀ a ∈ L,kK ns ro a) (h:FzR ro (fs.map bD) v) (hc:∀ (i:Nat) (f:Fl) (b off cap:Nat),fs[i]? = some f->v=.slice (some ⟨b,off,none⟩) fs.length cap->FlOk ns L ro f b (off + i * 7 + 2)):FzR (n4 L ro) ((fs.map (JC ns)).map bD) v:=by
 refine x6 h (by simp) rfl fun i x y hx hy=>?_
 rw [List.getElem?_map] at hx
 rw [List.map_map,List.getElem?_map] at hy
 cases hf:fs[i]? with
 | none=>rw [hf] at hx; cases hx
 | some f=>
  rw [hf] at hx hy
  obtain rfl:=bJ hx
  obtain rfl:=bJ hy
  refine ⟨rfl,fun b off cap e hst j c c' u k1 k2 k3 k4=>?_⟩
  rw [List.length_map] at e
  have hst:ro.st b=0\/(ro.st b=7/\off % 7=0):=hst
  obtain ⟨b9,o9,c9,e9,hat⟩:=VH h hf
  rw [e] at e9
  simp only [Value.slice.injEq,aF,Addr.mk.injEq] at e9
  obtain ⟨⟨rfl,rfl,_⟩,_,_⟩:=e9
  obtain ⟨d,t0,⟨w1,w2,w3⟩,hin⟩:=hc i f b off cap hf e
  rw [w1] at hat
  obtain ⟨b',o',hA⟩:=CX d _ _ hat
  have h4:=J2 hL w2 w3 d _ _ _ _ hA (hin b' o' hA)
  rw [<-uO,<-w1] at h4
  have e7:(bD f).length=7:=rfl
  rw [e7] at k3 ⊢
  have no:∀ m,m ≠ 2->m < 7->(b,off + i * 7 + m) ∉ L:=fun m hm hm7 hin=>by
   have:=(hL _ hin).2.2
   simp only at this
   omega
  match j,k1,k2,k3 with
  | 0,k1,k2,k3=>cases k1; cases k2; exact ⟨u,by rw [d8 (no 0 (by decide) (by decide))]; exact k3,k4,rfl⟩
  | 1,k1,k2,k3=>cases k1; cases k2; exact ⟨u,by rw [d8 (no 1 (by decide) (by decide))]; exact k3,k4,rfl⟩
  | 2,k1,k2,k3=>exact h4.cell (j:=0) (c:=c') (by rw [bX]; exact k2)
  | 3,k1,k2,k3=>exact h4.cell (j:=1) (c:=c') (by rw [bX]; exact k2)
  | 4,k1,k2,k3=>exact h4.cell (j:=2) (c:=c') (by rw [bX]; exact k2)
  | 5,k1,k2,k3=>exact h4.cell (j:=3) (c:=c') (by rw [bX]; exact k2)
  | 6,k1,k2,k3=>cases k1; cases k2; exact ⟨u,by rw [d8 (no 6 (by decide) (by decide))]; exact k3,k4,rfl⟩
  | j + 7,k1,k2,k3=>cases k1
end
structure Cu (w:World) (L:List (Nat × Nat)) (wr:World):Prop where
 sz:w.heap.size<=wr.heap.size
 cell:∀ b off,b < w.heap.size->wr.cell? ⟨b,off,none⟩=if (b,off) ∈ L then some (.int .i64 7) else w.cell? ⟨b,off,none⟩
 fz:∀ b off,b < w.heap.size->wr.frozen? ⟨b,off,none⟩=w.frozen? ⟨b,off,none⟩
 keep:∀ b,b < w.heap.size->(∀ off,(b,off) ∉ L)->wr.heap[b]? = w.heap[b]?
 os:wr.os=w.os
 tape:wr.tape=w.tape
 output:wr.output=w.output
theorem Cu.refl (w:World):Cu w [] w:=⟨Nat.le_refl _,fun b off _=>by simp,fun _ _ _=>rfl,fun _ _ _=>rfl,rfl,rfl,rfl⟩
theorem Cu.alloc {w wr:World} {L:List (Nat × Nat)} (h:Cu w L wr) (o:Obj):Cu w L (wr.alloc o) where
 sz:=Nat.le_trans h.sz (by simp)
 cell:=fun b off hb=>by rw [World.cell?_alloc_lt wr o ⟨b,off,none⟩ (Nat.lt_of_lt_of_le hb h.sz)]; exact h.cell b off hb
 fz:=fun b off hb=>by
  have hlt:b < wr.heap.size:=Nat.lt_of_lt_of_le hb h.sz
  rw [<-h.fz b off hb]
  unfold World.frozen?
  rw [RowKit.Below.heap_alloc wr o b hlt]
 keep:=fun b hb hl=>by rw [RowKit.Below.heap_alloc wr o b (Nat.lt_of_lt_of_le hb h.sz)]; exact h.keep b hb hl
 os:=h.os
 tape:=h.tape
 output:=h.output
theorem Cu.set {w wr:World} {L:List (Nat × Nat)} (h:Cu w L wr) {b off:Nat} {u:Value} (hb:b < w.heap.size) (hc:w.cell? ⟨b,off,none⟩=some u):Cu w ((b,off) :: L) (wr.setCell ⟨b,off,none⟩ (.int .i64 7)) where
 sz:=by simpa using h.sz
 cell:=fun b' o' hb'=>by
  by_cases e:(b',o')=(b,off)
  · cases e
    have:∃ u',wr.cell? ⟨b,off,none⟩=some u':=by
     rw [h.cell b off hb]
     split
     · exact ⟨_,rfl⟩
     · exact ⟨u,hc⟩
    obtain ⟨u',hu'⟩:=this
    rw [World.cell?_setCell_same wr _ _ hu',if_pos (List.mem_cons_self ..)]
  · rw [World.cell?_setCell_other wr _ _ _ (fun e2=>e (by cases e2; rfl)),h.cell b' o' hb']
    by_cases hin:(b',o') ∈ L
    · rw [if_pos hin,if_pos (List.mem_cons_of_mem _ hin)]
    · rw [if_neg hin,if_neg (fun hm=>by rcases List.mem_cons.1 hm with h1 | h1; exact e h1; exact hin h1)]
 fz:=fun b' o' hb'=>by rw [World.frozen?_setCell]; exact h.fz b' o' hb'
 keep:=fun b' hb' hl=>by
  have hne:b' ≠ b:=fun e=>hl off (by rw [e]; exact List.mem_cons_self ..)
  rw [<-h.keep b' hb' fun o hin=>hl o (List.mem_cons_of_mem _ hin)]
  unfold World.setCell
  simp only [Array.getElem?_modify]
  rw [if_neg (fun e=>hne e.symm)]
 os:=h.os
 tape:=h.tape
 output:=h.output
theorem Cu.no {w wr:World} {L:List (Nat × Nat)} (h:Cu w L wr) {b off:Nat} {u:Value} (hb:b < w.heap.size) (hc:w.cell? ⟨b,off,none⟩=some u) (hn:(b,off) ∉ L):wr.cell? ⟨b,off,none⟩=some u:=by
 rw [h.cell b off hb,if_neg hn]; exact hc
structure Rs (ns:List ByteArray) (ro:RO) (w:World) (es:List En) (ss:List St) (aE aS:Option Nat):Prop where
 rd:∀ b off v,ro b off=some v->b < w.heap.size/\Rd (ro.st b) w b off v
 fr:∀ b off v,ro b off=some v->off ≠ 0->ro.st b ≠ 0
 e:∀ j e,es[j]? = some e->∃ b u1 u2,aE=some b/\b < w.heap.size/\(∀ v off,ro b off ≠ some v)/\w.cell? ⟨b,j * 3,none⟩=some (.string e.nm)/\w.cell? ⟨b,j * 3 + 1,none⟩=some u1/\w.cell? ⟨b,j * 3 + 2,none⟩=some u2/\(∃ o n c,u1=.slice o n c)/\∃ o n c,u2=.slice o n c
 s:∀ i s,ss[i]? = some s->∃ b u,aS=some b/\b < w.heap.size/\(∀ v off,ro b off ≠ some v)/\w.cell? ⟨b,i * 2 + 1,none⟩=some u/\FzR ro (s.fs.map bD) u
 w:∀ s ∈ ss,∀ f ∈ s.fs,∃ d t0,A0 d t0 f.ty
 n:ns=es.map En.nm
def DnF (ns:List ByteArray) (ro:RO) (L:List (Nat × Nat)) (s:St) (u:Value) (m:Nat):Prop:=∀ (k:Nat) (f:Fl) (b off cap:Nat),k < m->s.fs[k]? = some f->u=.slice (some ⟨b,off,none⟩) s.fs.length cap->FlOk ns L ro f b (off + k * 7 + 2)
def DnS (ns:List ByteArray) (ro:RO) (w:World) (L:List (Nat × Nat)) (ss:List St) (aS:Option Nat) (m:Nat):Prop:=∀ (i:Nat) (s:St) (b:Nat) (u:Value),i < m->ss[i]? = some s->aS=some b->w.cell? ⟨b,i * 2 + 1,none⟩=some u->DnF ns ro L s u s.fs.length
theorem FlOk.mono {ns:List ByteArray} {ro:RO} {L L':List (Nat × Nat)} {f:Fl} {b off:Nat} (h:FlOk ns L ro f b off) (hL:∀ a ∈ L,a ∈ L'):FlOk ns L' ro f b off:=by
 obtain ⟨d,t0,h1,h2⟩:=h
 exact ⟨d,t0,h1,fun b' o' k1 k2 k3=>hL _ (h2 b' o' k1 k2 k3)⟩
theorem DnF.mono {ns:List ByteArray} {ro:RO} {L L':List (Nat × Nat)} {s:St} {u:Value} {m:Nat} (h:DnF ns ro L s u m) (hL:∀ a ∈ L,a ∈ L'):DnF ns ro L' s u m:=fun k f b off cap h1 h2 h3=>(h k f b off cap h1 h2 h3).mono hL
theorem DnS.mono {ns:List ByteArray} {ro:RO} {w:World} {L L':List (Nat × Nat)} {ss:List St} {aS:Option Nat} {m:Nat} (h:DnS ns ro w L ss aS m) (hL:∀ a ∈ L,a ∈ L'):DnS ns ro w L' ss aS m:=fun i s b u h1 h2 h3 h4=>(h i s b u h1 h2 h3 h4).mono hL
theorem uQ (b k:Nat):aZ (some b) k=some ⟨b,k,none⟩:=rfl
theorem TK {ro:RO} {xs:List (List C)} {v:Value} (h:FzR ro xs v):∃ o c,v=.slice o xs.length c:=by cases h; exact ⟨_,_,rfl⟩
theorem Cu.loc {w w1 wr:World} {L:List (Nat × Nat)} {cs:Array Value} {T:TypeId} (h1:w1=w.alloc (.cells cs T)) (hL:∀ a ∈ L,a.1 < w.heap.size) (h:Cu w1 L wr) {j:Nat} {u:Value} (hc:cs[j]? = some u):wr.cell? ⟨w.heap.size,j,none⟩=some u:=by
 subst h1
 refine h.no (by simp) ?_ fun hin=>Nat.lt_irrefl _ (hL _ hin)
 rw [World.cell?_alloc_new]; exact hc
theorem Cu.old {w w1 wr:World} {L:List (Nat × Nat)} {o:Obj} (h1:w1=w.alloc o) (h:Cu w1 L wr):Cu w L wr where
 sz:=by subst h1; exact Nat.le_trans (by simp) h.sz
 cell:=fun b off hb=>by subst h1; rw [h.cell b off (by simp; omega),World.cell?_alloc_lt w o ⟨b,off,none⟩ hb]
 fz:=fun b off hb=>by
  subst h1
  rw [h.fz b off (by simp; omega)]
  unfold World.frozen?
  rw [RowKit.Below.heap_alloc w o b hb]
 keep:=fun b hb hl=>by subst h1; rw [h.keep b (by simp; omega) hl,RowKit.Below.heap_alloc w o b hb]
 os:=by subst h1; exact h.os
 tape:=by subst h1; exact h.tape
 output:=by subst h1; exact h.output
theorem Rs.lt {ns:List ByteArray} {ro:RO} {w:World} {es:List En} {ss:List St} {aE aS:Option Nat} (H:Rs ns ro w es ss aE aS) {L:List (Nat × Nat)} (hL:∀ a ∈ L,kK ns ro a):∀ a ∈ L,a.1 < w.heap.size:=fun a ha=>(H.rd _ _ _ (hL a ha).1).1
theorem Rs.outer {ns:List ByteArray} {ro:RO} {w w1 wr:World} {es:List En} {ss:List St} {aE aS:Option Nat} {L:List (Nat × Nat)} {m cE cS:Nat} {ver:Int} (H:Rs ns ro w es ss aE aS)
 (h1:w1=w.alloc (.cells #[.int .i64 ver,.slice (aZ aE 0) es.length cE,.slice (aZ aS 0) ss.length cS] 25)) (hL:∀ a ∈ L,kK ns ro a) (hC:Cu w1 L wr) (hm:m < ss.length) :
 ∃ s b o c,ss[m]? = some s/\aS=some b/\wr.cell? ⟨w.heap.size,2,none⟩=some (.slice (aZ aS 0) ss.length cS)/\wr.cell? ⟨b,m * 2 + 1,none⟩=some (.slice o s.fs.length c)/\FzR ro (s.fs.map bD) (.slice o s.fs.length c)/\w.cell? ⟨b,m * 2 + 1,none⟩=some (.slice o s.fs.length c):=by
 obtain ⟨s,hs⟩:∃ s,ss[m]? = some s:=⟨_,aV hm⟩
 obtain ⟨b,u,e1,e2,e3,e4,e5⟩:=H.s m s hs
 obtain ⟨o,c,rfl⟩:=TK e5
 rw [List.length_map] at e4 e5
 exact ⟨s,b,o,c,hs,e1,hC.loc h1 (H.lt hL) rfl,(hC.old h1).no e2 e4 fun hin=>e3 _ _ (hL _ hin).1,e5,e4⟩
theorem Rs.inner {ns:List ByteArray} {ro:RO} {w w1 wr:World} {es:List En} {ss:List St} {aE:Option Nat} {b:Nat} {L:List (Nat × Nat)} {m q cE cS c:Nat} {ver:Int} {o:Option Addr} {s:St} (H:Rs ns ro w es ss aE (some b))
 (h1:w1=w.alloc (.cells #[.int .i64 ver,.slice (aZ aE 0) es.length cE,.slice (aZ (some b) 0) ss.length cS] 25)) (hL:∀ a ∈ L,kK ns ro a) (hC:Cu w1 L wr) (hm:ss[m]? = some s) (hS:w.cell? ⟨b,m * 2 + 1,none⟩=some (.slice o s.fs.length c))
 (hF:FzR ro (s.fs.map bD) (.slice o s.fs.length c)) (hq:q < s.fs.length) :
 ∃ f bF oF d t0 b' o',s.fs[q]? = some f/\o=some ⟨bF,oF,none⟩/\wr.cell? ⟨w.heap.size,2,none⟩=some (.slice (aZ (some b) 0) ss.length cS)/\wr.cell? ⟨b,m * 2 + 1,none⟩=some (.slice o s.fs.length c)/\A0 d t0 f.ty/\InA ro t0 d bF (oF + q * 7 + 2) b' o':=by
 obtain ⟨f,hf⟩:∃ f,s.fs[q]? = some f:=⟨_,aV hq⟩
 obtain ⟨b2,u,e1,e2,e3,e4,e5⟩:=H.s m s hm
 cases e1
 obtain ⟨d,t0,hw⟩:=H.w s (bT hm) f (bT hf)
 obtain ⟨bF,oF,cap,h2,h3⟩:=VH hF hf
 simp only [Value.slice.injEq] at h2
 rw [hw.1] at h3
 obtain ⟨b',o',h4⟩:=CX d _ _ h3
 exact ⟨f,bF,oF,d,t0,b',o',hf,h2.1,hC.loc h1 (H.lt hL) rfl,(hC.old h1).no e2 hS fun hin=>e3 _ _ (hL _ hin).1,hw,h4⟩
theorem Rs.step {ns:List ByteArray} {ro:RO} {w w1 wr:World} {es:List En} {ss:List St} {aE aS:Option Nat} {L:List (Nat × Nat)} {o:Obj} {t0:Ty} {x:Int} {d:List Int} {b1 o1 b' o':Nat} (H:Rs ns ro w es ss aE aS)
 (h1:w1=w.alloc o) (hL:∀ a ∈ L,kK ns ro a) (hC:Cu w1 L wr) (hI:InA ro t0 (x :: d) b1 o1 b' o') :
 ∃ b3 o3 cap,wr.cell? ⟨b1,o1,none⟩=some (.int .i64 5)/\wr.cell? ⟨b1,o1 + 3,none⟩=some (.slice (some ⟨b3,o3,none⟩) 1 cap)/\InA ro t0 d b3 o3 b' o':=by
 obtain ⟨hT,b3,o3,cap,h2,h3⟩:=hI
 have hk:=hT.k
 have hlt:=(H.rd _ _ _ hk).1
 refine ⟨b3,o3,cap,(hC.old h1).no hlt (H.rd _ _ _ hk).2.1 fun hin=>?_,(hC.old h1).no hlt (H.rd _ _ _ h2).2.1 fun hin=>?_,h3⟩
 · have:=(hL _ hin).1
   simp only at this
   rw [hk] at this
   have h5:(cT (x :: d) t0).k=5:=rfl
   rw [h5] at this
   cases this
 · have:=(hL _ hin).1
   simp only at this
   rw [h2] at this
   cases this
theorem Rs.last {ns:List ByteArray} {ro:RO} {w w1 wr:World} {es:List En} {ss:List St} {aE:Option Nat} {b cE cS:Nat} {ver:Int} {L:List (Nat × Nat)} {t0:Ty} {b1 o1 b' o':Nat} (H:Rs ns ro w es ss aE (some b))
 (h1:w1=w.alloc (.cells #[.int .i64 ver,.slice (aZ aE 0) es.length cE,.slice (aZ (some b) 0) ss.length cS] 25)) (hL:∀ a ∈ L,kK ns ro a) (hC:Cu w1 L wr) (h5:t0.k ≠ 5) (hI:InA ro t0 [] b1 o1 b' o') :
 ∃ kk,wr.cell? ⟨b1,o1,none⟩=some (.int .i64 kk)/\kk ≠ 5/\(b1=b'/\o1=o')/\wr.cell? ⟨w.heap.size,1,none⟩=some (.slice (aZ aE 0) es.length cE)/\TyAt ro b' o' t0/\True:=by
 obtain ⟨⟨e1,e2⟩,hT⟩:=hI
 subst e1 e2
 have hlt:=(H.rd _ _ _ hT.k).1
 have hcell:=(hC.old h1).cell b1 o1 hlt
 by_cases hin:(b1,o1) ∈ L
 · rw [if_pos hin] at hcell
   exact ⟨7,hcell,by decide,⟨rfl,rfl⟩,hC.loc h1 (H.lt hL) rfl,hT,trivial⟩
 · rw [if_neg hin,(H.rd _ _ _ hT.k).2.1] at hcell
   exact ⟨t0.k,hcell,h5,⟨rfl,rfl⟩,hC.loc h1 (H.lt hL) rfl,hT,trivial⟩
def DnT (es:List En) (L:List (Nat × Nat)) (t0:Ty) (b o m:Nat):Prop:=∀ (j:Nat) (e:En),j < m->es[j]? = some e->t0.k=6->e.nm=t0.n->(b,o) ∈ L
theorem DnF.succ {ns:List ByteArray} {ro:RO} {L L':List (Nat × Nat)} {s:St} {m bF oF b' o' c:Nat} {f:Fl} {d:List Int} {t0:Ty} {es:List En} (h:DnF ns ro L s (.slice (some ⟨bF,oF,none⟩) s.fs.length c) m) (hL:∀ a ∈ L,a ∈ L') (hf:s.fs[m]? = some f) (hw:A0 d t0 f.ty)
 (hI:InA ro t0 d bF (oF + m * 7 + 2) b' o') (hn:ns=es.map En.nm) (hT:DnT es L' t0 b' o' es.length):DnF ns ro L' s (.slice (some ⟨bF,oF,none⟩) s.fs.length c) (m + 1):=by
 intro k g b off cap hk hg he
 rcases bG k m with h1 | h1
 · exact (h k g b off cap h1 hg he).mono hL
 · obtain rfl:k=m:=by omega
   rw [hf] at hg
   obtain rfl:=bJ hg
   simp only [Value.slice.injEq,aF,Addr.mk.injEq] at he
   obtain ⟨⟨rfl,rfl,_⟩,_⟩:=he
   refine ⟨d,t0,hw,fun b2 o2 hI2 hk6 hnm=>?_⟩
   obtain ⟨rfl,rfl⟩:=hI.uniq hI2
   rw [hn] at hnm
   obtain ⟨e,hm,hen⟩:=List.mem_map.1 hnm
   obtain ⟨j,hj⟩:=List.mem_iff_getElem?.1 hm
   exact hT j e (a8.1 hj).1 hj hk6 hen
theorem DnS.succ {ns:List ByteArray} {ro:RO} {w:World} {L':List (Nat × Nat)} {ss:List St} {b m c:Nat} {o:Option Addr} {s:St} (h:DnS ns ro w L' ss (some b) m) (hs:ss[m]? = some s) (hc:w.cell? ⟨b,m * 2 + 1,none⟩=some (.slice o s.fs.length c))
 (hF:DnF ns ro L' s (.slice o s.fs.length c) s.fs.length):DnS ns ro w L' ss (some b) (m + 1):=by
 intro i s2 b2 u hi hs2 hb hu
 rcases bG i m with h1 | h1
 · exact h i s2 b2 u h1 hs2 hb hu
 · obtain rfl:i=m:=by omega
   cases hb
   rw [hs] at hs2
   obtain rfl:=bJ hs2
   rw [hc] at hu
   obtain rfl:=bJ hu
   exact hF
theorem Rs.each {ns:List ByteArray} {ro:RO} {w w1 wr:World} {es:List En} {ss:List St} {aE:Option Nat} {b cE cS:Nat} {ver:Int} {L:List (Nat × Nat)} {t0:Ty} {b1 o1 j:Nat} (H:Rs ns ro w es ss aE (some b))
 (h1:w1=w.alloc (.cells #[.int .i64 ver,.slice (aZ aE 0) es.length cE,.slice (aZ (some b) 0) ss.length cS] 25)) (hL:∀ a ∈ L,kK ns ro a) (hC:Cu w1 L wr) (hT:TyAt ro b1 o1 t0) (hj:j < es.length) :
 ∃ e bE,∃ _:Unit,∃ o2 n2 c2 o3 n3 c3 kk,es[j]? = some e/\aE=some bE/\wr.cell? ⟨bE,j * 3,none⟩=some (.string e.nm)/\wr.cell? ⟨bE,j * 3 + 1,none⟩=some (.slice o2 n2 c2)/\wr.cell? ⟨bE,j * 3 + 2,none⟩=some (.slice o3 n3 c3)/\
  wr.cell? ⟨b1,o1,none⟩=some (.int .i64 kk)/\wr.cell? ⟨b1,o1 + 2,none⟩=some (.string t0.n)/\b1 < wr.heap.size/\wr.frozen? ⟨b1,o1,none⟩=false/\(((b1,o1) ∈ L/\kk=7)\/((b1,o1) ∉ L/\kk=t0.k)):=by
 obtain ⟨e,he⟩:∃ e,es[j]? = some e:=⟨_,aV hj⟩
 obtain ⟨bE,u1,u2,e1,e2,e3,e4,e5,e6,⟨o2,n2,c2,rfl⟩,o3,n3,c3,rfl⟩:=H.e j e he
 have hO:=hC.old h1
 have no:∀ off,(bE,off) ∉ L:=fun off hin=>e3 _ _ (hL _ hin).1
 have hlt:=(H.rd _ _ _ hT.k).1
 have hst:ro.st b1 ≠ 0:=H.fr _ _ _ hT.s (by omega)
 have hfz:wr.frozen? ⟨b1,o1,none⟩=false:=by rw [hO.fz b1 o1 hlt]; exact (H.rd _ _ _ hT.k).2.2 hst
 have hnm:=hO.no hlt (H.rd _ _ _ hT.n).2.1 (vX hL hT).2.1
 have hcell:=hO.cell b1 o1 hlt
 have hsz:b1 < wr.heap.size:=Nat.lt_of_lt_of_le hlt hO.sz
 by_cases hin:(b1,o1) ∈ L
 · rw [if_pos hin] at hcell
   exact ⟨e,bE,(),o2,n2,c2,o3,n3,c3,7,he,e1,hO.no e2 e4 (no _),hO.no e2 e5 (no _),hO.no e2 e6 (no _),hcell,hnm,hsz,hfz,.inl ⟨hin,rfl⟩⟩
 · rw [if_neg hin,(H.rd _ _ _ hT.k).2.1] at hcell
   exact ⟨e,bE,(),o2,n2,c2,o3,n3,c3,t0.k,he,e1,hO.no e2 e4 (no _),hO.no e2 e5 (no _),hO.no e2 e6 (no _),hcell,hnm,hsz,hfz,.inr ⟨hin,rfl⟩⟩
theorem Cu.drewN {w wr:World} {L:List (Nat × Nat)} (h:Cu w L wr) (n:Nat):Cu w L (wr.drewN n):=⟨h.sz,h.cell,h.fz,h.keep,h.os,h.tape,h.output⟩
theorem ZM {a b:ByteArray} (h:(a.toList == b.toList)=true):a=b:=by
 have h1:=eq_of_beq h
 rw [lU,lU] at h1
 rw [<-lL a,h1,lL]
theorem ZR {a b:ByteArray} (h:(a.toList == b.toList)=false):a ≠ b:=fun e=>by
 rw [e,beq_self_eq_true] at h; cases h
theorem kk6 {p:Prop} {q:Prop} {t0:Ty} (h:(p/\(6:Int)=7)\/(q/\(6:Int)=t0.k)):t0.k=6:=by
 rcases h with ⟨_,h⟩ | ⟨_,h⟩
 · cases h
 · exact h.symm
theorem DnT.skip {es:List En} {L:List (Nat × Nat)} {t0:Ty} {b o m:Nat} {e:En} (h:DnT es L t0 b o m) (he:es[m]? = some e) (hn:t0.k=6->e.nm=t0.n->False):DnT es L t0 b o (m + 1):=by
 intro j e2 hj he2 hk hnm
 rcases bG j m with h1 | h1
 · exact h j e2 h1 he2 hk hnm
 · obtain rfl:j=m:=by omega
   rw [he] at he2
   obtain rfl:=bJ he2
   exact (hn hk hnm).elim
theorem DnT.other {es:List En} {L:List (Nat × Nat)} {t0:Ty} {b o m:Nat} {kk:Int} (h:DnT es L t0 b o m) (hk:(((b,o) ∈ L/\kk=7)\/((b,o) ∉ L/\kk=t0.k))) (h6:¬ kk=6):DnT es L t0 b o (m + 1):=by
 intro j e2 hj he2 hk6 hnm
 rcases hk with ⟨hin,_⟩ | ⟨_,hk⟩
 · exact hin
 · exact absurd (hk.trans hk6) h6
theorem Rs.mark {ns:List ByteArray} {ro:RO} {w w1 wr:World} {es:List En} {ss:List St} {aE aS:Option Nat} {L:List (Nat × Nat)} {o:Obj} {t0:Ty} {b1 o1 j:Nat} {e:En} (H:Rs ns ro w es ss aE aS) (h1:w1=w.alloc o) (hL:∀ a ∈ L,kK ns ro a) (hC:Cu w1 L wr)
 (hT:TyAt ro b1 o1 t0) (he:es[j]? = some e) (hk:t0.k=6) (hn:t0.n=e.nm):(∀ a ∈ (b1,o1) :: L,kK ns ro a)/\Cu w1 ((b1,o1) :: L) (wr.setCell ⟨b1,o1,none⟩ (.int .i64 7)):=by
 have hst:ro.st b1 ≠ 0:=H.fr _ _ _ hT.s (by omega)
 have hlt:=(H.rd _ _ _ hT.k).1
 refine ⟨fun a ha=>?_,?_⟩
 · rcases List.mem_cons.1 ha with rfl | ha
   · refine ⟨by rw [<-hk]; exact hT.k,⟨e.nm,?_,by rw [<-hn]; exact hT.n⟩,?_⟩
     · rw [H.n]; exact List.mem_map.2 ⟨e,bT he,rfl⟩
     · rcases hT.st with h | h | h
       · exact absurd h hst
       · exact .inl h
       · exact .inr h
   · exact hL a ha
 · subst h1
   refine hC.set (u:=.int .i64 t0.k) (by simp; omega) ?_
   rw [World.cell?_alloc_lt w o ⟨b1,o1,none⟩ hlt]
   exact (H.rd _ _ _ hT.k).2.1
theorem DJ (w:World) (bp:Nat) (ver:Int) (aE aS:Option Nat) (cE cS:Nat) (es:List En) (ss:List St) (ns:List ByteArray) (ro:RO) (H:Rs ns ro w es ss aE aS) (hlE:es.length<=1000000) (hlS:ss.length<=1000000) (hlF:∀ s ∈ ss,s.fs.length<=1000000) (h3:w.cell? ⟨bp,3,none⟩=some (.int .i64 ver)) (h4:w.cell? ⟨bp,4,none⟩=some (.slice (aZ aE 0) es.length cE)) (h5:w.cell? ⟨bp,5,none⟩=some (.slice (aZ aS 0) ss.length cS)) :
 Calls Tryz.prog 41 #[.pointer (some ⟨bp,0,none⟩)] w fun e w'=>e=.returned (.tuple #[])/\∃ L,(∀ a ∈ L,kK ns ro a)/\Cu w L w'/\DnS ns ro w L ss aS ss.length:=by
 go_enter Tryz.func41,Tryz.ntmps41
 have A:Aside (Rs ns ro w es ss aE aS/\∀ s ∈ ss,s.fs.length<=1000000):=⟨H,hlF⟩
 clear H hlF
 go_wp2
 obtain ⟨w1,hw1⟩:∃ w1,w1=w.alloc (.cells #[.int .i64 ver,.slice (aZ aE 0) es.length cE,.slice (aZ aS 0) ss.length cS] 25):=⟨_,rfl⟩
 rw [<-hw1]
 have A1:Aside (w1=w.alloc (.cells #[.int .i64 ver,.slice (aZ aE 0) es.length cE,.slice (aZ aS 0) ss.length cS] 25)):=hw1
 clear hw1
 go_loopg [15] ss.length (fun k i wr=>∃ m L,i=.int .i64 (m:Nat)/\m + k=ss.length/\Aside ((∀ a ∈ L,kK ns ro a)/\Cu w1 L wr/\DnS ns ro w L ss aS m))
 case atStart=>exact ⟨0,[],rfl,by simp,fun a h=>(by cases h),Cu.refl _,fun i s b u h=>(by omega)⟩
 case round=>
  obtain ⟨m,L,rfl,hm,hR⟩:=hrel
  by_cases hlt:m < ss.length
  · have B:=A.out.1.outer A1.out hR.out.1 hR.out.2.1 hlt
    obtain ⟨s,b,o,c,hx,rfl,q1,q2,q3,q4⟩:=B
    rw [uQ] at q1 ⊢
    have q3':Aside (FzR ro (s.fs.map bD) (.slice o s.fs.length c)):=q3
    have hx':Aside (ss[m]? = some s):=hx
    have hlf:s.fs.length<=1000000:=A.out.2 s (bT hx)
    clear hx q3
    have hcS:Aside (w.cell? ⟨b,m * 2 + 1,none⟩=some (.slice o s.fs.length c)):=q4
    clear q4
    go_wp2
    obtain ⟨wo,rfl⟩:∃ wo:World,wo=wr:=⟨_,rfl⟩
    go_loopg [25] s.fs.length (fun k i wr=>∃ q L',i=.int .i64 (q:Nat)/\q + k=s.fs.length/\Aside ((∀ a ∈ L',kK ns ro a)/\Cu w1 L' wr/\DnS ns ro w L' ss (some b) m/\DnF ns ro L' s (.slice o s.fs.length c) q))
    case atStart=>exact ⟨0,L,rfl,by simp,hR.out.1,hR.out.2.1,hR.out.2.2,fun k f b off cap h=>(by omega)⟩
    case round=>
     obtain ⟨q,L',rfl,hq,hR'⟩:=hrel
     by_cases hlq:q < s.fs.length
     · have B:=A.out.1.inner A1.out hR'.out.1 hR'.out.2.1 hx'.out hcS.out q3'.out hlq
       obtain ⟨f,bF,oF,d,t0,b',o',hf,rfl,q5,q6,q7,q8⟩:=B
       have q8':Aside (s.fs[q]? = some f/\A0 d t0 f.ty/\InA ro t0 d bF (oF + q * 7 + 2) b' o'):=⟨hf,q7,q8⟩
       clear hf q7 q8 q1 q2
       rw [uQ] at q5
       go_wp2
       obtain ⟨wi,rfl⟩:∃ wi:World,wi=wr:=⟨_,rfl⟩
       go_loopg [5] d.length (fun k v wr=>∃ d' b1 o1,v=.pointer (some ⟨b1,o1,none⟩)/\Aside (d'.length=k)/\Aside (InA ro t0 d' b1 o1 b' o')/\wr=wi)
       case atStart=>exact ⟨d,bF,_,rfl,rfl,q8'.out.2.2,rfl⟩
       case round=>
        obtain ⟨d',b1,o1,rfl,hd,hI,rfl⟩:=hrel
        match d',hd,hI with
        | x :: d2,hd,hI=>
         have B:=A.out.1.step A1.out hR'.out.1 hR'.out.2.1 hI.out
         obtain ⟨b3,o3,cap,q9,q10,q11⟩:=B
         have hI2:Aside (InA ro t0 d2 b3 o3 b' o'):=q11
         clear q11
         go_wp2
         go_roundg d2.length
         case rel=>exact ⟨d2,b3,o3,rfl,rfl,hI2.out,rfl⟩
         case measure=>have:=hd.out; simp only [List.length_cons] at this; omega
        | [],hd,hI=>
         have B:=A.out.1.last A1.out hR'.out.1 hR'.out.2.1 q8'.out.2.1.2.1 hI.out
         obtain ⟨kk,q9,q10,⟨rfl,rfl⟩,q12,q13,_⟩:=B
         have q13':Aside (TyAt ro b1 o1 t0):=q13
         clear q13
         go_wp2
         clear q9 q10 q12
         obtain ⟨wj,rfl⟩:∃ wj:World,wj=wr:=⟨_,rfl⟩
         go_loopg [50] es.length (fun k i wr=>∃ j L2,i=.int .i64 (j:Nat)/\j + k=es.length/\Aside ((∀ a ∈ L2,kK ns ro a)/\Cu w1 L2 wr/\(∀ a ∈ L',a ∈ L2)/\DnT es L2 t0 b1 o1 j))
         case atStart=>exact ⟨0,L',rfl,by simp,hR'.out.1,hR'.out.2.1,fun _ h=>h,fun i e h=>(by omega)⟩
         case round=>
          obtain ⟨j,L2,rfl,hj,hR2⟩:=hrel
          by_cases hlj:j < es.length
          · have B:=A.out.1.each A1.out hR2.out.1 hR2.out.2.1 q13'.out hlj
            obtain ⟨e,bE,u1,o2,n2,c2,o3,n3,c3,kk,hx2,rfl,r1,r2,r3,r4,r5,r6,r7,r8⟩:=B
            rw [uQ]
            have hx2':Aside (es[j]? = some e/\(((b1,o1) ∈ L2/\kk=7)\/((b1,o1) ∉ L2/\kk=t0.k))):=⟨hx2,r8⟩
            clear hx2 r8
            by_cases h6:kk=6
            · subst h6
              go_wp2
              go_quiet (fail)
              go_wp2
              · rename_i hnm
                go_roundg (es.length - (j + 1))
                case rel=>
                 have e1:=kk6 hx2'.out.2
                 have e2:=ZM hnm
                 exact ⟨j + 1,(b1,o1) :: L2,by simp,by omega,(A.out.1.mark A1.out hR2.out.1 hR2.out.2.1 q13'.out hx2'.out.1 e1 e2).1,(A.out.1.mark A1.out hR2.out.1 ((hR2.out.2.1.alloc _).drewN _) q13'.out hx2'.out.1 e1 e2).2,fun a h=>List.mem_cons_of_mem _ (hR2.out.2.2.1 a h),fun _ _ _ _ _ _=>List.mem_cons_self ..⟩
                case measure=>omega
              · rename_i hnm
                go_roundg (es.length - (j + 1))
                case rel=>exact ⟨j + 1,L2,by simp,by omega,hR2.out.1,(hR2.out.2.1.alloc _).drewN _,hR2.out.2.2.1,hR2.out.2.2.2.skip hx2'.out.1 fun _ e=>ZR hnm e.symm⟩
                case measure=>omega
            · have hd:decide (kk=6)=false:=decide_eq_false h6
              have hd2:(kk == 6)=false:=beq_eq_false_iff_ne.2 h6
              go_wp2
              go_quiet (fail)
              go_wp2
              go_roundg (es.length - (j + 1))
              case rel=>exact ⟨j + 1,L2,by simp,by omega,hR2.out.1,(hR2.out.2.1.alloc _).drewN _,hR2.out.2.2.1,hR2.out.2.2.2.other hx2'.out.2 h6⟩
              case measure=>omega
          · obtain rfl:j=es.length:=by omega
            go_wp2
            go_roundg (s.fs.length - (q + 1))
            case rel=>exact ⟨q + 1,L2,by simp,by omega,hR2.out.1,hR2.out.2.1,hR'.out.2.2.1.mono hR2.out.2.2.1,hR'.out.2.2.2.succ hR2.out.2.2.1 q8'.out.1 q8'.out.2.1 q8'.out.2.2 A.out.1.n hR2.out.2.2.2⟩
            case measure=>omega
     · obtain rfl:q=s.fs.length:=by omega
       go_wp2
       go_roundg (ss.length - (m + 1))
       case rel=>exact ⟨m + 1,L',by simp,by omega,hR'.out.1,hR'.out.2.1,hR'.out.2.2.1.succ hx'.out hcS.out hR'.out.2.2.2⟩
       case measure=>omega
  · obtain rfl:m=ss.length:=by omega
    go_wp2
    exact bodyPost_end (results_none rfl _ _ _) rfl ⟨rfl,L,hR.out.1,hR.out.2.1.old A1.out,hR.out.2.2⟩
theorem B8 {α β:Type} {R S:α->β->Prop} {l:List α} {m:List β} (h:All2 R l m) (hi:∀ x ∈ l,∀ y,R x y->S x y):All2 S l m:=⟨h.1,fun i x y hx hy=>hi x (bT hx) y (h.2 i x y hx hy)⟩
def ind:C->Bool
 | .fz _ | .fp _ _ | .fn _ _ | .fm _ _=>false
 | _=>true
theorem R7 {γ:List Gb} {ro ro2:RO} {c:C} {v:Value} (hc:ind c=true) (h:c.rel γ ro v):c.rel γ ro2 v:=by
 cases c<;>first | exact h | cases hc
theorem C2 {γ:List Gb} {ro ro2:RO} {cs:List C} {vs:List Value} (hc:cs.all ind=true) (h:All2 (C.rel γ ro) cs vs):All2 (C.rel γ ro2) cs vs:=
 B8 h fun x hx y hr=>R7 (List.all_eq_true.1 hc x hx) hr
theorem HD {l:List St} {i:Nat} {s:St} (h:l[i]? = some s) (j:Nat) (hj:j < 2):(l.map aJ).flatten[i * 2 + j]? = (aJ s)[j]?:=by
 rw [hJ (sz:=2) (fun x hx=>by obtain ⟨y,_,rfl⟩:=List.mem_map.1 hx; rfl) (by rw [List.length_map]; exact (a8.1 h).1) hj,List.getElem?_map,h]; rfl
theorem zL {l:List En} {i:Nat} {e:En} (h:l[i]? = some e) (j:Nat) (hj:j < 3):(l.map aQ).flatten[i * 3 + j]? = (aQ e)[j]?:=by
 rw [hJ (sz:=3) (fun x hx=>by obtain ⟨y,_,rfl⟩:=List.mem_map.1 hx; rfl) (by rw [List.length_map]; exact (a8.1 h).1) hj,List.getElem?_map,h]; rfl
theorem GW {ns:List ByteArray} {ro:RO} {L:List (Nat × Nat)} (hL:∀ a ∈ L,kK ns ro a):∀ (ss:List St) (vs:List Value),All2 (C.fv ro) (ss.map aJ).flatten vs->(∀ (i:Nat) (s:St) (u:Value),ss[i]? = some s->vs[i * 2 + 1]? = some u->DnF ns ro L s u s.fs.length)->
 All2 (C.fv (n4 L ro)) ((ss.map (oM ns)).map aJ).flatten vs
 | [],vs,h,_=>by
  have h:All2 (C.fv ro) [] vs:=h
  obtain rfl:=h.nil_inv
  exact .nil
 | s :: ss,vs,h,hc=>by
  have h:All2 (C.fv ro) (.vl (.string s.nm) :: .fz (s.fs.map bD) :: (ss.map aJ).flatten) vs:=h
  obtain ⟨v0,vs',rfl,a0,h⟩:=h.cons_inv
  obtain ⟨v1,vs',rfl,a1,h⟩:=h.cons_inv
  have a1:FzR ro (s.fs.map bD) v1:=a1
  have hd:=hc 0 s v1 rfl rfl
  refine All2.cons a0 (All2.cons ?_ (GW hL ss vs' h fun i s' u h1 h2=>hc (i + 1) s' u (by simpa using h1) (by rw [show (i + 1) * 2 + 1=i * 2 + 1 + 1 + 1 by omega]; simpa using h2)))
  show FzR (n4 L ro) ((s.fs.map (JC ns)).map bD) v1
  exact YO hL a1 fun i f b off cap h1 h2=>hd i f b off cap (a8.1 h1).1 h1 h2
theorem RI {ns:List ByteArray} {ro:RO} {L:List (Nat × Nat)} (hL:∀ a ∈ L,kK ns ro a) {es:List En} {vs:List Value} (h:All2 (C.fv ro) (es.map aQ).flatten vs):All2 (C.fv (n4 L ro)) (es.map aQ).flatten vs:=by
 refine B8 h fun x hx y hr=>?_
 obtain ⟨r,hr1,hr2⟩:=List.mem_flatten.1 hx
 obtain ⟨e,_,rfl⟩:=List.mem_map.1 hr1
 simp only [aQ,List.mem_cons,List.not_mem_nil,or_false] at hr2
 rcases hr2 with rfl | rfl | rfl
 · exact hr
 · have hr:FzR ro (e.ns.map bI) y:=hr
   refine GG hL hr (fun x hx=>by obtain ⟨z,_,rfl⟩:=List.mem_map.1 hx; rfl) fun x hx c hc=>?_
   obtain ⟨z,_,rfl⟩:=List.mem_map.1 hx
   exact ⟨_,List.mem_singleton.1 hc⟩
 · have hr:FzR ro (e.vs.map dS) y:=hr
   refine GG hL hr (fun x hx=>by obtain ⟨z,_,rfl⟩:=List.mem_map.1 hx; rfl) fun x hx c hc=>?_
   obtain ⟨z,_,rfl⟩:=List.mem_map.1 hx
   exact ⟨_,List.mem_singleton.1 hc⟩
theorem rI {X:Ctx} {E:Es} {ro:RO} {w:World} (h:Rel X E ro w) {n:Nat} {g:Gb} {xs:List (List C)} {T sz:Nat} (hn:E[n]? = some (g,.row xs T sz)) {k:Nat} {c:C} (hk:xs.flatten[k]? = some c) :
 ∃ b u,g.ob=some b/\b < w.heap.size/\(∀ v off,ro b off ≠ some v)/\g.vs[k]? = some u/\w.cell? ⟨b,k,none⟩=some u/\c.fv ro u:=by
 have hon:=h.own n g _ hn
 obtain ⟨h1,h2,h3,h4,hown,hrel,h7⟩:=hon
 obtain ⟨u,hu,hc⟩:=hrel.get hk
 have hxne:xs.length ≠ 0:=fun e=>by
  rw [List.eq_nil_of_length_eq_zero e] at hk; simp at hk
 cases hb:g.ob with
 | none=>
  exfalso
  rw [hb] at hown
  rcases hown.2 with ⟨_,h0⟩ | ⟨b,cap0,cur,hv,_⟩
  · exact hxne h0
  · simp [aZ] at hv
 | some b=>
  refine ⟨b,u,rfl,(h.own n g _ hn).lt rfl hb,fun v off hv=>?_,hu,?_,hc⟩
  · have:=h.apart b off v hv n g _ hn hb
    simp [B.live] at this
  · rw [hb] at hown
    have:=World.ownsRow.cells (h:=hown) (g:=b) rfl k u hu
    rwa [dX,Nat.zero_add] at this
abbrev psC (ver:Int) (bad:Bool) (at_:Int) (nE nS:Nat):List C:=[.pt 1 0,.vl (.bool bad),.vl (.int .i64 at_),.vl (.int .i64 ver),.sl 3 nE,.sl 4 nS]
section
variable {w0 w:World} {ro0 ro:RO} {g0 g1 g2 g3 g4:Gb} {b1:B} {es:List En} {ss:List St} {ver at_:Int} {bad:Bool} {T0 T2 T3 T4:TypeId} {c0:List C}
abbrev C0 (g0 g1 g2 g3 g4:Gb) (b1:B) (c0:List C) (ver:Int) (bad:Bool) (at_:Int) (es:List En) (ss:List St) (T0 T2 T3 T4:TypeId):Es:=
 [(g0,.cells c0 T0),(g1,b1),(g2,.cells (psC ver bad at_ es.length ss.length) T2),(g3,.row (es.map aQ) T3 3),(g4,.row (ss.map aJ) T4 2)]
theorem ZE (h:Rel ⟨w0,[],ro0,[]⟩ (C0 g0 g1 g2 g3 g4 b1 c0 ver bad at_ es ss T0 T2 T3 T4) ro w) (h0:∀ b off v,ro0 b off=some v->off=0/\b < w0.heap.size) (hw:∀ s ∈ ss,∀ f ∈ s.fs,∃ d t0,A0 d t0 f.ty):Rs (es.map En.nm) ro w es ss g3.ob g4.ob where
 rd:=fun b off v hv=>⟨h.cell_lt hv,h.rd b off v hv⟩
 fr:=fun b off v hv ho=>by
  rcases h.rob b off v hv with q | ⟨_,q⟩
  · exact absurd (h0 b off v q).1 ho
  · exact q
 e:=fun j e he=>by
  obtain ⟨b,u0,q1,q2,q3,q4,q5,q6⟩:=rI h (n:=3) rfl (zL he 0 (by decide))
  obtain ⟨b',u1,r1,r2,r3,r4,r5,r6⟩:=rI h (n:=3) rfl (zL he 1 (by decide))
  obtain ⟨b'',u2,s1,s2,s3,s4,s5,s6⟩:=rI h (n:=3) rfl (zL he 2 (by decide))
  rw [q1] at r1 s1
  cases r1
  cases s1
  have q6:u0=.string e.nm:=q6
  subst q6
  have r6:FzR ro (e.ns.map bI) u1:=r6
  have s6:FzR ro (e.vs.map dS) u2:=s6
  exact ⟨b,u1,u2,q1,q2,q3,q5,r5,s5,FzR.slice r6,FzR.slice s6⟩
 s:=fun i s hs=>by
  obtain ⟨b,u,q1,q2,q3,q4,q5,q6⟩:=rI h (n:=4) rfl (HD hs 1 (by decide))
  exact ⟨b,u,q1,q2,q3,q5,q6⟩
 w:=hw
 n:=rfl
theorem M0 (h:Rel ⟨w0,[],ro0,[]⟩ (C0 g0 g1 g2 g3 g4 b1 c0 ver bad at_ es ss T0 T2 T3 T4) ro w) :
 ∃ bp,g2.ob=some bp/\w.cell? ⟨bp,3,none⟩=some (.int .i64 ver)/\w.cell? ⟨bp,4,none⟩=some (.slice (aZ g3.ob 0) es.length g3.cap)/\w.cell? ⟨bp,5,none⟩=some (.slice (aZ g4.ob 0) ss.length g4.cap):=by
 obtain ⟨h1,bp,h2,h3,h4⟩:=h.own 2 g2 _ rfl
 have l3:=(h.own 3 g3 _ rfl).2.1
 have l4:=(h.own 4 g4 _ rfl).2.1
 rw [List.length_map] at l3 l4
 obtain ⟨u3,a3,r3⟩:=h4.get (i:=3) rfl
 obtain ⟨u4,a4,r4⟩:=h4.get (i:=4) rfl
 obtain ⟨u5,a5,r5⟩:=h4.get (i:=5) rfl
 have r3:u3=.int .i64 ver:=r3
 obtain ⟨k4,e4,_,_,_,f4⟩:=r4
 obtain ⟨k5,e5,_,_,_,f5⟩:=r5
 obtain rfl:g3=k4:=bJ e4
 obtain rfl:g4=k5:=bJ e5
 have cell:∀ (j:Nat) (u:Value),g2.vs[j]? = some u->w.cell? ⟨bp,j,none⟩=some u:=fun j u hu=>by
  unfold World.cell?
  rw [h3]
  simpa using hu
 refine ⟨bp,h2,cell 3 _ (by rw [a3,r3]),cell 4 _ (by rw [a4,f4 l3.symm]),cell 5 _ (by rw [a5,f5 l4.symm])⟩
theorem aCA {L:List (Nat × Nat)} {w':World} (h:Rel ⟨w0,[],ro0,[]⟩ (C0 g0 g1 g2 g3 g4 b1 c0 ver bad at_ es ss T0 T2 T3 T4) ro w) (h0:∀ b off v,ro0 b off=some v->off=0/\b < w0.heap.size) (hc0:c0.all ind=true)
 (hL:∀ a ∈ L,kK (es.map En.nm) ro a) (hC:Cu w L w') (hD:DnS (es.map En.nm) ro w L ss g4.ob ss.length) :
 Rel ⟨w0,[],ro0,[]⟩ (C0 g0 g1 g2 g3 g4 .dead c0 ver bad at_ es (ss.map (oM (es.map En.nm))) T0 T2 T3 T4) (n4 L ro) w':=by
 have hfresh:∀ a ∈ L,w0.heap.size<=a.1:=fun a ha=>by
  obtain ⟨_,⟨m,_,h2⟩,_⟩:=hL a ha
  rcases h.rob _ _ _ h2 with q | ⟨q | q,_⟩
  · have:=(h0 _ _ _ q).1; omega
  · exact q
  · cases q
 have hro:∀ b off v,n4 L ro b off=some v->∃ v',ro b off=some v':=fun b off v hv=>by
  by_cases hin:(b,off) ∈ L
  · exact ⟨_,(hL _ hin).1⟩
  · rw [d8 hin] at hv; exact ⟨v,hv⟩
 have hblk:∀ (n:Nat) (g:Gb) (blk:B) (b:Nat),(C0 g0 g1 g2 g3 g4 b1 c0 ver bad at_ es ss T0 T2 T3 T4)[n]? = some (g,blk)->g.ob=some b->blk.live=true->w'.heap[b]? = w.heap[b]?:=fun n g blk b hn hb hl=>by
  refine hC.keep b ((h.own n g blk hn).lt hl hb) fun off hin=>?_
  have:=h.apart b off _ (hL _ hin).1 n g blk hn hb
  rw [hl] at this; cases this
 have hlen:(ss.map (oM (es.map En.nm))).length=ss.length:=by rw [List.length_map]
 have old:∀ (n:Nat) (g:Gb) (blk:B),(C0 g0 g1 g2 g3 g4 .dead c0 ver bad at_ es (ss.map (oM (es.map En.nm))) T0 T2 T3 T4)[n]? = some (g,blk)->blk.live=true->∃ blk0,(C0 g0 g1 g2 g3 g4 b1 c0 ver bad at_ es ss T0 T2 T3 T4)[n]? = some (g,blk0)/\blk0.live=true:=fun n g blk hn hl=>by
  match n,hn with
  | 0,hn=>cases hn; exact ⟨_,rfl,rfl⟩
  | 1,hn=>cases hn; cases hl
  | 2,hn=>cases hn; exact ⟨_,rfl,rfl⟩
  | 3,hn=>cases hn; exact ⟨_,rfl,rfl⟩
  | 4,hn=>cases hn; exact ⟨_,rfl,rfl⟩
  | n + 5,hn=>cases hn
 refine ⟨fun n g blk hn=>?_,fun n m gn gm bn bm b hn hm en em ln lm=>?_,fun b off v hv n g blk hn hb=>?_,fun b off v hv=>?_,fun b off v hv=>?_,fun b off v hv=>?_,fun n b g blk hn hb hl=>?_,fun n g hn=>by simp at hn,Nat.le_trans h.sz hC.sz,fun b hb hp=>?_,hC.os.trans h.os,hC.tape.trans h.tape,hC.output.trans h.output⟩
 · match n,hn with
   | 0,hn=>
    cases hn
    obtain ⟨k1,b,k2,k3,k4⟩:=h.own 0 g0 _ rfl
    exact ⟨k1,b,k2,by rw [hblk 0 g0 _ b rfl k2 rfl]; exact k3,C2 hc0 k4⟩
   | 1,hn=>cases hn; trivial
   | 2,hn=>
    cases hn
    obtain ⟨k1,b,k2,k3,k4⟩:=h.own 2 g2 _ rfl
    refine ⟨k1,b,k2,by rw [hblk 2 g2 _ b rfl k2 rfl]; exact k3,?_⟩
    rw [hlen]
    exact C2 rfl k4
   | 3,hn=>
    cases hn
    obtain ⟨k1,k2,k3,k4,k5,k6,k7⟩:=h.own 3 g3 _ rfl
    refine ⟨k1,k2,k3,k4,?_,RI hL k6,k7⟩
    have hs:=B.On.same (w':=w') (h.own 3 g3 _ rfl) (.refl _) (.refl _) fun b hb=>hblk 3 g3 _ b rfl hb rfl
    exact hs.2.2.2.2.1
   | 4,hn=>
    cases hn
    have hs:=B.On.same (w':=w') (h.own 4 g4 _ rfl) (.refl _) (.refl _) fun b hb=>hblk 4 g4 _ b rfl hb rfl
    obtain ⟨k1,k2,k3,k4,k5,k6,k7⟩:=hs
    rw [List.length_map] at k2 k5
    refine ⟨k1,by rw [List.length_map,hlen]; exact k2,fun x hx=>?_,fun c hc=>?_,by rw [List.length_map,hlen]; exact k5,?_,k7⟩
    · obtain ⟨y,_,rfl⟩:=List.mem_map.1 hx; rfl
    · obtain ⟨r,hr1,hr2⟩:=List.mem_flatten.1 hc
      obtain ⟨y,_,rfl⟩:=List.mem_map.1 hr1
      simp only [aJ,List.mem_cons,List.not_mem_nil,or_false] at hr2
      rcases hr2 with rfl | rfl<;>rfl
    · refine GW hL ss _ k6 fun i s u h1 h2=>?_
      obtain ⟨b,u',q1,q2,q3,q4,q5,q6⟩:=rI h (n:=4) rfl (HD h1 1 (by decide))
      rw [q4] at h2
      obtain rfl:=bJ h2
      exact hD i s b u' (a8.1 h1).1 h1 q1 q5
   | n + 5,hn=>cases hn
 · obtain ⟨x,hx,lx⟩:=old n gn bn hn ln
   obtain ⟨y,hy,ly⟩:=old m gm bm hm lm
   exact h.inj n m gn gm x y b hx hy en em lx ly
 · by_cases hl:blk.live=true
   · obtain ⟨x,hx,lx⟩:=old n g blk hn hl
     obtain ⟨v',hv'⟩:=hro b off v hv
     have:=h.apart b off v' hv' n g x hx hb
     rw [lx] at this; cases this
   · simpa using hl
 · obtain ⟨v',hv'⟩:=hro b off v hv
   have hlt:=h.cell_lt hv'
   have hrd:=h.rd b off v' hv'
   refine ⟨?_,fun hst=>?_⟩
   · rw [hC.cell b off hlt]
     by_cases hin:(b,off) ∈ L
     · rw [JN hin] at hv; rw [if_pos hin]; exact hv
     · rw [d8 hin] at hv; rw [if_neg hin]; exact (h.rd b off v hv).1
   · rw [hC.fz b off hlt]; exact hrd.2 hst
 · have hno:(b,off) ∉ L:=fun hin=>Nat.lt_irrefl _ (Nat.lt_of_lt_of_le (h0 b off v hv).2 (hfresh _ hin))
   rw [d8 hno]
   exact h.ro0 b off v hv
 · by_cases hin:(b,off) ∈ L
   · refine .inr ⟨.inl (hfresh _ hin),?_⟩
     have:=(hL _ hin).2.2
     show ro.st b ≠ 0
     simp only at this
     omega
   · rw [d8 hin] at hv
     exact h.rob b off v hv
 · obtain ⟨x,hx,lx⟩:=old n g blk hn hl
   exact h.par n b g x hx hb lx
 · rw [hC.keep b (Nat.lt_of_lt_of_le hb h.sz) fun off hin=>Nat.lt_irrefl _ (Nat.lt_of_lt_of_le hb (hfresh _ hin))]
   exact h.keep b hb hp
end
theorem JU:cD 0:=⟨by decide,by decide⟩
theorem xJ {c:Bool} {ts:List Tk} {z:Fs} (h:Tks ts) (hn:z.n < ts.length):cD (jM c ts z):=by
 unfold jM
 cases mA c ts z
 · exact JU
 · exact (h.g _ (vB hn)).i
theorem m6 {c:Bool} {ts:List Tk} {z:Fs} (h:Tks ts) (hn:z.n < ts.length):(dM c ts z).size<=200:=by
 unfold dM
 cases iL c ts z
 · exact Nat.zero_le _
 · have:=(h.g _ (vB hn)).len
   rw [aM,iH]
   exact this
def TyP (t:Ty):Prop:=∃ d t0,t=cT d t0/\cD t0.k/\t0.k ≠ 5/\t0.e=[]/\t0.n.size<=200/\cD t0.s/\d.length<=4002/\∀ s ∈ d,cD s
structure FlP (f:Fl):Prop where
 n:cD f.num
 m:f.nm.size<=200
 t:TyP f.ty
structure StP (s:St):Prop where
 n:s.nm.size<=200
 l:s.fs.length<=4002
 f:∀ f ∈ s.fs,FlP f
structure EnP (e:En):Prop where
 n:e.nm.size<=200
 l:e.ns.length<=4002
 v:e.vs.length<=4002
 a:∀ n ∈ e.ns,n.size<=200
 b:∀ n ∈ e.vs,cD n
structure ScP (s:Sc):Prop where
 v:cD s.ver
 e:s.es.length<=4002
 l:s.ss.length<=4002
 a:∀ e ∈ s.es,EnP e
 b:∀ t ∈ s.ss,StP t
theorem HL {ts:List Tk} {z:Fs} (h:Tks ts) (hn:z.n < ts.length):∀ l:List Int,(∀ s ∈ l,cD s)->TyP (nY ts z l).1
 | [],_=>⟨[],_,rfl,⟨by show (_:Int)<=6; decide,by show (6:Int)<=_; decide⟩,by show (6:Int) ≠ 5; decide,rfl,m6 h hn,JU,by decide,fun s h=>by cases h⟩
 | s :: r,hl=>by
  rw [nY]
  cases aX 1 (rT s) ts z
  · cases decide (s < 64) && aX 1 (nP s) ts z
    · exact HL h hn r fun s hs=>hl s (List.mem_cons_of_mem _ hs)
    · exact ⟨[],_,rfl,⟨by show (_:Int)<=3; decide,by show (3:Int)<=_; decide⟩,by show (3:Int) ≠ 5; decide,rfl,Nat.zero_le _,hl s (List.mem_cons_self ..),by decide,fun s h=>by cases h⟩
  · exact ⟨[],_,rfl,⟨by show (_:Int)<=2; decide,by show (2:Int)<=_; decide⟩,by show (2:Int) ≠ 5; decide,rfl,Nat.zero_le _,hl s (List.mem_cons_self ..),by decide,fun s h=>by cases h⟩
theorem G6 {ts:List Tk} {z:Fs} (h:Tks ts) (hn:z.n < ts.length):cD (kR ts z):=xJ h (dC hn).2
theorem RT {ts:List Tk} {z:Fs} (h:Tks ts) (hn:z.n < ts.length):TyP (kG ts z).1:=by
 unfold kG
 cases aX 1 gM ts z
 · cases aX 1 wText ts z
   · exact HL h hn szs (by unfold szs cD; decide)
   · exact ⟨[],_,rfl,⟨by show (_:Int)<=4; decide,by show (4:Int)<=_; decide⟩,by show (4:Int) ≠ 5; decide,rfl,Nat.zero_le _,G6 h (fW hn).2,by decide,fun s h=>by cases h⟩
 · exact ⟨[],_,rfl,⟨by show (_:Int)<=1; decide,by show (1:Int)<=_; decide⟩,by show (1:Int) ≠ 5; decide,rfl,Nat.zero_le _,⟨by show (_:Int)<=0; decide,by show (0:Int)<=_; decide⟩,by decide,fun s h=>by cases h⟩
theorem N0 {ts:List Tk} (h:Tks ts):∀ (f:Nat) (d:List Int) (z:Fs),z.n < ts.length->(∀ s ∈ d,cD s)->(∀ s ∈ (lR ts f d z).1,cD s)/\(lR ts f d z).1.length<=d.length + f
 | 0,d,z,_,hd=>⟨hd,Nat.le_refl _⟩
 | f + 1,d,z,hn,hd=>by
  rw [kX]
  cases aX 1 eW ts z
  · exact ⟨hd,by show d.length<=_; omega⟩
  · have h1:=fW (k:=1) (w:=eW) hn
    have h2:=xA h1.2
    have h3:=N6 h2.2
    have ih:=N0 h f (d ++ [kR ts (bK 1 eW ts z)]) _ h3.2 fun s hs=>by
     rcases List.mem_append.1 hs with hs | hs
     · exact hd s hs
     · rw [List.mem_singleton.1 hs]; exact G6 h h1.2
    rw [aM]
    refine ⟨ih.1,?_⟩
    have:=ih.2
    rw [List.length_append,List.length_singleton] at this
    omega
theorem NP {ts:List Tk} {z:Fs}:(kG ts z).1.k ≠ 5/\(kG ts z).1.e=[]:=by
 have hS:∀ l:List Int,(nY ts z l).1.k ≠ 5/\(nY ts z l).1.e=[]:=fun l=>by
  induction l with
  | nil=>exact ⟨by show (6:Int) ≠ 5; decide,rfl⟩
  | cons s r ih=>
   rw [nY]
   cases aX 1 (rT s) ts z
   · cases decide (s < 64) && aX 1 (nP s) ts z
     · exact ih
     · exact ⟨by show (3:Int) ≠ 5; decide,rfl⟩
   · exact ⟨by show (2:Int) ≠ 5; decide,rfl⟩
 unfold kG
 cases aX 1 gM ts z
 · cases aX 1 wText ts z
   · exact hS szs
   · exact ⟨by show (4:Int) ≠ 5; decide,rfl⟩
 · exact ⟨by show (1:Int) ≠ 5; decide,rfl⟩
theorem TyP.leaf {t:Ty} (h:TyP t) (h5:t.k ≠ 5):cD t.k/\t.n.size<=200/\cD t.s:=by
 obtain ⟨d,t0,rfl,h1,h2,h3,h4,h6,_⟩:=h
 cases d with
 | nil=>exact ⟨h1,h4,h6⟩
 | cons s d=>exact absurd rfl h5
theorem SD {ts:List Tk} {z:Fs} (h:Tks ts) (hn:z.n < ts.length):TyP (oZ ts z).1:=by
 have h1:=IZ (ts.length + 1) [] z hn
 have h2:=N0 h (ts.length + 1) [] z hn fun s hs=>by cases hs
 have h3:=NP (ts:=ts) (z:=(lR ts (ts.length + 1) [] z).2)
 have h4:=(RT h h1.2).leaf h3.1
 have h5:=h.e.le
 have h6:=h2.2
 simp only [List.length_nil] at h6
 exact ⟨_,_,rfl,h4.1,h3.1,h3.2,h4.2.1,h4.2.2,by omega,h2.1⟩
theorem ZY {ts:List Tk} {z:Fs} (h:Tks ts) (hn:z.n < ts.length):FlP (pD ts z).1:=by
 have h1:=n5 (c:=false) hn
 have h2:=fM (c:=false) h1.2
 have h3:=dC (w:=[58]) h2.2
 exact ⟨xJ h hn,m6 h h1.2,SD h h3.2⟩
theorem PK {ts:List Tk} (h:Tks ts):∀ (f:Nat) (l:List Fl) (z:Fs),z.n < ts.length->(∀ x ∈ l,FlP x)->(∀ x ∈ (nR ts f l z).1,FlP x)/\(nR ts f l z).1.length<=l.length + f
 | 0,l,z,_,hl=>⟨hl,Nat.le_refl _⟩
 | f + 1,l,z,hn,hl=>by
  rw [mZ]
  cases z.bad
  · cases aX 4 [125] ts z
    · cases (bB ts z.n).k != 2
      · have ih:=PK h f (l ++ [(pD ts z).1]) _ (JJ hn).2 fun x hx=>by
         rcases List.mem_append.1 hx with hx | hx
         · exact hl x hx
         · rw [List.mem_singleton.1 hx]; exact ZY h hn
        rw [aG,aG,aG]
        refine ⟨ih.1,?_⟩
        have:=ih.2
        rw [List.length_append,List.length_singleton] at this
        omega
      · exact ⟨hl,by simp only [aM,aG]; omega⟩
    · exact ⟨hl,by simp only [aM,aG]; omega⟩
  · exact ⟨hl,by simp only [aM]; omega⟩
theorem aAD {ts:List Tk} {z:Fs} (h:Tks ts) (hn:z.n < ts.length):StP (jF ts z).1:=by
 have h1:=fM (c:=true) hn
 have h2:=dC (w:=[123]) h1.2
 have h3:=PK h (ts.length + 1) [] _ h2.2 fun x hx=>by cases hx
 have h5:=h.e.le
 have h6:=h3.2
 simp only [List.length_nil] at h6
 refine ⟨m6 h hn,?_,h3.1⟩
 unfold jF
 simp only
 omega
theorem PD {ts:List Tk} (h:Tks ts):∀ (f:Nat) (a:List ByteArray) (b:List Int) (z:Fs),z.n < ts.length->(∀ x ∈ a,x.size<=200)->(∀ x ∈ b,cD x)->
 ((∀ x ∈ (l8 ts f a b z).1.1,x.size<=200)/\∀ x ∈ (l8 ts f a b z).1.2,cD x)/\(l8 ts f a b z).1.1.length<=a.length + f/\(l8 ts f a b z).1.2.length<=b.length + f
 | 0,a,b,z,_,ha,hb=>⟨⟨ha,hb⟩,Nat.le_refl _,Nat.le_refl _⟩
 | f + 1,a,b,z,hn,ha,hb=>by
  have h1:=fM (c:=false) hn
  have h2:=dC (w:=[61]) h1.2
  have ha':∀ x ∈ a ++ [dM false ts z],x.size<=200:=fun x hx=>by
   rcases List.mem_append.1 hx with hx | hx
   · exact ha x hx
   · rw [List.mem_singleton.1 hx]; exact m6 h hn
  have hb':∀ x ∈ b ++ [jM false ts (cA [61] ts (cO false ts z))],cD x:=fun x hx=>by
   rcases List.mem_append.1 hx with hx | hx
   · exact hb x hx
   · rw [List.mem_singleton.1 hx]; exact xJ h h2.2
  rw [pP]
  cases z.bad
  · cases aX 4 [44] ts (nT ts z)
    · refine ⟨⟨ha',hb'⟩,?_,?_⟩<;>(simp only [aG,List.length_append,List.length_singleton]; omega)
    · have ih:=PD h f _ _ _ (fW (k:=4) (w:=[44]) (PO hn).2).2 ha' hb'
      rw [aG,aM]
      refine ⟨ih.1,?_,?_⟩
      · have:=ih.2.1; rw [List.length_append,List.length_singleton] at this; omega
      · have:=ih.2.2; rw [List.length_append,List.length_singleton] at this; omega
  · exact ⟨⟨ha,hb⟩,by simp only [aM]; omega,by simp only [aM]; omega⟩
theorem aAE {ts:List Tk} {z:Fs} (h:Tks ts) (hn:z.n < ts.length):EnP (iU ts z).1:=by
 have h1:=fM (c:=true) hn
 have h2:=dC (w:=[123]) h1.2
 have h3:=PD h (ts.length + 1) [] [] _ h2.2 (fun x hx=>by cases hx) fun x hx=>by cases hx
 have h5:=h.e.le
 have h6:=h3.2
 simp only [List.length_nil] at h6
 exact ⟨m6 h hn,by unfold iU; simp only; omega,by unfold iU; simp only; omega,h3.1.1,h3.1.2⟩
theorem TyP.wrp {t:Ty} (h:TyP t):∃ d t0,A0 d t0 t:=by
 obtain ⟨d,t0,h1,_,h2,h3,_⟩:=h
 exact ⟨d,t0,h1,h2,h3⟩
theorem TyP.rs {t:Ty} (h:TyP t) (ns:List ByteArray):TyP (jN ns t):=by
 obtain ⟨d,t0,rfl,h1,h2,h3,h4,h5,h6,h7⟩:=h
 rw [uO,C5 h2]
 cases t0.k == 6 && rG ns t0.n
 · exact ⟨d,t0,rfl,h1,h2,h3,h4,h5,h6,h7⟩
 · exact ⟨d,_,rfl,⟨by show (_:Int)<=7; decide,by show (7:Int)<=_; decide⟩,by show (7:Int) ≠ 5; decide,h3,h4,h5,h6,h7⟩
theorem StP.rs {s:St} (h:StP s) (ns:List ByteArray):StP (oM ns s):=
 ⟨h.n,by show (s.fs.map _).length<=_; rw [List.length_map]; exact h.l,fun f hf=>by
  obtain ⟨g,hg,rfl⟩:=List.mem_map.1 hf
  have:=h.f g hg
  exact ⟨this.n,this.m,this.t.rs ns⟩⟩
theorem TyP.ok {t:Ty} (h:TyP t):TyOk t/\TySm t/\(bO t).1<=4002:=by
 obtain ⟨d,t0,rfl,h1,h2,h3,h4,h5,h6,h7⟩:=h
 have key:∀ d:List Int,(∀ s ∈ d,cD s)->TyOk (cT d t0)/\TySm (cT d t0)/\(bO (cT d t0)).1<=d.length:=fun d=>by
  induction d with
  | nil=>
   intro _
   cases t0 with
   | mk k s n e=>
    have h3:e=[]:=h3
    subst h3
    have h2:k ≠ 5:=h2
    have h4:n.size<=200:=h4
    refine ⟨.mk h1 h5 (by omega) (by simp) (fun u hu=>by cases hu),.mk (by simp) (fun u hu=>by cases hu),?_⟩
    show (bO (.mk k s n [])).1<=0
    rw [bO,beq_eq_false_iff_ne.2 h2]; exact Nat.le_refl _
  | cons s d ih=>
   intro hd
   obtain ⟨i1,i2,i3⟩:=ih fun s hs=>hd s (List.mem_cons_of_mem _ hs)
   show TyOk (.mk 5 s (mk []) [cT d t0])/\TySm (.mk 5 s (mk []) [cT d t0])/\(bO (.mk 5 s (mk []) [cT d t0])).1<=d.length + 1
   refine ⟨.mk ⟨by decide,by decide⟩ (hd s (List.mem_cons_self ..)) (by decide) (by simp) (fun u hu=>by rw [List.mem_singleton.1 hu]; exact i1),.mk (by simp) (fun u hu=>by rw [List.mem_singleton.1 hu]; exact i2),?_⟩
   rw [bO]
   show (bO (cT d t0)).1 + 1<=d.length + 1
   omega
 have:=key d h7
 exact ⟨this.1,this.2.1,by omega⟩
theorem ScP.fit {s:Sc} (h:ScP s):s.fit where
 ok:=⟨h.v,by have:=h.e; omega,by have:=h.l; omega,fun e he=>by
  have q:=h.a e he
  exact ⟨by have:=q.n; omega,by have:=q.l; omega,by have:=q.v; omega,fun n hn=>by have:=q.a n hn; omega,q.b⟩,fun t ht=>by
  have q:=h.b t ht
  refine ⟨by have:=q.n; omega,by have:=q.l; omega,fun f hf=>?_⟩
  have r:=q.f f hf
  exact ⟨r.n,by have:=r.m; omega,r.t.ok.1⟩⟩
 lv:=fun t ht f hf=>by have:=((h.b t ht).f f hf).t.ok.2.2; omega
 sm:=fun t ht=>⟨by have:=(h.b t ht).l; omega,fun f hf=>((h.b t ht).f f hf).t.ok.2.1⟩
 en:=fun e he=>⟨by have:=(h.a e he).l; omega,by have:=(h.a e he).v; omega⟩
def wInt:List UInt8:=[105,110,116]
def wUint:List UInt8:=[117,105,110,116]
def kF (x:List UInt8):Bool:=match x with | b :: _=>decide (65<=b) && decide (b<=90) | []=>false
def GO (t:Ty):List UInt8:=bif bl t.n == [] && (t.s == 8 || t.s == 16 || t.s == 32 || (t.s == 64 && t.k == 2)) then wInt ++ bM t.s else []
def DA (t:Ty):List UInt8:=bif t.s == 0 && bR (bl t.n) && kF (bl t.n) then bl t.n else []
theorem UO {A:Bool} {x:List UInt8} {c1 c2:UInt8} (h1:A=true->x[0]? = some c1) (h2:(A && decide (65<=(c1.toNat:Int)))=true->x[0]? = some c2):(A && decide (65<=(c1.toNat:Int)) && decide ((c2.toNat:Int)<=90))=(A && kF x):=by
 cases A
 · rfl
 have h1:=h1 rfl
 match x,h1 with
 | b :: r,h1=>
  obtain rfl:b=c1:=bJ h1
  have e1:decide (65<=(b.toNat:Int))=decide (65<=b):=decide_eq_decide.2 (by rw [UInt8.le_iff_toNat_le]; exact Int.ofNat_le (m:=65))
  rw [e1] at h2 ⊢
  unfold kF
  cases h3:decide (65<=b)
  · simp only [h3]; rfl
  · rw [h3] at h2
    obtain rfl:b=c2:=bJ (h2 rfl)
    simp only [Bool.true_and,h3]
    exact decide_eq_decide.2 (show ((b.toNat:Int)<=((90:Nat):Int)) ↔ b<=90 from Int.ofNat_le.trans (UInt8.le_iff_toNat_le (b:=90)).symm)
theorem E5 {x:List UInt8} {A:Bool} (h:(A && bR x)=true):0 < x.length:=by
 rw [Bool.and_eq_true] at h
 match x,h.2 with
 | _ :: _,_=>simp
def jG (t:Ty):List UInt8:=
 bif decide (0 < (t.e.length:Int)) then [] else
 bif t.k == 1 then bif t.s == 0 && bl t.n == [] then gM else [] else
 bif t.k == 3 then bif bl t.n == [] && (t.s == 8 || t.s == 16 || t.s == 32 || (t.s == 64 && t.k == 2)) then wUint ++ bM t.s else [] else
 bif t.k == 2 then GO t else
 bif t.k == 4 then bif decide (0<=t.s) && bl t.n == [] then wText ++ [91] ++ bM t.s ++ [93] else [] else
 bif t.k == 6 || t.k == 7 then DA t else []
noncomputable def pxFn:Fun:=mX e8 C.ty fun t=>.string (mk (jG t))
attribute [go_sem] pxFn
theorem I1:Meets Tryz.prog 53 pxFn.sp:=by
 refine aI Tryz.func53 aCI 1 (by rw [Tryz.ntmps53]; decide) (aL BQ (aL sZ (aC _))) iE ?_
 rintro av H K ⟨⟨h,rfl⟩,hK⟩
 obtain ⟨_,rfl,t,rfl,hs⟩:=eK h
 have hK:K (tS (mk (jG t))) []:=by
  have:pxFn.val [.va (.gs (aP t))]=tA (mk (jG t)):=by simp -dsimp only [go_sem]
  rw [this] at hK; exact hK
 clear h
 have fin:∀ (x:List UInt8) (R:Hp),jG t=x->W.Fin 0 K (tS (mk x)) R:=fun x R h1=>by
  rw [h1] at hK
  exact .z (hK)
 simp (maxSteps:=9^6) -dsimp only [go_sem,WR,WW,bX t]
 have hsn:cD t.s:=hs.s
 have hln:(bl t.n).length<=9223372036854775807:=hs.n
 have hd:(bM t.s).length<=21:=iZ hsn.1 hsn.2
 repeat' first | (intro _) | (refine And.intro ?_ ?_)
 all_goals first
  | exact hsn.1
  | exact hsn.2
  | omega
  | exact Int.ofNat_lt.2 (E5 ‹(t.s == 0 && bR (bl t.n))=true›)
  | exact Int.ofNat_lt.2 (E5 (Bool.and_eq_true_iff.1 ‹(t.s == 0 && bR (bl t.n) && _)=true›).1)
  | (refine fin _ _ ?_; unfold jG; simp only [*,aM,aG,Bool.or_true,Bool.true_or]; done)
  | (refine fin _ _ ?_; unfold jG; simp only [*,aM,aG,Bool.or_true,Bool.true_or]; rfl)
  | (refine fin _ _ ?_; unfold jG; simp only [*,aM,aG,Bool.or_true,Bool.true_or]; unfold GO; rename_i h; rw [h]; rfl)
  | (refine fin _ _ ?_; unfold jG; simp only [*,aM,aG,Bool.or_true,Bool.true_or]; unfold DA; rename_i q1 _ q2 q; rw [<-UO q1 q2,q]; rfl)
  | (simp [*]; done)
  | (simp_all; done)
  | skip
end Go.Proofs.YtgogpogophflhaaGreatDoor
