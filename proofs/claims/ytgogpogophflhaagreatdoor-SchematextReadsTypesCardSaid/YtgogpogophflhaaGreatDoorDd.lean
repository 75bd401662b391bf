/- Lemmas and walks for the proof. -/
import Derived.Test.YtgogpogophflhaaGreatDoorDc
import Derived.Test.YtgogpogophflhaaGreatDoorProg
import Derived.Shelf.Strconv.Itoa3
import Derived.ProofKit
import Derived.OpenShut
import Derived.WalkKit
import Derived.Deep.LoopGhost
import Derived.Deep.QuietTactic
import Derived.BigQuiet
set_option maxRecDepth 100000
set_option maxHeartbeats 8000000
namespace Go.Proofs.YtgogpogophflhaaGreatDoor
open Go.W
def A9 (t:St) (b:ByteArray):Prop:=∃ f ∈ t.fs,cR f.ty=true/\bO f.ty=b
def fB (ss:List St) (a b:ByteArray):Prop:=A9 ((fS ss a).getD default) b
inductive Reach (ss:List St):ByteArray->ByteArray->Prop
 | one {a b:ByteArray}:fB ss a b->Reach ss a b
 | more {a b c:ByteArray}:Reach ss a b->fB ss b c->Reach ss a c
theorem Reach.head {ss:List St} {a b c:ByteArray} (h:fB ss a b) (r:Reach ss b c):Reach ss a c:=by
 induction r with
 | one h2=>exact .more (.one h) h2
 | more _ h2 ih=>exact .more ih h2
theorem Reach.trans {ss:List St} {a b c:ByteArray} (h:Reach ss a b) (r:Reach ss b c):Reach ss a c:=by
 induction r with
 | one h2=>exact .more h h2
 | more _ h2 ih=>exact .more ih h2
theorem Reach.first {ss:List St} {a c:ByteArray} (r:Reach ss a c):∃ b,fB ss a b/\(c=b\/Reach ss b c):=by
 induction r with
 | one h=>exact ⟨_,h,.inl rfl⟩
 | more _ h2 ih=>
  obtain ⟨b,h3,h4⟩:=ih
  refine ⟨b,h3,.inr ?_⟩
  rcases h4 with rfl | h4
  · exact .one h2
  · exact .more h4 h2
theorem wI {o:List ByteArray} {n:ByteArray}:cG o n=false ↔ n ∉ o:=by
 rw [<-Bool.not_eq_true,qL]
theorem J7 (ss:List St) {N:Nat} (ih:∀ t o,fresh ss o < N->(∀ b,A9 t b->b ∈ b7 ss N t o)/\∀ x ∈ b7 ss N t o,x ∉ o->∀ y,fB ss x y->y ∈ b7 ss N t o) (o:List ByteArray) (f:Fl) (h:fresh ss o < N + 1) :
 (cR f.ty=true->bO f.ty ∈ bG (b7 ss N) ss o f)/\∀ x ∈ bG (b7 ss N) ss o f,x ∉ o->∀ y,fB ss x y->y ∈ bG (b7 ss N) ss o f:=by
 cases c1:cR f.ty with
 | false=>
  have:bG (b7 ss N) ss o f=o:=by unfold bG; rw [c1]; rfl
  rw [this]; exact ⟨fun h=>by simp at h,fun x hx hn=>absurd hx hn⟩
 | true=>
 cases c2:cG o (bO f.ty) with
 | true=>
  have:bG (b7 ss N) ss o f=o:=by unfold bG; rw [c1,c2]; rfl
  rw [this]; exact ⟨fun _=>(qL _ _).1 c2,fun x hx hn=>absurd hx hn⟩
 | false=>
  cases hs:fS ss (bO f.ty) with
  | none=>
   have:bG (b7 ss N) ss o f=o ++ [bO f.ty]:=by unfold bG; rw [c1,c2,hs]; rfl
   rw [this]
   refine ⟨fun _=>by simp,fun x hx hn y hy=>?_⟩
   have:x=bO f.ty:=by simpa [hn] using hx
   subst this
   unfold fB at hy; rw [hs] at hy
   obtain ⟨g,hg,_⟩:=hy; cases hg
  | some d=>
   have:bG (b7 ss N) ss o f=b7 ss N d (o ++ [bO f.ty]):=by unfold bG; rw [c1,c2,hs]; rfl
   rw [this]
   have hl:=tE c2 hs
   obtain ⟨i1,i2⟩:=ih d (o ++ [bO f.ty]) (by omega)
   obtain ⟨q,hq⟩:=jD ss N d (o ++ [bO f.ty])
   refine ⟨fun _=>by rw [hq]; simp,fun x hx hn y hy=>?_⟩
   by_cases hxn:x=bO f.ty
   · subst hxn
     unfold fB at hy; rw [hs] at hy
     exact i1 y hy
   · exact i2 x hx (by simp [hn,hxn]) y hy
theorem zT (ss:List St) {N:Nat} (ih:∀ t o,fresh ss o < N->(∀ b,A9 t b->b ∈ b7 ss N t o)/\∀ x ∈ b7 ss N t o,x ∉ o->∀ y,fB ss x y->y ∈ b7 ss N t o):∀ (l:List Fl) (o:List ByteArray),fresh ss o < N + 1->
 (∀ f ∈ l,cR f.ty=true->bO f.ty ∈ l.foldl (bG (b7 ss N) ss) o)/\∀ x ∈ l.foldl (bG (b7 ss N) ss) o,x ∉ o->∀ y,fB ss x y->y ∈ l.foldl (bG (b7 ss N) ss) o
 | [],o,_=>⟨fun f h=>(List.not_mem_nil h).elim,fun x hx hn=>absurd hx hn⟩
 | f :: l,o,h=>by
  obtain ⟨s1,s2⟩:=J7 ss ih o f h
  have hp:=mL (jD ss N) ss o f
  obtain ⟨r1,r2⟩:=zT ss ih l (bG (b7 ss N) ss o f) (by have:=hp.fresh (ss:=ss); omega)
  obtain ⟨q,hq⟩:=nR (fun o f=>mL (jD ss N) ss o f) l (bG (b7 ss N) ss o f)
  have hin:∀ x,x ∈ bG (b7 ss N) ss o f->x ∈ l.foldl (bG (b7 ss N) ss) (bG (b7 ss N) ss o f):=fun x hx=>by rw [hq]; simp [hx]
  rw [List.foldl_cons]
  refine ⟨fun g hg hn=>?_,fun x hx hn y hy=>?_⟩
  · rcases List.mem_cons.1 hg with rfl | hg
    · exact hin _ (s1 hn)
    · exact r1 g hg hn
  · by_cases hx2:x ∈ bG (b7 ss N) ss o f
    · exact hin _ (s2 x hx2 hn y hy)
    · exact r2 x hx hx2 y hy
theorem G6 (ss:List St):∀ (N:Nat) (t:St) (o:List ByteArray),fresh ss o < N->(∀ b,A9 t b->b ∈ b7 ss N t o)/\∀ x ∈ b7 ss N t o,x ∉ o->∀ y,fB ss x y->y ∈ b7 ss N t o
 | 0,_,_,h=>absurd h (Nat.not_lt_zero _)
 | N + 1,t,o,h=>by
  obtain ⟨r1,r2⟩:=zT ss (G6 ss N) t.fs o h
  exact ⟨fun b ⟨f,hf,hn,hb⟩=>hb ▸ r1 f hf hn,r2⟩
theorem yL (ss:List St):∀ (N:Nat) (t:St) (o:List ByteArray),∀ x ∈ b7 ss N t o,x ∈ o\/∃ b,A9 t b/\(x=b\/Reach ss b x)
 | 0,_,o=>fun x hx=>.inl hx
 | N + 1,t,o=>by
  have step:∀ (o:List ByteArray) (f:Fl),∀ x ∈ bG (b7 ss N) ss o f,x ∈ o\/(cR f.ty=true/\(x=bO f.ty\/Reach ss (bO f.ty) x)):=fun o f x hx=>by
   cases c1:cR f.ty with
   | false=>
    have:bG (b7 ss N) ss o f=o:=by unfold bG; rw [c1]; rfl
    rw [this] at hx; exact .inl hx
   | true=>
   cases c2:cG o (bO f.ty) with
   | true=>
    have:bG (b7 ss N) ss o f=o:=by unfold bG; rw [c1,c2]; rfl
    rw [this] at hx; exact .inl hx
   | false=>
    cases hs:fS ss (bO f.ty) with
    | none=>
     have:bG (b7 ss N) ss o f=o ++ [bO f.ty]:=by unfold bG; rw [c1,c2,hs]; rfl
     rw [this] at hx
     rcases List.mem_append.1 hx with h | h
     · exact .inl h
     · exact .inr ⟨rfl,.inl (by simpa using h)⟩
    | some d=>
     have:bG (b7 ss N) ss o f=b7 ss N d (o ++ [bO f.ty]):=by unfold bG; rw [c1,c2,hs]; rfl
     rw [this] at hx
     rcases yL ss N d _ x hx with h | ⟨b,hb,h⟩
     · rcases List.mem_append.1 h with h | h
       · exact .inl h
       · exact .inr ⟨rfl,.inl (by simpa using h)⟩
     · have hr:fB ss (bO f.ty) b:=by unfold fB; rw [hs]; exact hb
       refine .inr ⟨rfl,.inr ?_⟩
       rcases h with rfl | h
       · exact .one hr
       · exact .head hr h
  have fold:∀ (l:List Fl) (o:List ByteArray),∀ x ∈ l.foldl (bG (b7 ss N) ss) o,x ∈ o\/∃ f ∈ l,cR f.ty=true/\(x=bO f.ty\/Reach ss (bO f.ty) x):=by
   intro l
   induction l with
   | nil=>exact fun o x hx=>.inl hx
   | cons f l ih=>
    intro o x hx
    rw [List.foldl_cons] at hx
    rcases ih _ x hx with h | ⟨g,hg,h⟩
    · rcases step o f x h with h | h
      · exact .inl h
      · exact .inr ⟨f,List.mem_cons_self,h⟩
    · exact .inr ⟨g,List.mem_cons_of_mem _ hg,h⟩
  intro x hx
  rcases fold t.fs o x hx with h | ⟨f,hf,hn,h⟩
  · exact .inl h
  · exact .inr ⟨bO f.ty,⟨f,hf,hn,rfl⟩,h⟩
theorem yB (ss:List St):∀ (N:Nat) (t:St) (o:List ByteArray),o.Nodup->(b7 ss N t o).Nodup
 | 0,_,_=>id
 | N + 1,t,o=>by
  have step:∀ (o:List ByteArray) (f:Fl),o.Nodup->(bG (b7 ss N) ss o f).Nodup:=fun o f ho=>by
   have app:cG o (bO f.ty)=false->(o ++ [bO f.ty]).Nodup:=fun c2=>by
    rw [wI] at c2
    rw [List.nodup_append]
    exact ⟨ho,by simp,fun a ha b hb=>by simp at hb; subst hb; exact fun e=>c2 (e ▸ ha)⟩
   unfold bG
   cases c1:cR f.ty with
   | false=>exact ho
   | true=>
   cases c2:cG o (bO f.ty) with
   | true=>exact ho
   | false=>
    cases hs:fS ss (bO f.ty) with
    | none=>exact app c2
    | some d=>exact yB ss N d _ (app c2)
  show o.Nodup->(t.fs.foldl (bG (b7 ss N) ss) o).Nodup
  generalize t.fs=l
  induction l generalizing o with
  | nil=>exact id
  | cons f l ih=>exact fun h=>ih _ (step o f h)
theorem i7 (ss:List St) (n x:ByteArray):x ∈ fA ss n ↔ Reach ss n x:=by
 unfold fA
 constructor
 · intro h
   rcases yL ss _ _ _ x h with h | ⟨b,hb,h⟩
   · cases h
   · rcases h with rfl | h
     · exact .one hb
     · exact .head hb h
 · intro h
   obtain ⟨c1,c2⟩:=G6 ss (ss.length + 1) ((fS ss n).getD default) [] (Nat.lt_succ_of_le (sU ss []))
   induction h with
   | one h=>exact c1 _ h
   | more _ h2 ih=>exact c2 _ ih (by simp) _ h2
theorem AT (ss:List St) (n:ByteArray):(fA ss n).Nodup:=yB ss _ _ _ .nil
theorem IZ {l:List ByteArray} {x:ByteArray}:x ∈ eS l ↔ x ∈ l:=by
 unfold eS
 rw [List.mem_map]
 constructor
 · rintro ⟨y,hy,rfl⟩
   rw [List.mem_mergeSort,List.mem_map] at hy
   obtain ⟨z,hz,rfl⟩:=hy
   rw [jO]; exact hz
 · intro h
   exact ⟨bl x,by rw [List.mem_mergeSort]; exact List.mem_map_of_mem h,jO x⟩
theorem HE {ss:List St} {n x:ByteArray}:x ∈ eU ss n ↔ Reach ss n x:=by unfold eU; rw [IZ,i7]
theorem IC (ss:List St) (n:ByteArray):(eU ss n).length=(fA ss n).length:=lL _
structure Gd (ss:List St) (es:List En):Prop where
 ok:∀ s ∈ ss,s.ok
 n:ss.length<=16
 m:es.length<=16
 val:∀ s ∈ ss,∀ f ∈ s.fs,valF ss es f.ty=true
 lv:∀ s ∈ ss,∀ f ∈ s.fs,(bL f.ty).1<=1000000000
 nd:∀ s ∈ ss,fS ss s.nm=some s
def BI (ss:List St):Prop:=∀ s ∈ ss,cG (eU ss s.nm) s.nm=false
theorem KO {ss:List St} {es:List En} {s:Int} {n:ByteArray} {e:List Ty} (h:valF ss es (.mk 5 s n e)=true):∃ u,e=[u]/\valF ss es u=true:=by
 rw [valF] at h
 simp only [show ((5:Int) == 1)=false from rfl,show ((5:Int) == 2)=false from rfl,show ((5:Int) == 3)=false from rfl,show ((5:Int) == 4)=false from rfl,show ((5:Int) == 5)=true from rfl,aO,aH,Bool.and_eq_true] at h
 obtain ⟨_,h⟩:=h
 match e,h with
 | [],h=>simp [qN] at h
 | [u],h=>exact ⟨u,rfl,by simpa [qN] using h⟩
 | u :: v :: r,h=>simp [qN] at h
theorem uT (ss:List St) (es:List En):∀ (N:Nat) (t:Ty),t.h<=N->valF ss es t=true->LOk t/\d4 t=(bL t).2/\((d4 t).k == 5)=false/\valF ss es (d4 t)=true
 | 0,t,h,_=>absurd h (by have:=t.h_pos; omega)
 | N + 1,.mk k s n e,h,hv=>by
  cases k5:k == 5 with
  | true=>
   obtain rfl:k=5:=by simpa using k5
   obtain ⟨u,rfl,hu⟩:=KO hv
   obtain ⟨i1,i2,i3,i4⟩:=uT ss es N u (by rw [Ty.h,Ty.hs,Ty.hs] at h; omega) hu
   rw [x9]
   exact ⟨.list i1,by rw [i2]; simp [bL,D5],i3,i4⟩
  | false=>
   have h1:d4 (.mk k s n e)=.mk k s n e:=tI (by rw [k5]; rfl)
   rw [h1]
   exact ⟨.stop k5,by rw [bL,k5]; rfl,k5,hv⟩
theorem U0 {ss:List St} {es:List En} {t:Ty} (hv:valF ss es t=true) (hn:cR t=true):gX ss (bO t)=true\/fD es (bO t)=true:=by
 obtain ⟨_,_,_,h⟩:=uT ss es t.h t (Nat.le_refl _) hv
 unfold cR at hn
 unfold bO
 revert h hn
 generalize d4 t=u
 cases u with
 | mk k s n e=>
 intro hn h
 simp only [Ty.k,Bool.or_eq_true,beq_iff_eq] at hn
 rcases hn with rfl | rfl
 · left; rw [valF] at h; simp at h; exact h.1.1
 · right; rw [valF] at h; simp at h; exact h.1.1
theorem OP {ss:List St} {es:List En} {t:Ty} (hv:valF ss es t=true) (hk:((bL t).2.k == 6)=true):cR t=true/\bO t=(bL t).2.n/\gX ss (bL t).2.n=true/\LOk t:=by
 obtain ⟨h1,h2,_,h⟩:=uT ss es t.h t (Nat.le_refl _) hv
 unfold cR bO
 rw [h2] at h ⊢
 refine ⟨by rw [hk]; rfl,rfl,?_,h1⟩
 revert h hk
 generalize (bL t).2=u
 cases u with
 | mk k s n e=>
 intro hk h
 obtain rfl:k=6:=by simpa [Ty.k] using hk
 rw [valF] at h; simp at h; exact h.1.1
theorem pR {ss:List St} {n:ByteArray} {t:St} (h:fS ss n=some t):t ∈ ss/\t.nm=n:=⟨List.mem_of_find?_eq_some h,by have:=List.find?_some h; simpa using this⟩
theorem N7 {ss:List St} {a b:ByteArray} (h:fB ss a b):∃ t f,fS ss a=some t/\t ∈ ss/\f ∈ t.fs/\cR f.ty=true/\bO f.ty=b:=by
 obtain ⟨f,hf,hn,hb⟩:=h
 cases hs:fS ss a with
 | none=>rw [hs] at hf; cases hf
 | some t=>rw [hs] at hf; exact ⟨t,f,rfl,(pR hs).1,hf,hn,hb⟩
theorem J4 {ss:List St} {es:List En} (g:Gd ss es) {a b:ByteArray} (h:Reach ss a b):gX ss b=true\/fD es b=true:=by
 have:∃ c,fB ss c b:=by cases h with
  | one h=>exact ⟨_,h⟩
  | more _ h=>exact ⟨_,h⟩
 obtain ⟨c,h⟩:=this
 obtain ⟨t,f,_,ht,hf,hn,rfl⟩:=N7 h
 exact U0 (g.val t ht f hf) hn
theorem x3 {α:Type} [DecidableEq α]:∀ {l m:List α},l.Nodup->(∀ x ∈ l,x ∈ m)->l.length<=m.length
 | [],_,_,_=>Nat.zero_le _
 | x :: l,m,h,hs=>by
  have h2:=List.nodup_cons.1 h
  have hx:=hs x List.mem_cons_self
  have:=x3 (m:=m.erase x) h2.2 fun y hy=>(List.mem_erase_of_ne (fun e=>h2.1 (by rw [<-e]; exact hy))).2 (hs y (List.mem_cons_of_mem _ hy))
  rw [List.length_erase_of_mem hx] at this
  have hp:=List.length_pos_of_mem hx
  simp only [List.length_cons]; omega
theorem Gd.vlen {ss:List St} {es:List En} (g:Gd ss es) (n:ByteArray):(fA ss n).length<=32:=by
 have h:=x3 (m:=ss.map (·.nm) ++ es.map (·.nm)) (AT ss n) fun x hx=>by
  rw [i7] at hx
  rw [List.mem_append,List.mem_map,List.mem_map]
  rcases J4 g hx with h | h
  · left; unfold gX at h; rw [List.any_eq_true] at h; obtain ⟨t,h1,h2⟩:=h; exact ⟨t,h1,of_decide_eq_true h2⟩
  · right; unfold fD at h; rw [List.any_eq_true] at h; obtain ⟨t,h1,h2⟩:=h; exact ⟨t,h1,of_decide_eq_true h2⟩
 have h1:=g.n
 have h2:=g.m
 simp only [List.length_append,List.length_map] at h
 omega
def BD (ss:List St) (n:ByteArray):Nat:=ss.countP fun s=>cG (fA ss n) s.nm
theorem yK {α:Type} {p q:α->Bool}:∀ {l:List α},(∀ x ∈ l,p x=true->q x=true)->(∃ x ∈ l,q x=true/\p x=false)->l.countP p < l.countP q
 | [],_,⟨_,h,_⟩=>by cases h
 | y :: l,h,⟨x,hx,h1,h2⟩=>by
  have hm:=List.countP_mono_left fun z hz=>h z (List.mem_cons_of_mem _ hz)
  have hy:=h y List.mem_cons_self
  rw [List.countP_cons,List.countP_cons]
  rcases List.mem_cons.1 hx with rfl | hx
  · rw [h1,h2]; simp; omega
  · have:=yK (fun z hz=>h z (List.mem_cons_of_mem _ hz)) ⟨x,hx,h1,h2⟩
    cases hp:p y with
    | true=>rw [hy hp]; simp; exact this
    | false=>cases q y<;>simp<;>omega
theorem PV (ss:List St) (n:ByteArray):BD ss n<=ss.length:=List.countP_le_length
theorem D0 {ss:List St} {n m:ByteArray} {u:St} (h:fB ss n m) (hu:fS ss m=some u) (ha:BI ss):BD ss m < BD ss n:=by
 obtain ⟨h1,h2⟩:=pR hu
 refine yK (fun s _ hs=>?_) ⟨u,h1,?_,?_⟩
 · rw [qL,i7] at hs ⊢; exact .head h hs
 · rw [qL,i7,h2]; exact .one h
 · rw [wI,i7,<-HE,<-wI]
   have:=ha u h1
   rw [h2] at this ⊢; exact this
theorem O2 {dp:ByteArray->Int} {B:Int} (hB:0<=B) {l:List Fl} (h:∀ f ∈ l,eT dp f.ty<=B):j9 dp l<=B:=by
 have key:∀ (l:List Fl) (m:Int),m<=B->(∀ f ∈ l,eT dp f.ty<=B)->l.foldl (gF dp) m<=B:=by
  intro l
  induction l with
  | nil=>exact fun m hm _=>hm
  | cons f l ih=>exact fun m hm h=>ih _ (by have:=h f List.mem_cons_self; show max m (eT dp f.ty)<=B; omega) fun g hg=>h g (List.mem_cons_of_mem _ hg)
 exact key l 0 hB h
theorem C0 (dp:ByteArray->Int) (l:List Fl):0<=j9 dp l:=yX dp l 0
theorem uB {dp dq:ByteArray->Int} {l:List Fl} (h:∀ f ∈ l,eT dp f.ty=eT dq f.ty):j9 dp l=j9 dq l:=by
 have key:∀ (l:List Fl) (m:Int),(∀ f ∈ l,eT dp f.ty=eT dq f.ty)->l.foldl (gF dp) m=l.foldl (gF dq) m:=by
  intro l
  induction l with
  | nil=>exact fun _ _=>rfl
  | cons f l ih=>exact fun m h=>by rw [List.foldl_cons,List.foldl_cons,gF,h f List.mem_cons_self]; exact ih _ fun g hg=>h g (List.mem_cons_of_mem _ hg)
 exact key l 0 h
def dK:Nat:=99
def dD (ss:List St) (n:ByteArray):Int:=dN ss (dK + 1) n
theorem NL (ss:List St) (N:Nat) (n:ByteArray):dN ss (N + 1) n=j9 (dN ss N) ((fS ss n).getD default).fs + 1:=rfl
theorem MP:dK=99:=rfl
theorem IJ (ss:List St) (n:ByteArray):dD ss n=dN ss (dK + 1) n:=rfl
attribute [irreducible] dK
theorem Q9 (ss:List St):∀ (N:Nat) (n:ByteArray),1<=dN ss N n
 | 0,_=>Int.le_refl _
 | N + 1,n=>by have:=C0 (dN ss N) ((fS ss n).getD default).fs; rw [dN]; omega
theorem NE {ss:List St} {es:List En} (g:Gd ss es):∀ (N:Nat) (n:ByteArray),dN ss N n<=1 + N * 1000000001
 | 0,_=>by rw [dN]; omega
 | N + 1,n=>by
  have:j9 (dN ss N) ((fS ss n).getD default).fs<=1000000001 + N * 1000000001:=by
   refine O2 (by omega) fun f hf=>?_
   cases hs:fS ss n with
   | none=>rw [hs] at hf; cases hf
   | some t=>
    rw [hs] at hf
    have h1:=g.lv t (pR hs).1 f hf
    have h2:=NE g N (bL f.ty).2.n
    unfold eT
    cases (bL f.ty).2.k == 6<;>simp only [aO,aH]<;>omega
  rw [dN]; omega
theorem D4 {ss:List St} {es:List En} (g:Gd ss es) {n:ByteArray} {t:St} (hs:fS ss n=some t) {f:Fl} (hf:f ∈ t.fs) (hk:((bL f.ty).2.k == 6)=true):fB ss n (bL f.ty).2.n/\∃ u,fS ss (bL f.ty).2.n=some u:=by
 obtain ⟨h1,h2,h3,_⟩:=OP (g.val t (pR hs).1 f hf) hk
 refine ⟨⟨f,by rw [hs]; exact hf,h1,h2⟩,?_⟩
 rw [<-HG] at h3
 exact Option.isSome_iff_exists.1 h3
theorem x4 {ss:List St} {es:List En} (g:Gd ss es) (ha:BI ss):∀ (N:Nat) (n:ByteArray),BD ss n < N->dN ss (N + 1) n=dN ss N n
 | 0,_,h=>absurd h (Nat.not_lt_zero _)
 | N + 1,n,h=>by
  rw [dN,dN]
  congr 1
  refine uB fun f hf=>?_
  cases hs:fS ss n with
  | none=>rw [hs] at hf; cases hf
  | some t=>
   rw [hs] at hf
   unfold eT
   cases hk:(bL f.ty).2.k == 6 with
   | false=>rfl
   | true=>
    obtain ⟨h1,u,h2⟩:=D4 g hs hf hk
    have:=D0 h1 h2 ha
    rw [x4 g ha N _ (by omega)]
theorem XX (ss:List St) (n:ByteArray):0<=dD ss n:=Int.le_trans (by decide) (Q9 ss (dK + 1) n)
theorem VF {ss:List St} {es:List En} (g:Gd ss es) (n:ByteArray):dD ss n<=1000000000000:=by
 refine Int.le_trans (NE g (dK + 1) n) ?_
 have:=MP
 generalize dK=k at *
 subst this
 decide
theorem VT {ss:List St} {es:List En} (g:Gd ss es) (ha:BI ss) (f:Fl):eT (dN ss dK) f.ty=eT (dD ss) f.ty:=by
 have h2:=PV ss (bL f.ty).2.n
 have h3:=g.n
 have h4:=MP
 have h5:=x4 g ha dK (bL f.ty).2.n (by omega)
 unfold eT
 rw [IJ,h5]
theorem WO {ss:List St} {es:List En} (g:Gd ss es) (ha:BI ss) {n:ByteArray} {t:St} (hs:fS ss n=some t):dD ss n=j9 (dD ss) t.fs + 1:=by
 have h1:=NL ss dK n
 have h2:j9 (dN ss dK) t.fs=j9 (dD ss) t.fs:=uB fun f _=>VT g ha f
 rw [hs,Option.getD_some,h2] at h1
 rw [IJ]
 exact h1
theorem Gd.dp {ss:List St} {es:List En} (g:Gd ss es) (ha:BI ss):Dp ss (dD ss) (BD ss):=by
 refine ⟨g.ok,fun n t hs=>WO g ha hs,XX ss,VF g,fun n t hs f hf=>(uT ss es _ _ (Nat.le_refl _) (g.val t (pR hs).1 f hf)).1,fun n t hs f hf hk=>?_⟩
 obtain ⟨h1,u,h2⟩:=D4 g hs hf hk
 exact ⟨u,h2,D0 h1 h2 ha⟩
def kJ (ss:List St):Int:=bif ss.any (fun t=>cG (eU ss t.nm) t.nm) then 19 else bif ss.any (fun t=>decide (6 < dD ss t.nm)) then 9 else 0
def RQ:W.Spec:=fun av H K=>∃ (s:Sc) (ks:List Value) (vs:List St) (ks':List Value) (vs':List En),av=[.va (.gs (aR s)),kE]/\H=eQ ks vs ks' vs'/\
 i6 ks vs s.ss/\Gd s.ss s.es/\s.ok/\K (iS .i64 (kJ s.ss)) (eQ ks vs ks' vs')
theorem PX {s:Sc} {ks:List Value} {vs:List St} {ks':List Value} {vs':List En} {K:S->Hp->Prop} (h1:i6 ks vs s.ss) (h2:Gd s.ss s.es) (h3:s.ok) (hK:K (iS .i64 (kJ s.ss)) (eQ ks vs ks' vs')) :
 RQ [.va (.gs (aR s)),kE] (eQ ks vs ks' vs') K:=⟨s,ks,vs,ks',vs',rfl,rfl,h1,h2,h3,hK⟩
theorem iU {α:Type} {l:List α} {p:α->Bool} (h:l.any p=false):∀ x ∈ l,p x=false:=fun x hx=>by
 rw [List.any_eq_false] at h; simpa using h x hx
theorem KE:Meets Tryz.prog 78 RQ:=by
 refine aF Tryz.func78 Z9 2 (by rw [Tryz.ntmps78]; decide) (aA XJ (aK u7 (aA UW (aB _)))) (fun av H K h=>by obtain ⟨_,_,_,_,_,rfl,_⟩:=h; rfl) ?_
 rintro av H K ⟨s,ks,vs,ks',vs',rfl,rfl,h1,hg,hs,hK⟩
 have fin:∀ (x:Int) (R:Hp),kJ s.ss=x->W.Fin 2 K (iS .i64 x) (.map .string ks (vs.map gG) :: .map .string ks' (vs'.map gN) :: R):=fun x R h=>by
  rw [h] at hK
  exact .sel [0,1] (by simp) (by simp) rfl (.done (by simp -dsimp only [go_sem]; simpa using hK))
 obtain ⟨_,_,hls,_,hss⟩:=hs
 simp -dsimp only [go_sem,aR,UK,QO]
 refine a7 (α:=Nat) (fun i=>[(2,.va (.c1 (.pt 2 0))),(3,.va (.c1 (.pt 3 0))),(10,.va (.c1 (.fz (s.ss.map aV)))),(11,iS .i64 s.ss.length),(12,iS .i64 i)]) (fun _=>[.map .string ks (vs.map gG),.map .string ks' (vs'.map gN),.cells (aR s) 25,.cells [.mp 0,.mp 1] 117])
  (fun i=>i<=s.ss.length/\(s.ss.drop i).any (fun t=>cG (eU s.ss t.nm) t.nm)=s.ss.any (fun t=>cG (eU s.ss t.nm) t.nm)) (fun i=>s.ss.length - i) 0 4 ⟨Nat.zero_le _,rfl⟩ ?_ ?_ ?_
 · simp -dsimp only [go_sem]<;>simp
 · simp -dsimp only [go_sem,aR]<;>simp
 rintro i ⟨hi,ho⟩
 rcases cM i s.ss.length with hlt | hge
 · have hgi:decide ((i:Int) < (s.ss.length:Int))=true:=by simp; omega
   obtain ⟨t,hx⟩:∃ t,s.ss[i]? = some t:=⟨_,a8 hlt⟩
   have q1:=bH (row:=aV) hx
   rw [fX hx] at ho
   have hv:=hg.vlen t.nm
   have hbs:CB ((eU s.ss t.nm).map cQ):=wR (by rw [IC]; omega)
   simp (maxSteps:=9^6) -dsimp only [go_sem,hgi,↓q1,aV,aR]
   refine ⟨by omega,RB h1 hss (by omega) ?_⟩
   simp (maxSteps:=9^6) -dsimp only [go_sem,hbs]
   cases hc:cG (eU s.ss t.nm) t.nm with
   | true=>
    rw [hc,Bool.true_or] at ho
    simp -dsimp only [go_sem]
    exact fin 19 _ (by unfold kJ; rw [<-ho]; rfl)
   | false=>
    rw [hc,Bool.false_or] at ho
    simp -dsimp only [go_sem]
    refine ⟨by omega,aD (i + 1) 4 ⟨by omega,ho⟩ (by omega) ?_ ?_⟩
    · simp -dsimp only [go_sem]<;>simp
    · simp -dsimp only [go_sem,aR]<;>simp
 · have hgi:decide ((i:Int) < (s.ss.length:Int))=false:=by simp; omega
   obtain rfl:i=s.ss.length:=by omega
   rw [gP] at ho
   have ha:BI s.ss:=fun t ht=>iU ho.symm t ht
   have hD:=hg.dp ha
   have hF:kJ s.ss=bif s.ss.any (fun t=>decide (6 < dD s.ss t.nm)) then 9 else 0:=by unfold kJ; rw [<-ho]; rfl
   simp -dsimp only [go_sem,hgi,aR]
   refine a7 (α:=Nat) (fun i=>[(3,.va (.c1 (.pt 3 0))),(25,.va (.c1 (.fz (s.ss.map aV)))),(26,iS .i64 s.ss.length),(27,iS .i64 i)]) (fun _=>[.map .string ks (vs.map gG),.map .string ks' (vs'.map gN),.cells (aR s) 25,.cells [.mp 0,.mp 1] 117])
    (fun i=>i<=s.ss.length/\(s.ss.drop i).any (fun t=>decide (6 < dD s.ss t.nm))=s.ss.any (fun t=>decide (6 < dD s.ss t.nm))) (fun i=>s.ss.length - i) 0 4 ⟨Nat.zero_le _,rfl⟩ ?_ ?_ ?_
   · simp -dsimp only [go_sem]<;>simp
   · simp -dsimp only [go_sem,aR]<;>simp
   clear ho
   rintro i ⟨hi,ho⟩
   rcases cM i s.ss.length with hlt | hge
   · have hgi:decide ((i:Int) < (s.ss.length:Int))=true:=by simp; omega
     obtain ⟨t,hx⟩:∃ t,s.ss[i]? = some t:=⟨_,a8 hlt⟩
     have q1:=bH (row:=aV) hx
     rw [fX hx] at ho
     have hnd:=hg.nd t (b6 hx)
     simp (maxSteps:=9^6) -dsimp only [go_sem,hgi,↓q1,aV,aR]
     refine ⟨by omega,QK h1 hD hnd ?_⟩
     simp (maxSteps:=9^6) -dsimp only [go_sem]
     cases hc:decide (6 < dD s.ss t.nm) with
     | true=>
      rw [hc,Bool.true_or] at ho
      simp -dsimp only [go_sem]
      exact fin 9 _ (by rw [hF,<-ho]; rfl)
     | false=>
      rw [hc,Bool.false_or] at ho
      simp -dsimp only [go_sem]
      refine ⟨by omega,aD (i + 1) 4 ⟨by omega,ho⟩ (by omega) ?_ ?_⟩
      · simp -dsimp only [go_sem]<;>simp
      · simp -dsimp only [go_sem,aR]<;>simp
   · have hgi:decide ((i:Int) < (s.ss.length:Int))=false:=by simp; omega
     obtain rfl:i=s.ss.length:=by omega
     rw [gP] at ho
     simp -dsimp only [go_sem,hgi,aR]
     exact fin 0 _ (by rw [hF,<-ho]; rfl)
def oC (s:Sc) (i:Nat):Int:=match s.es[i]? with
 | some e=>bif !(fR (bl e.nm)) then 5 else bif fD (s.es.take i) e.nm then 7 else m6 e
 | none=>0
def n4 (s:Sc) (i:Nat):Int:=match s.ss[i]? with
 | some t=>bif iR s i t.nm != 0 then iR s i t.nm else rK s.ss s.es t
 | none=>0
def yM (s:Sc):Int:=fE (oC s) (s.es.length - 0) 0
def vW (s:Sc):Int:=fE (n4 s) (s.ss.length - 0) 0
def eJ (s:Sc):Int:=bif decide (s.ver < 1) || decide (999 < s.ver) then 4 else bif d8 s then 3 else bif yM s != 0 then yM s else bif vW s != 0 then vW s else kJ s.ss
inductive TySm:Ty->Prop
 | mk {k s:Int} {n:ByteArray} {e:List Ty}:e.length<=1000000000->(∀ t ∈ e,TySm t)->TySm (.mk k s n e)
structure Sc.fit (s:Sc):Prop where
 ok:s.ok
 lv:∀ t ∈ s.ss,∀ f ∈ t.fs,(bL f.ty).1<=1000000000
 sm:∀ t ∈ s.ss,t.fs.length<=1000000000/\∀ f ∈ t.fs,TySm f.ty
 en:∀ e ∈ s.es,e.ns.length<=1000000000/\e.vs.length<=1000000000
theorem HD {f:Nat->Int} {m:Nat}:∀ (k i:Nat),i + k=m->fE f (m - i) i=0->∀ j,i<=j->j < m->f j=0
 | 0,i,h,_=>fun j h1 h2=>by omega
 | k + 1,i,h,h0=>fun j h1 h2=>by
  have hi:i < m:=by omega
  by_cases e:f i=0
  · rw [tG hi e] at h0
    rcases cM i j with h3 | h3
    · exact HD k (i + 1) (by omega) h0 j h3 h2
    · obtain rfl:i=j:=by omega
      exact e
  · rw [pS hi e] at h0; exact absurd h0 e
theorem nK {f:Nat->Int} {m:Nat} (h:fE f (m - 0) 0=0):∀ j,j < m->f j=0:=fun j hj=>HD m 0 (by omega) h j (Nat.zero_le _) hj
theorem J3 {ss:List St} {i:Nat} {t:St} (hx:ss[i]? = some t) (h:gX (ss.take i) t.nm=false):fS ss t.nm=some t:=by
 obtain ⟨hl,ht⟩:=aU.1 hx
 have h1:(ss.take i).find? (fun s=>decide (s.nm=t.nm))=none:=by
  rw [List.find?_eq_none]
  intro x hx
  have:=iU h x hx
  simpa using this
 have h2:ss=ss.take i ++ (t :: ss.drop (i + 1)):=by rw [<-ht,<-List.drop_eq_getElem_cons hl,List.take_append_drop]
 unfold fS
 rw [h2,List.find?_append,h1]
 simp
theorem DM {ss:List St} {es:List En} {t:St} (h:rK ss es t=0):∀ f ∈ t.fs,(1<=f.num/\f.num<=127)/\bX (bl f.nm)=true/\valF ss es f.ty=true:=fun f hf=>by
 obtain ⟨i,hi⟩:=List.mem_iff_getElem?.1 hf
 have:=nK h i (aU.1 hi).1
 unfold pI at this
 rw [hi] at this
 simp only at this
 cases c1:decide (f.num < 1) || decide (127 < f.num) with
 | true=>rw [c1] at this; simp at this
 | false=>
 rw [c1] at this
 simp only [aH] at this
 revert this
 generalize (decide (0 < (i:Int)) && (match t.fs[i - 1]? with | some g=>decide (f.num<=g.num) | none=>false))=b
 intro this
 cases b with
 | true=>simp at this
 | false=>
 simp only [aH] at this
 simp only [Bool.or_eq_false_iff,decide_eq_false_iff_not] at c1
 refine ⟨by omega,?_⟩
 cases c2:bX (bl f.nm) with
 | false=>rw [c2] at this; simp at this
 | true=>
 rw [c2] at this
 cases c3:(t.fs.take i).any (fun g=>decide (g.nm=f.nm)) with
 | true=>rw [c3] at this; simp at this
 | false=>
 rw [c3] at this
 cases c4:valF ss es f.ty with
 | false=>rw [c4] at this; simp at this
 | true=>exact ⟨rfl,rfl⟩
theorem DU {s:Sc} {i:Nat} {n:ByteArray} (h:iR s i n=0):fR (bl n)=true/\fD s.es n=false/\gX (s.ss.take i) n=false:=by
 unfold iR at h
 cases c1:fR (bl n) with
 | false=>rw [c1] at h; simp at h
 | true=>
 rw [c1] at h
 cases c2:fD s.es n with
 | true=>rw [c2] at h; simp at h
 | false=>
 rw [c2] at h
 cases c3:gX (s.ss.take i) n with
 | true=>rw [c3] at h; simp at h
 | false=>exact ⟨rfl,rfl,rfl⟩
theorem C5 {s:Sc} {i:Nat} {t:St} (hx:s.ss[i]? = some t) (h:n4 s i=0):iR s i t.nm=0/\rK s.ss s.es t=0:=by
 unfold n4 at h
 rw [hx] at h
 simp only at h
 by_cases e:iR s i t.nm=0
 · rw [e] at h; exact ⟨e,by simpa using h⟩
 · rw [show (iR s i t.nm != 0)=true by simpa using e] at h
   exact absurd h e
theorem OY {s:Sc} {i:Nat} {t:En} (hx:s.es[i]? = some t) (h:oC s i=0):fR (bl t.nm)=true/\fD (s.es.take i) t.nm=false/\m6 t=0:=by
 unfold oC at h
 rw [hx] at h
 simp only at h
 cases c1:fR (bl t.nm) with
 | false=>rw [c1] at h; simp at h
 | true=>
 rw [c1] at h
 cases c2:fD (s.es.take i) t.nm with
 | true=>rw [c2] at h; simp at h
 | false=>
 rw [c2] at h
 exact ⟨rfl,rfl,by simpa using h⟩
theorem rU {s:Sc} (h:d8 s=false):s.es.length<=16/\s.es.length + s.ss.length<=16/\(∀ e ∈ s.es,e.ns.length<=16)/\∀ t ∈ s.ss,t.fs.length<=16:=by
 unfold d8 at h
 simp only [Bool.or_eq_false_iff,decide_eq_false_iff_not] at h
 obtain ⟨⟨⟨h1,h2⟩,h3⟩,h4⟩:=h
 refine ⟨by omega,by omega,fun e he=>?_,fun t ht=>?_⟩
 · have:=iU h3 e he; simp at this; exact this
 · have:=iU h4 t ht; simp at this; exact this
theorem DS {s:Sc} (hf:s.fit) (h1:d8 s=false) (h2:vW s=0):Gd s.ss s.es:=by
 obtain ⟨l1,l2,l3,l4⟩:=rU h1
 have key:∀ t ∈ s.ss,∃ i,s.ss[i]? = some t/\iR s i t.nm=0/\rK s.ss s.es t=0:=fun t ht=>by
  obtain ⟨i,hi⟩:=List.mem_iff_getElem?.1 ht
  exact ⟨i,hi,C5 hi (nK h2 i (aU.1 hi).1)⟩
 refine ⟨hf.ok.ss,by omega,by omega,fun t ht f hm=>?_,hf.lv,fun t ht=>?_⟩
 · obtain ⟨i,hi,c1,c2⟩:=key t ht
   exact (DM c2 f hm).2.2
 · obtain ⟨i,hi,c1,c2⟩:=key t ht
   exact J3 hi (DU c1).2.2
def zF (r:List C):Prop:=∃ s:Sc,r=aR s/\s.fit
theorem KI {s:Sc} (h:s.fit):zF (aR s):=⟨s,rfl,h⟩
noncomputable def ckFn:Fun:=rM zF C.sc fun s=>.int .i64 (eJ s)
attribute [go_sem] ckFn
theorem l5 {a b:Int} (h:a ≠ 0):(bif a != 0 then a else b)=a:=by rw [bne,beq_eq_false_iff_ne.2 h]; rfl
theorem nD {a b:Int} (h:a=0):(bif a != 0 then a else b)=b:=by rw [h]; rfl
theorem HN:Meets Tryz.prog 31 ckFn.sp:=by
 refine aF Tryz.func31 ZK 1 (by rw [Tryz.ntmps31]; decide) (aK RG (aK x7 (aK FM (aA I7 (aK FA (aA z7 (aA KE (aB _)))))))) kS ?_
 rintro av H K ⟨⟨h,rfl⟩,hK⟩
 obtain ⟨_,rfl,s,rfl,hs⟩:=fT h
 have hK:K (iS .i64 (eJ s)) []:=by
  have:ckFn.val [.va (.gs (aR s))]=iA .i64 (eJ s):=by simp -dsimp only [go_sem]
  rw [this] at hK; exact hK
 clear h
 have hfit:=hs
 have hsc:A6 (aR s):=OQ hs.ok
 obtain ⟨⟨hv,hle,hls,hes,hss⟩,hlv,_,_⟩:=hs
 have fin:∀ (x:Int) (R:Hp),eJ s=x->W.Fin 0 K (iS .i64 x) R:=fun x R h1=>by
  rw [h1] at hK
  exact .z ((by simpa [go_sem] using hK))
 have hsc':=hsc
 simp only [aR] at hsc'
 have hdec:C.sc [.vl (.int .i64 s.ver),.fz (s.es.map bC),.fz (s.ss.map aV)]=s:=pU s
 simp (maxSteps:=9^6) -dsimp only [go_sem,aR,QP,RD,hsc',hdec]
 refine ⟨fun h1=>fin 4 _ (by unfold eJ; rw [h1]; rfl),fun c1=>⟨fun h1=>fin 3 _ (by unfold eJ; rw [c1,h1]; rfl),fun c2=>?_⟩⟩
 have hF:eJ s=bif yM s != 0 then yM s else bif vW s != 0 then vW s else kJ s.ss:=by unfold eJ; rw [c1,c2]; rfl
 refine a7 (α:=Nat) (fun i=>[(1,.va (.c1 (.pt 0 0))),(24,.va (.c1 (.fz (s.es.map bC)))),(25,iS .i64 s.es.length),(26,iS .i64 i)]) (fun _=>[.cells (aR s) 25])
  (fun i=>i<=s.es.length/\fE (oC s) (s.es.length - i) i=yM s) (fun i=>s.es.length - i) 0 1 ⟨Nat.zero_le _,rfl⟩ ?_ ?_ ?_
 · simp -dsimp only [go_sem]<;>simp
 · simp -dsimp only [go_sem,aR]<;>simp
 rintro i ⟨hi,ho⟩
 rcases cM i s.es.length with hlt | hge
 · have hg:decide ((i:Int) < (s.es.length:Int))=true:=by simp; omega
   obtain ⟨e,hx⟩:∃ e,s.es[i]? = some e:=⟨_,a8 hlt⟩
   have q1:=bH (row:=bC) hx
   have he:e.ok:=hes e (b6 hx)
   have hie:F9 (bC e):=OZ he
   have hie':=hie
   simp only [bC] at hie'
   have hed:C.en [.vl (.string e.nm),.fz (e.ns.map cQ),.fz (e.vs.map iQ)]=e:=R3 e
   have hA:oC s i=bif !(fR (bl e.nm)) then 5 else bif fD (s.es.take i) e.nm then 7 else m6 e:=by unfold oC; rw [hx]
   have fin':∀ (x:Int) (R:Hp),oC s i=x->x ≠ 0->W.Fin 0 K (iS .i64 x) R:=fun x R h1 h2=>fin x R (by
    rw [hF,<-ho,pS hlt (by rw [h1]; exact h2),h1]; exact l5 h2)
   have dR:oC s i=0->fE (oC s) (s.es.length - (i + 1)) (i + 1)=yM s:=fun h1=>by rw [<-ho,tG hlt h1]
   simp (maxSteps:=9^6) -dsimp only [go_sem,hg,↓q1,bC,aR]
   refine ⟨by omega,fun h1=>fin' 5 _ (by rw [hA,h1]; rfl) (by decide),fun c3=>?_⟩
   rw [c3] at hA
   simp only [aH] at hA
   have hlj:=lQ s.es i
   simp -dsimp only [fV PE]
   refine ⟨by simp; omega,?_⟩
   generalize hm:s.es.take i=m at *
   refine a7 (α:=Nat) (fun j=>[(1,.va (.c1 (.pt 0 0))),(4,.va (.c1 (.pt 1 0))),(24,.va (.c1 (.fz (s.es.map bC)))),(25,iS .i64 s.es.length),(26,iS .i64 i),(38,.va (.c1 (.fz (m.map bC)))),(39,iS .i64 m.length),(40,iS .i64 j)]) (fun _=>[.cells (aR s) 25,.cells (bC e) 62])
    (fun j=>j<=m.length/\fD (m.drop j) e.nm=fD m e.nm) (fun j=>m.length - j) 0 2 ⟨Nat.zero_le _,rfl⟩ ?_ ?_ ?_
   · simp -dsimp only [go_sem]<;>simp
     rw [<-hm]; exact ⟨List.map_take.symm,by simp⟩
   · simp -dsimp only [go_sem,aR,bC]<;>simp
   rintro j ⟨hj,ho2⟩
   rcases cM j m.length with hjt | hjg
   · have hgj:decide ((j:Int) < (m.length:Int))=true:=by simp; omega
     obtain ⟨d,hd⟩:∃ e,m[j]? = some e:=⟨_,a8 hjt⟩
     have q5:=bH (row:=bC) hd
     rw [fD,fX hd] at ho2
     simp (maxSteps:=9^6) -dsimp only [go_sem,hgj,↓q5,bC,aR,jY]
     and_intros
     all_goals first
      | omega
      | skip
     · intro hc
       rw [hc,Bool.true_or] at ho2
       exact fin' 7 _ (by rw [hA,<-ho2]; rfl) (by decide)
     · intro hc
       rw [hc,Bool.false_or] at ho2
       refine ⟨by omega,aD (j + 1) 2 ⟨by omega,ho2⟩ (by omega) ?_ ?_⟩
       · simp -dsimp only [go_sem]<;>simp
       · simp -dsimp only [go_sem,aR,bC]<;>simp
   · have hgj:decide ((j:Int) < (m.length:Int))=false:=by simp; omega
     obtain rfl:j=m.length:=by omega
     rw [fD,gP] at ho2
     rw [<-ho2] at hA
     simp only [aH] at hA
     simp (maxSteps:=9^6) -dsimp only [go_sem,hgj,bC,aR,hie',hed]
     refine ⟨fun h1=>fin' _ _ hA (by simpa using h1),fun h1=>?_⟩
     refine ⟨by omega,aD (i + 1) 1 ⟨by omega,dR (by rw [hA]; simpa using h1)⟩ (by omega) ?_ ?_⟩
     · simp -dsimp only [go_sem]<;>simp
     · simp -dsimp only [go_sem,aR]<;>simp
 · have hg:decide ((i:Int) < (s.es.length:Int))=false:=by simp; omega
   obtain rfl:i=s.es.length:=by omega
   rw [uK] at ho
   rw [nD ho.symm] at hF
   simp (maxSteps:=9^6) -dsimp only [go_sem,hg,aR]
   refine UR hfit.ok fun ks vs ks' vs' x1 x2=>?_
   simp (maxSteps:=9^6) -dsimp only [go_sem]
   clear hi hge hg
   refine a7 (α:=Nat) (fun i=>[(1,.va (.c1 (.pt 0 0))),(8,.va (.c1 (.pt 3 0))),(59,.va (.c1 (.fz (s.ss.map aV)))),(60,iS .i64 s.ss.length),(61,iS .i64 i)]) (fun _=>[.cells (aR s) 25,.map .string ks (vs.map gG),.map .string ks' (vs'.map gN),.cells [.mp 1,.mp 2] 117])
    (fun i=>i<=s.ss.length/\fE (n4 s) (s.ss.length - i) i=vW s) (fun i=>s.ss.length - i) 0 4 ⟨Nat.zero_le _,rfl⟩ ?_ ?_ ?_
   · simp -dsimp only [go_sem]<;>simp
   · simp -dsimp only [go_sem,aR]<;>simp
   clear ho
   rintro i ⟨hi,ho⟩
   rcases cM i s.ss.length with hlt | hge
   · have hg:decide ((i:Int) < (s.ss.length:Int))=true:=by simp; omega
     obtain ⟨t,hx⟩:∃ e,s.ss[i]? = some e:=⟨_,a8 hlt⟩
     have q1:=bH (row:=aV) hx
     have ht:t.ok:=hss t (b6 hx)
     have hA:n4 s i=bif iR s i t.nm != 0 then iR s i t.nm else rK s.ss s.es t:=by unfold n4; rw [hx]
     have fin':∀ (x:Int) (R:Hp),n4 s i=x->x ≠ 0->W.Fin 0 K (iS .i64 x) R:=fun x R h1 h2=>fin x R (by
      rw [hF,<-ho,pS hlt (by rw [h1]; exact h2),h1]; exact l5 h2)
     have dR:n4 s i=0->fE (n4 s) (s.ss.length - (i + 1)) (i + 1)=vW s:=fun h1=>by rw [<-ho,tG hlt h1]
     have q0:decide (0<=(i:Int))=true:=by simp
     simp (maxSteps:=9^6) -dsimp only [go_sem,hg,↓q1,aV,aR,hsc',hdec,Int.toNat_natCast]
     refine ⟨by omega,⟨by omega,by omega⟩,fun h1=>fin' _ _ (by rw [hA]; exact l5 (by simpa using h1)) (by simpa using h1),fun h1=>?_⟩
     have h1:iR s i t.nm=0:=by simpa using h1
     rw [nD h1] at hA
     refine Q6 x1 x2 ht ?_
     simp (maxSteps:=9^6) -dsimp only [go_sem]
     refine ⟨fun h1=>fin' _ _ hA (by simpa using h1),fun h1=>?_⟩
     refine ⟨by omega,aD (i + 1) 4 ⟨by omega,dR (by rw [hA]; simpa using h1)⟩ (by omega) ?_ ?_⟩
     · simp -dsimp only [go_sem]<;>simp
     · simp -dsimp only [go_sem,aR]<;>simp
   · have hg:decide ((i:Int) < (s.ss.length:Int))=false:=by simp; omega
     obtain rfl:i=s.ss.length:=by omega
     rw [uK] at ho
     rw [nD ho.symm] at hF
     simp (maxSteps:=9^6) -dsimp only [go_sem,hg,aR]
     refine PX x1 (DS hfit c2 ho.symm) hfit.ok ?_
     simp (maxSteps:=9^6) -dsimp only [go_sem]
     exact fin _ _ hF
def SV (s:Sc) (n:ByteArray):Bool:=eJ s == 0 && gX s.ss n
theorem E5 {s:Sc} (hf:s.fit) (h:eJ s=0):Gd s.ss s.es/\BI s.ss/\yM s=0/\vW s=0/\d8 s=false/\1<=s.ver/\s.ver<=999/\∀ t ∈ s.ss,dD s.ss t.nm<=6:=by
 unfold eJ at h
 cases c1:decide (s.ver < 1) || decide (999 < s.ver) with
 | true=>rw [c1] at h; simp at h
 | false=>
 rw [c1] at h
 cases c2:d8 s with
 | true=>rw [c2] at h; simp at h
 | false=>
 rw [c2] at h
 simp only [aH] at h
 by_cases e1:yM s=0
 · rw [nD e1] at h
   by_cases e2:vW s=0
   · rw [nD e2] at h
     have g:=DS hf c2 e2
     unfold kJ at h
     cases c3:s.ss.any (fun t=>cG (eU s.ss t.nm) t.nm) with
     | true=>rw [c3] at h; simp at h
     | false=>
     rw [c3] at h
     cases c4:s.ss.any (fun t=>decide (6 < dD s.ss t.nm)) with
     | true=>rw [c4] at h; simp at h
     | false=>
     simp only [Bool.or_eq_false_iff,decide_eq_false_iff_not] at c1
     refine ⟨g,iU c3,e1,e2,rfl,by omega,by omega,fun t ht=>?_⟩
     have:=iU c4 t ht
     simpa using this
   · rw [l5 e2] at h; exact absurd h e2
 · rw [l5 e1] at h; exact absurd h e1
theorem BY (t:Ty):∀ c ∈ aP t,c.shut=true/\c.one:=by rw [aY]; simp [go_sem,C.shut]
@[go_sem] theorem aDP (t:Ty) (H:Hp):(aP t).map (C.bor H)=aP t:=by rw [aY]; rfl
noncomputable def oX (a b:Ty):Bool:=@decide (a=b) (Classical.propDecidable _)
theorem AD {a b:Ty} (h:a=b):oX a b=true:=by unfold oX; simp [h]
theorem HF {a b:Ty} (h:a ≠ b):oX a b=false:=by unfold oX; simp [h]
theorem PL {a b:Ty}:oX a b=true ↔ a=b:=by unfold oX; simp
def y9 (N:Nat):List S->Prop:=fun av=>match av with
 | [.va (.gs r),.va (.gs q)]=>jI r/\jI q/\(C.ty r).h<=N
 | _=>False
theorem kO {N:Nat} {av:List S} (h:y9 N av):∃ a b,av=[.va (.gs (aP a)),.va (.gs (aP b))]/\TyOk a/\TyOk b/\a.h<=N:=by
 unfold y9 at h
 split at h
 · obtain ⟨⟨a,rfl,ha⟩,⟨b,rfl,hb⟩,hh⟩:=h
   rw [g6] at hh
   exact ⟨a,b,rfl,ha,hb,hh⟩
 · exact h.elim
noncomputable def FW:List S->A:=fun av=>match av with
 | [.va (.gs r),.va (.gs q)]=>bA (oX (C.ty r) (C.ty q))
 | _=>.gs []
noncomputable def GB (N:Nat):Fun:=⟨y9 N,FW,fun av h=>by obtain ⟨a,b,rfl,_⟩:=kO h; trivial⟩
theorem JK {N:Nat}:∀ av H K,(GB N).sp av H K->av.length=2:=fun av H K h=>by obtain ⟨a,b,rfl,_⟩:=kO h.1.1; rfl
attribute [go_sem] GB y9 FW
theorem EV {k s k' s':Int} {n n':ByteArray} {e e':List Ty}:(Ty.mk k s n e=Ty.mk k' s' n' e') ↔ (k=k'/\s=s'/\n=n'/\e=e'):=by simp
def EY:List S->Prop:=fun av=>match av with
 | [.va (.gs r),.va (.gs q)]=>jI r/\jI q
 | _=>False
theorem xY {av:List S} (h:EY av):∃ a b,av=[.va (.gs (aP a)),.va (.gs (aP b))]/\TyOk a/\TyOk b:=by
 unfold EY at h
 split at h
 · obtain ⟨⟨a,rfl,ha⟩,⟨b,rfl,hb⟩⟩:=h
   exact ⟨a,b,rfl,ha,hb⟩
 · exact h.elim
noncomputable def sFn:Fun:=⟨EY,FW,fun av h=>by obtain ⟨a,b,rfl,_⟩:=xY h; trivial⟩
attribute [go_sem] sFn EY
theorem NQ:∀ (m:Nat) (r:List UInt8) (i:Nat) (out:List UInt8),r.length=m->(quoL i r out).1<=i + r.length:=by
 intro m
 induction m using Nat.strongRecOn with
 | ind m ih=>
  intro r i out hm
  cases r with
  | nil=>rw [lT]; exact Nat.le_add_right _ _
  | cons c r=>
   rw [gL]
   simp only [List.length_cons] at hm ⊢
   cases (decide (c < 32) || decide (126 < c)) with
   | true=>simp
   | false=>
    cases (c == 34) with
    | true=>simp
    | false=>
     cases (c == 92) with
     | true=>
      simp only [aH,aO]
      cases r with
      | nil=>simp
      | cons d r'=>
       simp only [List.length_cons] at hm ⊢
       cases (d == 34 || d == 92) with
       | true=>simp only [aO]; have:=ih r'.length (by omega) r' (i + 2) (out ++ [d]) rfl; omega
       | false=>simp
     | false=>
      simp only [aH]
      have:=ih r.length (by omega) r (i + 1) (out ++ [c]) rfl; omega
structure Told (l:List UInt8) (p:Nat) (k:Int) (x:List UInt8) (n:Int) (z:Nat):Prop where
 zero:k=0->p=l.length/\x=[]/\n=0
 one:k ≠ 0->∃ c,l[p]? = some c/\p < z/\z<=l.length/\0 < k/\k<=4/\32 < c.toNat/\c.toNat ≠ 35/\(c == 34)=(k == 3)/\(k == 1)=c8 c.toNat
theorem uS {l:List UInt8} {a:Nat} (ha:a<=l.length):(∀ {e t},eW l a=.bad e t->0<=t/\t<=l.length)/\∀ {k x n z},eW l a=.ok k x n z->k=1:=by
 have:=kZ (p:=bJ) ha
 unfold eW
 simp only
 cases decide (16 < bI bJ l a - a)<;>cases (l[bI bJ l a]? == some 45)<;>simp [R.bad.injEq,R.ok.injEq]
 all_goals (intros; omega)
theorem oY {l:List UInt8} {a:Nat} {c:UInt8} (hc:l[a]? = some c):(∀ {e t},fF l a=.bad e t->0<=t/\t<=l.length)/\∀ {k x n z},fF l a=.ok k x n z->k=2:=by
 have hlt:a < l.length:=(aU.1 hc).1
 have hge:(bif l[a]? == some 45 then a + 1 else a)<=l.length:=by cases (l[a]? == some 45)<;>simp<;>omega
 have hz2:=kZ (p:=bD) hge
 unfold fF
 simp only
 generalize (List.drop (bif l[a]? == some 45 then a + 1 else a) (List.take (bI bD l (bif l[a]? == some 45 then a + 1 else a)) l))=q
 cases (q == [] || (q[0]? == some 48 && (decide (1 < q.length) || l[a]? == some 45))) with
 | true=>simp only [aO,R.bad.injEq,reduceCtorEq,false_implies,implies_true,and_true]; rintro e t ⟨rfl,rfl⟩; omega
 | false=>
  simp only [aH]
  split
  · simp only [R.bad.injEq,reduceCtorEq,false_implies,implies_true,and_true]; rintro e t ⟨rfl,rfl⟩; omega
  · cases lC l (bI bD l (bif l[a]? == some 45 then a + 1 else a))<;>simp only [aO,aH,R.bad.injEq,R.ok.injEq,reduceCtorEq,false_implies,implies_true,and_true,true_and]
    · rintro k x n z ⟨rfl,_⟩; rfl
    · rintro e t ⟨rfl,rfl⟩; omega
theorem nN {l:List UInt8} {a:Nat} (ha:a < l.length):(∀ {e t},eP l a=.bad e t->0<=t/\t<=l.length)/\∀ {k x n z},eP l a=.ok k x n z->k=3:=by
 have:=NQ _ (l.drop (a + 1)) (a + 1) [] rfl
 simp only [List.length_drop] at this
 unfold eP
 split
 · rename_i i hq
   rw [hq] at this
   simp only at this
   constructor
   · intro e t h; simp only [R.bad.injEq] at h; omega
   · intro k x n z h; cases h
 · rename_i z o hq
   cases decide (200 < o.length)<;>simp [R.bad.injEq,R.ok.injEq]
   all_goals (intros; omega)
def ET (c:UInt8):Bool:=
 (!(c8 c.toNat || bD c || c == 45 || c == 34 || d3 c.toNat) || (decide (32 < c.toNat) && c.toNat != 35)) && (!c8 c.toNat || !(c == 34)) && (!(bD c || c == 45) || !(c == 34)) && (!d3 c.toNat || !(c == 34))
theorem IF (c:UInt8):ET c=true:=dB (by decide +kernel) c
theorem mI {l:List UInt8} {p:Nat} (hp:p<=l.length):(∀ {e t},dJ l p=.bad e t->e ≠ 0/\0<=t/\t<=l.length)/\∀ {k x n z},dJ l p=.ok k x n z->Told l p k x n z:=by
 obtain ⟨hb,ho⟩:=tQ hp
 refine ⟨fun {e t} h=>⟨hb h,?_⟩,fun {k x n z} h=>?_⟩
 · unfold dJ at h
   split at h
   · cases h
   · rename_i c hc
     have hlt:p < l.length:=(aU.1 hc).1
     revert h
     cases c8 c.toNat with
     | true=>exact fun h=>(uS hp).1 h
     | false=>
      cases (bD c || c == 45) with
      | true=>exact fun h=>(oY hc).1 h
      | false=>
       cases (c == 34) with
       | true=>exact fun h=>(nN hlt).1 h
       | false=>
        cases d3 c.toNat with
        | true=>intro h; cases h
        | false=>intro h; simp only [aH,R.bad.injEq] at h; omega
 · obtain ⟨o1,o2⟩:=ho h
   unfold dJ at h
   split at h
   · simp only [R.ok.injEq] at h
     exact ⟨fun h0=>⟨o1 h0,h.2.1.symm,h.2.2.1.symm⟩,fun h0=>absurd h.1.symm h0⟩
   · rename_i c hc
     have hlt:p < l.length:=(aU.1 hc).1
     have hs:=IF c
     unfold ET at hs
     have key:∀ {q:Int},k=q->0 < q->q<=4->(32 < c.toNat/\c.toNat ≠ 35)->(c == 34)=(q == 3)->(q == 1)=c8 c.toNat->Told l p k x n z:=by
      rintro q rfl h1 h2 h3 h4 h5
      obtain ⟨h6,h7⟩:=o2 (by omega)
      exact ⟨fun h=>by omega,fun _=>⟨c,hc,h6,h7,h1,h2,h3.1,h3.2,h4,h5⟩⟩
     revert h hs
     cases hL:c8 c.toNat with
     | true=>
      intro h hs
      simp at hs
      exact key ((uS hp).2 h) (by omega) (by omega) hs.1.1.1 (by simpa using hs.1.1.2) (by rw [hL]; rfl)
     | false=>
      cases hd:(bD c || c == 45) with
      | true=>
       intro h hs
       have hd':bD c=true\/c=45:=by simpa using hd
       simp only [Bool.false_or,hd,Bool.true_or,Bool.not_true,Bool.not_false,Bool.and_true,Bool.true_and,Bool.and_eq_true] at hs
       simp at hs
       exact key ((oY hc).2 h) (by omega) (by omega) hs.1.1 (by simpa using hs.1.2) (by rw [hL]; rfl)
      | false=>
       cases h4:(c == 34) with
       | true=>
        intro h hs
        have:c=34:=by simpa using h4
        subst this
        exact key ((nN hlt).2 h) (by omega) (by omega) (by decide) (by rfl) (by rw [hL]; rfl)
       | false=>
        cases hm:d3 c.toNat with
        | true=>
         intro h hs
         simp only [Bool.false_or,hd,Bool.or_true,Bool.not_true,Bool.not_false,Bool.and_true,Bool.true_and,Bool.and_eq_true] at hs
         simp at hs
         simp only [aH,aO,R.ok.injEq] at h
         exact key h.1.symm (by omega) (by omega) hs (by rw [h4]; rfl) (by rw [hL]; rfl)
        | false=>intro h hs; cases h
def pD (l:List UInt8):Nat->List Tk->Prop
 | _,[]=>False
 | a,t :: ts=>a<=t.a/\t.a<=l.length/\∃ z,Told l t.a t.k t.x t.n z/\(t.k=0->ts=[])/\(t.k ≠ 0->pD l z ts)
theorem yH {l:List UInt8}:∀ (f a:Nat) (ts:List Tk),a<=l.length->l.length < f + a->dX f l a=.ok ts->pD l a ts
 | 0,a,ts,ha,hf,h=>by omega
 | f + 1,a,ts,ha,hf,h=>by
  have hpl:bP l a<=l.length:=lU ha
  have hpa:a<=bP l a:=sJ
  rw [dX] at h
  split at h
  · cases h
  · rename_i k x n z hR
    have ht:=(mI hpl).2 hR
    cases hk:k == 0 with
    | true=>
     rw [hk] at h
     simp only [aO,SR.ok.injEq] at h
     subst h
     exact ⟨hpa,hpl,z,ht,fun _=>rfl,fun h=>absurd (by simpa using hk) h⟩
    | false=>
     rw [hk] at h
     have hk':k ≠ 0:=by simpa using hk
     obtain ⟨c,_,h1,h2,_⟩:=ht.one hk'
     cases hr:dX f l z with
     | bad e t=>rw [hr] at h; cases h
     | ok us=>
      rw [hr] at h
      simp only [aH,SR.cons,SR.ok.injEq] at h
      subst h
      exact ⟨hpa,hpl,z,ht,fun h=>absurd h hk',fun _=>yH f z us h2 (by omega) hr⟩
theorem AH {l:List UInt8}:∀ (f a:Nat) (e t:Int),a<=l.length->dX f l a=.bad e t->e ≠ 0/\0<=t/\t<=l.length
 | 0,a,e,t,ha,h=>by cases h
 | f + 1,a,e,t,ha,h=>by
  have hpl:bP l a<=l.length:=lU ha
  rw [dX] at h
  split at h
  · rename_i e' t' hR
    have:=(mI hpl).1 hR
    simp only [SR.bad.injEq] at h
    obtain ⟨rfl,rfl⟩:=h; exact this
  · rename_i k x n z hR
    have ht:=(mI hpl).2 hR
    cases hk:k == 0 with
    | true=>rw [hk] at h; cases h
    | false=>
     rw [hk] at h
     have hk':k ≠ 0:=by simpa using hk
     obtain ⟨c,_,h1,h2,_⟩:=ht.one hk'
     cases hr:dX f l z with
     | bad e' t'=>rw [hr] at h; simp only [aH,SR.cons,SR.bad.injEq] at h; obtain ⟨rfl,rfl⟩:=h; exact AH f z _ _ h2 hr
     | ok us=>rw [hr] at h; cases h
theorem FK (l:List UInt8):(aI l).err ≠ 0/\(aI l).toks=[]/\0<=(aI l).off/\(aI l).off<=l.length\/(aI l).err=0/\(aI l).off=0/\l.length<=4000/\pD l 0 (aI l).toks:=by
 unfold aI
 cases h:decide (4000 < l.length) with
 | true=>left; exact ⟨by simp [SR.err],rfl,by simp [SR.off],by simp [SR.off]⟩
 | false=>
  have h4:l.length<=4000:=by simpa using h
  simp only [aH]
  cases hr:dX (l.length + 1) l 0 with
  | bad e t=>left; obtain ⟨h1,h2,h3⟩:=AH _ _ _ _ (by omega) hr; exact ⟨h1,rfl,h2,h3⟩
  | ok ts=>right; exact ⟨rfl,rfl,h4,yH _ _ _ (by omega) (by omega) hr⟩
theorem EN {l:List UInt8} {a:Nat} {ts:List Tk} (h:pD l a ts):0 < ts.length:=by
 cases ts with
 | nil=>exact h.elim
 | cons t ts=>simp
theorem BH {l:List UInt8}:∀ {a:Nat} {ts:List Tk},pD l a ts->ts.length + a<=l.length + 1
 | a,[],h=>h.elim
 | a,t :: ts,⟨h1,h2,z,h3,h4,h5⟩=>by
  rcases Decidable.em (t.k=0) with h0 | h0
  · rw [h4 h0]; simp only [List.length_cons,List.length_nil]; omega
  · obtain ⟨c,_,g1,_⟩:=h3.one h0
    have:=BH (h5 h0)
    simp only [List.length_cons]; omega
theorem EC {l:List UInt8}:∀ {a:Nat} {ts:List Tk} {i:Nat} {t:Tk},pD l a ts->ts[i]? = some t->
 a<=t.a/\t.a<=l.length/\(∃ z,Told l t.a t.k t.x t.n z)/\(t.k=0 ↔ i + 1=ts.length)/\∀ u,0 < i->ts[i - 1]? = some u->u.a < t.a
 | a,[],i,t,h,_=>h.elim
 | a,s :: ts,0,t,⟨h1,h2,z,h3,h4,h5⟩,hi=>by
  simp at hi; subst hi
  refine ⟨h1,h2,⟨z,h3⟩,⟨fun h=>by rw [h4 h]; rfl,fun h=>?_⟩,fun u h=>by omega⟩
  rcases Decidable.em (s.k=0) with h0 | h0
  · exact h0
  · have:=EN (h5 h0); simp only [List.length_cons] at h; omega
 | a,s :: ts,i + 1,t,⟨h1,h2,z,h3,h4,h5⟩,hi=>by
  simp at hi
  have h0:s.k ≠ 0:=fun h=>by rw [h4 h] at hi; simp at hi
  obtain ⟨c,_,g1,g2,_⟩:=h3.one h0
  obtain ⟨q1,q2,q3,q4,q5⟩:=EC (h5 h0) hi
  refine ⟨by omega,q2,q3,by rw [q4]; simp,fun u _ hu=>?_⟩
  simp only [Nat.add_sub_cancel] at hu
  cases i with
  | zero=>simp at hu; subst hu; omega
  | succ i=>simp at hu; exact q5 u (by omega) (by simpa using hu)
def zB:List S->Prop:=fun xs=>match xs with
 | [.va (.c1 (.vl (.string s))),.va (.c1 (.vl (.int .i64 a)))]=>0<=a/\a<=(bl s).length/\(bl s).length<=4000
 | _=>False
theorem nM {xs:List S} (h:zB xs):∃ s a,xs=[tS s,iS .i64 a]/\0<=a/\a<=(bl s).length/\(bl s).length<=4000:=by
 unfold zB at h
 split at h
 · exact ⟨_,_,rfl,h⟩
 · exact h.elim
def LN (f:List UInt8->Nat->Value):List S->A:=fun xs=>match xs with
 | [.va (.c1 (.vl (.string s))),.va (.c1 (.vl (.int .i64 a)))]=>.c1 (.vl (f (bl s) a.toNat))
 | _=>.gs []
def JL (f:List UInt8->Nat->Value):Fun:=⟨zB,LN f,fun xs h=>by obtain ⟨s,a,rfl,_⟩:=nM h; trivial⟩
theorem KM {f:List UInt8->Nat->Value}:∀ xs H K,(JL f).sp xs H K->xs.length=2:=fun xs H K h=>by obtain ⟨s,a,rfl,_⟩:=nM h.1.1; rfl
attribute [go_sem] JL zB LN
theorem PY:Meets Tryz.prog 86 (JL fun l a=>.int .i64 (bP l a)).sp:=by
 refine aF Tryz.func86 aBR 2 (by rw [Tryz.ntmps86]; decide) (aB _) KM ?_
 rintro xs H K ⟨⟨h,rfl⟩,hK⟩
 obtain ⟨s,a,rfl,h0,h1,h2⟩:=nM h
 simp -dsimp only [go_sem,UT,U4] at hK ⊢
 have h10:∀ c:UInt8,((c.toNat:Int) == 10)=(c == 10):=fun c=>eO 10
 have h35:∀ c:UInt8,((c.toNat:Int) == 35)=(c == 35):=fun c=>eO 35
 have h32:∀ c:UInt8,((c.toNat:Int) == 32)=(c == 32):=fun c=>eO 32
 have h9:∀ c:UInt8,((c.toNat:Int) == 9)=(c == 9):=fun c=>eO 9
 refine a7 (α:=Bool × Nat) (fun z=>[(0,tS s),(1,iS .i64 z.2),(5,bS z.1)]) (fun z=>[]) (fun z=>z.2<=(bl s).length/\z.2 + dT z.1 ((bl s).drop z.2)=bP (bl s) a.toNat) (fun z=>(bl s).length - z.2) (false,a.toNat) 0 ⟨by simp only; omega,rfl⟩ ?_ ?_ ?_
 · simp -dsimp only [go_sem]; simp [Int.toNat_of_nonneg h0]
 · simp [go_sem]
 rintro ⟨r,i⟩ ⟨hi,hr⟩
 simp only at hi hr
 simp -dsimp only [go_sem,bne,h10,h35,h32,h9]
 refine ⟨fun hlt=>⟨⟨by omega,by simpa using hlt⟩,fun c hc=>?_⟩,fun hge=>cH hK ?_⟩
 · have hlt:i < (bl s).length:=(aU.1 hc).1
   rw [cC hc] at hr
   simp only [dT] at hr
   have hstep:∀ r':Bool,(bif c == 35 then true else bif c == 10 then false else r)=r'->(!r' && !(c == 32 || c == 9 || c == 10))=false->i + 1 + dT r' ((bl s).drop (i + 1))=bP (bl s) a.toNat:=by
    rintro r' rfl h
    rw [h,aH] at hr
    omega
   have hend:∀ r':Bool,(bif c == 35 then true else bif c == 10 then false else r)=r'->(!r' && !(c == 32 || c == 9 || c == 10))=true->i=bP (bl s) a.toNat:=by
    rintro r' rfl h
    rw [h,aO] at hr
    omega
   refine ⟨fun q1=>⟨fun q2=>?_,fun q2=>⟨fun q3=>?_,fun q3=>⟨by omega,aD (false,i + 1) 0 ⟨by simp only; omega,hstep _ (by simp [q1,q2]) (by simp [q1])⟩ (by simp only; omega) ?_ ?_⟩⟩⟩,
    fun q1=>⟨fun q2=>⟨by omega,aD (true,i + 1) 0 ⟨by simp only; omega,hstep _ (by simp [q2]) (by simp)⟩ (by simp only; omega) ?_ ?_⟩,
     fun q2=>⟨fun q3=>?_,fun q3=>⟨by omega,aD (r,i + 1) 0 ⟨by simp only; omega,hstep _ (by simp [q1,q2]) (by simpa [Bool.and_assoc] using q3)⟩ (by simp only; omega) ?_ ?_⟩⟩⟩⟩
   · exfalso
     have e1:c=10:=by simpa using q1
     subst e1; cases q2
   · simp [q1] at q3
   · simp -dsimp only [go_sem]; simp
   · simp [go_sem]
   · simp -dsimp only [go_sem]; simp
   · simp [go_sem]
   · refine cH hK ?_
     rw [<-hend r (by simp [q1,q2]) (by simpa [Bool.and_assoc] using q3)]
   · simp -dsimp only [go_sem]; simp
   · simp [go_sem]
 · have:i=(bl s).length:=by simp at hge; omega
   subst this
   simp [dT] at hr
   rw [<-hr]
def s0 (pre:List UInt8->Nat->Prop) (post:ByteArray->Int->(S->Hp->Prop)->Prop):W.Spec:=fun xs H K=>
 match xs,H with
 | [.va (.c1 (.vl (.string s))),.va (.c1 (.vl (.int .i64 a)))],[]=>(0<=a/\a<=(bl s).length/\(bl s).length<=4000/\pre (bl s) a.toNat)/\post s a K
 | _,_=>False
theorem mA {pre:List UInt8->Nat->Prop} {post:ByteArray->Int->(S->Hp->Prop)->Prop} {xs:List S} {H:Hp} {K:S->Hp->Prop} (h:s0 pre post xs H K) :
 ∃ s a,xs=[tS s,iS .i64 a]/\H=[]/\0<=a/\a<=(bl s).length/\(bl s).length<=4000/\pre (bl s) a.toNat/\post s a K:=by
 unfold s0 at h
 split at h
 · exact ⟨_,_,rfl,rfl,h.1.1,h.1.2.1,h.1.2.2.1,h.1.2.2.2,h.2⟩
 · exact h.elim
theorem s7 {pre:List UInt8->Nat->Prop} {post:ByteArray->Int->(S->Hp->Prop)->Prop}:∀ xs H K,s0 pre post xs H K->xs.length=2:=fun xs H K h=>by
 obtain ⟨s,a,rfl,_⟩:=mA h; rfl
attribute [go_sem ↓] s0
def Got:R->ByteArray->Int->Int->Int->Int->Prop
 | .ok _ x n z,x',n',z',e',t'=>x'=mk x/\n'=n/\z'=z/\e'=0/\t'=0
 | .bad e t,_,_,_,e',t'=>e'=e/\t'=t
def G0:W.Spec:=s0 (fun _ _=>True) fun s a K=>∀ x n z e t,Got (eW (bl s) a.toNat) x n z e t->z=bI bJ (bl s) a.toNat->K (.tu [iA .i64 z,iA .i64 e,iA .i64 t]) []
attribute [go_sem ↓] G0
theorem Q1:Meets Tryz.prog 88 G0:=by
 refine aF Tryz.func88 aAN 2 (by rw [Tryz.ntmps88]; decide) (aK HI (aB _)) s7 ?_
 intro xs H K h
 obtain ⟨s,a,rfl,rfl,h0,h1,h2,-,hK⟩:=mA h
 simp -dsimp only [go_sem,T7,P3] at hK ⊢
 have h45:∀ c:UInt8,((c.toNat:Int) == 45)=(c == 45):=fun c=>eO 45
 refine a7 (α:=Nat) (fun z=>[(0,tS s),(1,iS .i64 a),(7,iS .i64 z)]) (fun z=>[]) (fun z=>a.toNat<=z/\z<=(bl s).length/\bI bJ (bl s) z=bI bJ (bl s) a.toNat) (fun z=>(bl s).length - z) a.toNat 0 ⟨by omega,by omega,rfl⟩ ?_ ?_ ?_
 · simp -dsimp only [go_sem]; simp [Int.toNat_of_nonneg h0]
 · simp [go_sem]
 rintro i ⟨hai,hi,hr⟩
 simp -dsimp only [go_sem,bne,h45]
 refine ⟨fun hlt=>⟨by omega,by simpa using hlt⟩,fun c hc=>⟨fun _=>by have:=c.toNat_lt; omega,fun h3=>?_,fun h3=>?_⟩⟩
 · simp only [Bool.and_eq_true,decide_eq_true_eq] at h3
   have hc:=hc (by simpa using h3.1)
   have hlt:i < (bl s).length:=(aU.1 hc).1
   refine ⟨by omega,aD (i + 1) 0 ⟨by omega,hlt,by rw [fO hc h3.2,hr]⟩ (by omega) ?_ ?_⟩
   · simp -dsimp only [go_sem]; simp
   · simp [go_sem]
 · have hz:bI bJ (bl s) a.toNat=i:=by
    rw [<-hr]
    refine jZ fun d hd=>?_
    have hlt:i < (bl s).length:=(aU.1 hd).1
    have hd2:=hc (by simp; omega)
    rw [hd] at hd2; obtain rfl:=aZ hd2
    have hlt2:decide ((i:Int) < (bl s).length)=true:=by simp; omega
    rw [hlt2,Bool.true_and] at h3
    exact h3
   simp only [eW,hz] at hK
   refine ⟨by omega,fun h4=>.done (hK (mk []) 0 _ _ _ ?_ rfl),fun h4=>⟨fun hlt=>⟨by omega,by simpa using hlt⟩,fun d hd=>⟨fun h5=>.done (hK (mk []) 0 _ _ _ ?_ rfl),fun h5=>.done (hK (mk (List.drop a.toNat (List.take i (bl s)))) 0 _ _ _ ?_ rfl)⟩⟩⟩
   · have:decide (16 < i - a.toNat)=true:=by simp at h4 ⊢; omega
     rw [this]; exact ⟨rfl,by simp; omega⟩
   all_goals
    have:decide (16 < i - a.toNat)=false:=by simp at h4 ⊢; omega
    rw [this]
   · simp only [Bool.and_eq_true] at h5
     have:=hd h5.1
     simp only [aH,this]
     rw [show (some d == some 45)=(d == 45) from rfl,h5.2]
     exact ⟨rfl,rfl⟩
   · have:((bl s)[i]? == some 45)=false:=by
      cases he:(bl s)[i]? with
      | none=>rfl
      | some e=>
       have hlt:i < (bl s).length:=(aU.1 he).1
       have hd2:=hd (by simp; omega)
       rw [he] at hd2; obtain rfl:=aZ hd2
       have hlt2:decide ((i:Int) < (bl s).length)=true:=by simp; omega
       rw [hlt2,Bool.true_and] at h5
       exact h5
     rw [this]
     exact ⟨rfl,rfl,rfl,rfl,rfl⟩
def decV:Nat->List UInt8->Nat
 | n,[]=>n
 | n,c :: l=>decV (10 * n + (c.toNat - 48)) l
theorem sH (n:Nat):decV n []=n:=by rw [decV.eq_def]
theorem jV (n:Nat) (c:UInt8) (l:List UInt8):decV n (c :: l)=decV (10 * n + (c.toNat - 48)) l:=by rw [decV.eq_def]
theorem qR:∀ (l:List UInt8) (n:Nat),n<=decV n l
 | [],n=>by rw [sH]; exact Nat.le_refl n
 | c :: l,n=>by have:=qR l (10 * n + (c.toNat - 48)); rw [jV]; omega
theorem G7 (lim n:Nat) (c:UInt8) (l:List UInt8):valL lim n (c :: l)=if (lim - (c.toNat - 48)) / 10 < n then none else valL lim (10 * n + (c.toNat - 48)) l:=by rw [valL.eq_def]
theorem AW {lim:Nat} (h9:9<=lim):∀ (l:List UInt8) (n:Nat),n<=lim->(∀ c ∈ l,bD c=true)->valL lim n l=bif decide (decV n l<=lim) then some (decV n l) else none
 | [],n,hn,_=>by rw [sH,valL.eq_def]; simp [hn]
 | c :: l,n,hn,hd=>by
  have hc:=lY.1 (hd c (by simp))
  rw [G7,jV]
  generalize c.toNat=d at hc ⊢
  by_cases h:(lim - (d - 48)) / 10 < n
  · have:=qR l (10 * n + (d - 48))
    have h2:decide (decV (10 * n + (d - 48)) l<=lim)=false:=by simp only [decide_eq_false_iff_not]; omega
    rw [if_pos h,h2]; rfl
  · rw [if_neg h]
    exact AW h9 l _ (by omega) (fun x hx=>hd x (by simp [hx]))
def lE (l:List UInt8):Int × Int:=
 let neg:=l[0]? == some 45
 let s:=l.drop (bif neg then 1 else 0)
 bif s == [] || (s[0]? == some 48 && (decide (1 < s.length) || neg)) then (0,2)
 else match valL (cF neg) 0 s with
  | none=>(0,1)
  | some n=>(signed neg n,0)
def o8:W.Spec:=fun xs H K=>
 match xs,H with
 | [.va (.c1 (.vl (.string s)))],[]=>((bl s).length<=4000/\∀ c ∈ (bl s).drop (bif (bl s)[0]? == some 45 then 1 else 0),bD c=true)/\K (.tu [iA .i64 (lE (bl s)).1,iA .i64 (lE (bl s)).2]) []
 | _,_=>False
theorem rP {xs:List S} {H:Hp} {K:S->Hp->Prop} (h:o8 xs H K):∃ s,xs=[tS s]/\H=[]/\(bl s).length<=4000/\(∀ c ∈ (bl s).drop (bif (bl s)[0]? == some 45 then 1 else 0),bD c=true)/\K (.tu [iA .i64 (lE (bl s)).1,iA .i64 (lE (bl s)).2]) []:=by
 unfold o8 at h
 split at h
 · exact ⟨_,rfl,rfl,h.1.1,h.1.2,h.2⟩
 · exact h.elim
attribute [go_sem ↓] o8
theorem XD:Meets Tryz.prog 118 o8:=by
 refine aF Tryz.func118 WL 1 (by rw [Tryz.ntmps118]; decide) (aK uH (aB _)) (fun xs H K h=>by obtain ⟨s,rfl,_⟩:=rP h; rfl) ?_
 intro xs H K h
 obtain ⟨s,rfl,rfl,h0,hd,hK⟩:=rP h
 have h45:∀ c:UInt8,((c.toNat:Int) == 45)=(c == 45):=fun c=>eO 45
 have h48:∀ c:UInt8,((c.toNat:Int) == 48)=(c == 48):=fun c=>eO 48
 generalize hneg:((bl s)[0]? == some 45)=neg at hd
 generalize hf:(bif neg then 1 else 0:Nat)=f at hd
 have rest:vc [(89,.f (iC fun c=>.bool (kR c)))] 0 pc118_4.ungh (cN [(0,tS s),(4,iS .i64 f)]) [] (eB 0 zD K):=by
  simp -dsimp only [go_sem,pc118_4,zD,h48]
  have hfn:((f:Int) == 1)=neg:=by subst hf; cases neg<;>rfl
  simp only [lE,hneg,hf] at hK
  generalize hq:List.drop f (bl s)=q at hK hd
  have hql:q.length=(bl s).length - f:=by rw [<-hq]; simp
  have hqg:∀ d r,q=d :: r->(bl s)[f]? = some d:=fun d r e=>by
   have:(List.drop f (bl s))[0]? = some d:=by rw [hq,e]; rfl
   simpa using this
  rw [hfn]
  have key:∀ c e:UInt8,((!decide (((bl s).length:Int)<=f) && decide (1 < ((bl s).length:Int) - f))=true->(bl s)[f]? = some c)->
   ((!(decide (((bl s).length:Int)<=f) || decide (1 < ((bl s).length:Int) - f) && c == 48) && neg)=true->(bl s)[f]? = some e)->
   ((decide (((bl s).length:Int)<=f) || decide (1 < ((bl s).length:Int) - f) && c == 48) || neg && e == 48)=(q == [] || (q[0]? == some 48 && (decide (1 < q.length) || neg))):=by
   intro c e hc he
   cases q with
   | nil=>
    have:decide (((bl s).length:Int)<=f)=true:=by simp at hql ⊢; omega
    rw [this]; rfl
   | cons d r=>
    have hd0:=hqg d r rfl
    have hA:decide (((bl s).length:Int)<=f)=false:=by simp only [List.length_cons] at hql; simp; omega
    have hB:decide (1 < ((bl s).length:Int) - f)=decide (1 < (d :: r).length):=by rw [decide_eq_decide]; simp only [List.length_cons] at hql ⊢; omega
    rw [hB] at hc he ⊢
    rw [hA,hd0] at hc he
    rw [hA]
    simp only [Bool.not_false,Bool.true_and,Bool.false_or,aC] at hc he
    simp only [Bool.false_or,List.getElem?_cons_zero]
    rw [show (some d == some 48)=(d == 48) from rfl,show ((d :: r) == [])=false from rfl,Bool.false_or]
    generalize decide (1 < (d :: r).length)=b at hc he
    cases b with
    | true=>
     obtain rfl:=hc rfl
     simp only [Bool.true_and] at he ⊢
     cases hd48:d == 48 with
     | true=>rfl
     | false=>
      rw [hd48] at he
      cases neg with
      | true=>obtain rfl:=he rfl; rw [hd48]; rfl
      | false=>rfl
    | false=>
     simp only [Bool.false_and,Bool.false_or] at he ⊢
     cases neg with
     | true=>obtain rfl:=he rfl; simp
     | false=>simp
  have hf1:f<=1:=by subst hf; cases neg<;>decide
  refine ⟨fun _=>by omega,fun h=>⟨by omega,by simp at h; omega⟩,fun c hc=>⟨fun h1 h2=>by rw [h1,h2]; rfl,fun h=>⟨by omega,by simp at h; omega⟩,fun e he=>⟨fun h1 h2=>by rw [h1,h2]; rfl,?_⟩⟩⟩
  rw [key c e hc he]
  generalize hG:(q == [] || (q[0]? == some 48 && (decide (1 < q.length) || neg)))=G at hK
  refine ⟨fun h=>?_,fun h=>?_⟩
  · rw [h] at hK; exact .done hK
  rw [h] at hK hG
  simp only [aH] at hK
  have hlim:9<=cF neg:=by cases neg<;>decide
  rw [AW hlim q 0 (Nat.zero_le _) hd] at hK
  have hfl:f < (bl s).length:=by
   cases q with
   | nil=>cases hG
   | cons d r=>simp only [List.length_cons] at hql; omega
  have hpos:neg=true->0 < decV 0 q:=fun hn=>by
   cases q with
   | nil=>cases hG
   | cons d r=>
    subst hn
    have hdd:=lY.1 (hd d (by simp))
    have h1:¬ d=48:=fun e=>by subst e; simp at hG
    have h2:d.toNat ≠ 48:=fun e=>h1 (UInt8.toNat.inj e)
    have:=qR r (10 * 0 + (d.toNat - 48))
    rw [jV]; omega
  refine a7 (α:=Nat × Nat) (fun z=>[(0,tS s),(4,iS .i64 f),(5,iS .u64 z.1),(6,iS .i64 z.2)]) (fun z=>[]) (fun z=>f<=z.2/\z.2<=(bl s).length/\z.1<=10000000000000000009/\decV z.1 ((bl s).drop z.2)=decV 0 q) (fun z=>(bl s).length - z.2) (0,f) 0 ⟨by simp only; omega,by simp only; omega,by simp,by simp only; rw [hq]⟩ ?_ ?_ ?_
  · simp -dsimp only [go_sem]; simp
  · simp [go_sem]
  rintro ⟨n,i⟩ ⟨hi1,hi2,hn,hv⟩
  simp only at hi1 hi2 hn hv
  simp -dsimp only [go_sem,hfn]
  have hnone:¬ decV 0 q<=cF neg->K (.tu [iA .i64 0,iA .i64 1]) []:=fun h=>by
   have:decide (decV 0 q<=cF neg)=false:=by simpa using h
   rw [this] at hK; exact hK
  have hlim2:cF neg<=9223372036854775808:=by cases neg<;>decide
  refine ⟨fun hlt=>⟨⟨by omega,by simpa using hlt⟩,fun c hc=>⟨by have:=c.toNat_lt; omega,fun h3=>?_,fun h3=>⟨fun h4=>.done (hnone ?_),fun h4=>⟨by simp at h4; omega,⟨by omega,by simpa using hlt⟩,fun e he=>?_⟩⟩⟩⟩,fun hge=>?_⟩
  · exfalso
    have:c ∈ q:=by rw [<-hq]; exact b6 (i:=i - f) (by rw [List.getElem?_drop,show f + (i - f)=i by omega]; exact hc)
    have:=hd c this
    rw [bD,h3] at this; cases this
  · rw [cC hc,jV] at hv
    have:=qR ((bl s).drop (i + 1)) (10 * n + (c.toNat - 48))
    simp at h4; omega
  · rw [hc] at he; obtain rfl:=aZ he
    have hc9:=lY.1 (show bD c=true by simpa [bD] using h3)
    have hw:IntKind.u64.wrap ((c.toNat:Int) - 48)=((c.toNat - 48:Nat):Int):=by
     simp [IntKind.wrap,IntKind.signed,IntKind.bits]; omega
    have hlt:i < (bl s).length:=(aU.1 hc).1
    simp at h4
    refine ⟨by omega,by rw [hw]; omega,by omega,aD (10 * n + (c.toNat - 48),i + 1) 0 ⟨by simp only; omega,by simp only; omega,by simp only; omega,by simp only; rw [<-hv,cC hc,jV]⟩ (by simp only; omega) ?_ ?_⟩
    · simp -dsimp only [go_sem,hw]; simp
    · simp [go_sem]
  · have hN:n=decV 0 q:=by
     have:i=(bl s).length:=by simp at hge; omega
     rw [<-hv,this,List.drop_length,sH]
    rw [<-hN] at hK hpos hnone
    refine ⟨fun hn1=>⟨fun h4=>.done (hnone ?_),fun h4=>?_⟩,fun hn1=>⟨fun h4=>.done (hnone ?_),fun h4=>?_⟩⟩
    · subst hn1; simp at h4; simp [cF]; omega
    · have hp:=hpos hn1
      simp at h4
      have w1:IntKind.i64.wrap ((n:Int) - 1)=(n:Int) - 1:=lJ (by simp [inr,IntKind.min,IntKind.max,IntKind.signed,IntKind.bits]; omega)
      rw [w1]
      refine ⟨by omega,by omega,by omega,cH hK ?_⟩
      subst hn1
      have:decide (n<=cF true)=true:=decide_eq_true (show n<=9223372036854775808 by omega)
      rw [this]
      simp [signed]; omega
    · subst hn1; simp at h4; simp [cF]; omega
    · simp at h4
      have w1:IntKind.i64.wrap (n:Int)=(n:Int):=lJ (by simp [inr,IntKind.min,IntKind.max,IntKind.signed,IntKind.bits]; omega)
      rw [w1]
      refine cH hK ?_
      subst hn1
      have:decide (n<=cF false)=true:=decide_eq_true (show n<=9223372036854775807 by omega)
      rw [this]
      simp [signed]
 simp -dsimp only [go_sem,LJ,zD,h45]
 refine ⟨fun h=>⟨by omega,by simpa using h⟩,fun c hc=>⟨fun h=>?_,fun h=>?_⟩⟩
 · simp only [Bool.and_eq_true] at h
   have hc:=hc h.1
   have:neg=true:=by rw [<-hneg,hc]; exact h.2
   subst this
   obtain rfl:1=f:=hf
   refine bK 0 rest ?_ ?_
   · simp -dsimp only [go_sem]; simp
   · simp [go_sem]
 · have:neg=false:=by
    rw [<-hneg]
    cases h0:(bl s)[0]? with
    | none=>rfl
    | some d=>
     have hlt:0 < (bl s).length:=(aU.1 h0).1
     have hd2:=hc (by simp; omega)
     rw [h0] at hd2; obtain rfl:=aZ hd2
     have:decide ((0:Int) < (bl s).length)=true:=by simp; omega
     rw [this,Bool.true_and] at h
     exact h
   subst this
   obtain rfl:0=f:=hf
   refine bK 0 rest ?_ ?_
   · simp -dsimp only [go_sem]; simp
   · simp [go_sem]
def H5:W.Spec:=s0 (fun l a=>∃ c,l[a]? = some c) fun s a K=>∀ x n z e t,Got (fF (bl s) a.toNat) x n z e t->K (.tu [iA .i64 z,iA .i64 n,iA .i64 e,iA .i64 t]) []
def M2:W.Spec:=s0 (fun l a=>l[a]? = some 34) fun s a K=>∀ x n z e t,Got (eP (bl s) a.toNat) x n z e t->K (.tu [iA .i64 z,tA x,iA .i64 e,iA .i64 t]) []
attribute [go_sem ↓] H5 M2
theorem Got.bad {r:R} {e t:Int} (h:r=.bad e t) {x:ByteArray} {n z:Int}:Got r x n z e t:=by subst h; exact ⟨rfl,rfl⟩
theorem Got.ok {r:R} {k:Int} {x:List UInt8} {n:Int} {z:Nat} (h:r=.ok k x n z):Got r (mk x) n z 0 0:=by subst h; exact ⟨rfl,rfl,rfl,rfl,rfl⟩
theorem uP (p:UInt8->Bool):∀ (l:List UInt8) (c:UInt8),l[(l.takeWhile p).length]? = some c->p c=false
 | [],c,h=>by simp at h
 | d :: l,c,h=>by
  cases hp:p d with
  | true=>rw [List.takeWhile_cons,if_pos hp] at h; simp at h; exact uP p l c h
  | false=>rw [List.takeWhile_cons,hp] at h; simp at h; subst h; exact hp
theorem PH {p:UInt8->Bool} {l:List UInt8} {a:Nat} {c:UInt8} (h:l[bI p l a]? = some c):p c=false:=by
 refine uP p (l.drop a) c ?_
 rw [List.getElem?_drop]; exact h
theorem VO:Meets Tryz.prog 91 M2:=by
 refine aF Tryz.func91 aAM 2 (by rw [Tryz.ntmps91]; decide) (aB _) s7 ?_
 intro xs H K h
 obtain ⟨s,a,rfl,rfl,h0,h1,h2,hc0,hK⟩:=mA h
 have h34:∀ c:UInt8,((c.toNat:Int) == 34)=(c == 34):=fun c=>eO 34
 have h92:∀ c:UInt8,((c.toNat:Int) == 92)=(c == 92):=fun c=>eO 92
 have hlt:a.toNat < (bl s).length:=(aU.1 hc0).1
 simp -dsimp only [go_sem,Q7,TM]
 refine ⟨by omega,?_⟩
 refine a7 (α:=List UInt8 × Nat) (fun z=>[(0,tS s),(1,iS .i64 a),(8,tS (mk z.1)),(9,iS .i64 z.2)]) (fun z=>[]) (fun z=>z.2<=(bl s).length/\z.1.length<=z.2/\quoL z.2 ((bl s).drop z.2) z.1=quoL (a.toNat + 1) ((bl s).drop (a.toNat + 1)) []) (fun z=>(bl s).length - z.2) ([],a.toNat + 1) 0 ⟨by simp only; omega,by simp,rfl⟩ ?_ ?_ ?_
 · simp -dsimp only [go_sem]; simp [Int.toNat_of_nonneg h0]
 · simp [go_sem]
 rintro ⟨out,i⟩ ⟨hi,ho,hr⟩
 simp only at hi ho hr
 simp -dsimp only [go_sem,bne,h34,h92,zL]
 have ha:((a.toNat:Nat):Int)=a:=Int.toNat_of_nonneg h0
 have hT:eP (bl s) a.toNat=match quoL i (List.drop i (bl s)) out with
  | (i,none)=>.bad 2 i
  | (z,some out)=>bif decide (200 < out.length) then .bad 3 a.toNat else .ok 3 out 0 z:=by rw [hr]; rfl
 refine ⟨fun hge=>?_,fun hlt=>⟨⟨by omega,by simpa using hlt⟩,fun c hc=>⟨fun h3=>?_,fun h3=>⟨fun _=>by omega,fun _=>by omega,fun h4=>⟨by omega,by simp at h4; omega⟩,fun d hd=>⟨fun _=>by omega,fun h=>⟨by omega,by simp at h; omega⟩,fun e he=>⟨fun h1 h2=>by rw [h1,h2]; rfl,fun h1 h2=>by rw [h1,h2]; rfl,fun h1 h2=>by rw [h1,h2]; rfl,?_⟩⟩⟩⟩⟩⟩
 · have:i=(bl s).length:=by simp at hge; omega
   subst this
   rw [List.drop_length,lT] at hT
   exact .done (hK (mk []) 0 _ _ _ (Got.bad hT))
 · have:c=34:=by simpa using h3
   subst this
   rw [cC hc,gL] at hT
   simp at hT
   refine ⟨fun h4=>.done (hK (mk []) 0 _ _ _ (Got.bad (t:=a) (e:=3) ?_)),fun h4=>⟨by omega,.done (hK (mk out) 0 _ _ _ ?_)⟩⟩
   · have:decide (200 < out.length)=true:=by simp at h4 ⊢; omega
     rw [hT,this,aO,Int.max_eq_left h0]
   · have:decide (200 < out.length)=false:=by simp at h4 ⊢; omega
     rw [this] at hT
     exact Got.ok hT
 have hlt2:i < (bl s).length:=(aU.1 hc).1
 have hw:(decide ((c.toNat:Int) < 32) || decide (126 < (c.toNat:Int)))=(decide (c < 32) || decide (126 < c)):=by
  have e1:decide ((c.toNat:Int) < 32)=decide (c < 32):=by rw [decide_eq_decide,UInt8.lt_iff_toNat_lt]; show _ ↔ c.toNat < 32; omega
  have e2:decide (126 < (c.toNat:Int))=decide (126 < c):=by rw [decide_eq_decide,UInt8.lt_iff_toNat_lt]; show _ ↔ 126 < c.toNat; omega
  rw [e1,e2]
 rw [hw] at hd he ⊢
 rw [cC hc,gL] at hT hr
 generalize (decide (c < 32) || decide (126 < c))=w at hd he hT hr ⊢
 rw [h3] at hT hr
 cases w with
 | true=>
  simp only [aO] at hT
  exact ⟨fun _=>.done (hK (mk []) 0 _ _ _ (Got.bad hT)),fun h=>by simp at h⟩
 | false=>
  simp only [aH] at hT hr
  cases h9:c == 92 with
  | false=>
   rw [h9] at hr
   simp only [aH] at hr
   have hsub:List.drop i (List.take (i + 1) (bl s))=[c]:=by rw [List.drop_take,cC hc]; simp
   refine ⟨fun h=>by simp at h,fun _=>⟨fun h=>by simp at h,fun _=>?_⟩⟩
   and_intros
   all_goals first
    | omega
    | (simp; omega)
    | skip
   refine aD (out ++ [c],i + 1) 0 ⟨by simp only; omega,by simp; omega,hr⟩ (by simp only; omega) ?_ ?_
   · simp -dsimp only [go_sem]; simp [show ((i:Int) + 1).toNat=i + 1 by omega,hsub]
   · simp [go_sem]
  | true=>
   rw [h9] at hr hT hd he
   simp only [aO,Bool.not_false,Bool.true_and] at hr hT hd he
   cases hrest:List.drop (i + 1) (bl s) with
   | nil=>
    have:(bl s).length<=i + 1:=List.drop_eq_nil_iff.1 hrest
    have h8:decide (((bl s).length:Int)<=i + 1)=true:=by simp; omega
    rw [hrest] at hT
    rw [h8]
    exact ⟨fun _=>.done (hK (mk []) 0 _ _ _ (Got.bad hT)),fun h=>by simp at h⟩
   | cons x r=>
    have hx:(bl s)[i + 1]? = some x:=by
     have:(List.drop (i + 1) (bl s))[0]? = some x:=by rw [hrest]; rfl
     simpa using this
    have hltx:i + 1 < (bl s).length:=(aU.1 hx).1
    have hrx:r=List.drop (i + 2) (bl s):=by
     have:=cC hx
     rw [hrest] at this; simpa using this
    have h8:decide (((bl s).length:Int)<=i + 1)=false:=by simp; omega
    rw [hrest] at hT hr
    have hi1:((i:Int) + 1).toNat=i + 1:=by omega
    have hi2:((i:Int) + 1 + 1).toNat=i + 2:=by omega
    rw [h8,hi1,hx] at hd he
    simp only [Bool.not_false,Bool.true_and,true_implies,aC] at hd he
    obtain rfl:=hd
    have hE:(x == 34 || x == 92)=!(!x == 34 && !e == 92):=by
     cases h7:x == 34 with
     | true=>rfl
     | false=>rw [h7] at he; obtain rfl:=he rfl; simp
    rw [h8]
    simp only [hE] at hT hr
    generalize (!x == 34 && !e == 92)=b at hT hr ⊢
    cases b with
    | true=>exact ⟨fun _=>.done (hK (mk []) 0 _ _ _ (Got.bad hT)),fun h=>by simp at h⟩
    | false=>
     simp only [Bool.not_false,aO] at hr
     have hsub:List.drop (i + 1) (List.take (i + 2) (bl s))=[x]:=by rw [List.drop_take,cC hx]; simp
     refine ⟨fun h=>by simp at h,fun _=>⟨fun _=>?_,fun h=>by simp at h⟩⟩
     and_intros
     all_goals first
      | omega
      | (simp; omega)
      | skip
     refine aD (out ++ [x],i + 2) 0 ⟨by simp only; omega,by simp; omega,by rw [<-hr,hrx]⟩ (by simp only; omega) ?_ ?_
     · simp -dsimp only [go_sem]; simp [hi1,hi2,hsub]; omega
     · simp [go_sem]
theorem WB:Meets Tryz.prog 90 H5:=by
 refine aF Tryz.func90 aBC 2 (by rw [Tryz.ntmps90]; decide) (aK uH (aA XD (aK HI (aB _)))) s7 ?_
 intro xs H K h
 obtain ⟨s,a,rfl,rfl,h0,h1,h2,⟨c0,hc0⟩,hK⟩:=mA h
 have h45:∀ c:UInt8,((c.toNat:Int) == 45)=(c == 45):=fun c=>eO 45
 have hlt:a.toNat < (bl s).length:=(aU.1 hc0).1
 generalize hneg:((bl s)[a.toNat]? == some 45)=neg at hK
 generalize hfe:(bif neg then a.toNat + 1 else a.toNat)=f
 have hf1:a.toNat<=f/\f<=(bl s).length:=by subst hfe; cases neg<;>simp<;>omega
 generalize hz:bI bD (bl s) f=z
 have rest:vc [(89,.f (iC fun c=>.bool (kR c))),(118,.s o8),(117,.f (iC fun c=>.bool (jU c)))] 0 pc90_6.ungh (cN [(0,tS s),(1,iS .i64 a),(8,iS .i64 z)]) [] (eB 0 FE K):=by
  simp -dsimp only [go_sem,pc90_6,FE,h45,zL]
  have hz1:f<=z:=by rw [<-hz]; exact nL
  have hz2:z<=(bl s).length:=by rw [<-hz]; exact kZ hf1.2
  generalize hq:List.drop a.toNat (List.take z (bl s))=q
  have hq0:(q[0]? == some 45)=neg:=by
   have e:q[0]? = (List.take z (bl s))[a.toNat]?:=by rw [<-hq,List.getElem?_drop]; rfl
   rw [e,List.getElem?_take]
   split
   · exact hneg
   · cases neg with
     | false=>rfl
     | true=>simp at hfe; omega
  have hqs:List.drop (bif neg then 1 else 0) q=List.drop f (List.take z (bl s)):=by
   rw [<-hq,List.drop_drop,<-hfe]; cases neg<;>rfl
  have hdig:∀ c ∈ List.drop f (List.take z (bl s)),bD c=true:=fun c hc=>by rw [<-hz] at hc; exact n8 c hc
  have hV:((lE q).2=2->fF (bl s) a.toNat=.bad 2 a.toNat)/\((lE q).2=1->fF (bl s) a.toNat=.bad 4 a.toNat)/\
   ((lE q).2 ≠ 2->(lE q).2 ≠ 1->fF (bl s) a.toNat=bif lC (bl s) z then .bad 2 z else .ok 2 [] (lE q).1 z):=by
   simp only [lE,hq0,hqs,fF,hneg,hfe,hz]
   generalize List.drop f (List.take z (bl s))=r
   cases (r == [] || (r[0]? == some 48 && (decide (1 < r.length) || neg))) with
   | true=>simp
   | false=>
    simp only [aH]
    cases valL (cF neg) 0 r with
    | none=>simp
    | some n=>simp
  have hwm:∀ c e:UInt8,(decide ((z:Int) < (bl s).length)=true->(bl s)[z]? = some c)->((decide ((z:Int) < (bl s).length) && !jU c.toNat)=true->(bl s)[z]? = some e)->
   (decide ((z:Int) < (bl s).length) && (jU c.toNat || e == 45))=lC (bl s) z:=by
   intro c e hc he
   unfold lC
   cases hd:(bl s)[z]? with
   | none=>
    have:decide ((z:Int) < (bl s).length)=false:=by have:=List.getElem?_eq_none_iff.1 hd; simp; omega
    rw [this]; rfl
   | some d=>
    have hlt:z < (bl s).length:=(aU.1 hd).1
    have:decide ((z:Int) < (bl s).length)=true:=by simp; omega
    rw [this,hd] at hc he
    rw [this]
    obtain rfl:=aZ (hc rfl)
    have hnd:bD d=false:=by rw [<-hz] at hd; exact PH hd
    simp only [Bool.true_and,hnd,Bool.not_false,Bool.and_true,bJ] at he ⊢
    cases hw:jU d.toNat with
    | true=>rfl
    | false=>rw [hw] at he; obtain rfl:=aZ (he rfl); rfl
  obtain ⟨v1,v2,v3⟩:=hV
  have ha:((a.toNat:Nat):Int)=a:=Int.toNat_of_nonneg h0
  refine ⟨by omega,⟨by rw [<-hq]; simp; omega,by rw [hq0,hqs]; exact hdig⟩,fun h=>.done (hK (mk []) _ _ _ _ (by rw [v1 (by simpa using h),ha]; exact ⟨rfl,rfl⟩)),fun h=>⟨fun h5=>.done (hK (mk []) _ _ _ _ (by rw [v2 (by simpa using h5),ha]; exact ⟨rfl,rfl⟩)),fun h5=>⟨fun h6=>⟨by omega,by simpa using h6⟩,fun c hc=>⟨fun _=>by have:=c.toNat_lt; omega,fun h6=>⟨by omega,by simp at h6; omega⟩,fun e he=>⟨fun h6 h7=>by rw [h6,h7]; rfl,?_⟩⟩⟩⟩⟩
  rw [hwm c e hc he]
  have v3:=v3 (by simpa using h) (by simpa using h5)
  refine ⟨fun h6=>.done (hK (mk []) _ _ _ _ ?_),fun h6=>.done (hK (mk []) _ _ _ _ ?_)⟩
  · rw [v3,h6]; exact ⟨rfl,rfl⟩
  · rw [v3,h6]; exact ⟨rfl,rfl,rfl,rfl,rfl⟩
 simp -dsimp only [go_sem,RM,FE,h45]
 refine ⟨⟨by omega,by omega⟩,fun c hc=>?_⟩
 have hcn:(c == 45)=neg:=by rw [<-hneg,hc]; rfl
 rw [hcn]
 refine ⟨fun h=>⟨by omega,?_⟩,fun h=>?_⟩
 · have hfi:(f:Int)=a + 1:=by subst h; simp at hfe; omega
   refine a7 (α:=Nat) (fun i=>[(0,tS s),(1,iS .i64 a),(8,iS .i64 i)]) (fun i=>[]) (fun i=>f<=i/\i<=(bl s).length/\bI bD (bl s) i=z) (fun i=>(bl s).length - i) f 0 ⟨by omega,by omega,hz⟩ ?_ ?_ ?_
   · simp -dsimp only [go_sem]; simp [hfi]
   · simp [go_sem]
   rintro i ⟨hai,hi,hr⟩
   simp -dsimp only [go_sem]
   refine ⟨fun hlt=>⟨by omega,by simpa using hlt⟩,fun d hd=>⟨fun _=>by have:=d.toNat_lt; omega,fun h3=>?_,fun h3=>?_⟩⟩
   · simp only [Bool.and_eq_true,decide_eq_true_eq] at h3
     have hd:=hd (by simpa using h3.1)
     have hlt:i < (bl s).length:=(aU.1 hd).1
     refine ⟨by omega,aD (i + 1) 0 ⟨by omega,hlt,by rw [fO hd h3.2,hr]⟩ (by omega) ?_ ?_⟩
     · simp -dsimp only [go_sem]; simp
     · simp [go_sem]
   · have hiz:i=z:=by
      rw [<-hr]
      refine (jZ fun e he=>?_).symm
      have hlt:i < (bl s).length:=(aU.1 he).1
      have hd2:=hd (by simp; omega)
      rw [he] at hd2; obtain rfl:=aZ hd2
      have hlt2:decide ((i:Int) < (bl s).length)=true:=by simp; omega
      rw [hlt2,Bool.true_and] at h3
      exact h3
     subst hiz
     refine bK 0 rest ?_ ?_
     · simp -dsimp only [go_sem]
     · simp [go_sem]
 · have hfi:(f:Int)=a:=by subst h; simp at hfe; omega
   refine a7 (α:=Nat) (fun i=>[(0,tS s),(1,iS .i64 a),(8,iS .i64 i)]) (fun i=>[]) (fun i=>f<=i/\i<=(bl s).length/\bI bD (bl s) i=z) (fun i=>(bl s).length - i) f 0 ⟨by omega,by omega,hz⟩ ?_ ?_ ?_
   · simp -dsimp only [go_sem]; simp [hfi]
   · simp [go_sem]
   rintro i ⟨hai,hi,hr⟩
   simp -dsimp only [go_sem]
   refine ⟨fun hlt=>⟨by omega,by simpa using hlt⟩,fun d hd=>⟨fun _=>by have:=d.toNat_lt; omega,fun h3=>?_,fun h3=>?_⟩⟩
   · simp only [Bool.and_eq_true,decide_eq_true_eq] at h3
     have hd:=hd (by simpa using h3.1)
     have hlt:i < (bl s).length:=(aU.1 hd).1
     refine ⟨by omega,aD (i + 1) 0 ⟨by omega,hlt,by rw [fO hd h3.2,hr]⟩ (by omega) ?_ ?_⟩
     · simp -dsimp only [go_sem]; simp
     · simp [go_sem]
   · have hiz:i=z:=by
      rw [<-hr]
      refine (jZ fun e he=>?_).symm
      have hlt:i < (bl s).length:=(aU.1 he).1
      have hd2:=hd (by simp; omega)
      rw [he] at hd2; obtain rfl:=aZ hd2
      have hlt2:decide ((i:Int) < (bl s).length)=true:=by simp; omega
      rw [hlt2,Bool.true_and] at h3
      exact h3
     subst hiz
     refine bK 0 rest ?_ ?_
     · simp -dsimp only [go_sem]
     · simp [go_sem]
theorem I1 {l:List UInt8} {a:Nat} {k:Int} {x:List UInt8} {n:Int} {z:Nat} (h:eW l a=.ok k x n z):k=1/\n=0/\z=bI bJ l a/\z - a<=16/\x=(l.take z).drop a/\l[z]? ≠ some 45:=by
 unfold eW at h
 simp only at h
 revert h
 cases h1:decide (16 < bI bJ l a - a)<;>cases h2:(l[bI bJ l a]? == some 45)<;>simp [R.ok.injEq]
 rintro rfl rfl rfl rfl
 simp at h1 h2
 exact ⟨rfl,rfl,rfl,by omega,rfl,h2⟩
theorem J8 (l:List UInt8):bX l=true ↔ ∃ c,l[0]? = some c/\l.length<=16/\c8 c.toNat=true/\∀ x ∈ l,bJ x=true:=by
 cases l with
 | nil=>simp [bX]
 | cons c l=>simp [bX,and_assoc]
theorem TW {l:List UInt8} {a:Nat} {k:Int} {x:List UInt8} {n:Int} {z:Nat} (h:fF l a=.ok k x n z):x=[]:=by
 unfold fF at h
 simp only at h
 revert h
 generalize (List.drop (bif l[a]? == some 45 then a + 1 else a) (List.take (bI bD l (bif l[a]? == some 45 then a + 1 else a)) l))=q
 cases (q == [] || (q[0]? == some 48 && (decide (1 < q.length) || l[a]? == some 45))) with
 | true=>intro h; cases h
 | false=>
  simp only [aH]
  split
  · intro h; cases h
  · cases lC l (bI bD l (bif l[a]? == some 45 then a + 1 else a))<;>intro h<;>cases h
    rfl
theorem OF {l:List UInt8} {a:Nat} {k:Int} {x:List UInt8} {n:Int} {z:Nat} (h:eP l a=.ok k x n z):n=0:=by
 unfold eP at h
 split at h
 · cases h
 · revert h
   rename_i o _
   cases decide (200 < o.length)<;>intro h<;>cases h
   rfl
theorem QD:Meets Tryz.prog 45 hJ:=by
 refine aF Tryz.func45 Y6 1 (by rw [Tryz.ntmps45]; decide)
  (aK PY (aK C4 (aA Q1 (aK uH (aA WB (aA VO (aK WW (aB _)))))))) (fun xs H K h=>by obtain ⟨s,rfl,_⟩:=jP h; rfl) ?_
 intro xs H K h
 obtain ⟨s,rfl,rfl,hK⟩:=jP h
 have h34:∀ c:UInt8,((c.toNat:Int) == 34)=(c == 34):=fun c=>eO 34
 have h45:∀ c:UInt8,((c.toNat:Int) == 45)=(c == 45):=fun c=>eO 45
 simp -dsimp only [go_sem,TQ,SG,h34,h45]
 refine ⟨fun h1=>?_,fun h1=>?_⟩
 · have h2:decide (4000 < (bl s).length)=true:=by simp at h1 ⊢; omega
   simp only [aI,h2,aO,SR.toks,SR.err,SR.off] at hK
   exact .done hK
 have h2:decide (4000 < (bl s).length)=false:=by simp at h1 ⊢; omega
 have hlen:(bl s).length<=4000:=by simpa using h2
 refine ⟨⟨by omega,by omega,hlen⟩,cL (α:=Nat × Nat × List Tk) (fun z=>[(0,tS s),(5,.va (.c1 (.sl 0 z.2.2.length))),(6,iS .i64 (bP (bl s) z.2.1))]) (fun z=>[.row (z.2.2.map cI) 74 4])
  (fun z=>(bl s).length < z.1 + z.2.1/\z.2.1<=(bl s).length/\z.2.2.length<=z.2.1/\SR.app z.2.2 (dX z.1 (bl s) z.2.1)=aI (bl s)) (fun z=>z.1)
  (.nil 5 74 4 ?_ (gT ((bl s).length + 1,0,[]) 1 ⟨by simp only; omega,by simp,by simp,?_⟩ ?_ ?_)) ?_⟩
 · simp -dsimp only [go_sem]; rfl
 · simp only [aI,h2,aH]
   cases dX ((bl s).length + 1) (bl s) 0<;>rfl
 · simp -dsimp only [go_sem]
 · simp -dsimp only [go_sem]
 rintro ⟨f,a,acc⟩ ⟨hf,ha,hac,hr⟩
 simp only at hf ha hac hr
 have hpl:bP (bl s) a<=(bl s).length:=lU ha
 have hpa:a<=bP (bl s) a:=sJ
 obtain ⟨hb,ho⟩:=mI hpl
 obtain ⟨f,rfl⟩:∃ g,f=g + 1:=⟨f - 1,by omega⟩
 rw [dX] at hr
 simp -dsimp only [go_sem,h34,h45]
 generalize hp:bP (bl s) a=p at hb ho hr hpl hpa ⊢
 have hbad:∀ {e t:Int} {H2:Hp},dJ (bl s) p=.bad e t->W.Fin 0 K (.tu [.c1 (.fz []),iA .i64 e,iA .i64 t]) H2:=by
  intro e t H2 h
  rw [h] at hr; simp only [SR.app] at hr; rw [<-hr] at hK; simp only [SR.toks,SR.err,SR.off] at hK
  exact .z ((by simpa [go_sem] using hK))
 have hinv:∀ {k:Int} {x:List UInt8} {n:Int} {z:Nat},dJ (bl s) p=.ok k x n z->k ≠ 0->(bl s).length < f + z/\z<=(bl s).length/\(acc ++ [Tk.mk k x n p]).length<=z/\SR.app (acc ++ [Tk.mk k x n p]) (dX f (bl s) z)=aI (bl s):=by
  intro k x n z h hk
  obtain ⟨c,_,g1,g2,_⟩:=(ho h).one hk
  rw [h] at hr
  have hk2:(k == 0)=false:=by simpa using hk
  simp only [hk2,aH,SR.app_cons] at hr
  exact ⟨by omega,g2,by simp; omega,hr⟩
 refine ⟨fun hlt=>⟨by omega,⟨by omega,by simpa using hlt⟩,fun c hc=>⟨by have:=c.toNat_lt; omega,fun q1=>?_,fun q1=>?_⟩⟩,fun hge=>?_⟩
 · have htok:dJ (bl s) p=eW (bl s) p:=by rw [dJ,hc]; simp only [q1,aO]
   refine ⟨by omega,fun x n z e t ht hz=>⟨by rw [hz]; have:=nL (p:=bJ) (l:=bl s) (a:=p); have:=kZ (p:=bJ) hpl; omega,?_⟩⟩
   cases hR:eW (bl s) p with
   | bad e' t'=>
    rw [hR] at ht
    obtain ⟨rfl,rfl⟩:=ht
    exact ⟨fun _=>hbad (htok.trans hR),fun h=>absurd h (by simpa using (hb (htok.trans hR)).1)⟩
   | ok k x' n' z'=>
    rw [hR] at ht
    obtain ⟨rfl,rfl,rfl,rfl,rfl⟩:=ht
    obtain ⟨rfl,rfl,-,-,hx,-⟩:=I1 hR
    have hi:=hinv (htok.trans hR) (by decide)
    refine ⟨fun h=>absurd h (by simp),fun _=>⟨by omega,by omega,aD (f,z',acc ++ [⟨1,x',0,p⟩]) 1 hi (by simp only; omega) ?_ ?_⟩⟩
    · simp -dsimp only [go_sem]<;>simp
    · simp -dsimp only [go_sem]<;>simp [go_sem,hx]
 refine ⟨by have:=c.toNat_lt; omega,fun q2=>?_,fun q2=>⟨fun q3=>?_,fun q3=>⟨by have:=c.toNat_lt; omega,fun q4=>?_,fun q4=>?_⟩⟩⟩
 · have htok:dJ (bl s) p=fF (bl s) p:=by rw [dJ,hc]; simp only [q1,aH]; rw [show (bD c || c == 45)=true from q2]; rfl
   refine ⟨⟨by omega,by omega,hlen,c,hc⟩,fun x n z e t ht=>?_⟩
   cases hR:fF (bl s) p with
   | bad e' t'=>
    rw [hR] at ht
    obtain ⟨rfl,rfl⟩:=ht
    exact ⟨fun _=>hbad (htok.trans hR),fun h=>absurd h (by simpa using (hb (htok.trans hR)).1)⟩
   | ok k x' n' z'=>
    rw [hR] at ht
    obtain ⟨rfl,rfl,rfl,rfl,rfl⟩:=ht
    obtain rfl:=(oY hc).2 hR
    obtain rfl:=TW hR
    have hi:=hinv (htok.trans hR) (by decide)
    refine ⟨fun h=>absurd h (by simp),fun _=>⟨by omega,by omega,aD (f,z',acc ++ [⟨2,[],n,p⟩]) 1 hi (by simp only; omega) ?_ ?_⟩⟩
    · simp -dsimp only [go_sem]<;>simp
    · simp -dsimp only [go_sem]<;>simp [go_sem]
 · have hc3:c=34:=by simpa using q3
   have hlt2:p < (bl s).length:=(aU.1 hc).1
   have htok:dJ (bl s) p=eP (bl s) p:=by rw [dJ,hc]; simp only [q1,aH]; rw [show (bD c || c == 45)=false from q2]; simp only [q3,aH,aO]
   refine ⟨⟨by omega,by omega,hlen,by rw [hc,hc3]⟩,fun x n z e t ht=>?_⟩
   cases hR:eP (bl s) p with
   | bad e' t'=>
    rw [hR] at ht
    obtain ⟨rfl,rfl⟩:=ht
    exact ⟨fun _=>hbad (htok.trans hR),fun h=>absurd h (by simpa using (hb (htok.trans hR)).1)⟩
   | ok k x' n' z'=>
    rw [hR] at ht
    obtain ⟨rfl,rfl,rfl,rfl,rfl⟩:=ht
    obtain rfl:=(nN hlt2).2 hR
    obtain rfl:=OF hR
    have hi:=hinv (htok.trans hR) (by decide)
    refine ⟨fun h=>absurd h (by simp),fun _=>⟨by omega,by omega,aD (f,z',acc ++ [⟨3,x',0,p⟩]) 1 hi (by simp only; omega) ?_ ?_⟩⟩
    · simp -dsimp only [go_sem]<;>simp
    · simp -dsimp only [go_sem]<;>simp [go_sem]
 · have hlt2:p < (bl s).length:=(aU.1 hc).1
   have hR:dJ (bl s) p=.ok 4 [c] 0 (p + 1):=by rw [dJ,hc]; simp only [q1,aH]; rw [show (bD c || c == 45)=false from q2]; simp only [q3,q4,aH,aO]
   have hi:=hinv hR (by decide)
   have hi1:((p:Int) + 1).toNat=p + 1:=by omega
   have hsub:List.drop p (List.take (p + 1) (bl s))=[c]:=by rw [List.drop_take,cC hc]; simp
   refine ⟨by omega,fun h=>absurd h (by decide),fun _=>⟨by omega,by omega,?_⟩⟩
   refine aD (f,p + 1,acc ++ [⟨4,[c],0,p⟩]) 1 hi (by simp only; omega) ?_ ?_
   · simp -dsimp only [go_sem]<;>simp [hi1]
   · simp -dsimp only [go_sem]<;>simp [go_sem,hi1,hsub]
 · have hR:dJ (bl s) p=.bad 2 p:=by rw [dJ,hc]; simp only [q1,aH]; rw [show (bD c || c == 45)=false from q2]; simp only [q3,q4,aH]
   exact hbad hR
 · have hpe:p=(bl s).length:=by simp at hge; omega
   have hR:dJ (bl s) p=.ok 0 [] 0 p:=by rw [dJ,List.getElem?_eq_none (by omega)]
   rw [hR] at hr
   simp only [beq_self_eq_true,aO,SR.app] at hr
   rw [<-hr] at hK
   simp only [SR.toks,SR.err,SR.off,List.map_append,List.map_cons,List.map_nil] at hK
   refine ⟨by omega,.pub 0 _ _ _ rfl (.sel [] (by simp) (by simp [b5]) rfl (.done ?_))⟩
   rw [hpe] at hK
   simpa [go_sem] using hK
structure Ends (ts:List Tk):Prop where
 pos:0 < ts.length
 le:ts.length<=4001
 last:∀ (i:Nat) (t:Tk),ts[i]? = some t->(t.k=0 ↔ i + 1=ts.length)
abbrev dW (T:TypeId) (ts:List Tk) (n:Nat):B:=.cells [.fz (ts.map cI),.vl (.int .i64 n)] T
theorem I4 (T:TypeId) (ts:List Tk) (n:Nat):dW T ts (n + 1)=.cells [.fz (ts.map cI),.vl (.int .i64 ((n:Int) + 1))] T:=rfl
def iL (T:TypeId) (post:List Tk->Nat->(S->Hp->Prop)->Prop):W.Spec:=fun xs H K=>
 match xs,H with
 | [.va (.c1 (.pt 0 0))],[.cells [.fz r,.vl (.int .i64 a)] T']=>T'=T/\∃ (ts:List Tk) (n:Nat),r=ts.map cI/\a=n/\Ends ts/\n < ts.length/\post ts n K
 | _,_=>False
theorem pN {T:TypeId} {post:List Tk->Nat->(S->Hp->Prop)->Prop} {xs:List S} {H:Hp} {K:S->Hp->Prop} (h:iL T post xs H K) :
 ∃ ts n,xs=[.va (.c1 (.pt 0 0))]/\H=[dW T ts n]/\Ends ts/\n < ts.length/\post ts n K:=by
 unfold iL at h
 split at h
 · obtain ⟨rfl,ts,n,rfl,rfl,h1,h2,h3⟩:=h; exact ⟨ts,n,rfl,rfl,h1,h2,h3⟩
 · exact h.elim
theorem AM {T:TypeId} {post:List Tk->Nat->(S->Hp->Prop)->Prop}:∀ xs H K,iL T post xs H K->xs.length=1:=fun xs H K h=>by obtain ⟨ts,n,rfl,_⟩:=pN h; rfl
attribute [go_sem ↓] iL
def dR (ts:List Tk) (n:Nat):Nat:=if n + 1 < ts.length then n + 1 else n
def d6 (T:TypeId):W.Spec:=iL T fun ts n K=>∀ t,ts[n]? = some t->K (.va (.gs (cI t))) [dW T ts n]
def f9 (T:TypeId):W.Spec:=iL T fun ts n K=>∀ t,ts[n]? = some t->K (.va (.gs (cI t))) [dW T ts (dR ts n)]
attribute [go_sem ↓] d6 f9
theorem mN:Meets Tryz.prog 38 (d6 123):=by
 refine aF Tryz.func38 Z7 1 (by rw [Tryz.ntmps38]; decide) (aB _) AM ?_
 intro xs H K h
 obtain ⟨ts,n,rfl,rfl,hE,hn,hK⟩:=pN h
 simp -dsimp only [go_sem,QR,QH]
 refine ⟨fun h=>?_,fun _=>⟨by omega,fun t ht=>.sel [0] (by simp) (by simp) rfl (.done (hK t ht))⟩⟩
 have:=hE.pos; simp at h; simp [h] at this
theorem EZ:Meets Tryz.prog 81 (f9 123):=by
 refine aF Tryz.func81 Z6 1 (by rw [Tryz.ntmps81]; decide) (aA mN (aB _)) AM ?_
 intro xs H K h
 obtain ⟨ts,n,rfl,rfl,hE,hn,hK⟩:=pN h
 simp -dsimp only [go_sem,T6,TF]
 refine ⟨ts,n,rfl,rfl,hE,hn,fun t ht=>?_⟩
 have hK:=hK t ht
 have hle:=hE.le
 refine ⟨by omega,fun h=>⟨by omega,?_⟩,fun h=>?_⟩
 · have e:dR ts n=n + 1:=if_pos (by simp at h; omega)
   rw [e,I4] at hK
   exact .sel [0] (by simp) (by simp) rfl (.done hK)
 · have e:dR ts n=n:=if_neg (by simp at h; omega)
   rw [e] at hK
   exact .sel [0] (by simp) (by simp) rfl (.done hK)
def eD (k:Int) (w:List UInt8) (t:Tk):Bool:=t.k == k && t.x == w
def oT (k:Int) (w:List UInt8) (ts:List Tk) (n:Nat) (t:Tk):Nat:=bif eD k w t then dR ts n else n
def eA (k:Int) (T:TypeId):W.Spec:=fun xs H K=>
 match xs,H with
 | [.va (.c1 (.pt 0 0)),.va (.c1 (.vl (.string w)))],[.cells [.fz r,.vl (.int .i64 a)] T']=>T'=T/\∃ (ts:List Tk) (n:Nat),r=ts.map cI/\a=n/\Ends ts/\n < ts.length/\
  ∀ t,ts[n]? = some t->K (bS (eD k (bl w) t)) [dW T ts (oT k (bl w) ts n t)]
 | _,_=>False
theorem mR {k:Int} {T:TypeId} {xs:List S} {H:Hp} {K:S->Hp->Prop} (h:eA k T xs H K) :
 ∃ w ts n,xs=[.va (.c1 (.pt 0 0)),tS w]/\H=[dW T ts n]/\Ends ts/\n < ts.length/\∀ t,ts[n]? = some t->K (bS (eD k (bl w) t)) [dW T ts (oT k (bl w) ts n t)]:=by
 unfold eA at h
 split at h
 · obtain ⟨rfl,ts,n,rfl,rfl,h1,h2,h3⟩:=h; exact ⟨_,ts,n,rfl,rfl,h1,h2,h3⟩
 · exact h.elim
theorem tP {k:Int} {T:TypeId}:∀ xs H K,eA k T xs H K->xs.length=2:=fun xs H K h=>by obtain ⟨w,ts,n,rfl,_⟩:=mR h; rfl
def eX (T:TypeId):W.Spec:=fun xs H K=>
 match xs,H with
 | [.va (.c1 (.pt 0 0)),.va (.c1 (.vl (.int .i64 k))),.va (.c1 (.vl (.string w)))],[.cells [.fz r,.vl (.int .i64 a)] T']=>T'=T/\∃ (ts:List Tk) (n:Nat),r=ts.map cI/\a=n/\Ends ts/\n < ts.length/\
  ∀ t,ts[n]? = some t->K (bS (eD k (bl w) t)) [dW T ts (oT k (bl w) ts n t)]
 | _,_=>False
theorem rX {T:TypeId} {xs:List S} {H:Hp} {K:S->Hp->Prop} (h:eX T xs H K) :
 ∃ k w ts n,xs=[.va (.c1 (.pt 0 0)),iS .i64 k,tS w]/\H=[dW T ts n]/\Ends ts/\n < ts.length/\∀ t,ts[n]? = some t->K (bS (eD k (bl w) t)) [dW T ts (oT k (bl w) ts n t)]:=by
 unfold eX at h
 split at h
 · obtain ⟨rfl,ts,n,rfl,rfl,h1,h2,h3⟩:=h; exact ⟨_,_,ts,n,rfl,rfl,h1,h2,h3⟩
 · exact h.elim
theorem FF {T:TypeId}:∀ xs H K,eX T xs H K->xs.length=3:=fun xs H K h=>by obtain ⟨k,w,ts,n,rfl,_⟩:=rX h; rfl
attribute [go_sem ↓] eA eX
theorem ND:Meets Tryz.prog 116 (eX 123):=by
 refine aF Tryz.func116 VZ 3 (by rw [Tryz.ntmps116]; decide) (aA mN (aA EZ (aB _))) FF ?_
 intro xs H K h
 obtain ⟨k,w,ts,n,rfl,rfl,hE,hn,hK⟩:=rX h
 simp -dsimp only [go_sem,LZ,MG]
 refine ⟨ts,n,rfl,rfl,hE,hn,fun t ht=>?_⟩
 have hK:=hK t ht
 have hg:(t.k != k || !t.x == bl w)=!(eD k (bl w) t):=by simp [eD,bne,Bool.not_and]
 rw [hg]
 refine ⟨fun h=>?_,fun h=>⟨ts,n,rfl,rfl,hE,hn,fun u hu=>?_⟩⟩
 · have h:eD k (bl w) t=false:=by simpa using h
   simp only [oT,h,aH] at hK
   exact .sel [0] (by simp) (by simp) rfl (.done hK)
 · have h:eD k (bl w) t=true:=by simpa using h
   simp only [oT,h,aO] at hK
   exact .sel [0] (by simp) (by simp) rfl (.done hK)
theorem GW:Meets Tryz.prog 82 (eA 4 123):=by
 refine aF Tryz.func82 ZB 2 (by rw [Tryz.ntmps82]; decide) (aA ND (aB _)) tP ?_
 intro xs H K h
 obtain ⟨w,ts,n,rfl,rfl,hE,hn,hK⟩:=mR h
 simp -dsimp only [go_sem,U5,SL]
 refine ⟨ts,n,rfl,rfl,hE,hn,fun t ht=>.done ?_⟩
 exact hK t ht
theorem UO:Meets Tryz.prog 80 (eA 1 123):=by
 refine aF Tryz.func80 aAI 2 (by rw [Tryz.ntmps80]; decide) (aA ND (aB _)) tP ?_
 intro xs H K h
 obtain ⟨w,ts,n,rfl,rfl,hE,hn,hK⟩:=mR h
 simp -dsimp only [go_sem,SO,RX]
 refine ⟨ts,n,rfl,rfl,hE,hn,fun t ht=>.done ?_⟩
 exact hK t ht
def iD:W.Spec:=fun xs H K=>
 match xs,H with
 | [.va (.c1 (.vl (.string s)))],[]=>((aI (bl s)).err=0->K (.tu [.c1 (.pt 0 0),iA .i64 0,iA .i64 0]) [dW 123 (aI (bl s)).toks 0])/\
  ((aI (bl s)).err ≠ 0->K (.tu [.c1 (.vl (.pointer none)),iA .i64 (aI (bl s)).err,iA .i64 (aI (bl s)).off]) [])
 | _,_=>False
theorem tU {xs:List S} {H:Hp} {K:S->Hp->Prop} (h:iD xs H K):∃ s,xs=[tS s]/\H=[]/\((aI (bl s)).err=0->K (.tu [.c1 (.pt 0 0),iA .i64 0,iA .i64 0]) [dW 123 (aI (bl s)).toks 0])/\
 ((aI (bl s)).err ≠ 0->K (.tu [.c1 (.vl (.pointer none)),iA .i64 (aI (bl s)).err,iA .i64 (aI (bl s)).off]) []):=by
 unfold iD at h
 split at h
 · exact ⟨_,rfl,rfl,h.1,h.2⟩
 · exact h.elim
attribute [go_sem ↓] iD
theorem RC:Meets Tryz.prog 33 iD:=by
 refine aF Tryz.func33 aB8 1 (by rw [Tryz.ntmps33]; decide) (aA XM (aB _)) (fun xs H K h=>by obtain ⟨s,rfl,_⟩:=tU h; rfl) ?_
 intro xs H K h
 obtain ⟨s,rfl,rfl,hK1,hK2⟩:=tU h
 simp -dsimp only [go_sem,P0,Q5]
 refine ⟨fun h=>.done (hK2 (by simpa using h)),fun h=>?_⟩
 have hK:=hK1 (by simpa using h)
 exact .sel [0] (by simp) (by simp) rfl (.done hK)
def digs (n:Nat):List UInt8:=(if h:n < 10 then [] else digs (n / 10)) ++ [(48 + n % 10).toUInt8]
 termination_by n
 decreasing_by omega
theorem DA {n:Nat} (h:n < 10):digs n=[(48 + n).toUInt8]:=by
 rw [digs.eq_1,dif_pos h,Nat.mod_eq_of_lt h]; rfl
theorem N8 {n:Nat} (h:10<=n):digs n=digs (n / 10) ++ [(48 + n % 10).toUInt8]:=by
 rw [digs.eq_1,dif_neg (by omega)]
theorem CT:∀ (k n:Nat),n < 10 ^ (k + 1)->(digs n).length<=k + 1
 | 0,n,h=>by rw [DA (by omega)]; simp
 | k + 1,n,h=>by
  rcases cM n 10 with h1 | h1
  · rw [DA h1]; simp
  · rw [N8 h1,List.length_append]
    have:=CT k (n / 10) (by rw [Nat.pow_succ] at h; omega)
    simp; omega
def cD (n:Int):List UInt8:=bif decide (n < 0) then 45 :: digs n.natAbs else digs n.natAbs
def xF (c:UInt8):Bool:=decide (32<=c) && decide (c<=126)
def MW (k:Int) (x:List UInt8) (n:Int):Bool:=
 bif k == 1 then n == 0 && bX x else bif k == 2 then x == [] else bif k == 3 then n == 0 && (decide (x.length<=200) && x.all xF) else bif k == 4 then n == 0 && (match x with | [c]=>d3 c.toNat | _=>false) else false
structure Tx where
 k:Int
 x:List UInt8
 n:Int
 a:Int
structure TkFit (t:Tx):Prop where
 lo:-9223372036854775808<=t.n
 hi:t.n<=9223372036854775807
 len:t.x.length<=100000
theorem gM {n:Int} (h1:-9223372036854775808<=n) (h2:n<=9223372036854775807):(cD n).length<=21:=by
 have:=CT 19 n.natAbs (by omega)
 unfold cD
 cases decide (n < 0)<;>simp<;>omega
abbrev tri (t:Tx):Int × List UInt8 × Int:=(t.k,t.x,t.n)
def P4:PC:=.seq (.reg [.e 1 (.bx 25 (.t 0)),.q 2 (.mv (.k (.string (mk []))))]) (.seq (.seq (.reg [.l 12 (.ldn 3 (.t 1)),.a 13 (.cq 31 [(.t 12)]),.q 14 (.bin .neq true (.t 13) (.i 0))]) (.cond (.t 14) (.seq (.reg [.q 2 (.mv (.k (.string (mk []))))]) .ret) .skip)) (.seq (.reg [.q 15 (.fa 0 (.t 1)),.l 16 (.ld1 (.t 15)),.a 17 (.cq 32 [(.t 16)]),.q 18 (.bin .add true (.k (.string (mk [118,101,114,115,105,111,110,32]))) (.t 17)),.q 19 (.bin .add true (.t 18) (.k (.string (mk [59,10])))),.v 3 19]) (.seq (.seq (.reg [.q 20 (.fa 1 (.t 1)),.l 21 (.ld1 (.t 20)),.q 22 (.lnL (.t 21)),.q 23 (.mv (.i 0))]) (.block 0 (.loop (.seq (.reg [.q 24 (.bin .lss true (.t 23) (.t 22))]) (.seq (.cond (.t 24) .skip (.exit 0)) (.seq (.block 1 (.seq (.reg [.l 25 (.ia 3 (.t 21) (.t 23)),.l 26 (.ldn 3 (.t 25)),.e 5 (.al (.agg #[(.string (mk [])),(.slice none 0 0),(.slice none 0 0)]) 62),.s (.st 3 (.t 5) (.t 26))]) (.seq (.reg [.v 27 3,.q 28 (.fa 0 (.t 5)),.l 29 (.ld1 (.t 28)),.q 30 (.bin .add true (.k (.string (mk [101,110,117,109,32]))) (.t 29)),.q 31 (.bin .add true (.t 30) (.k (.string (mk [32,123,32])))),.q 32 (.bin .add true (.t 27) (.t 31)),.v 3 32]) (.seq (.seq (.reg [.q 33 (.fa 1 (.t 5)),.l 34 (.ld1 (.t 33)),.q 35 (.lnL (.t 34)),.q 36 (.mv (.i 0))]) (.block 2 (.loop (.seq (.reg [.q 37 (.bin .lss true (.t 36) (.t 35))]) (.seq (.cond (.t 37) .skip (.exit 2)) (.seq (.block 3 (.seq (.reg [.v 38 36,.l 39 (.ia 1 (.t 34) (.t 36)),.l 40 (.ld1 (.t 39)),.v 6 38,.v 7 40]) (.seq (.seq (.reg [.v 41 6,.q 42 (.bin .gtr true (.t 41) (.i 0))]) (.cond (.t 42) (.reg [.v 43 3,.q 44 (.bin .add true (.t 43) (.k (.string (mk [44,32])))),.v 3 44]) .skip)) (.reg [.v 45 3,.v 46 7,.q 47 (.bin .add true (.t 46) (.k (.string (mk [32,61,32])))),.q 48 (.fa 2 (.t 5)),.l 49 (.ld1 (.t 48)),.v 50 6,.l 51 (.ia 1 (.t 49) (.t 50)),.l 52 (.ld1 (.t 51)),.a 53 (.cq 32 [(.t 52)]),.q 54 (.bin .add true (.t 47) (.t 53)),.q 55 (.bin .add true (.t 45) (.t 54)),.v 3 55])))) (.reg [.q 56 (.bin .add true (.t 36) (.i 1)),.v 36 56]))))))) (.reg [.v 57 3,.q 58 (.bin .add true (.t 57) (.k (.string (mk [32,125,10])))),.v 3 58]))))) (.reg [.q 59 (.bin .add true (.t 23) (.i 1)),.v 23 59]))))))) (.seq (.seq (.reg [.q 60 (.fa 2 (.t 1)),.l 61 (.ld1 (.t 60)),.q 62 (.lnL (.t 61)),.q 63 (.mv (.i 0))]) (.block 4 (.loop (.seq (.reg [.q 64 (.bin .lss true (.t 63) (.t 62))]) (.seq (.cond (.t 64) .skip (.exit 4)) (.seq (.block 5 (.seq (.reg [.l 65 (.ia 2 (.t 61) (.t 63)),.l 66 (.ldn 2 (.t 65)),.e 9 (.al (.agg #[(.string (mk [])),(.slice none 0 0)]) 56),.s (.st 2 (.t 9) (.t 66))]) (.seq (.reg [.v 67 3,.q 68 (.fa 0 (.t 9)),.l 69 (.ld1 (.t 68)),.q 70 (.bin .add true (.k (.string (mk [115,116,114,117,99,116,32]))) (.t 69)),.q 71 (.bin .add true (.t 70) (.k (.string (mk [32,123,10])))),.q 72 (.bin .add true (.t 67) (.t 71)),.v 3 72]) (.seq (.seq (.reg [.q 73 (.fa 1 (.t 9)),.l 74 (.ld1 (.t 73)),.q 75 (.lnL (.t 74)),.q 76 (.mv (.i 0))]) (.block 6 (.loop (.seq (.reg [.q 77 (.bin .lss true (.t 76) (.t 75))]) (.seq (.cond (.t 77) .skip (.exit 6)) (.seq (.block 7 (.seq (.reg [.l 78 (.ia 7 (.t 74) (.t 76)),.l 79 (.ldn 7 (.t 78)),.e 11 (.al (.agg #[(.int .i64 0),(.string (mk [])),(.int .i64 0),(.int .i64 0),(.string (mk [])),(.slice none 0 0),(.bool false)]) 64),.s (.st 7 (.t 11) (.t 79))]) (.seq (.reg [.v 80 3,.q 81 (.fa 0 (.t 11)),.l 82 (.ld1 (.t 81)),.a 83 (.cq 32 [(.t 82)]),.q 84 (.bin .add true (.k (.string (mk [32,32]))) (.t 83)),.q 85 (.bin .add true (.t 84) (.k (.string (mk [32])))),.q 86 (.fa 1 (.t 11)),.l 87 (.ld1 (.t 86)),.q 88 (.bin .add true (.t 85) (.t 87)),.q 89 (.bin .add true (.t 88) (.k (.string (mk [58,32])))),.q 90 (.fa 2 (.t 11)),.l 91 (.ldn 4 (.t 90)),.a 92 (.cq 16 [(.t 91)]),.q 93 (.bin .add true (.t 89) (.t 92)),.q 94 (.bin .add true (.t 80) (.t 93)),.v 3 94]) (.seq (.seq (.reg [.q 95 (.fa 6 (.t 11)),.l 96 (.ld1 (.t 95))]) (.cond (.t 96) (.reg [.v 97 3,.q 98 (.bin .add true (.t 97) (.k (.string (mk [63])))),.v 3 98]) .skip)) (.reg [.v 99 3,.q 100 (.bin .add true (.t 99) (.k (.string (mk [59,10])))),.v 3 100]))))) (.reg [.q 101 (.bin .add true (.t 76) (.i 1)),.v 76 101]))))))) (.reg [.v 102 3,.q 103 (.bin .add true (.t 102) (.k (.string (mk [125,10])))),.v 3 103]))))) (.reg [.q 104 (.bin .add true (.t 63) (.i 1)),.v 63 104]))))))) (.seq (.reg [.v 105 3,.v 2 105]) .ret)))))
def T8:List RV:=[.mv (.t 2)]
theorem ZM:aT Tryz.prog true ⟨fun r k=>if r=1/\k=1 then .q else if r=3/\k=2 then .q else if r=13/\k=8 then .q else if r=24/\k=3 then .q else if r=24/\k=12 then .q else .own [],fun _=>false⟩ Tryz.f10=some (P4,T8):=by kernel_rfl
def UI:PC:=.seq (.reg [.e 1 (.bx 37 (.t 0)),.q 2 (.mv (.k (.string (mk []))))]) (.seq (.reg [.q 3 (.mv (.k (.string (mk []))))]) (.seq (.seq (.reg [.q 4 (.mv (.i 0))]) (.block 0 (.loop (.seq (.seq (.reg [.q 6 (.fa 0 (.t 1)),.l 7 (.ld1 (.t 6)),.q 8 (.bin .eql true (.t 7) (.i 5))]) (.cond (.t 8) .skip (.exit 0))) (.seq (.block 1 (.seq (.seq (.reg [.q 11 (.fa 1 (.t 1)),.l 12 (.ld1 (.t 11)),.q 13 (.bin .lss true (.t 12) (.i 0)),.v 14 13,⟨some 15,(some (14,false)),.q (.fa 2 (.t 1))⟩,⟨some 16,(some (14,false)),.l (.ld1 (.t 15))⟩,⟨some 17,(some (14,false)),.q (.bin .neq true (.t 16) (.k (.string (mk []))))⟩,.a 18 (.pick (.t 14) (.k (.bool true)) (.t 17)),.v 19 18,⟨some 20,(some (19,false)),.q (.fa 3 (.t 1))⟩,⟨some 21,(some (19,false)),.l (.ld1 (.t 20))⟩,⟨some 22,(some (19,false)),.q (.lnL (.t 21))⟩,⟨some 23,(some (19,false)),.q (.bin .neq true (.t 22) (.i 1))⟩,.a 24 (.pick (.t 19) (.k (.bool true)) (.t 23)),.v 25 24,⟨some 26,(some (25,false)),.q (.mv (.t 4))⟩,⟨some 27,(some (25,false)),.q (.bin .eql true (.t 26) (.i 6))⟩,.a 28 (.pick (.t 25) (.k (.bool true)) (.t 27))]) (.cond (.t 28) (.seq (.reg [.q 2 (.mv (.k (.string (mk []))))]) .ret) .skip)) (.seq (.reg [.v 29 3,.q 30 (.fa 1 (.t 1)),.l 31 (.ld1 (.t 30)),.a 32 (.cq 32 [(.t 31)]),.q 33 (.bin .add true (.k (.string (mk [108,105,115,116,91]))) (.t 32)),.q 34 (.bin .add true (.t 33) (.k (.string (mk [93,32,111,102,32])))),.q 35 (.bin .add true (.t 29) (.t 34)),.v 3 35]) (.reg [.q 36 (.fa 3 (.t 1)),.l 37 (.ld1 (.t 36)),.l 38 (.ia 4 (.t 37) (.i 0)),.l 39 (.ldn 4 (.t 38)),.s (.st 4 (.t 1) (.t 39))])))) (.reg [.v 9 4,.q 10 (.bin .add true (.t 9) (.i 1)),.v 4 10])))))) (.seq (.reg [.l 40 (.ldn 4 (.t 1)),.a 41 (.cq 53 [(.t 40)]),.v 5 41]) (.seq (.seq (.reg [.v 42 5,.q 43 (.bin .eql true (.t 42) (.k (.string (mk []))))]) (.cond (.t 43) (.seq (.reg [.q 2 (.mv (.k (.string (mk []))))]) .ret) .skip)) (.seq (.reg [.v 44 3,.v 45 5,.q 46 (.bin .add true (.t 44) (.t 45)),.v 2 46]) .ret)))))
def QF:List RV:=[.mv (.t 2)]
theorem aCF:aT Tryz.prog true ⟨fun r k=>if r=7/\k=3 then .q else if r=9/\k=1 then .q else .own [],fun _=>false⟩ Tryz.f16=some (UI,QF):=by kernel_rfl
def JQ:PC:=.seq (.reg [.q 4 (.mv (.k (.bool false)))]) (.seq (.reg [.v 5 0,.q 6 (.nc (.t 5)),.q 7 (.fa 1 (.t 6)),.l 8 (.ld1 (.t 7)),.q 9 (.not (.t 8)),.v 10 9,⟨some 11,(some (10,true)),.q (.mv (.t 0))⟩,⟨some 12,(some (10,true)),.q (.nc (.t 11))⟩,⟨some 13,(some (10,true)),.q (.fa 0 (.t 12))⟩,⟨some 14,(some (10,true)),.l (.ld1 (.t 13))⟩,⟨some 15,(some (10,true)),.q (.mv (.t 1))⟩,⟨some 16,(some (10,true)),.cl 80 [(.t 14),(.t 15)] [1]⟩,.a 17 (.pick (.t 10) (.t 16) (.k (.bool false))),.v 4 17]) .ret)
def JO:List RV:=[.mv (.t 4)]
theorem aAB:aT Tryz.prog true ⟨fun r k=>if r=1/\k=11 then .own [1] else .own [],fun _=>false⟩ Tryz.f34=some (JQ,JO):=by kernel_rfl
def KZ:PC:=.seq (.reg [.v 2 0,.q 3 (.nc (.t 2)),.q 4 (.fa 1 (.t 3)),.l 5 (.ld1 (.t 4)),.q 6 (.not (.t 5))]) (.cond (.t 6) (.reg [.v 7 0,.v 8 0,.v 9 0,.q 10 (.nc (.t 9)),.q 11 (.fa 0 (.t 10)),.l 12 (.ld1 (.t 11)),.a 13 (.cl 38 [(.t 12)] [1]),.q 14 (.fld1 3 (.t 13)),.q 15 (.nc (.t 7)),.q 16 (.fa 1 (.t 15)),.s (.st 1 (.t 16) (.k (.bool true))),.q 17 (.nc (.t 8)),.q 18 (.fa 2 (.t 17)),.s (.st 1 (.t 18) (.t 14))]) .skip)
def I3:List RV:=[]
theorem ZU:aT Tryz.prog true ⟨fun r k=>if r=1/\k=6 then .own [1] else .own [],fun _=>false⟩ Tryz.f35=some (KZ,I3):=by kernel_rfl
def CR:PC:=.seq (.gh (.reg [.v 30 0,.q 31 (.nc (.t 30)),.q 32 (.fa 0 (.t 31)),.l 33 (.ld1 (.t 32)),.a 34 (.cl 81 [(.t 33)] [1])])) (.seq (.reg [.q 35 (.fa 2 (.t 5)),.l 36 (.ld1 (.t 35)),.v 4 36]) .ret)
@[go_sem ↓] theorem aAU:bT CR:=bW _
def AY:PC:=.seq (.seq (.gh (.reg [.v 11 0,.q 12 (.nc (.t 11)),.q 13 (.fa 1 (.t 12)),.l 14 (.ld1 (.t 13)),.v 15 14,⟨some 16,(some (15,false)),.q (.fa 0 (.t 5))⟩,⟨some 17,(some (15,false)),.l (.ld1 (.t 16))⟩,⟨some 18,(some (15,false)),.q (.bin .neq true (.t 17) (.i 2))⟩,.a 19 (.pick (.t 15) (.k (.bool true)) (.t 18)),.v 20 19,⟨some 21,(some (20,false)),.q (.mv (.t 1))⟩,⟨some 22,(some (20,false)),.q (.mv (.t 21))⟩,⟨some 23,(some (22,true)),.q (.fa 2 (.t 5))⟩,⟨some 24,(some (22,true)),.l (.ld1 (.t 23))⟩,⟨some 25,(some (22,true)),.q (.bin .lss true (.t 24) (.i 0))⟩,⟨some 26,(some (20,false)),.pick (.t 22) (.t 25) (.k (.bool false))⟩,.a 27 (.pick (.t 20) (.k (.bool true)) (.t 26))])) (.cond (.t 27) (.seq (.reg [.v 28 0,.a 29 (.cl 35 [(.t 28)] [0,1,2,3])]) (.seq (.reg [.q 4 (.mv (.i 0))]) .ret)) .skip)) (CR)
@[go_sem ↓] theorem Y9:bT AY:=bW _
def TE:PC:=.seq (.reg [.q 4 (.mv (.i 0))]) (.seq (.reg [.v 6 0,.q 7 (.nc (.t 6)),.q 8 (.fa 0 (.t 7)),.l 9 (.ld1 (.t 8)),.a 10 (.cl 38 [(.t 9)] [1]),.e 5 (.al (.agg #[(.int .i64 0),(.string (mk [])),(.int .i64 0),(.int .i64 0)]) 74),.s (.st 4 (.t 5) (.t 10))]) (AY))
def U6:List RV:=[.mv (.t 4)]
theorem Z2:aT Tryz.prog true ⟨fun r k=>if r=1/\k=4 then .own [1] else if r=3/\k=1 then .own [0,1,2,3] else if r=5/\k=4 then .own [1] else .own [],fun r=>[2,5].contains r⟩ Tryz.f36=some (TE,U6):=by kernel_rfl
def I0:PC:=.seq (.reg [.v 4 0,.q 5 (.nc (.t 4)),.q 6 (.fa 1 (.t 5)),.l 7 (.ld1 (.t 6)),.q 8 (.not (.t 7)),.v 9 8,⟨some 10,(some (9,true)),.q (.mv (.t 0))⟩,⟨some 11,(some (9,true)),.q (.nc (.t 10))⟩,⟨some 12,(some (9,true)),.q (.fa 0 (.t 11))⟩,⟨some 13,(some (9,true)),.l (.ld1 (.t 12))⟩,⟨some 14,(some (9,true)),.q (.mv (.t 1))⟩,⟨some 15,(some (9,true)),.cl 82 [(.t 13),(.t 14)] [1]⟩,⟨some 16,(some (9,true)),.q (.not (.t 15))⟩,.a 17 (.pick (.t 9) (.t 16) (.k (.bool false)))]) (.cond (.t 17) (.reg [.v 18 0,.a 19 (.cl 35 [(.t 18)] [0,1,2,3])]) .skip)
def KV:List RV:=[]
theorem aA3:aT Tryz.prog true ⟨fun r k=>if r=0/\k=11 then .own [1] else if r=1/\k=1 then .own [0,1,2,3] else .own [],fun _=>false⟩ Tryz.f37=some (I0,KV):=by kernel_rfl
def zW:PC:=.seq (.gh (.reg [.v 27 0,.a 28 (.cl 37 [(.t 27),(.k (.string (mk [61])))] [0,1,2,3])])) (.gh (.ord  [.q (.q 29 (.fa 2 (.t 3))),.q (.l 30 (.ld1 (.t 29))),.q (.v 31 0),.m (.a 32 (.cl 36 [(.t 31),(.k (.bool false))] [0,1,2,3])),.rc (.q 29 (.fa 2 (.t 3))),.rc (.l 30 (.ld1 (.t 29))),.m (.e 33 (.bsl 3 1 [(.t 32)])),.rc (.q 29 (.fa 2 (.t 3))),.rc (.l 30 (.ld1 (.t 29))),.m (.e 34 (.ap 3 1 8 (.t 30) (.t 33))),.q (.q 35 (.fa 2 (.t 3))),.m (.s (.st 1 (.t 35) (.t 34)))]))
@[go_sem ↓] theorem aAC:bT zW:=bW _
def BB:PC:=.gh (.reg [.v 18 0,.a 19 (.cl 84 [(.t 18),(.k (.string (mk [44])))] [0,1,2,3]),.v 4 19])
@[go_sem ↓] theorem Z5:bT BB:=bW _
def pc39_9:PC:=.seq (.gh (.reg [.v 36 0,.a 37 (.cl 37 [(.t 36),(.k (.string (mk [125])))] [0,1,2,3])])) (.seq (.reg [.l 38 (.ldn 3 (.t 3)),.s (.st 3 (.t 2) (.t 38))]) .ret)
@[go_sem ↓] theorem ZG:bT pc39_9:=bW _
def UG:PC:=.seq (.reg [.e 2 (.al (.agg #[(.string (mk [])),(.slice none 0 0),(.slice none 0 0)]) 62)]) (.seq (.reg [.v 5 0,.a 6 (.cl 83 [(.t 5),(.k (.bool true))] [0,1,2,3]),.q 7 (.bd [(.string (mk [])),(.slice none 0 0),(.slice none 0 0)] [(0,1,(.t 6))]),.e 3 (.al (.agg #[(.string (mk [])),(.slice none 0 0),(.slice none 0 0)]) 62),.s (.st 3 (.t 3) (.t 7))]) (.seq (.reg [.v 8 0,.a 9 (.cl 37 [(.t 8),(.k (.string (mk [123])))] [0,1,2,3])]) (.seq (.seq (.reg [.q 4 (.mv (.k (.bool true)))]) (.block 0 (.loop (.seq (.seq (.reg [.v 10 4,.v 11 10,⟨some 12,(some (11,true)),.q (.mv (.t 0))⟩,⟨some 13,(some (11,true)),.q (.nc (.t 12))⟩,⟨some 14,(some (11,true)),.q (.fa 1 (.t 13))⟩,⟨some 15,(some (11,true)),.l (.ld1 (.t 14))⟩,⟨some 16,(some (11,true)),.q (.not (.t 15))⟩,.a 17 (.pick (.t 11) (.t 16) (.k (.bool false)))]) (.cond (.t 17) .skip (.exit 0))) (.seq (.block 1 (.seq (.ord  [.q (.q 20 (.fa 1 (.t 3))),.q (.l 21 (.ld1 (.t 20))),.q (.v 22 0),.m (.a 23 (.cl 83 [(.t 22),(.k (.bool false))] [0,1,2,3])),.rc (.q 20 (.fa 1 (.t 3))),.rc (.l 21 (.ld1 (.t 20))),.m (.e 24 (.bsl 9 1 [(.t 23)])),.rc (.q 20 (.fa 1 (.t 3))),.rc (.l 21 (.ld1 (.t 20))),.m (.e 25 (.ap 9 1 16 (.t 21) (.t 24))),.q (.q 26 (.fa 1 (.t 3))),.m (.s (.st 1 (.t 26) (.t 25)))]) (zW))) (BB)))))) (pc39_9))))
def GE:List RV:=[.ld (.ldn 3 (.t 2))]
theorem aBH:aT Tryz.prog true ⟨fun r k=>if r=1/\k=1 then .own [0,1,2,3] else if r=2/\k=1 then .own [0,1,2,3] else if r=6/\k=3 then .own [0,1,2,3] else if r=7/\k=1 then .own [0,1,2,3] else if r=8/\k=3 then .own [0,1,2,3] else if r=5/\k=1 then .own [0,1,2,3] else if r=9/\k=1 then .own [0,1,2,3] else .own [],fun r=>[7,8,9,5].contains r⟩ Tryz.f39=some (UG,GE):=by kernel_rfl
def wL:PC:=.gh (.reg [.q 44 (.fa 1 (.t 3)),.l 45 (.ld1 (.t 44)),.l 46 (.ldn 7 (.t 4)),.e 47 (.bsl 64 7 [(.t 46)]),.e 48 (.ap 64 7 88 (.t 45) (.t 47)),.q 49 (.fa 1 (.t 3)),.s (.st 1 (.t 49) (.t 48))])
@[go_sem ↓] theorem YK:bT wL:=bW _
def wZ:PC:=.seq (.gh (.reg [.v 42 0,.a 43 (.cl 37 [(.t 42),(.k (.string (mk [59])))] [0,1,2,3])])) (wL)
@[go_sem ↓] theorem YF:bT wZ:=bW _
def AC:PC:=.seq (.gh (.reg [.v 39 0,.a 40 (.cl 84 [(.t 39),(.k (.string (mk [63])))] [0,1,2,3]),.q 41 (.fa 6 (.t 4)),.s (.st 1 (.t 41) (.t 40))])) (wZ)
@[go_sem ↓] theorem aAL:bT AC:=bW _
def BM:PC:=.seq (.gh (.reg [.v 36 0,.a 37 (.cl 55 [(.t 36)] [0,1,2,3]),.q 38 (.fa 2 (.t 4)),.s (.st 4 (.t 38) (.t 37))])) (AC)
@[go_sem ↓] theorem aBP:bT BM:=bW _
def B6:PC:=.seq (.gh (.reg [.v 34 0,.a 35 (.cl 37 [(.t 34),(.k (.string (mk [58])))] [0,1,2,3])])) (BM)
@[go_sem ↓] theorem aCA:bT B6:=bW _
def CG:PC:=.seq (.gh (.reg [.v 29 0,.a 30 (.cl 36 [(.t 29),(.k (.bool false))] [0,1,2,3]),.v 31 0,.a 32 (.cl 83 [(.t 31),(.k (.bool false))] [0,1,2,3]),.q 33 (.bd [(.int .i64 0),(.string (mk [])),(.int .i64 0),(.int .i64 0),(.string (mk [])),(.slice none 0 0),(.bool false)] [(0,1,(.t 30)),(1,1,(.t 32))]),.e 4 (.al (.agg #[(.int .i64 0),(.string (mk [])),(.int .i64 0),(.int .i64 0),(.string (mk [])),(.slice none 0 0),(.bool false)]) 64),.s (.st 7 (.t 4) (.t 33))])) (B6)
@[go_sem ↓] theorem aB9:bT CG:=bW _
def A7:PC:=.seq (.seq (.gh (.reg [.v 20 0,.q 21 (.nc (.t 20)),.q 22 (.fa 0 (.t 21)),.l 23 (.ld1 (.t 22)),.a 24 (.cl 38 [(.t 23)] [1]),.q 25 (.fld1 0 (.t 24)),.q 26 (.bin .neq true (.t 25) (.i 2))])) (.cond (.t 26) (.seq (.reg [.v 27 0,.a 28 (.cl 35 [(.t 27)] [0,1,2,3])]) (.exit 0)) .skip)) (CG)
@[go_sem ↓] theorem aBZ:bT A7:=bW _
def pc40_12:PC:=.seq (.gh (.reg [.l 50 (.ldn 2 (.t 3)),.s (.st 2 (.t 2) (.t 50))])) .ret
@[go_sem ↓] theorem YP:bT pc40_12:=bW _
def UD:PC:=.seq (.reg [.e 2 (.al (.agg #[(.string (mk [])),(.slice none 0 0)]) 56)]) (.seq (.reg [.v 5 0,.a 6 (.cl 83 [(.t 5),(.k (.bool true))] [0,1,2,3]),.q 7 (.bd [(.string (mk [])),(.slice none 0 0)] [(0,1,(.t 6))]),.e 3 (.al (.agg #[(.string (mk [])),(.slice none 0 0)]) 56),.s (.st 2 (.t 3) (.t 7))]) (.seq (.reg [.v 8 0,.a 9 (.cl 37 [(.t 8),(.k (.string (mk [123])))] [0,1,2,3])]) (.seq (.block 0 (.loop (.seq (.seq (.reg [.v 10 0,.q 11 (.nc (.t 10)),.q 12 (.fa 1 (.t 11)),.l 13 (.ld1 (.t 12)),.q 14 (.not (.t 13)),.v 15 14,⟨some 16,(some (15,true)),.q (.mv (.t 0))⟩,⟨some 17,(some (15,true)),.cl 84 [(.t 16),(.k (.string (mk [125])))] [0,1,2,3]⟩,⟨some 18,(some (15,true)),.q (.not (.t 17))⟩,.a 19 (.pick (.t 15) (.t 18) (.k (.bool false)))]) (.cond (.t 19) .skip (.exit 0))) (.block 1 (A7))))) (pc40_12))))
def GM:List RV:=[.ld (.ldn 2 (.t 2))]
theorem Y7:aT Tryz.prog true ⟨fun r k=>if r=1/\k=1 then .own [0,1,2,3] else if r=2/\k=1 then .own [0,1,2,3] else if r=3/\k=7 then .own [0,1,2,3] else if r=4/\k=4 then .own [1] else if r=5/\k=1 then .own [0,1,2,3] else if r=6/\k=1 then .own [0,1,2,3] else if r=6/\k=3 then .own [0,1,2,3] else if r=7/\k=1 then .own [0,1,2,3] else if r=8/\k=1 then .own [0,1,2,3] else if r=9/\k=1 then .own [0,1,2,3] else if r=10/\k=1 then .own [0,1,2,3] else .own [],fun r=>[4,6,7,8,9,10,12,11].contains r⟩ Tryz.f40=some (UD,GM):=by kernel_rfl
def TN:PC:=.seq (.reg [.e 1 (.bx 37 (.t 0)),.q 2 (.mv (.k (.string (mk []))))]) (.seq (.seq (.reg [.q 5 (.fa 3 (.t 1)),.l 6 (.ld1 (.t 5)),.q 7 (.lnL (.t 6)),.q 8 (.bin .gtr true (.t 7) (.i 0))]) (.cond (.t 8) (.seq (.reg [.q 2 (.mv (.k (.string (mk []))))]) .ret) .skip)) (.seq (.reg [.q 3 (.mv (.k (.string (mk [105,110,116]))))]) (.seq (.seq (.reg [.q 9 (.fa 0 (.t 1)),.l 10 (.ld1 (.t 9))]) (.block 0 (.seq (.block 5 (.seq (.block 4 (.seq (.block 3 (.seq (.block 2 (.seq (.block 1 (.seq (.seq (.seq (.reg [.q 12 (.bin .eql true (.t 10) (.i 1)),.v 11 12]) (.cond (.t 11) (.exit 1) .skip)) (.seq (.seq (.reg [.q 14 (.bin .eql true (.t 10) (.i 3)),.v 13 14]) (.cond (.t 13) (.exit 2) .skip)) (.seq (.seq (.reg [.q 16 (.bin .eql true (.t 10) (.i 2)),.v 15 16]) (.cond (.t 15) (.exit 3) .skip)) (.seq (.seq (.reg [.q 18 (.bin .eql true (.t 10) (.i 4)),.v 17 18]) (.cond (.t 17) (.exit 4) .skip)) (.seq (.seq (.reg [.q 20 (.bin .eql true (.t 10) (.i 6)),.v 19 20]) (.cond (.t 19) .skip (.reg [.q 21 (.bin .eql true (.t 10) (.i 7)),.v 19 21]))) (.cond (.t 19) (.exit 5) .skip)))))) (.exit 0))) (.seq (.seq (.reg [.q 22 (.fa 1 (.t 1)),.l 23 (.ld1 (.t 22)),.q 24 (.bin .eql true (.t 23) (.i 0)),.v 25 24,⟨some 26,(some (25,true)),.q (.fa 2 (.t 1))⟩,⟨some 27,(some (25,true)),.l (.ld1 (.t 26))⟩,⟨some 28,(some (25,true)),.q (.bin .eql true (.t 27) (.k (.string (mk []))))⟩,.a 29 (.pick (.t 25) (.t 28) (.k (.bool false)))]) (.cond (.t 29) (.seq (.reg [.q 2 (.mv (.k (.string (mk [98,111,111,108]))))]) .ret) .skip)) (.exit 0)))) (.reg [.q 3 (.mv (.k (.string (mk [117,105,110,116]))))]))) (.seq (.seq (.reg [.q 30 (.fa 1 (.t 1)),.l 31 (.ld1 (.t 30)),.q 32 (.bin .eql true (.t 31) (.i 64)),.v 33 32,⟨some 34,(some (33,true)),.q (.fa 0 (.t 1))⟩,⟨some 35,(some (33,true)),.l (.ld1 (.t 34))⟩,⟨some 36,(some (33,true)),.q (.bin .eql true (.t 35) (.i 2))⟩,.a 37 (.pick (.t 33) (.t 36) (.k (.bool false))),.v 4 37]) (.seq (.reg [.q 38 (.fa 2 (.t 1)),.l 39 (.ld1 (.t 38)),.q 40 (.bin .eql true (.t 39) (.k (.string (mk [])))),.v 41 40,⟨some 42,(some (41,true)),.q (.fa 1 (.t 1))⟩,⟨some 43,(some (41,true)),.l (.ld1 (.t 42))⟩,⟨some 44,(some (41,true)),.q (.bin .eql true (.t 43) (.i 8))⟩,⟨some 45,(some (41,true)),.q (.mv (.t 44))⟩,⟨some 46,(some (45,false)),.q (.fa 1 (.t 1))⟩,⟨some 47,(some (45,false)),.l (.ld1 (.t 46))⟩,⟨some 48,(some (45,false)),.q (.bin .eql true (.t 47) (.i 16))⟩,⟨some 49,(some (41,true)),.pick (.t 45) (.k (.bool true)) (.t 48)⟩,⟨some 50,(some (41,true)),.q (.mv (.t 49))⟩,⟨some 51,(some (50,false)),.q (.fa 1 (.t 1))⟩,⟨some 52,(some (50,false)),.l (.ld1 (.t 51))⟩,⟨some 53,(some (50,false)),.q (.bin .eql true (.t 52) (.i 32))⟩,⟨some 54,(some (41,true)),.pick (.t 50) (.k (.bool true)) (.t 53)⟩,⟨some 55,(some (41,true)),.q (.mv (.t 54))⟩,⟨some 56,(some (55,false)),.q (.mv (.t 4))⟩,⟨some 57,(some (41,true)),.pick (.t 55) (.k (.bool true)) (.t 56)⟩,.a 58 (.pick (.t 41) (.t 57) (.k (.bool false)))]) (.cond (.t 58) (.seq (.reg [.v 59 3,.q 60 (.fa 1 (.t 1)),.l 61 (.ld1 (.t 60)),.a 62 (.cq 32 [(.t 61)]),.q 63 (.bin .add true (.t 59) (.t 62)),.v 2 63]) .ret) .skip))) (.exit 0)))) (.seq (.seq (.reg [.q 64 (.fa 1 (.t 1)),.l 65 (.ld1 (.t 64)),.q 66 (.bin .geq true (.t 65) (.i 0)),.v 67 66,⟨some 68,(some (67,true)),.q (.fa 2 (.t 1))⟩,⟨some 69,(some (67,true)),.l (.ld1 (.t 68))⟩,⟨some 70,(some (67,true)),.q (.bin .eql true (.t 69) (.k (.string (mk []))))⟩,.a 71 (.pick (.t 67) (.t 70) (.k (.bool false)))]) (.cond (.t 71) (.seq (.reg [.q 72 (.fa 1 (.t 1)),.l 73 (.ld1 (.t 72)),.a 74 (.cq 32 [(.t 73)]),.q 75 (.bin .add true (.k (.string (mk [116,101,120,116,91]))) (.t 74)),.q 76 (.bin .add true (.t 75) (.k (.string (mk [93])))),.v 2 76]) .ret) .skip)) (.exit 0)))) (.seq (.seq (.reg [.q 77 (.fa 1 (.t 1)),.l 78 (.ld1 (.t 77)),.q 79 (.bin .eql true (.t 78) (.i 0)),.v 80 79,⟨some 81,(some (80,true)),.q (.fa 2 (.t 1))⟩,⟨some 82,(some (80,true)),.l (.ld1 (.t 81))⟩,⟨some 83,(some (80,true)),.cq 95 [(.t 82)]⟩,.a 84 (.pick (.t 80) (.t 83) (.k (.bool false))),.v 85 84,⟨some 86,(some (85,true)),.q (.fa 2 (.t 1))⟩,⟨some 87,(some (85,true)),.l (.ld1 (.t 86))⟩,⟨some 88,(some (85,true)),.ix (.t 87) (.i 0)⟩,⟨some 89,(some (85,true)),.q (.bin .geq true (.t 88) (.k (.int .u8 65)))⟩,.a 90 (.pick (.t 85) (.t 89) (.k (.bool false))),.v 91 90,⟨some 92,(some (91,true)),.q (.fa 2 (.t 1))⟩,⟨some 93,(some (91,true)),.l (.ld1 (.t 92))⟩,⟨some 94,(some (91,true)),.ix (.t 93) (.i 0)⟩,⟨some 95,(some (91,true)),.q (.bin .leq true (.t 94) (.k (.int .u8 90)))⟩,.a 96 (.pick (.t 91) (.t 95) (.k (.bool false)))]) (.cond (.t 96) (.seq (.reg [.q 97 (.fa 2 (.t 1)),.l 98 (.ld1 (.t 97)),.v 2 98]) .ret) .skip)) (.exit 0))))) (.seq (.reg [.q 2 (.mv (.k (.string (mk []))))]) .ret))))
def TR:List RV:=[.mv (.t 2)]
theorem aAD:aT Tryz.prog true ⟨fun r k=>if r=16/\k=3 then .q else if r=18/\k=2 then .q else if r=19/\k=6 then .q else .own [],fun _=>false⟩ Tryz.f53=some (TN,TR):=by kernel_rfl
def vU:PC:=.seq (.gh (.reg [.v 13 0,.q 14 (.nc (.t 13)),.q 15 (.fa 1 (.t 14)),.l 16 (.ld1 (.t 15)),.q 17 (.not (.t 16)),.v 18 17,⟨some 19,(some (18,true)),.q (.mv (.t 0))⟩,⟨some 20,(some (18,true)),.cl 34 [(.t 19),(.k (.string (mk [111,102])))] [0,1,2,3]⟩,⟨some 21,(some (18,true)),.q (.not (.t 20))⟩,.a 22 (.pick (.t 18) (.t 21) (.k (.bool false)))])) (.cond (.t 22) (.reg [.v 23 0,.a 24 (.cl 35 [(.t 23)] [0,1,2,3])]) .skip)
@[go_sem ↓] theorem ZT:bT vU:=bW _
def v6:PC:=.gh (.reg [.v 32 5,.q 33 (.bin .sub true (.t 32) (.i 1)),.v 5 33])
@[go_sem ↓] theorem XZ:bT v6:=bW _
def xD:PC:=.seq (.gh (.reg [.l 41 (.ldn 4 (.t 3)),.s (.st 4 (.t 2) (.t 41))])) .ret
@[go_sem ↓] theorem YM:bT xD:=bW _
def A3:PC:=.seq (.seq (.gh (.reg [.v 27 4,.q 28 (.lnL (.t 27)),.q 29 (.bin .sub true (.t 28) (.i 1)),.v 5 29])) (.block 2 (.loop (.seq (.seq (.reg [.v 30 5,.q 31 (.bin .geq true (.t 30) (.i 0))]) (.cond (.t 31) .skip (.exit 2))) (.seq (.block 3 (.reg [.v 34 4,.v 35 5,.l 36 (.ia 1 (.t 34) (.t 35)),.l 37 (.ld1 (.t 36)),.l 38 (.ldn 4 (.t 3)),.e 39 (.bsl 37 4 [(.t 38)]),.q 40 (.bd [(.int .i64 0),(.int .i64 0),(.string (mk [])),(.slice none 0 0)] [(0,1,(.i 5)),(1,1,(.t 37)),(3,1,(.t 39))]),.s (.st 4 (.t 3) (.t 40))])) (v6)))))) (xD)
@[go_sem ↓] theorem aBK:bT A3:=bW _
def A8:PC:=.seq (.gh (.reg [.v 25 0,.a 26 (.cl 98 [(.t 25)] [0,1,2,3]),.s (.st 4 (.t 3) (.t 26))])) (A3)
@[go_sem ↓] theorem aAE:bT A8:=bW _
def T9:PC:=.seq (.reg [.e 2 (.al (.agg #[(.int .i64 0),(.int .i64 0),(.string (mk [])),(.slice none 0 0)]) 37)]) (.seq (.reg [.e 3 (.al (.agg #[(.int .i64 0),(.int .i64 0),(.string (mk [])),(.slice none 0 0)]) 37)]) (.seq (.reg [.q 4 (.mv (.k (.slice none 0 0)))]) (.seq (.block 0 (.loop (.seq (.seq (.reg [.v 6 0,.a 7 (.cl 34 [(.t 6),(.k (.string (mk [108,105,115,116])))] [0,1,2,3])]) (.cond (.t 7) .skip (.exit 0))) (.block 1 (.seq (.reg [.v 8 4,.v 9 0,.a 10 (.cl 97 [(.t 9)] [0,1,2,3]),.e 11 (.bsl 3 1 [(.t 10)]),.e 12 (.ap 3 1 8 (.t 8) (.t 11)),.v 4 12]) (vU)))))) (A8))))
def QT:List RV:=[.ld (.ldn 4 (.t 2))]
theorem aBW:aT Tryz.prog true ⟨fun r k=>if r=3/\k=1 then .own [0,1,2,3] else if r=4/\k=2 then .own [0,1,2,3] else if r=5/\k=7 then .own [0,1,2,3] else if r=6/\k=1 then .own [0,1,2,3] else if r=7/\k=1 then .own [0,1,2,3] else .own [],fun r=>[5,7,8,12,10].contains r⟩ Tryz.f55=some (T9,QT):=by kernel_rfl
def AF:PC:=.seq (.gh (.reg [.v 37 0,.q 38 (.nc (.t 37)),.q 39 (.fa 0 (.t 38)),.l 40 (.ld1 (.t 39)),.a 41 (.cl 81 [(.t 40)] [1])])) (.seq (.reg [.q 42 (.fa 1 (.t 5)),.l 43 (.ld1 (.t 42)),.v 4 43]) .ret)
@[go_sem ↓] theorem ZW:bT AF:=bW _
def BQ:PC:=.seq (.seq (.gh (.reg [.v 11 0,.q 12 (.nc (.t 11)),.q 13 (.fa 1 (.t 12)),.l 14 (.ld1 (.t 13)),.v 15 14,⟨some 16,(some (15,false)),.q (.fa 0 (.t 5))⟩,⟨some 17,(some (15,false)),.l (.ld1 (.t 16))⟩,⟨some 18,(some (15,false)),.q (.bin .neq true (.t 17) (.i 1))⟩,.a 19 (.pick (.t 15) (.k (.bool true)) (.t 18)),.v 20 19,⟨some 21,(some (20,false)),.q (.mv (.t 1))⟩,⟨some 22,(some (20,false)),.q (.mv (.t 21))⟩,⟨some 23,(some (22,true)),.q (.fa 1 (.t 5))⟩,⟨some 24,(some (22,true)),.l (.ld1 (.t 23))⟩,⟨some 25,(some (22,true)),.ix (.t 24) (.i 0)⟩,⟨some 26,(some (22,true)),.q (.bin .lss true (.t 25) (.k (.int .u8 65)))⟩,⟨some 27,(some (22,true)),.q (.mv (.t 26))⟩,⟨some 28,(some (27,false)),.q (.fa 1 (.t 5))⟩,⟨some 29,(some (27,false)),.l (.ld1 (.t 28))⟩,⟨some 30,(some (27,false)),.ix (.t 29) (.i 0)⟩,⟨some 31,(some (27,false)),.q (.bin .gtr true (.t 30) (.k (.int .u8 90)))⟩,⟨some 32,(some (22,true)),.pick (.t 27) (.k (.bool true)) (.t 31)⟩,⟨some 33,(some (20,false)),.pick (.t 22) (.t 32) (.k (.bool false))⟩,.a 34 (.pick (.t 20) (.k (.bool true)) (.t 33))])) (.cond (.t 34) (.seq (.reg [.v 35 0,.a 36 (.cl 35 [(.t 35)] [0,1,2,3])]) (.seq (.reg [.q 4 (.mv (.k (.string (mk []))))]) .ret)) .skip)) (AF)
@[go_sem ↓] theorem aAJ:bT BQ:=bW _
def Q2:PC:=.seq (.reg [.q 4 (.mv (.k (.string (mk []))))]) (.seq (.reg [.v 6 0,.q 7 (.nc (.t 6)),.q 8 (.fa 0 (.t 7)),.l 9 (.ld1 (.t 8)),.a 10 (.cl 38 [(.t 9)] [1]),.e 5 (.al (.agg #[(.int .i64 0),(.string (mk [])),(.int .i64 0),(.int .i64 0)]) 74),.s (.st 4 (.t 5) (.t 10))]) (BQ))
def UZ:List RV:=[.mv (.t 4)]
theorem aB0:aT Tryz.prog true ⟨fun r k=>if r=1/\k=4 then .own [1] else if r=3/\k=1 then .own [0,1,2,3] else if r=5/\k=4 then .own [1] else .own [],fun r=>[2,5].contains r⟩ Tryz.f83=some (Q2,UZ):=by kernel_rfl
def JB:PC:=.seq (.reg [.q 4 (.mv (.k (.bool false)))]) (.seq (.reg [.v 5 0,.q 6 (.nc (.t 5)),.q 7 (.fa 1 (.t 6)),.l 8 (.ld1 (.t 7)),.q 9 (.not (.t 8)),.v 10 9,⟨some 11,(some (10,true)),.q (.mv (.t 0))⟩,⟨some 12,(some (10,true)),.q (.nc (.t 11))⟩,⟨some 13,(some (10,true)),.q (.fa 0 (.t 12))⟩,⟨some 14,(some (10,true)),.l (.ld1 (.t 13))⟩,⟨some 15,(some (10,true)),.q (.mv (.t 1))⟩,⟨some 16,(some (10,true)),.cl 82 [(.t 14),(.t 15)] [1]⟩,.a 17 (.pick (.t 10) (.t 16) (.k (.bool false))),.v 4 17]) .ret)
def KQ:List RV:=[.mv (.t 4)]
theorem aA0:aT Tryz.prog true ⟨fun r k=>if r=1/\k=11 then .own [1] else .own [],fun _=>false⟩ Tryz.f84=some (JB,KQ):=by kernel_rfl
def TS:PC:=.seq (.reg [.q 2 (.mv (.i 0))]) (.seq (.reg [.v 4 0,.a 5 (.cl 37 [(.t 4),(.k (.string (mk [91])))] [0,1,2,3])]) (.seq (.reg [.v 6 0,.a 7 (.cl 36 [(.t 6),(.k (.bool true))] [0,1,2,3]),.v 3 7]) (.seq (.reg [.v 8 0,.a 9 (.cl 37 [(.t 8),(.k (.string (mk [93])))] [0,1,2,3])]) (.seq (.reg [.v 10 3,.v 2 10]) .ret))))
def RK:List RV:=[.mv (.t 2)]
theorem aBE:aT Tryz.prog true ⟨fun r k=>if r=1/\k=1 then .own [0,1,2,3] else if r=2/\k=1 then .own [0,1,2,3] else if r=3/\k=1 then .own [0,1,2,3] else .own [],fun _=>false⟩ Tryz.f97=some (TS,RK):=by kernel_rfl
def qJ:PC:=.gh (.reg [.v 28 4,.q 29 (.bin .lss true (.t 28) (.i 64)),.v 30 29,⟨some 31,(some (30,true)),.q (.mv (.t 0))⟩,⟨some 32,(some (30,true)),.q (.mv (.t 4))⟩,⟨some 33,(some (30,true)),.cq 32 [(.t 32)]⟩,⟨some 34,(some (30,true)),.q (.bin .add true (.k (.string (mk [117,105,110,116]))) (.t 33))⟩,⟨some 35,(some (30,true)),.cl 34 [(.t 31),(.t 34)] [0,1,2,3]⟩,.a 36 (.pick (.t 30) (.t 35) (.k (.bool false)))])
@[go_sem ↓] theorem YT:bT qJ:=bW _
def wY:PC:=.seq (.gh (.reg [.v 40 0,.a 41 (.cl 83 [(.t 40),(.k (.bool true))] [0,1,2,3]),.q 42 (.bd [(.int .i64 0),(.int .i64 0),(.string (mk [])),(.slice none 0 0)] [(0,1,(.i 6)),(2,1,(.t 41))]),.s (.st 4 (.t 2) (.t 42))])) .ret
@[go_sem ↓] theorem X3:bT wY:=bW _
def BL:PC:=.seq (.seq (.gh (.reg [.e 15 (.bsl 3 1 [(.i 8),(.i 16),(.i 32),(.i 64)]),.q 16 (.lnL (.t 15)),.q 17 (.mv (.i 0))])) (.block 1 (.loop (.seq (.reg [.q 18 (.bin .lss true (.t 17) (.t 16))]) (.seq (.cond (.t 18) .skip (.exit 1)) (.seq (.block 2 (.seq (.reg [.l 19 (.ia 1 (.t 15) (.t 17)),.l 20 (.ld1 (.t 19)),.v 4 20]) (.seq (.seq (.reg [.v 21 0,.v 22 4,.a 23 (.cq 32 [(.t 22)]),.q 24 (.bin .add true (.k (.string (mk [105,110,116]))) (.t 23)),.a 25 (.cl 34 [(.t 21),(.t 24)] [0,1,2,3])]) (.cond (.t 25) (.seq (.reg [.v 26 4,.q 27 (.bd [(.int .i64 0),(.int .i64 0),(.string (mk [])),(.slice none 0 0)] [(0,1,(.i 2)),(1,1,(.t 26))]),.s (.st 4 (.t 2) (.t 27))]) .ret) .skip)) (.seq (qJ) (.cond (.t 36) (.seq (.reg [.v 37 4,.q 38 (.bd [(.int .i64 0),(.int .i64 0),(.string (mk [])),(.slice none 0 0)] [(0,1,(.i 3)),(1,1,(.t 37))]),.s (.st 4 (.t 2) (.t 38))]) .ret) .skip))))) (.reg [.q 39 (.bin .add true (.t 17) (.i 1)),.v 17 39]))))))) (wY)
@[go_sem ↓] theorem aBN:bT BL:=bW _
def R8:PC:=.seq (.reg [.e 2 (.al (.agg #[(.int .i64 0),(.int .i64 0),(.string (mk [])),(.slice none 0 0)]) 37)]) (.seq (.block 0 (.seq (.reg [.v 6 0,.a 7 (.cl 34 [(.t 6),(.k (.string (mk [98,111,111,108])))] [0,1,2,3]),.v 5 7]) (.cond (.t 5) (.seq (.reg [.q 8 (.bd [(.int .i64 0),(.int .i64 0),(.string (mk [])),(.slice none 0 0)] [(0,1,(.i 1))]),.s (.st 4 (.t 2) (.t 8))]) .ret) (.seq (.reg [.v 10 0,.a 11 (.cl 34 [(.t 10),(.k (.string (mk [116,101,120,116])))] [0,1,2,3]),.v 9 11]) (.cond (.t 9) (.seq (.reg [.v 12 0,.a 13 (.cl 97 [(.t 12)] [0,1,2,3]),.q 14 (.bd [(.int .i64 0),(.int .i64 0),(.string (mk [])),(.slice none 0 0)] [(0,1,(.i 4)),(1,1,(.t 13))]),.s (.st 4 (.t 2) (.t 14))]) .ret) .skip))))) (BL))
def SM:List RV:=[.ld (.ldn 4 (.t 2))]
theorem aBQ:aT Tryz.prog true ⟨fun r k=>if r=1/\k=1 then .own [0,1,2,3] else if r=3/\k=1 then .own [0,1,2,3] else if r=4/\k=1 then .own [0,1,2,3] else if r=8/\k=2 then .q else if r=8/\k=4 then .own [0,1,2,3] else if r=10/\k=5 then .q else if r=10/\k=7 then .own [0,1,2,3] else if r=13/\k=1 then .own [0,1,2,3] else .own [],fun r=>[5,13,10].contains r⟩ Tryz.f98=some (R8,SM):=by kernel_rfl
end Go.Proofs.YtgogpogophflhaaGreatDoor
namespace Go.Proofs
open Go.Shelf
def Tryz.laysM171_ren:Go.Shelf.Ren:=⟨fun | 171=>32 | 243=>79 | 246=>115 | 283=>127 | 284=>128 | 285=>129 | 286=>130 | 129=>135 | 317=>134 | 318=>136 | 319=>137 | 320=>138 | 337=>150 | 338=>151 | n=>n,fun | 3=>3 | 9=>9 | 2=>2 | 4=>4 | 171=>161 | 0=>0 | 53=>127 | 37=>44 | 5=>5 | 173=>164 | 212=>170 | 51=>171 | 20=>20 | 213=>172 | 46=>168 | 232=>189 | 233=>190 | n=>n,fun | 17=>0 | 18=>2 | 19=>3 | n=>n⟩
theorem Tryz.lays171:Go.Proofs.Lays.n171 Tryz.prog Tryz.laysM171_ren:={
 mixed:=by kernel_rfl
 f129:=Tryz.func135.trans (congrArg some (by kernel_rfl))
 f171:=Tryz.func32.trans (congrArg some (by kernel_rfl))
 f243:=Tryz.func79.trans (congrArg some (by kernel_rfl))
 f246:=Tryz.func115.trans (congrArg some (by kernel_rfl))
 f283:=Tryz.func127.trans (congrArg some (by kernel_rfl))
 f284:=Tryz.func128.trans (congrArg some (by kernel_rfl))
 f285:=Tryz.func129.trans (congrArg some (by kernel_rfl))
 f286:=Tryz.func130.trans (congrArg some (by kernel_rfl))
 f317:=Tryz.func134.trans (congrArg some (by kernel_rfl))
 f318:=Tryz.func136.trans (congrArg some (by kernel_rfl))
 f319:=Tryz.func137.trans (congrArg some (by kernel_rfl))
 f320:=Tryz.func138.trans (congrArg some (by kernel_rfl))
 f337:=Tryz.func150.trans (congrArg some (by kernel_rfl))
 f338:=Tryz.func151.trans (congrArg some (by kernel_rfl))
 t0:=Tryz.underlying0
 a0:=Tryz.isAgg0
 z0:=Tryz.sizeOf0
 v0:=Tryz.zeroValue0
 t2:=Tryz.underlying2
 a2:=Tryz.isAgg2
 z2:=Tryz.sizeOf2
 v2:=Tryz.zeroValue2
 t3:=Tryz.underlying3
 a3:=Tryz.isAgg3
 z3:=Tryz.sizeOf3
 v3:=Tryz.zeroValue3
 t4:=Tryz.underlying4
 a4:=Tryz.isAgg4
 z4:=Tryz.sizeOf4
 v4:=Tryz.zeroValue4
 t5:=Tryz.underlying5
 a5:=Tryz.isAgg5
 z5:=Tryz.sizeOf5
 v5:=Tryz.zeroValue5
 t9:=Tryz.underlying9
 a9:=Tryz.isAgg9
 z9:=Tryz.sizeOf9
 v9:=Tryz.zeroValue9
 t20:=Tryz.underlying20
 a20:=Tryz.isAgg20
 z20:=Tryz.sizeOf20
 v20:=Tryz.zeroValue20
 t37:=Tryz.underlying44
 a37:=Tryz.isAgg44
 z37:=Tryz.sizeOf44
 v37:=Tryz.zeroValue44
 t46:=Tryz.underlying168
 a46:=Tryz.isAgg168
 z46:=Tryz.sizeOf168
 v46:=Tryz.zeroValue168
 t51:=Tryz.underlying171
 a51:=Tryz.isAgg171
 z51:=Tryz.sizeOf171
 v51:=Tryz.zeroValue171
 t53:=Tryz.underlying127
 a53:=Tryz.isAgg127
 z53:=Tryz.sizeOf127
 v53:=Tryz.zeroValue127
 t171:=Tryz.underlying161
 a171:=Tryz.isAgg161
 z171:=Tryz.sizeOf161
 v171:=Tryz.zeroValue161
 t173:=Tryz.underlying164
 a173:=Tryz.isAgg164
 z173:=Tryz.sizeOf164
 v173:=Tryz.zeroValue164
 t212:=Tryz.underlying170
 a212:=Tryz.isAgg170
 z212:=Tryz.sizeOf170
 v212:=Tryz.zeroValue170
 t213:=Tryz.underlying172
 a213:=Tryz.isAgg172
 z213:=Tryz.sizeOf172
 t232:=Tryz.underlying189
 a232:=Tryz.isAgg189
 z232:=Tryz.sizeOf189
 v232:=Tryz.zeroValue189
 t233:=Tryz.underlying190
 a233:=Tryz.isAgg190
 z233:=Tryz.sizeOf190
 v233:=Tryz.zeroValue190
 g17:=by kernel_rfl
 g18:=by kernel_rfl
 g19:=by kernel_rfl }
theorem Tryz.laysM171:Go.Proofs.LaysM.n171 Tryz.prog Tryz.laysM171_ren:={ Tryz.lays171 with
 i0:=by kernel_rfl
 i2:=by kernel_rfl
 i3:=by kernel_rfl
 i4:=by kernel_rfl
 i5:=by kernel_rfl
 i9:=by kernel_rfl
 i20:=by kernel_rfl
 i37:=by kernel_rfl
 i46:=by kernel_rfl
 i51:=by kernel_rfl
 i53:=by kernel_rfl
 i171:=by kernel_rfl
 i173:=by kernel_rfl
 i212:=by kernel_rfl
 i232:=by kernel_rfl
 i233:=by kernel_rfl
 m17:=by kernel_rfl
 m18:=by kernel_rfl
 m19:=by kernel_rfl }
open Go.RowKit Go.Sort Go.Lib in
theorem Tryz.strconv_Itoa (n:Int) (h0:-9223372036854775808<=n) (h1:n<=9223372036854775807) (w:World) (htab:Lib.TabIs Tryz.prog w "internal/strconv.uint64pow10" .u64 Lib.pow10Tab) :
 Calls Tryz.prog 32 #[.int .i64 n] w fun e w'=>e=.returned (.string ⟨(Lib.itoa n).toArray⟩)/\∃ k os,w'=grow (w.drewN k) os:=Any.strconv_Itoa Tryz.laysM171 n h0 h1 w htab
end Go.Proofs
namespace Go.Proofs.YtgogpogophflhaaGreatDoor
open Go.W
theorem jG {x:List UInt8} (h:bX x=true):x.length<=16:=by
 rcases cM 16 x.length with h1 | h1
 · rw [pP h1] at h; cases h
 · exact h1
theorem pQ:∀ (m:Nat) (r:List UInt8) (i:Nat) (out:List UInt8) (z:Nat) (o:List UInt8),r.length<=m->out.all xF=true->quoL i r out=(z,some o)->o.all xF=true
 | _,[],i,out,z,o,_,_,h=>by rw [lT] at h; cases h
 | 0,c :: r,i,out,z,o,hm,_,_=>by simp at hm
 | m + 1,c :: r,i,out,z,o,hm,ho,h=>by
  rw [gL] at h
  have app:∀ d:UInt8,xF d=true->(out ++ [d]).all xF=true:=fun d hd=>by rw [List.all_append,ho]; simp [hd]
  cases c1:decide (c < 32) || decide (126 < c) with
  | true=>rw [c1] at h; cases h
  | false=>
  rw [c1,aH] at h
  have hp:xF c=true:=by
   unfold xF
   simp only [Bool.or_eq_false_iff,decide_eq_false_iff_not,UInt8.not_lt] at c1
   simp [c1.1,c1.2]
  cases c2:c == 34 with
  | true=>
   rw [c2] at h
   simp only [aO,Prod.mk.injEq,aC] at h
   rw [<-h.2]; exact ho
  | false=>
  rw [c2,aH] at h
  cases c3:c == 92 with
  | false=>
   rw [c3,aH] at h
   exact pQ m r _ _ z o (by simp at hm; omega) (app c hp) h
  | true=>
   rw [c3,aO] at h
   cases r with
   | nil=>cases h
   | cons d r=>
    simp only at h
    cases c4:d == 34 || d == 92 with
    | false=>rw [c4] at h; cases h
    | true=>
     rw [c4,aO] at h
     refine pQ m r _ _ z o (by simp at hm; omega) (app d ?_) h
     rw [Bool.or_eq_true] at c4
     rcases c4 with e | e<;>rw [eq_of_beq e]<;>decide
structure Gtk (k:Int) (x:List UInt8) (n:Int):Prop where
 e:k=0->x=[]/\n=0
 o:k ≠ 0->MW k x n=true
 i:cT n
theorem IP {l:List UInt8} {p:Nat} {k n:Int} {x:List UInt8} {z:Nat} (h:dJ l p=.ok k x n z):Gtk k x n:=by
 have z0:cT 0:=⟨by decide,by decide⟩
 unfold dJ at h
 split at h
 · simp only [R.ok.injEq] at h
   obtain ⟨rfl,rfl,rfl,_⟩:=h
   exact ⟨fun _=>⟨rfl,rfl⟩,fun h=>absurd rfl h,z0⟩
 · rename_i c hc
   cases c1:c8 c.toNat with
   | true=>
    rw [c1,aO] at h
    unfold eW at h
    simp only at h
    cases d1:decide (16 < bI bJ l p - p) with
    | true=>rw [d1] at h; cases h
    | false=>
     rw [d1,aH] at h
     cases d2:l[bI bJ l p]? == some 45 with
     | true=>rw [d2] at h; cases h
     | false=>
      rw [d2,aH] at h
      simp only [R.ok.injEq] at h
      obtain ⟨rfl,rfl,rfl,rfl⟩:=h
      refine ⟨fun h=>absurd h (by decide),fun _=>?_,z0⟩
      have hx:bX ((l.take (bI bJ l p)).drop p)=true:=by
       have hlt:=(aU.1 hc).1
       have hw:bJ c=true:=by
        have:=dB (p:=fun c=>!c8 c.toNat || bJ c) (by decide +kernel) c
        rw [c1] at this; exact this
       have hg:p + 1<=bI bJ l p:=by rw [<-fO hc hw]; exact nL
       refine (J8 _).2 ⟨c,?_,?_,c1,fun d hd=>n8 d hd⟩
       · rw [List.getElem?_drop,Nat.add_zero,List.getElem?_take_of_lt (by omega),hc]
       · have:=of_decide_eq_false d1
         simp only [List.length_drop,List.length_take]; omega
      show ((0:Int) == 0 && bX _)=true
      rw [hx]; rfl
   | false=>
   rw [c1,aH] at h
   cases c2:bD c || c == 45 with
   | true=>
    rw [c2,aO] at h
    unfold fF at h
    simp only at h
    have hd:∀ d ∈ (l.take (bI bD l (bif l[p]? == some 45 then p + 1 else p))).drop (bif l[p]? == some 45 then p + 1 else p),bD d=true:=fun d hd=>n8 d hd
    generalize (l.take (bI bD l (bif l[p]? == some 45 then p + 1 else p))).drop (bif l[p]? == some 45 then p + 1 else p)=s at *
    generalize (l[p]? == some 45)=neg at *
    cases d1:s == [] || (s[0]? == some 48 && (decide (1 < s.length) || neg)) with
    | true=>rw [d1] at h; cases h
    | false=>
    rw [d1,aH] at h
    cases hv:valL (cF neg) 0 s with
    | none=>rw [hv] at h; cases h
    | some m=>
    rw [hv] at h
    simp only at h
    have hm:=ED (lim:=cF neg) (by cases neg<;>decide) (Nat.zero_le _) hd hv
    cases d2:lC l (bI bD l (bif neg then p + 1 else p)) with
    | true=>rw [d2] at h; cases h
    | false=>
     rw [d2,aH] at h
     simp only [R.ok.injEq] at h
     obtain ⟨rfl,rfl,rfl,rfl⟩:=h
     refine ⟨fun h=>absurd h (by decide),fun _=>rfl,?_⟩
     cases neg with
     | true=>have hm:m<=9223372036854775808:=hm; show cT (-(m:Int)); unfold cT; omega
     | false=>have hm:m<=9223372036854775807:=hm; show cT (m:Int); unfold cT; omega
   | false=>
   rw [c2,aH] at h
   cases c3:c == 34 with
   | true=>
    rw [c3,aO] at h
    unfold eP at h
    split at h
    · cases h
    · rename_i z' o ho
      cases d1:decide (200 < o.length) with
      | true=>rw [d1] at h; cases h
      | false=>
       rw [d1,aH] at h
       simp only [R.ok.injEq] at h
       obtain ⟨rfl,rfl,rfl,rfl⟩:=h
       refine ⟨fun h=>absurd h (by decide),fun _=>?_,z0⟩
       have h1:=pQ _ _ _ [] _ _ (Nat.le_refl _) rfl ho
       have h2:decide (o.length<=200)=true:=by have:=of_decide_eq_false d1; simp; omega
       show ((0:Int) == 0 && (decide (o.length<=200) && o.all xF))=true
       rw [h1,h2]; rfl
   | false=>
   rw [c3,aH] at h
   cases c4:d3 c.toNat with
   | false=>rw [c4] at h; cases h
   | true=>
    rw [c4,aO] at h
    simp only [R.ok.injEq] at h
    obtain ⟨rfl,rfl,rfl,rfl⟩:=h
    refine ⟨fun h=>absurd h (by decide),fun _=>?_,z0⟩
    show ((0:Int) == 0 && d3 c.toNat)=true
    rw [c4]; rfl
theorem vK {l:List UInt8}:∀ (f a:Nat) (ts:List Tk),dX f l a=.ok ts->∀ t ∈ ts,Gtk t.k t.x t.n
 | 0,a,ts,h=>by cases h; intro t ht; cases ht
 | f + 1,a,ts,h=>by
  rw [dX] at h
  split at h
  · cases h
  · rename_i k x n z hR
    have hg:=IP hR
    cases hk:k == 0 with
    | true=>
     rw [hk] at h
     simp only [aO,SR.ok.injEq] at h
     subst h
     intro t ht
     rw [List.mem_singleton.1 ht]; exact hg
    | false=>
     rw [hk] at h
     cases hr:dX f l z with
     | bad e t=>rw [hr] at h; cases h
     | ok us=>
      rw [hr] at h
      simp only [aH,SR.cons,SR.ok.injEq] at h
      subst h
      intro t ht
      rcases List.mem_cons.1 ht with rfl | ht
      · exact hg
      · exact vK f z us hr t ht
theorem FY (l:List UInt8):∀ t ∈ (aI l).toks,Gtk t.k t.x t.n:=by
 unfold aI
 cases h:decide (4000 < l.length) with
 | true=>intro t ht; cases ht
 | false=>
  rw [aH]
  cases hr:dX (l.length + 1) l 0 with
  | bad e t=>intro t ht; cases ht
  | ok ts=>exact vK _ _ _ hr
theorem OH {k:Int} {x:List UInt8} {n:Int} (h:MW k x n=true):x.length<=200:=by
 unfold MW at h
 cases c1:k == 1 with
 | true=>rw [c1,aO,Bool.and_eq_true] at h; have:=jG h.2; omega
 | false=>
 rw [c1,aH] at h
 cases c2:k == 2 with
 | true=>rw [c2,aO] at h; rw [eq_of_beq h]; exact Nat.zero_le _
 | false=>
 rw [c2,aH] at h
 cases c3:k == 3 with
 | true=>rw [c3,aO,Bool.and_eq_true,Bool.and_eq_true] at h; exact of_decide_eq_true h.2.1
 | false=>
 rw [c3,aH] at h
 cases c4:k == 4 with
 | false=>rw [c4] at h; cases h
 | true=>
  rw [c4,aO,Bool.and_eq_true] at h
  match x,h with
  | [],_=>exact Nat.zero_le _
  | [_],_=>exact (by decide:1<=200)
  | _ :: _ :: _,h=>exact absurd h.2 (by simp)
theorem Gtk.len {k:Int} {x:List UInt8} {n:Int} (h:Gtk k x n):x.length<=200:=by
 by_cases hk:k=0
 · rw [(h.e hk).1]; exact Nat.zero_le _
 · exact OH (h.o hk)
theorem HV {l:List UInt8} {ts:List Tk} (h:pD l 0 ts) (hl:l.length<=4000):Ends ts:=
 ⟨EN h,by have:=BH h; omega,fun i t ht=>(EC h ht).2.2.2.1⟩
theorem IS {l:List UInt8}:∀ {a:Nat} {ts:List Tk},pD l a ts->∀ t ∈ ts,t.a<=l.length
 | _,[],_=>fun t ht=>by cases ht
 | _,t :: ts,⟨_,h2,z,_,h4,h5⟩=>fun u hu=>by
  rcases List.mem_cons.1 hu with rfl | hu
  · exact h2
  · by_cases h0:t.k=0
    · rw [h4 h0] at hu; cases hu
    · exact IS (h5 h0) u hu
structure Tks (ts:List Tk):Prop where
 e:Ends ts
 g:∀ t ∈ ts,Gtk t.k t.x t.n
 a:∀ t ∈ ts,t.a<=4000
theorem pO {l:List UInt8} (h:(aI l).err=0):Tks (aI l).toks:=by
 rcases FK l with ⟨h1,_⟩ | ⟨_,_,h3,h4⟩
 · exact absurd h h1
 · exact ⟨HV h4 h3,FY l,fun t ht=>by have:=IS h4 t ht; omega⟩
theorem xO:∀ n:Nat,Lib.decDigits n=digs n:=fun n=>by
 induction n using Nat.strongRecOn with
 | _ n ih=>
  rw [Lib.decDigits,digs]
  by_cases h:n < 10
  · have e:n % 10=n:=Nat.mod_eq_of_lt h
    simp [h,e,Nat.toUInt8]
  · rw [dif_neg h,dif_neg h,ih (n / 10) (by omega)]
theorem HJ (n:Int):Lib.itoa n=cD n:=by
 unfold Lib.itoa cD
 by_cases h:n < 0
 · rw [if_pos h,decide_eq_true h,xO]; rfl
 · rw [if_neg h,decide_eq_false h,xO,show n.toNat=n.natAbs by omega]; rfl
def zO:List S->Prop:=fun av=>match av with
 | [.va (.c1 (.vl (.int .i64 n)))]=>-9223372036854775808<=n/\n<=9223372036854775807
 | _=>False
theorem vV {av:List S} (h:zO av):∃ n:Int,av=[iS .i64 n]/\-9223372036854775808<=n/\n<=9223372036854775807:=by
 unfold zO at h
 split at h
 · exact ⟨_,rfl,h⟩
 · exact h.elim
def LT:List S->A:=fun av=>match av with
 | [.va (.c1 (.vl (.int .i64 n)))]=>tA (mk (cD n))
 | _=>.gs []
def itFn:Fun:=⟨zO,LT,fun av h=>by obtain ⟨_,rfl,_⟩:=vV h; trivial⟩
attribute [go_sem ↓] zO LT itFn
theorem U3 {ro:RO} {w:World} (h:GR Tryz.prog ro w):Lib.TabIs Tryz.prog w "internal/strconv.uint64pow10" .u64 Lib.pow10Tab:=by
 have:=(h _ (List.mem_singleton.2 rfl) _ Tryz.laysM171.m17).2
 unfold Lib.TabIs
 rw [this,Lib.pow10Tab,List.map_map]
 rfl
theorem zA:Meets Tryz.prog 32 itFn.sp:=by
 refine ⟨by kernel_rfl,?_⟩
 rintro xs vs E ro w K hl hrel hr ⟨⟨h,hE⟩,hK⟩ hG
 obtain ⟨n,rfl,h0,h1⟩:=vV h
 obtain ⟨v0,rfl⟩:∃ v0,vs=[v0]:=by
  match vs,hl with
  | [v0],_=>exact ⟨v0,rfl⟩
 have e0:v0=.int .i64 n:=hrel 0 _ _ rfl rfl
 subst e0
 refine (Tryz.strconv_Itoa n h0 h1 w (U3 hG)).mono ?_
 rintro e w' ⟨rfl,k,os,rfl⟩
 refine ⟨tS (mk (cD n)),_,E,ro,rfl,by rw [HJ]; rfl,by rw [hE]; exact hK,?_⟩
 have hk:∀ j,j < w.heap.size->(Sort.grow (w.drewN k) os).heap[j]? = w.heap[j]?:=fun j hj=>by
  simp [Sort.grow,World.drewN,Array.getElem?_append_left hj]
 exact hr.grown hk (by simp [Sort.grow,World.drewN]) rfl rfl rfl
structure Fs where
 bad:Bool
 off:Int
 n:Nat
structure Po where
 ver:Int
 es:List (List C)
 ss:List (List C)
instance:Inhabited Tk:=⟨⟨0,[],0,0⟩⟩
def aN (ts:List Tk) (n:Nat):Tk:=ts.getD n default
abbrev pB (o:Po) (b:Bool) (a:Int):B:=.cells [.pt 1 0,.vl (.bool b),.vl (.int .i64 a),.vl (.int .i64 o.ver),.sl 2 o.es.length,.sl 3 o.ss.length] 70
abbrev pH (o:Po) (ts:List Tk) (z:Fs):Hp:=[pB o z.bad z.off,dW 123 ts z.n,.row o.es 62 3,.row o.ss 56 2]
def bB (ts:List Tk) (z:Fs):Fs:=bif z.bad then z else ⟨true,(aN ts z.n).a,z.n⟩
def aJ (k:Int) (w:List UInt8) (ts:List Tk) (z:Fs):Bool:=!z.bad && eD k w (aN ts z.n)
def aQ (k:Int) (w:List UInt8) (ts:List Tk) (z:Fs):Fs:=bif aJ k w ts z then ⟨false,z.off,dR ts z.n⟩ else z
def bN (w:List UInt8) (ts:List Tk) (z:Fs):Fs:=bif aJ 4 w ts z then ⟨false,z.off,dR ts z.n⟩ else bB ts z
def eV (c:Bool) (ts:List Tk) (z:Fs):Bool:=!z.bad && ((aN ts z.n).k == 1 && (!c || (match (aN ts z.n).x with | b :: _=>decide (65<=b) && decide (b<=90) | []=>false)))
def bZ (c:Bool) (ts:List Tk) (z:Fs):ByteArray:=bif eV c ts z then mk (aN ts z.n).x else mk []
def bM (c:Bool) (ts:List Tk) (z:Fs):Fs:=bif eV c ts z then ⟨false,z.off,dR ts z.n⟩ else bB ts z
def fN (c:Bool) (ts:List Tk) (z:Fs):Bool:=!z.bad && ((aN ts z.n).k == 2 && (!c || decide (0<=(aN ts z.n).n)))
def eL (c:Bool) (ts:List Tk) (z:Fs):Int:=bif fN c ts z then (aN ts z.n).n else 0
def eF (c:Bool) (ts:List Tk) (z:Fs):Fs:=bif fN c ts z then ⟨false,z.off,dR ts z.n⟩ else bB ts z
def dS (ts:List Tk) (z:Fs):Int:=eL true ts (bN [91] ts z)
def dV (ts:List Tk) (z:Fs):Fs:=bN [93] ts (eF true ts (bN [91] ts z))
theorem dA {ts:List Tk} {n:Nat} (h:n < ts.length):ts[n]? = some (aN ts n):=by simp [aN,List.getD_eq_getElem?_getD,a8 h]
theorem lV {ts:List Tk} {n:Nat} (h:n < ts.length):aN ts n ∈ ts:=b6 (dA h)
theorem jF {T:TypeId} {ts:List Tk} {n:Nat} {K:S->Hp->Prop} (he:Ends ts) (h:n < ts.length) (hK:K (.va (.gs (cI (aN ts n)))) [dW T ts n]):d6 T [.va (.c1 (.pt 0 0))] [dW T ts n] K:=
 ⟨rfl,ts,n,rfl,rfl,he,h,fun t ht=>by rw [dA h] at ht; cases ht; exact hK⟩
theorem CI {T:TypeId} {ts:List Tk} {n:Nat} {K:S->Hp->Prop} (he:Ends ts) (h:n < ts.length) (hK:K (.va (.gs (cI (aN ts n)))) [dW T ts (dR ts n)]):f9 T [.va (.c1 (.pt 0 0))] [dW T ts n] K:=
 ⟨rfl,ts,n,rfl,rfl,he,h,fun t ht=>by rw [dA h] at ht; cases ht; exact hK⟩
theorem pX {k:Int} {T:TypeId} {w:ByteArray} {ts:List Tk} {n:Nat} {K:S->Hp->Prop} (he:Ends ts) (h:n < ts.length) (hK:K (bS (eD k (bl w) (aN ts n))) [dW T ts (oT k (bl w) ts n (aN ts n))]):eA k T [.va (.c1 (.pt 0 0)),tS w] [dW T ts n] K:=
 ⟨rfl,ts,n,rfl,rfl,he,h,fun t ht=>by rw [dA h] at ht; cases ht; exact hK⟩
theorem wE (k:Int) (w:List UInt8) (ts:List Tk) (n:Nat) (t:Tk):oT k w ts n t=bif eD k w t then dR ts n else n:=rfl
attribute [-go_sem] d6 f9 eA iL eX
end Go.Proofs.YtgogpogophflhaaGreatDoor
namespace Go.Proofs.YtgogpogophflhaaGreatDoor
open Go.W
attribute [-go_sem] d6 f9 eA iL eX
def lN (av0:List S) (V:List Tk->Fs->S) (F:List Tk->Fs->Fs):List S->Hp->(S->Hp->Prop)->Prop:=fun av H K=>
 ∃ o ts z,av=.va (.c1 (.pt 0 0)) :: av0/\H=pH o ts z/\Tks ts/\z.n < ts.length/\K (V ts z) (pH o ts (F ts z))
theorem gZ {av0:List S} {V:List Tk->Fs->S} {F:List Tk->Fs->Fs} {o:Po} {ts:List Tk} {z:Fs} {K:S->Hp->Prop} (h1:Tks ts) (h2:z.n < ts.length) (hK:K (V ts z) (pH o ts (F ts z))) :
 lN av0 V F (.va (.c1 (.pt 0 0)) :: av0) (pH o ts z) K:=⟨o,ts,z,rfl,rfl,h1,h2,hK⟩
def xL:List Tk->Fs->S:=fun _ _=>.tu []
def k9:W.Spec:=lN [] xL bB
def qG:W.Spec:=fun av H K=>∃ w,lN [tS w] (fun ts z=>bS (aJ 1 (bl w) ts z)) (aQ 1 (bl w)) av H K
def tT:W.Spec:=fun av H K=>∃ w,lN [tS w] (fun ts z=>bS (aJ 4 (bl w) ts z)) (aQ 4 (bl w)) av H K
def kY:W.Spec:=fun av H K=>∃ w,lN [tS w] xL (bN (bl w)) av H K
def qP:W.Spec:=fun av H K=>∃ c,lN [bS c] (fun ts z=>tS (bZ c ts z)) (bM c) av H K
def lK:W.Spec:=fun av H K=>∃ c,lN [bS c] (fun ts z=>iS .i64 (eL c ts z)) (eF c) av H K
def GY:W.Spec:=lN [] (fun ts z=>iS .i64 (dS ts z)) dV
section
variable {o:Po} {ts:List Tk} {z:Fs} {K:S->Hp->Prop}
theorem gH (h1:Tks ts) (h2:z.n < ts.length) (hK:K (.tu []) (pH o ts (bB ts z))):k9 [.va (.c1 (.pt 0 0))] (pH o ts z) K:=gZ h1 h2 hK
theorem f8 {w:ByteArray} (h1:Tks ts) (h2:z.n < ts.length) (hK:K (bS (aJ 1 (bl w) ts z)) (pH o ts (aQ 1 (bl w) ts z))):qG [.va (.c1 (.pt 0 0)),tS w] (pH o ts z) K:=⟨w,gZ (F:=aQ 1 (bl w)) h1 h2 hK⟩
theorem wF {w:ByteArray} (h1:Tks ts) (h2:z.n < ts.length) (hK:K (bS (aJ 4 (bl w) ts z)) (pH o ts (aQ 4 (bl w) ts z))):tT [.va (.c1 (.pt 0 0)),tS w] (pH o ts z) K:=⟨w,gZ (F:=aQ 4 (bl w)) h1 h2 hK⟩
theorem fW {w:ByteArray} (h1:Tks ts) (h2:z.n < ts.length) (hK:K (.tu []) (pH o ts (bN (bl w) ts z))):kY [.va (.c1 (.pt 0 0)),tS w] (pH o ts z) K:=⟨w,gZ (F:=bN (bl w)) h1 h2 hK⟩
theorem lF {c:Bool} (h1:Tks ts) (h2:z.n < ts.length) (hK:K (tS (bZ c ts z)) (pH o ts (bM c ts z))):qP [.va (.c1 (.pt 0 0)),bS c] (pH o ts z) K:=⟨c,gZ (F:=bM c) h1 h2 hK⟩
theorem rF {c:Bool} (h1:Tks ts) (h2:z.n < ts.length) (hK:K (iS .i64 (eL c ts z)) (pH o ts (eF c ts z))):lK [.va (.c1 (.pt 0 0)),bS c] (pH o ts z) K:=⟨c,gZ (F:=eF c) h1 h2 hK⟩
theorem D3 (h1:Tks ts) (h2:z.n < ts.length) (hK:K (iS .i64 (dS ts z)) (pH o ts (dV ts z))):GY [.va (.c1 (.pt 0 0))] (pH o ts z) K:=gZ h1 h2 hK
end
theorem lX {ts:List Tk} {n:Nat} (h:n < ts.length):n<=dR ts n/\dR ts n < ts.length:=by
 unfold dR; split<;>omega
theorem fM (ts:List Tk) (z:Fs):(bB ts z).n=z.n:=by unfold bB; cases z.bad<;>rfl
theorem cK {w:List UInt8} {ts:List Tk} {z:Fs} (h:z.n < ts.length):z.n<=(bN w ts z).n/\(bN w ts z).n < ts.length:=by
 unfold bN
 cases aJ 4 w ts z
 · rw [aH,fM]; exact ⟨Nat.le_refl _,h⟩
 · exact lX h
theorem d7 {k:Int} {w:List UInt8} {ts:List Tk} {z:Fs} (h:z.n < ts.length):z.n<=(aQ k w ts z).n/\(aQ k w ts z).n < ts.length:=by
 unfold aQ
 cases aJ k w ts z
 · exact ⟨Nat.le_refl _,h⟩
 · exact lX h
theorem eH {c:Bool} {ts:List Tk} {z:Fs} (h:z.n < ts.length):z.n<=(bM c ts z).n/\(bM c ts z).n < ts.length:=by
 unfold bM
 cases eV c ts z
 · rw [aH,fM]; exact ⟨Nat.le_refl _,h⟩
 · exact lX h
theorem kN {c:Bool} {ts:List Tk} {z:Fs} (h:z.n < ts.length):z.n<=(eF c ts z).n/\(eF c ts z).n < ts.length:=by
 unfold eF
 cases fN c ts z
 · rw [aH,fM]; exact ⟨Nat.le_refl _,h⟩
 · exact lX h
theorem lP {ts:List Tk} {z:Fs} (h:z.n < ts.length):z.n<=(dV ts z).n/\(dV ts z).n < ts.length:=by
 unfold dV
 have h1:=cK (w:=[91]) h
 have h2:=kN (c:=true) h1.2
 have h3:=cK (w:=[93]) h2.2
 omega
theorem lO:Meets Tryz.prog 35 k9:=by
 refine aF Tryz.func35 ZU 1 (by rw [Tryz.ntmps35]; decide) (aA mN (aB _)) (fun av H K h=>by obtain ⟨_,_,_,rfl,_⟩:=h; rfl) ?_
 rintro av H K ⟨o,ts,⟨b,a,n⟩,rfl,rfl,ht,hn,hK⟩
 unfold bB xL at hK
 cases b with
 | true=>
  simp (maxSteps:=9^6) -dsimp only [go_sem,KZ,I3]
  exact .done hK
 | false=>
  simp (maxSteps:=9^6) -dsimp only [go_sem,KZ,I3]
  refine jF ht.e hn ?_
  simp (maxSteps:=9^6) -dsimp only [go_sem]
  exact .done hK
theorem CJ:Meets Tryz.prog 34 qG:=by
 refine aF Tryz.func34 aAB 2 (by rw [Tryz.ntmps34]; decide) (aA UO (aB _)) (fun av H K h=>by obtain ⟨_,_,_,_,rfl,_⟩:=h; rfl) ?_
 rintro av H K ⟨w,o,ts,⟨b,a,n⟩,rfl,rfl,ht,hn,hK⟩
 unfold aQ aJ at hK
 cases b with
 | true=>
  simp (maxSteps:=9^6) -dsimp only [go_sem,JQ,JO]
  exact .done hK
 | false=>
  simp (maxSteps:=9^6) -dsimp only [go_sem,JQ,JO]
  refine pX ht.e hn ?_
  rw [wE]
  have hK:K (bS (!false && eD 1 (bl w) (aN ts n))) (pH o ts (bif !false && eD 1 (bl w) (aN ts n) then ⟨false,a,dR ts n⟩ else ⟨false,a,n⟩)):=hK
  cases hh:eD 1 (bl w) (aN ts n)<;>rw [hh] at hK<;>(simp (maxSteps:=9^6) -dsimp only [go_sem]; exact .done hK)
theorem MH:Meets Tryz.prog 84 tT:=by
 refine aF Tryz.func84 aA0 2 (by rw [Tryz.ntmps84]; decide) (aA GW (aB _)) (fun av H K h=>by obtain ⟨_,_,_,_,rfl,_⟩:=h; rfl) ?_
 rintro av H K ⟨w,o,ts,⟨b,a,n⟩,rfl,rfl,ht,hn,hK⟩
 unfold aQ aJ at hK
 cases b with
 | true=>
  simp (maxSteps:=9^6) -dsimp only [go_sem,JB,KQ]
  exact .done hK
 | false=>
  simp (maxSteps:=9^6) -dsimp only [go_sem,JB,KQ]
  refine pX ht.e hn ?_
  rw [wE]
  have hK:K (bS (!false && eD 4 (bl w) (aN ts n))) (pH o ts (bif !false && eD 4 (bl w) (aN ts n) then ⟨false,a,dR ts n⟩ else ⟨false,a,n⟩)):=hK
  cases hh:eD 4 (bl w) (aN ts n)<;>rw [hh] at hK<;>(simp (maxSteps:=9^6) -dsimp only [go_sem]; exact .done hK)
theorem tH:Meets Tryz.prog 37 kY:=by
 refine aF Tryz.func37 aA3 2 (by rw [Tryz.ntmps37]; decide) (aA GW (aA lO (aB _))) (fun av H K h=>by obtain ⟨_,_,_,_,rfl,_⟩:=h; rfl) ?_
 rintro av H K ⟨w,o,ts,⟨b,a,n⟩,rfl,rfl,ht,hn,hK⟩
 unfold bN aJ xL at hK
 cases b with
 | true=>
  simp (maxSteps:=9^6) -dsimp only [go_sem,I0,KV]
  exact .done hK
 | false=>
  simp (maxSteps:=9^6) -dsimp only [go_sem,I0,KV]
  refine pX ht.e hn ?_
  rw [wE]
  cases hh:eD 4 (bl w) (aN ts n) with
  | true=>
   rw [hh] at hK
   simp (maxSteps:=9^6) -dsimp only [go_sem]
   exact .done hK
  | false=>
   rw [hh] at hK
   simp (maxSteps:=9^6) -dsimp only [go_sem]
   refine gH (z:=⟨false,a,n⟩) ht hn ?_
   simp (maxSteps:=9^6) -dsimp only [go_sem]
   exact .done hK
theorem VD {c b:Bool} {ts:List Tk} {a:Int} {n:Nat} (h:(b || (aN ts n).k != 2 || c && decide ((aN ts n).n < 0))=true):fN c ts ⟨b,a,n⟩=false:=by
 unfold fN
 simp only
 cases b
 · cases hk:(aN ts n).k == 2
   · rfl
   · rw [bne,hk] at h
     cases c
     · cases h
     · have:(aN ts n).n < 0:=by simpa using h
       simp; omega
 · rfl
theorem TP {c b:Bool} {ts:List Tk} {a:Int} {n:Nat} (h:(b || (aN ts n).k != 2 || c && decide ((aN ts n).n < 0))=false):fN c ts ⟨b,a,n⟩=true/\b=false:=by
 unfold fN
 simp only
 cases b
 · cases hk:(aN ts n).k == 2
   · rw [bne,hk] at h; cases h
   · rw [bne,hk] at h
     cases c
     · exact ⟨rfl,rfl⟩
     · have:¬ (aN ts n).n < 0:=by simpa using h
       refine ⟨?_,rfl⟩
       simp; omega
 · cases h
theorem uW:Meets Tryz.prog 36 lK:=by
 refine aF Tryz.func36 Z2 2 (by rw [Tryz.ntmps36]; decide) (aA mN (aA EZ (aA lO (aB _)))) (fun av H K h=>by obtain ⟨_,_,_,_,rfl,_⟩:=h; rfl) ?_
 rintro av H K ⟨c,o,ts,⟨b,a,n⟩,rfl,rfl,ht,hn,hK⟩
 have hK:K (iS .i64 (eL c ts ⟨b,a,n⟩)) (pH o ts (eF c ts ⟨b,a,n⟩)):=hK
 have bad:fN c ts ⟨b,a,n⟩=false->K (iS .i64 0) (pH o ts (bB ts ⟨b,a,n⟩)):=fun h=>by
  unfold eL eF at hK; rw [h] at hK; exact hK
 have good:fN c ts ⟨b,a,n⟩=true->K (iS .i64 (aN ts n).n) (pH o ts ⟨false,a,dR ts n⟩):=fun h=>by
  unfold eL eF at hK; rw [h] at hK; exact hK
 clear hK
 simp (maxSteps:=9^6) -dsimp only [go_sem,TE,U6]
 refine jF ht.e hn ?_
 simp (maxSteps:=9^6) -dsimp only [go_sem,cI]
 refine aX rfl (.done ?_)
 simp (maxSteps:=9^6) -dsimp only [go_sem,AY]
 refine ⟨fun h1 h2=>by rw [h1,h2]; rfl,fun h=>?_,fun h=>?_⟩
 · refine gH (z:=⟨b,a,n⟩) ht hn ?_
   simp (maxSteps:=9^6) -dsimp only [go_sem]
   refine .sel [0,1,2,3] (by simp) (by simp) rfl (.done ?_)
   simp (maxSteps:=9^6) -dsimp only [go_sem]
   exact bad (VD h)
 · refine aX rfl (.done ?_)
   simp (maxSteps:=9^6) -dsimp only [go_sem,CR]
   refine CI ht.e hn ?_
   simp (maxSteps:=9^6) -dsimp only [go_sem]
   refine .sel [0,1,2,3] (by simp) (by simp) rfl (.done ?_)
   simp (maxSteps:=9^6) -dsimp only [go_sem]
   have g:=TP (a:=a) h
   obtain ⟨g,rfl⟩:=g
   exact good g
theorem N1 {t:Tk} (h:Gtk t.k t.x t.n) (hk:t.k=1):t.x ≠ []:=by
 have:=h.o (by rw [hk]; decide)
 rw [hk] at this
 have h2:bX t.x=true:=by
  have h3:(t.n == 0 && bX t.x)=true:=this
  rw [Bool.and_eq_true] at h3; exact h3.2
 intro e
 rw [e] at h2
 cases h2
theorem V7 {c b:Bool} {ts:List Tk} {a:Int} {n:Nat} {c1 c2:UInt8} (h1:(!(b || (aN ts n).k != 1) && c)=true->(aN ts n).x[0]? = some c1)
 (h2:(!(b || (aN ts n).k != 1) && c && !decide ((c1.toNat:Int) < 65))=true->(aN ts n).x[0]? = some c2)
 (h:(b || (aN ts n).k != 1 || c && (decide ((c1.toNat:Int) < 65) || decide (90 < (c2.toNat:Int))))=true):eV c ts ⟨b,a,n⟩=false:=by
 unfold eV
 simp only
 cases b
 · cases hk:(aN ts n).k == 1
   · rfl
   · rw [bne,hk] at h h1 h2
     cases c
     · cases h
     · have g1:=h1 rfl
       cases hx:(aN ts n).x with
       | nil=>rfl
       | cons d r=>
        rw [hx] at g1 h2
        have e1:d=c1:=aZ g1
        subst e1
        have h64:∀ m:Nat,(m:Int) < 65->m < 65:=fun m=>by omega
        by_cases hd:(d.toNat:Int) < 65
        · have:¬ (65:UInt8)<=d:=fun hh=>by
           have:=UInt8.le_iff_toNat_le.1 hh
           simp at this; omega
          simp [this]
        · have e2:d=c2:=aZ (h2 (by simpa using hd))
          subst e2
          have:90 < (d.toNat:Int):=by
           simp [hd] at h; exact h
          have:¬ d<=(90:UInt8):=fun hh=>by
           have:=UInt8.le_iff_toNat_le.1 hh
           simp at this; omega
          simp [this]
 · rfl
theorem TV {c b:Bool} {ts:List Tk} {a:Int} {n:Nat} {c1 c2:UInt8} (h1:(!(b || (aN ts n).k != 1) && c)=true->(aN ts n).x[0]? = some c1)
 (h2:(!(b || (aN ts n).k != 1) && c && !decide ((c1.toNat:Int) < 65))=true->(aN ts n).x[0]? = some c2)
 (h:(b || (aN ts n).k != 1 || c && (decide ((c1.toNat:Int) < 65) || decide (90 < (c2.toNat:Int))))=false):eV c ts ⟨b,a,n⟩=true/\b=false:=by
 unfold eV
 simp only
 cases b
 · refine ⟨?_,rfl⟩
   cases hk:(aN ts n).k == 1
   · rw [bne,hk] at h; cases h
   · rw [bne,hk] at h h1 h2
     cases c
     · rfl
     · have g1:=h1 rfl
       cases hx:(aN ts n).x with
       | nil=>rw [hx] at g1; cases g1
       | cons d r=>
        rw [hx] at g1 h2
        have e1:d=c1:=aZ g1
        subst e1
        have hd:¬ (d.toNat:Int) < 65:=fun hd=>by simp [hd] at h
        have e2:d=c2:=aZ (h2 (by simpa using hd))
        subst e2
        have h90:¬ 90 < (d.toNat:Int):=fun hd=>by simp [hd] at h
        have q1:(65:UInt8)<=d:=UInt8.le_iff_toNat_le.2 (by simp; omega)
        have q2:d<=(90:UInt8):=UInt8.le_iff_toNat_le.2 (by simp; omega)
        simp [q1,q2]
 · cases h
theorem zQ:Meets Tryz.prog 83 qP:=by
 refine aF Tryz.func83 aB0 2 (by rw [Tryz.ntmps83]; decide) (aA mN (aA EZ (aA lO (aB _)))) (fun av H K h=>by obtain ⟨_,_,_,_,rfl,_⟩:=h; rfl) ?_
 rintro av H K ⟨c,o,ts,⟨b,a,n⟩,rfl,rfl,ht,hn,hK⟩
 have hK:K (tS (bZ c ts ⟨b,a,n⟩)) (pH o ts (bM c ts ⟨b,a,n⟩)):=hK
 have bad:eV c ts ⟨b,a,n⟩=false->K (tS (mk [])) (pH o ts (bB ts ⟨b,a,n⟩)):=fun h=>by
  unfold bZ bM at hK; rw [h] at hK; exact hK
 have good:eV c ts ⟨b,a,n⟩=true->K (tS (mk (aN ts n).x)) (pH o ts ⟨false,a,dR ts n⟩):=fun h=>by
  unfold bZ bM at hK; rw [h] at hK; exact hK
 clear hK
 simp (maxSteps:=9^6) -dsimp only [go_sem,Q2,UZ]
 refine jF ht.e hn ?_
 simp (maxSteps:=9^6) -dsimp only [go_sem,cI]
 refine aX rfl (.done ?_)
 simp (maxSteps:=9^6) -dsimp only [go_sem,BQ]
 have ne:((!(b || (aN ts n).k != 1) && c)=true)->(0:Int)<=0/\(0:Int) < ((aN ts n).x.length:Int):=fun h=>by
  have hk:(aN ts n).k=1:=by
   cases b
   · cases hk:(aN ts n).k == 1
     · rw [bne,hk] at h; cases c<;>cases h
     · exact eq_of_beq hk
   · cases h
  have this:(aN ts n).x ≠ []:=N1 (ht.g _ (lV hn)) hk
  have:=List.length_pos_iff.2 this
  omega
 refine ⟨ne,fun c1 h1=>⟨fun h=>ne (by rw [Bool.and_eq_true] at h; exact h.1),fun c2 h2=>⟨fun hA hB=>by rw [hA,hB]; rfl,fun hA hB=>by rw [hA,hB]; rfl,fun h=>?_,fun h=>?_⟩⟩⟩
 · refine gH (z:=⟨b,a,n⟩) ht hn ?_
   simp (maxSteps:=9^6) -dsimp only [go_sem]
   refine .sel [0,1,2,3] (by simp) (by simp) rfl (.done ?_)
   simp (maxSteps:=9^6) -dsimp only [go_sem]
   exact bad (V7 h1 h2 h)
 · refine aX rfl (.done ?_)
   simp (maxSteps:=9^6) -dsimp only [go_sem,AF]
   refine CI ht.e hn ?_
   simp (maxSteps:=9^6) -dsimp only [go_sem]
   refine .sel [0,1,2,3] (by simp) (by simp) rfl (.done ?_)
   simp (maxSteps:=9^6) -dsimp only [go_sem]
   have g:=TV (a:=a) h1 h2 h
   obtain ⟨g,rfl⟩:=g
   exact good g
theorem M3:Meets Tryz.prog 36 lK->Meets Tryz.prog 97 GY:=by
 intro hnum
 refine aF Tryz.func97 aBE 1 (by rw [Tryz.ntmps97]; decide) (aA tH (aA hnum (aB _))) (fun av H K h=>by obtain ⟨_,_,_,rfl,_⟩:=h; rfl) ?_
 rintro av H K ⟨o,ts,z,rfl,rfl,ht,hn,hK⟩
 have hK:K (iS .i64 (dS ts z)) (pH o ts (dV ts z)):=hK
 unfold dV dS at hK
 simp (maxSteps:=9^6) -dsimp only [go_sem,TS,RK]
 refine fW ht hn ?_
 have h1:=cK (w:=[91]) hn
 have e1:bN (bl (mk [91])) ts z=bN [91] ts z:=rfl
 rw [e1]
 generalize bN [91] ts z=z1 at *
 simp (maxSteps:=9^6) -dsimp only [go_sem]
 refine rF ht h1.2 ?_
 have h2:=kN (c:=true) h1.2
 simp (maxSteps:=9^6) -dsimp only [go_sem]
 refine fW ht h2.2 ?_
 simp (maxSteps:=9^6) -dsimp only [go_sem]
 exact .done hK
end Go.Proofs.YtgogpogophflhaaGreatDoor
namespace Go.Proofs.YtgogpogophflhaaGreatDoor
open Go.W
attribute [-go_sem] d6 f9 eA iL eX
def szs:List Int:=[8,16,32,64]
def nW (n:Int):List UInt8:=[105,110,116] ++ cD n
def kI (n:Int):List UInt8:=[117,105,110,116] ++ cD n
def gR:List UInt8:=[98,111,111,108]
def wText:List UInt8:=[116,101,120,116]
def kF (ts:List Tk) (z:Fs):List Int->Ty × Fs
 | []=>(.mk 6 0 (bZ true ts z) [],bM true ts z)
 | s :: r=>bif aJ 1 (nW s) ts z then (.mk 2 s (mk []) [],aQ 1 (nW s) ts z) else bif decide (s < 64) && aJ 1 (kI s) ts z then (.mk 3 s (mk []) [],aQ 1 (kI s) ts z) else kF ts z r
def eR (ts:List Tk) (z:Fs):Ty × Fs:=
 bif aJ 1 gR ts z then (.mk 1 0 (mk []) [],aQ 1 gR ts z)
 else bif aJ 1 wText ts z then (.mk 4 (dS ts (aQ 1 wText ts z)) (mk []) [],dV ts (aQ 1 wText ts z))
 else kF ts z szs
def BS (F:List Tk->Fs->Ty × Fs):W.Spec:=lN [] (fun ts z=>.va (.gs (aP (F ts z).1))) fun ts z=>(F ts z).2
theorem CP {F:List Tk->Fs->Ty × Fs} {o:Po} {ts:List Tk} {z:Fs} {K:S->Hp->Prop} (h1:Tks ts) (h2:z.n < ts.length) (hK:K (.va (.gs (aP (F ts z).1))) (pH o ts (F ts z).2)):BS F [.va (.c1 (.pt 0 0))] (pH o ts z) K:=gZ (V:=fun ts z=>.va (.gs (aP (F ts z).1))) (F:=fun ts z=>(F ts z).2) h1 h2 hK
theorem fL {k:Int} {w:List UInt8} {ts:List Tk} {z:Fs} (h:aJ k w ts z=false):aQ k w ts z=z:=by unfold aQ; rw [h]; rfl
theorem dS8:cD 8=[56]:=by simp [cD,digs,Nat.toUInt8]
theorem ZC:cD 16=[49,54]:=by simp [cD,digs,Nat.toUInt8]
theorem aBG:cD 32=[51,50]:=by simp [cD,digs,Nat.toUInt8]
theorem aA5:cD 64=[54,52]:=by simp [cD,digs,Nat.toUInt8]
theorem OU:Meets Tryz.prog 98 (BS eR):=by
 refine aF Tryz.func98 aBQ 1 (by rw [Tryz.ntmps98]; decide) (aA CJ (aA (M3 uW) (aA zQ (aK zA (aB _))))) (fun av H K h=>by obtain ⟨_,_,_,rfl,_⟩:=h; rfl) ?_
 rintro av H K ⟨o,ts,z,rfl,rfl,ht,hn,hK⟩
 have hK:K (.va (.gs (aP (eR ts z).1))) (pH o ts (eR ts z).2):=hK
 have fin:∀ (t:Ty) (z':Fs) (R:Hp),eR ts z=(t,z')->W.Fin 4 K (.va (.gs [.vl (.int .i64 t.k),.vl (.int .i64 t.s),.vl (.string t.n),.fz (t.e.map aP)])) (pH o ts z' ++ R):=fun t z' R h=>by
  rw [h] at hK
  refine .sel [0,1,2,3] (by simp) (by simp) rfl (.done ?_)
  rw [aY] at hK
  simpa [go_sem] using hK
 unfold eR at fin
 simp (maxSteps:=9^6) -dsimp only [go_sem,R8,SM]
 refine f8 ht hn ?_
 rw [show bl (mk [98,111,111,108])=gR from rfl]
 cases h1:aJ 1 gR ts z with
 | true=>
  rw [h1] at fin
  simp (maxSteps:=9^6) -dsimp only [go_sem]
  exact fin _ _ _ rfl
 | false=>
 rw [h1] at fin
 rw [fL h1]
 simp (maxSteps:=9^6) -dsimp only [go_sem]
 refine f8 ht hn ?_
 rw [show bl (mk [116,101,120,116])=wText from rfl]
 have hn1:=d7 (k:=1) (w:=wText) hn
 cases h2:aJ 1 wText ts z with
 | true=>
  rw [h2] at fin
  simp (maxSteps:=9^6) -dsimp only [go_sem]
  refine D3 ht hn1.2 ?_
  simp (maxSteps:=9^6) -dsimp only [go_sem]
  exact fin _ _ _ rfl
 | false=>
 rw [h2] at fin
 rw [fL h2]
 simp (maxSteps:=9^6) -dsimp only [go_sem]
 refine aX rfl (.done ?_)
 simp (maxSteps:=9^6) -dsimp only [go_sem,BL]
 refine a7 (α:=Nat) (fun i=>[(0,.va (.c1 (.pt 0 0))),(2,.va (.c1 (.pt 4 0))),(15,.va (.c1 (.sl 5 4))),(16,iS .i64 4),(17,iS .i64 i)]) (fun _=>[pB o z.bad z.off,dW 123 ts z.n,.row o.es 62 3,.row o.ss 56 2,.cells [.vl (.int .i64 0),.vl (.int .i64 0),.vl (.string (mk [])),.vl (.slice none 0 0)] 37,.row (szs.map iQ) 3 1])
  (fun i=>i<=4/\kF ts z (szs.drop i)=kF ts z szs) (fun i=>4 - i) 0 6 ⟨Nat.zero_le _,rfl⟩ ?_ ?_ ?_
 · simp -dsimp only [go_sem]<;>simp
 · simp -dsimp only [go_sem,szs,List.map_cons,List.map_nil]<;>simp
 rintro i ⟨hi,ho⟩
 have hl4:szs.length=4:=rfl
 rcases cM i 4 with hlt | hge
 · have hg:decide ((i:Int) < 4)=true:=by simp; omega
   obtain ⟨s,hx⟩:∃ s,szs[i]? = some s:=⟨_,a8 (by omega)⟩
   have hd:szs.drop i=s :: szs.drop (i + 1):=List.drop_eq_getElem_cons (by omega) |>.trans (by rw [(aU.1 hx).2])
   have hs:8<=s/\s<=64:=by
    have:=b6 hx
    simp only [szs,List.mem_cons,List.not_mem_nil,or_false] at this
    omega
   have hsl:=gM (n:=s) (by omega) (by omega)
   rw [hd,kF] at ho
   simp (maxSteps:=9^6) -dsimp only [go_sem,hg,List.length_map,hl4]
   refine ⟨⟨by omega,by omega⟩,by omega,fun x hx'=>?_⟩
   obtain rfl:s=x:=aZ (hx.symm.trans hx')
   refine ⟨⟨by omega,by omega⟩,by omega,f8 ht hn ?_⟩
   rw [show bl (mk (105 :: 110 :: 116 :: cD s))=nW s from rfl]
   cases h3:aJ 1 (nW s) ts z with
   | true=>
    rw [h3] at ho
    rw [aH,aH,<-ho] at fin
    simp (maxSteps:=9^6) -dsimp only [go_sem]
    exact fin _ _ _ rfl
   | false=>
   rw [h3,aH] at ho
   rw [fL h3]
   simp (maxSteps:=9^6) -dsimp only [go_sem]
   cases h4:decide (s < 64) with
   | false=>
    rw [h4] at ho
    refine aX rfl (.done ?_)
    simp (maxSteps:=9^6) -dsimp only [go_sem,qJ,h4]
    refine ⟨by omega,aD (i + 1) 6 ⟨by omega,ho⟩ (by omega) ?_ ?_⟩
    · simp -dsimp only [go_sem]<;>simp
    · simp -dsimp only [go_sem]<;>simp
   | true=>
   rw [h4,Bool.true_and] at ho
   refine aX rfl (.done ?_)
   simp (maxSteps:=9^6) -dsimp only [go_sem,qJ,h4]
   refine ⟨⟨by omega,by omega⟩,by omega,f8 ht hn ?_⟩
   rw [show bl (mk (117 :: 105 :: 110 :: 116 :: cD s))=kI s from rfl]
   cases h5:aJ 1 (kI s) ts z with
   | true=>
    rw [h5] at ho
    rw [aH,aH,<-ho] at fin
    simp (maxSteps:=9^6) -dsimp only [go_sem]
    exact fin _ _ _ rfl
   | false=>
   rw [h5,aH] at ho
   rw [fL h5]
   simp (maxSteps:=9^6) -dsimp only [go_sem]
   refine ⟨by omega,aD (i + 1) 6 ⟨by omega,ho⟩ (by omega) ?_ ?_⟩
   · simp -dsimp only [go_sem]<;>simp
   · simp -dsimp only [go_sem]<;>simp
 · have hg:decide ((i:Int) < 4)=false:=by simp; omega
   obtain rfl:i=4:=by omega
   rw [aH,aH,<-ho] at fin
   simp (maxSteps:=9^6) -dsimp only [go_sem,hg]
   refine aX rfl (.done ?_)
   simp (maxSteps:=9^6) -dsimp only [go_sem,wY]
   refine lF ht hn ?_
   simp (maxSteps:=9^6) -dsimp only [go_sem]
   exact fin _ _ _ rfl
end Go.Proofs.YtgogpogophflhaaGreatDoor
namespace Go.Proofs.YtgogpogophflhaaGreatDoor
open Go.W
attribute [-go_sem] d6 f9 eA iL eX
def b8:List UInt8:=[108,105,115,116]
def xK:List UInt8:=[111,102]
def hZ (ts:List Tk) (z:Fs):Fs:=bif aJ 1 xK ts z then ⟨false,z.off,dR ts z.n⟩ else bB ts z
def gI (ts:List Tk):Nat->List Int->Fs->List Int × Fs
 | 0,d,z=>(d,z)
 | f + 1,d,z=>bif aJ 1 b8 ts z then gI ts f (d ++ [dS ts (aQ 1 b8 ts z)]) (hZ ts (dV ts (aQ 1 b8 ts z))) else (d,z)
def a6 (d:List Int) (t:Ty):Ty:=d.foldr (fun s t=>.mk 5 s (mk []) [t]) t
def gV (ts:List Tk) (z:Fs):Ty × Fs:=(a6 (gI ts (ts.length + 1) [] z).1 (eR ts (gI ts (ts.length + 1) [] z).2).1,(eR ts (gI ts (ts.length + 1) [] z).2).2)
theorem lB (ts:List Tk) (f:Nat) (d:List Int) (z:Fs):gI ts (f + 1) d z=bif aJ 1 b8 ts z then gI ts f (d ++ [dS ts (aQ 1 b8 ts z)]) (hZ ts (dV ts (aQ 1 b8 ts z))) else (d,z):=rfl
theorem kV {k:Int} {w:List UInt8} {ts:List Tk} {z:Fs} (hk0:k ≠ 0) (he:Ends ts) (hn:z.n < ts.length) (h:aJ k w ts z=true):dR ts z.n=z.n + 1/\z.n + 1 < ts.length/\z.bad=false:=by
 unfold aJ at h
 rw [Bool.and_eq_true] at h
 obtain ⟨h1,h2⟩:=h
 have hb:z.bad=false:=by cases hb:z.bad with
  | false=>rfl
  | true=>rw [hb] at h1; cases h1
 have hk:(aN ts z.n).k=k:=by
  unfold eD at h2
  rw [Bool.and_eq_true] at h2
  exact eq_of_beq h2.1
 have hne:¬ (z.n + 1=ts.length):=fun e=>by
  have:=(he.last _ _ (dA hn)).2 e
  rw [hk] at this; exact hk0 this
 have hlt:z.n + 1 < ts.length:=by omega
 exact ⟨if_pos hlt,hlt,hb⟩
theorem tO {ts:List Tk} {z:Fs} (h:z.n < ts.length):z.n<=(hZ ts z).n/\(hZ ts z).n < ts.length:=by
 unfold hZ
 cases aJ 1 xK ts z
 · rw [aH,fM]; exact ⟨Nat.le_refl _,h⟩
 · exact lX h
theorem LS {ts:List Tk} {z:Fs} (h:z.n < ts.length):∀ l:List Int,z.n<=(kF ts z l).2.n/\(kF ts z l).2.n < ts.length
 | []=>eH h
 | s :: r=>by
  rw [kF]
  cases aJ 1 (nW s) ts z
  · cases decide (s < 64) && aJ 1 (kI s) ts z
    · exact LS h r
    · exact d7 h
  · exact d7 h
theorem F0 {ts:List Tk} {z:Fs} (h:z.n < ts.length):z.n<=(eR ts z).2.n/\(eR ts z).2.n < ts.length:=by
 unfold eR
 cases aJ 1 gR ts z
 · cases aJ 1 wText ts z
   · exact LS h _
   · have h1:=d7 (k:=1) (w:=wText) h
     have h2:=lP h1.2
     exact ⟨Nat.le_trans h1.1 h2.1,h2.2⟩
 · exact d7 h
theorem zE {ts:List Tk}:∀ (f:Nat) (d:List Int) (z:Fs),z.n < ts.length->z.n<=(gI ts f d z).2.n/\(gI ts f d z).2.n < ts.length
 | 0,d,z,h=>⟨Nat.le_refl _,h⟩
 | f + 1,d,z,h=>by
  rw [lB]
  cases aJ 1 b8 ts z
  · exact ⟨Nat.le_refl _,h⟩
  · have h1:=d7 (k:=1) (w:=b8) h
    have h2:=lP h1.2
    have h3:=tO h2.2
    have h4:=zE f (d ++ [dS ts (aQ 1 b8 ts z)]) _ h3.2
    rw [aO]
    omega
theorem FZ {ts:List Tk} {z:Fs} (h:z.n < ts.length):z.n<=(gV ts z).2.n/\(gV ts z).2.n < ts.length:=by
 have h1:=zE (ts.length + 1) [] z h
 have h2:=F0 h1.2
 exact ⟨Nat.le_trans h1.1 h2.1,h2.2⟩
theorem tK (d:List Int) (s:Int) (t:Ty):a6 (d ++ [s]) t=a6 d (.mk 5 s (mk []) [t]):=by simp [a6]
theorem G4:Meets Tryz.prog 55 (BS gV):=by
 refine aF Tryz.func55 aBW 1 (by rw [Tryz.ntmps55]; decide) (aA CJ (aA (M3 uW) (aA lO (aA OU (aB _))))) (fun av H K h=>by obtain ⟨_,_,_,rfl,_⟩:=h; rfl) ?_
 rintro av H K ⟨o,ts,z0,rfl,rfl,ht,hn0,hK⟩
 have hK:K (.va (.gs (aP (gV ts z0).1))) (pH o ts (gV ts z0).2):=hK
 have hle:=ht.e.le
 unfold gV at hK
 simp (maxSteps:=9^6) -dsimp only [go_sem,T9,QT]
 refine cL (α:=Nat × List Int × Fs) (fun x=>[(0,.va (.c1 (.pt 0 0))),(2,.va (.c1 (.pt 4 0))),(3,.va (.c1 (.pt 5 0))),(4,.va (.c1 (.sl 6 x.2.1.length)))])
  (fun x=>[pB o x.2.2.bad x.2.2.off,dW 123 ts x.2.2.n,.row o.es 62 3,.row o.ss 56 2,.cells [.vl (.int .i64 0),.vl (.int .i64 0),.vl (.string (mk [])),.vl (.slice none 0 0)] 37,.cells [.vl (.int .i64 0),.vl (.int .i64 0),.vl (.string (mk [])),.vl (.slice none 0 0)] 37,.row (x.2.1.map iQ) 3 1])
  (fun x=>x.2.2.n < ts.length/\x.2.1.length + x.1<=ts.length + 1/\ts.length < x.2.2.n + x.1/\gI ts x.1 x.2.1 x.2.2=gI ts (ts.length + 1) [] z0)
  (fun x=>x.1) (.nil 4 3 1 rfl (gT (ts.length + 1,[],z0) 7 ⟨hn0,by simp,by simp only; omega,rfl⟩ ?_ ?_)) ?_
 · simp -dsimp only [go_sem]<;>simp
 · simp -dsimp only [go_sem]<;>simp
 rintro ⟨f,d,z⟩ ⟨h1,h2,h3,h4⟩
 simp only at h1 h2 h3 h4
 obtain ⟨f,rfl⟩:∃ g,f=g + 1:=⟨f - 1,by omega⟩
 rw [lB] at h4
 simp (maxSteps:=9^6) -dsimp only [go_sem]
 refine f8 ht h1 ?_
 rw [show bl (mk [108,105,115,116])=b8 from rfl]
 cases hl:aJ 1 b8 ts z with
 | true=>
  rw [hl,aO] at h4
  obtain ⟨g1,g2,g3⟩:=kV (by decide) ht.e h1 hl
  have e1:aQ 1 b8 ts z=⟨false,z.off,z.n + 1⟩:=by unfold aQ; rw [hl,g1]; rfl
  rw [e1] at h4 ⊢
  simp (maxSteps:=9^6) -dsimp only [go_sem]
  have hb:=lP (z:=⟨false,z.off,z.n + 1⟩) g2
  refine D3 (z:=⟨false,z.off,z.n + 1⟩) ht g2 ?_
  generalize dS ts ⟨false,z.off,z.n + 1⟩=v at *
  generalize dV ts ⟨false,z.off,z.n + 1⟩=z1 at *
  simp only at hb
  simp (maxSteps:=9^6) -dsimp only [go_sem]
  have nxtl:∀ z2:Fs,z1.n<=z2.n->z2.n < ts.length->hZ ts z1=z2->z2.n < ts.length/\(d ++ [v]).length + f<=ts.length + 1/\ts.length < z2.n + f/\gI ts f (d ++ [v]) z2=gI ts (ts.length + 1) [] z0:=fun z2 q1 q2 q3=>by
   subst q3
   refine ⟨q2,?_,by omega,h4⟩
   rw [List.length_append,List.length_singleton]; omega
  clear h4
  refine ⟨by omega,aX rfl (.done ?_)⟩
  obtain ⟨b1,o1,n1⟩:=z1
  simp only at hb nxtl
  cases b1 with
  | true=>
   simp (maxSteps:=9^6) -dsimp only [go_sem,vU]
   refine aD (f,d ++ [v],⟨true,o1,n1⟩) 7 (nxtl _ (Nat.le_refl _) hb.2 (by simp [hZ,aJ,bB])) (by simp) ?_ ?_
   · simp -dsimp only [go_sem]<;>simp
   · simp -dsimp only [go_sem]<;>simp
  | false=>
  simp (maxSteps:=9^6) -dsimp only [go_sem,vU]
  refine f8 (z:=⟨false,o1,n1⟩) ht hb.2 ?_
  rw [show bl (mk [111,102])=xK from rfl]
  cases hw:aJ 1 xK ts ⟨false,o1,n1⟩ with
  | true=>
   have e2:aQ 1 xK ts ⟨false,o1,n1⟩=⟨false,o1,dR ts n1⟩:=by unfold aQ; rw [hw]; rfl
   rw [e2]
   have g4:=lX hb.2
   simp (maxSteps:=9^6) -dsimp only [go_sem]
   refine aD (f,d ++ [v],⟨false,o1,dR ts n1⟩) 7 (nxtl _ g4.1 g4.2 (by simp [hZ,hw])) (by simp) ?_ ?_
   · simp -dsimp only [go_sem]<;>simp
   · simp -dsimp only [go_sem]<;>simp
  | false=>
   rw [fL hw]
   simp (maxSteps:=9^6) -dsimp only [go_sem]
   refine gH (z:=⟨false,o1,n1⟩) ht hb.2 ?_
   simp (maxSteps:=9^6) -dsimp only [go_sem]
   refine aD (f,d ++ [v],bB ts ⟨false,o1,n1⟩) 7 (nxtl _ (by rw [fM]; exact Nat.le_refl _) (by rw [fM]; exact hb.2) (by simp [hZ,hw])) (by simp) ?_ ?_
   · simp -dsimp only [go_sem]<;>simp
   · simp -dsimp only [go_sem]<;>simp
 | false=>
  rw [hl,aH] at h4
  rw [<-h4] at hK
  rw [fL hl]
  simp (maxSteps:=9^6) -dsimp only [go_sem]
  refine aX rfl (.done ?_)
  simp (maxSteps:=9^6) -dsimp only [go_sem,A8]
  refine CP ht h1 ?_
  simp only at hK
  generalize eR ts z=r at *
  obtain ⟨t,z'⟩:=r
  simp only at hK
  simp (maxSteps:=9^6) -dsimp only [go_sem,aY t]
  refine aX rfl (.done ?_)
  simp (maxSteps:=9^6) -dsimp only [go_sem,A3]
  refine ⟨by omega,?_⟩
  refine a7 (α:=Nat × Ty) (fun x=>[(2,.va (.c1 (.pt 4 0))),(3,.va (.c1 (.pt 5 0))),(4,.va (.c1 (.sl 6 d.length))),(5,iS .i64 ((x.1:Int) - 1))])
   (fun x=>[pB o z'.bad z'.off,dW 123 ts z'.n,.row o.es 62 3,.row o.ss 56 2,.cells [.vl (.int .i64 0),.vl (.int .i64 0),.vl (.string (mk [])),.vl (.slice none 0 0)] 37,.cells [.vl (.int .i64 x.2.k),.vl (.int .i64 x.2.s),.vl (.string x.2.n),.fz (x.2.e.map aP)] 37,.row (d.map iQ) 3 1])
   (fun x=>x.1<=d.length/\a6 (d.take x.1) x.2=a6 d t) (fun x=>x.1) (d.length,t) 7 ⟨Nat.le_refl _,by rw [List.take_length]⟩ ?_ ?_ ?_
  · simp -dsimp only [go_sem]<;>simp
  · simp -dsimp only [go_sem]<;>simp
  rintro ⟨m,u⟩ ⟨hm,hu⟩
  simp only at hm hu
  cases m with
  | zero=>
   have g0:decide ((0:Int)<=((0:Nat):Int) - 1)=false:=rfl
   simp (maxSteps:=9^6) -dsimp only [go_sem,g0]
   refine aX rfl (.done ?_)
   simp (maxSteps:=9^6) -dsimp only [go_sem,xD]
   refine .sel [0,1,2,3] (by simp) (by simp) rfl (.done ?_)
   simp (maxSteps:=9^6) -dsimp only [go_sem]
   have e:u=a6 d t:=hu
   rw [aY,<-e] at hK
   exact hK
  | succ m=>
   have g0:decide ((0:Int)<=(m:Int))=true:=decide_eq_true (by omega)
   have em:((m + 1:Nat):Int) - 1=(m:Int):=by omega
   obtain ⟨s,hx⟩:∃ s,d[m]? = some s:=⟨_,a8 (by omega)⟩
   have htk:d.take (m + 1)=d.take m ++ [s]:=by rw [List.take_add_one,hx]; rfl
   rw [htk,tK] at hu
   simp (maxSteps:=9^6) -dsimp only [go_sem,g0,em]
   refine ⟨⟨by omega,by omega⟩,by omega,fun x hx'=>?_⟩
   obtain rfl:s=x:=aZ (hx.symm.trans hx')
   refine aX rfl (.pub 7 _ _ _ rfl (.done ?_))
   simp (maxSteps:=9^6) -dsimp only [go_sem,v6,b5]
   refine ⟨by omega,aD (m,.mk 5 s (mk []) [u]) 7 ⟨by omega,hu⟩ (by simp) ?_ ?_⟩
   · simp -dsimp only [go_sem,em]<;>simp
   · simp -dsimp only [go_sem,Ty.k,Ty.s,Ty.n,Ty.e,List.map_cons,List.map_nil,aY u]<;>simp
end Go.Proofs.YtgogpogophflhaaGreatDoor
namespace Go.Proofs.YtgogpogophflhaaGreatDoor
open Go.W
attribute [-go_sem] d6 f9 eA iL eX
def oL (ts:List Tk) (z:Fs):Fs:=eF false ts (bN [61] ts (bM false ts z))
def l8 (ts:List Tk):Nat->List ByteArray->List Int->Fs->(List ByteArray × List Int) × Fs
 | 0,a,b,z=>((a,b),z)
 | f + 1,a,b,z=>bif z.bad then ((a,b),z) else
  bif aJ 4 [44] ts (oL ts z) then l8 ts f (a ++ [bZ false ts z]) (b ++ [eL false ts (bN [61] ts (bM false ts z))]) (aQ 4 [44] ts (oL ts z))
  else ((a ++ [bZ false ts z],b ++ [eL false ts (bN [61] ts (bM false ts z))]),oL ts z)
theorem sF (ts:List Tk) (f:Nat) (a:List ByteArray) (b:List Int) (z:Fs):l8 ts (f + 1) a b z=bif z.bad then ((a,b),z) else
 bif aJ 4 [44] ts (oL ts z) then l8 ts f (a ++ [bZ false ts z]) (b ++ [eL false ts (bN [61] ts (bM false ts z))]) (aQ 4 [44] ts (oL ts z))
 else ((a ++ [bZ false ts z],b ++ [eL false ts (bN [61] ts (bM false ts z))]),oL ts z):=rfl
def g9 (ts:List Tk) (z:Fs):En × Fs:=
 (⟨bZ true ts z,(l8 ts (ts.length + 1) [] [] (bN [123] ts (bM true ts z))).1.1,(l8 ts (ts.length + 1) [] [] (bN [123] ts (bM true ts z))).1.2⟩,bN [125] ts (l8 ts (ts.length + 1) [] [] (bN [123] ts (bM true ts z))).2)
theorem MY {ts:List Tk} {z:Fs} (h:z.n < ts.length):z.n<=(oL ts z).n/\(oL ts z).n < ts.length:=by
 have h1:=eH (c:=false) h
 have h2:=cK (w:=[61]) h1.2
 have h3:=kN (c:=false) h2.2
 unfold oL
 omega
theorem M1 {ts:List Tk}:∀ (f:Nat) (a:List ByteArray) (b:List Int) (z:Fs),z.n < ts.length->z.n<=(l8 ts f a b z).2.n/\(l8 ts f a b z).2.n < ts.length
 | 0,a,b,z,h=>⟨Nat.le_refl _,h⟩
 | f + 1,a,b,z,h=>by
  rw [sF]
  cases z.bad
  · have h1:=MY h
    cases aJ 4 [44] ts (oL ts z)
    · exact h1
    · have h2:=d7 (k:=4) (w:=[44]) h1.2
      have h3:=M1 f (a ++ [bZ false ts z]) (b ++ [eL false ts (bN [61] ts (bM false ts z))]) _ h2.2
      rw [aH,aO]
      omega
  · exact ⟨Nat.le_refl _,h⟩
theorem NA {ts:List Tk} {z:Fs} (h:z.n < ts.length):z.n<=(g9 ts z).2.n/\(g9 ts z).2.n < ts.length:=by
 have h1:=eH (c:=true) h
 have h2:=cK (w:=[123]) h1.2
 have h3:=M1 (ts.length + 1) [] [] _ h2.2
 have h4:=cK (w:=[125]) h3.2
 unfold g9
 simp only
 omega
def EW:W.Spec:=lN [] (fun ts z=>.va (.gs (bC (g9 ts z).1))) fun ts z=>(g9 ts z).2
theorem RW {o:Po} {ts:List Tk} {z:Fs} {K:S->Hp->Prop} (h1:Tks ts) (h2:z.n < ts.length) (hK:K (.va (.gs (bC (g9 ts z).1))) (pH o ts (g9 ts z).2)):EW [.va (.c1 (.pt 0 0))] (pH o ts z) K:=gZ (V:=fun ts z=>.va (.gs (bC (g9 ts z).1))) (F:=fun ts z=>(g9 ts z).2) h1 h2 hK
theorem TO:Meets Tryz.prog 39 EW:=by
 refine aF Tryz.func39 aBH 1 (by rw [Tryz.ntmps39]; decide) (aA zQ (aA tH (aA uW (aA MH (aB _))))) (fun av H K h=>by obtain ⟨_,_,_,rfl,_⟩:=h; rfl) ?_
 rintro av H K ⟨o,ts,z0,rfl,rfl,ht,hn0,hK⟩
 have hK:K (.va (.gs (bC (g9 ts z0).1))) (pH o ts (g9 ts z0).2):=hK
 have hle:=ht.e.le
 unfold g9 at hK
 simp (maxSteps:=9^6) -dsimp only [go_sem,UG,GE]
 refine lF ht hn0 ?_
 have hn1:=(eH (c:=true) hn0).2
 simp only at hK
 generalize bZ true ts z0=nm at *
 generalize bM true ts z0=z1 at *
 simp (maxSteps:=9^6) -dsimp only [go_sem]
 refine fW ht hn1 ?_
 rw [show bl (mk [123])=[123] from rfl]
 have hn2:=(cK (w:=[123]) hn1).2
 generalize bN [123] ts z1=z2 at *
 simp (maxSteps:=9^6) -dsimp only [go_sem]
 refine cL (α:=Nat × Bool × List ByteArray × List Int × Fs) (fun x=>[(0,.va (.c1 (.pt 0 0))),(2,.va (.c1 (.pt 4 0))),(3,.va (.c1 (.pt 5 0))),(4,bS x.2.1)])
  (fun x=>[pB o x.2.2.2.2.bad x.2.2.2.2.off,dW 123 ts x.2.2.2.2.n,.row o.es 62 3,.row o.ss 56 2,.cells [.vl (.string (mk [])),.vl (.slice none 0 0),.vl (.slice none 0 0)] 62,.cells [.vl (.string nm),.sl 6 x.2.2.1.length,.sl 7 x.2.2.2.1.length] 62,.row (x.2.2.1.map cQ) 9 1,.row (x.2.2.2.1.map iQ) 3 1])
  (fun x=>x.2.2.2.2.n < ts.length/\x.2.2.1.length + x.1<=ts.length + 1/\x.2.2.2.1.length + x.1<=ts.length + 1/\(x.2.1=true->ts.length < x.2.2.2.2.n + x.1)/\(bif x.2.1 then l8 ts x.1 x.2.2.1 x.2.2.2.1 x.2.2.2.2 else ((x.2.2.1,x.2.2.2.1),x.2.2.2.2))=l8 ts (ts.length + 1) [] [] z2)
  (fun x=>x.1) (.nilc 5 1 9 1 _ _ rfl rfl (.nilc 5 2 3 1 _ _ rfl rfl (gT (ts.length + 1,true,[],[],z2) 8 ⟨hn2,by simp,by simp,fun _=>by simp only; omega,rfl⟩ ?_ ?_))) ?_
 · simp -dsimp only [go_sem]<;>simp
 · simp -dsimp only [go_sem]<;>simp
 rintro ⟨f,m,a,b,z⟩ ⟨h1,h2,h2',h3,h4⟩
 simp only at h1 h2 h2' h3 h4
 have fin:l8 ts (ts.length + 1) [] [] z2=((a,b),z)->vc [(83,Entry.s qP),(37,Entry.s kY),(36,Entry.s lK),(84,Entry.s tT)] 4 pc39_9.ungh
  (cN [(0,.va (.c1 (.pt 0 0))),(2,.va (.c1 (.pt 4 0))),(3,.va (.c1 (.pt 5 0)))]) [pB o z.bad z.off,dW 123 ts z.n,.row o.es 62 3,.row o.ss 56 2,.cells [.vl (.string (mk [])),.vl (.slice none 0 0),.vl (.slice none 0 0)] 62,.cells [.vl (.string nm),.sl 6 a.length,.sl 7 b.length] 62,.row (a.map cQ) 9 1,.row (b.map iQ) 3 1] (eB 4 GE K):=fun e=>by
  rw [e] at hK
  simp (maxSteps:=9^6) -dsimp only [go_sem,pc39_9,GE]
  refine fW ht h1 ?_
  rw [show bl (mk [125])=[125] from rfl]
  simp (maxSteps:=9^6) -dsimp only [go_sem]
  refine .pub 6 _ _ _ rfl (.pub 7 _ _ _ rfl (.sel [0,1,2,3] (by simp) (by simp [b5]) rfl (.done ?_)))
  simp (maxSteps:=9^6) -dsimp only [go_sem,b5]
  exact hK
 cases m with
 | false=>
  rw [aH] at h4
  simp (maxSteps:=9^6) -dsimp only [go_sem]
  refine bK 8 (fin h4.symm) ?_ ?_
  · simp -dsimp only [go_sem]<;>simp
  · simp -dsimp only [go_sem]<;>simp
 | true=>
  rw [aO] at h4
  have h3:=h3 rfl
  obtain ⟨f,rfl⟩:∃ g,f=g + 1:=⟨f - 1,by omega⟩
  rw [sF] at h4
  obtain ⟨bb,oo,n⟩:=z
  cases bb with
  | true=>
   rw [aO] at h4
   simp (maxSteps:=9^6) -dsimp only [go_sem]
   refine bK 8 (fin h4.symm) ?_ ?_
   · simp -dsimp only [go_sem]<;>simp
   · simp -dsimp only [go_sem]<;>simp
  | false=>
   clear fin
   rw [aH] at h4
   simp (maxSteps:=9^6) -dsimp only [go_sem]
   refine lF (z:=⟨false,oo,n⟩) ht h1 ?_
   have g1:=eH (c:=false) (z:=⟨false,oo,n⟩) h1
   unfold oL at h4
   generalize bZ false ts ⟨false,oo,n⟩=w at *
   generalize bM false ts ⟨false,oo,n⟩=y1 at *
   simp (maxSteps:=9^6) -dsimp only [go_sem]
   refine ⟨by omega,aX rfl (.done ?_)⟩
   simp (maxSteps:=9^6) -dsimp only [go_sem,zW]
   refine fW ht g1.2 ?_
   rw [show bl (mk [61])=[61] from rfl]
   have g2:=cK (w:=[61]) g1.2
   generalize bN [61] ts y1=y2 at *
   simp (maxSteps:=9^6) -dsimp only [go_sem]
   refine Gh.done ?_
   simp (maxSteps:=9^6) -dsimp only [go_sem]
   refine rF ht g2.2 ?_
   have g3:=kN (c:=false) g2.2
   generalize eL false ts y2=v at *
   generalize eF false ts y2=y3 at *
   simp (maxSteps:=9^6) -dsimp only [go_sem]
   refine ⟨by omega,aX rfl (.done ?_)⟩
   simp (maxSteps:=9^6) -dsimp only [go_sem,BB]
   refine wF ht g3.2 ?_
   rw [show bl (mk [44])=[44] from rfl]
   cases hc:aJ 4 [44] ts y3 with
   | true=>
    obtain ⟨q1,q2,q3⟩:=kV (by decide) ht.e g3.2 hc
    have e1:aQ 4 [44] ts y3=⟨false,y3.off,y3.n + 1⟩:=by unfold aQ; rw [hc,q1]; rfl
    rw [hc,aO,e1] at h4
    rw [e1]
    simp (maxSteps:=9^6) -dsimp only [go_sem]
    refine aD (f,true,a ++ [w],b ++ [v],⟨false,y3.off,y3.n + 1⟩) 8 ⟨q2,?_,?_,?_,h4⟩ (by simp) ?_ ?_
    · simp only [List.length_append,List.length_singleton]; omega
    · simp only [List.length_append,List.length_singleton]; omega
    · intro _
      simp only at g1 h3 ⊢
      omega
    · simp -dsimp only [go_sem]<;>simp
    · simp -dsimp only [go_sem]<;>simp
   | false=>
    rw [hc,aH] at h4
    rw [fL hc]
    simp (maxSteps:=9^6) -dsimp only [go_sem]
    refine aD (f,false,a ++ [w],b ++ [v],y3) 8 ⟨g3.2,?_,?_,fun h=>(by cases h),h4⟩ (by simp) ?_ ?_
    · simp only [List.length_append,List.length_singleton]; omega
    · simp only [List.length_append,List.length_singleton]; omega
    · simp -dsimp only [go_sem]<;>simp
    · simp -dsimp only [go_sem]<;>simp
end Go.Proofs.YtgogpogophflhaaGreatDoor
namespace Go.Proofs.YtgogpogophflhaaGreatDoor
open Go.W
attribute [-go_sem] d6 f9 eA iL eX
def LC (ts:List Tk) (z:Fs):Fs:=bN [58] ts (bM false ts (eF false ts z))
def ML (ts:List Tk) (z:Fs):Fs:=(gV ts (LC ts z)).2
def p8 (ts:List Tk) (z:Fs):Fl × Fs:=(⟨eL false ts z,bZ false ts (eF false ts z),(gV ts (LC ts z)).1,aJ 4 [63] ts (ML ts z)⟩,bN [59] ts (aQ 4 [63] ts (ML ts z)))
def oJ (ts:List Tk):Nat->List Fl->Fs->List Fl × Fs
 | 0,l,z=>(l,z)
 | f + 1,l,z=>bif z.bad then (l,z) else bif aJ 4 [125] ts z then (l,aQ 4 [125] ts z) else bif (aN ts z.n).k != 2 then (l,bB ts z) else oJ ts f (l ++ [(p8 ts z).1]) (p8 ts z).2
theorem sE (ts:List Tk) (f:Nat) (l:List Fl) (z:Fs):oJ ts (f + 1) l z=bif z.bad then (l,z) else bif aJ 4 [125] ts z then (l,aQ 4 [125] ts z) else bif (aN ts z.n).k != 2 then (l,bB ts z) else oJ ts f (l ++ [(p8 ts z).1]) (p8 ts z).2:=rfl
def iO (ts:List Tk) (z:Fs):St × Fs:=(⟨bZ true ts z,(oJ ts (ts.length + 1) [] (bN [123] ts (bM true ts z))).1⟩,(oJ ts (ts.length + 1) [] (bN [123] ts (bM true ts z))).2)
theorem RY {c:Bool} {ts:List Tk} {z:Fs} (he:Ends ts) (hn:z.n < ts.length) (h:fN c ts z=true):dR ts z.n=z.n + 1/\z.n + 1 < ts.length/\z.bad=false:=by
 unfold fN at h
 rw [Bool.and_eq_true,Bool.and_eq_true] at h
 obtain ⟨h1,h2,_⟩:=h
 have hb:z.bad=false:=by cases hb:z.bad with
  | false=>rfl
  | true=>rw [hb] at h1; cases h1
 have hne:¬ (z.n + 1=ts.length):=fun e=>by
  have:=(he.last _ _ (dA hn)).2 e
  rw [eq_of_beq h2] at this; cases this
 have hlt:z.n + 1 < ts.length:=by omega
 exact ⟨if_pos hlt,hlt,hb⟩
theorem GP {ts:List Tk} {z:Fs} (h:z.n < ts.length):(eF false ts z).n<=(p8 ts z).2.n/\(p8 ts z).2.n < ts.length:=by
 have h1:=kN (c:=false) h
 have h2:=eH (c:=false) h1.2
 have h3:=cK (w:=[58]) h2.2
 have h4:=FZ h3.2
 have h5:=d7 (k:=4) (w:=[63]) h4.2
 have h6:=cK (w:=[59]) h5.2
 unfold p8 ML LC
 simp only
 omega
theorem K4 {ts:List Tk}:∀ (f:Nat) (l:List Fl) (z:Fs),z.n < ts.length->z.n<=(oJ ts f l z).2.n/\(oJ ts f l z).2.n < ts.length
 | 0,l,z,h=>⟨Nat.le_refl _,h⟩
 | f + 1,l,z,h=>by
  rw [sE]
  cases z.bad
  · cases aJ 4 [125] ts z
    · cases (aN ts z.n).k != 2
      · have h1:=GP h
        have h0:=kN (c:=false) h
        have h3:=K4 f (l ++ [(p8 ts z).1]) _ h1.2
        rw [aH,aH,aH]
        omega
      · rw [aO,aH,aH,fM]; exact ⟨Nat.le_refl _,h⟩
    · exact d7 h
  · exact ⟨Nat.le_refl _,h⟩
theorem MJ {ts:List Tk} {z:Fs} (h:z.n < ts.length):z.n<=(iO ts z).2.n/\(iO ts z).2.n < ts.length:=by
 have h1:=eH (c:=true) h
 have h2:=cK (w:=[123]) h1.2
 have h3:=K4 (ts.length + 1) [] _ h2.2
 unfold iO
 simp only
 omega
def F1:W.Spec:=lN [] (fun ts z=>.va (.gs (aV (iO ts z).1))) fun ts z=>(iO ts z).2
theorem Q8 {o:Po} {ts:List Tk} {z:Fs} {K:S->Hp->Prop} (h1:Tks ts) (h2:z.n < ts.length) (hK:K (.va (.gs (aV (iO ts z).1))) (pH o ts (iO ts z).2)):F1 [.va (.c1 (.pt 0 0))] (pH o ts z) K:=gZ (V:=fun ts z=>.va (.gs (aV (iO ts z).1))) (F:=fun ts z=>(iO ts z).2) h1 h2 hK
theorem I6:Meets Tryz.prog 40 F1:=by
 refine aF Tryz.func40 Y7 1 (by rw [Tryz.ntmps40]; decide) (aA zQ (aA tH (aA uW (aA MH (aA mN (aA lO (aA G4 (aB _)))))))) (fun av H K h=>by obtain ⟨_,_,_,rfl,_⟩:=h; rfl) ?_
 rintro av H K ⟨o,ts,z0,rfl,rfl,ht,hn0,hK⟩
 have hK:K (.va (.gs (aV (iO ts z0).1))) (pH o ts (iO ts z0).2):=hK
 have hle:=ht.e.le
 unfold iO at hK
 simp (maxSteps:=9^6) -dsimp only [go_sem,UD,GM]
 refine lF ht hn0 ?_
 have hn1:=(eH (c:=true) hn0).2
 simp only at hK
 generalize bZ true ts z0=nm at *
 generalize bM true ts z0=z1 at *
 simp (maxSteps:=9^6) -dsimp only [go_sem]
 refine fW ht hn1 ?_
 rw [show bl (mk [123])=[123] from rfl]
 have hn2:=(cK (w:=[123]) hn1).2
 generalize bN [123] ts z1=z2 at *
 simp (maxSteps:=9^6) -dsimp only [go_sem]
 refine cL (α:=Nat × List Fl × Fs) (fun x=>[(0,.va (.c1 (.pt 0 0))),(2,.va (.c1 (.pt 4 0))),(3,.va (.c1 (.pt 5 0)))])
  (fun x=>[pB o x.2.2.bad x.2.2.off,dW 123 ts x.2.2.n,.row o.es 62 3,.row o.ss 56 2,.cells [.vl (.string (mk [])),.vl (.slice none 0 0)] 56,.cells [.vl (.string nm),.sl 6 x.2.1.length] 56,.row (x.2.1.map bU) 64 7])
  (fun x=>x.2.2.n < ts.length/\x.2.1.length + x.1<=ts.length + 1/\ts.length < x.2.2.n + x.1/\oJ ts x.1 x.2.1 x.2.2=oJ ts (ts.length + 1) [] z2)
  (fun x=>x.1) (.nilc 5 1 64 7 _ _ rfl rfl (gT (ts.length + 1,[],z2) 7 ⟨hn2,by simp,by simp only; omega,rfl⟩ ?_ ?_)) ?_
 · simp -dsimp only [go_sem]<;>simp
 · simp -dsimp only [go_sem]<;>simp
 rintro ⟨f,l,z⟩ ⟨h1,h2,h3,h4⟩
 simp only at h1 h2 h3 h4
 obtain ⟨f,rfl⟩:∃ g,f=g + 1:=⟨f - 1,by omega⟩
 rw [sE] at h4
 have fin:∀ z',oJ ts (ts.length + 1) [] z2=(l,z')->vc [(83,Entry.s qP),(37,Entry.s kY),(36,Entry.s lK),(84,Entry.s tT),(38,Entry.s (d6 123)),(35,Entry.s k9),(55,Entry.s (BS gV))] 4 pc40_12.ungh
  (cN [(0,.va (.c1 (.pt 0 0))),(2,.va (.c1 (.pt 4 0))),(3,.va (.c1 (.pt 5 0)))]) [pB o z'.bad z'.off,dW 123 ts z'.n,.row o.es 62 3,.row o.ss 56 2,.cells [.vl (.string (mk [])),.vl (.slice none 0 0)] 56,.cells [.vl (.string nm),.sl 6 l.length] 56,.row (l.map bU) 64 7] (eB 4 GM K):=fun z' e=>by
  rw [e] at hK
  simp (maxSteps:=9^6) -dsimp only [go_sem,pc40_12,GM]
  refine .pub 6 _ _ _ rfl (.sel [0,1,2,3] (by simp) (by simp [b5]) rfl (.done ?_))
  simp (maxSteps:=9^6) -dsimp only [go_sem,b5]
  exact hK
 obtain ⟨bb,oo,n⟩:=z
 cases bb with
 | true=>
  rw [aO] at h4
  simp (maxSteps:=9^6) -dsimp only [go_sem]
  refine bK 7 (fin _ h4.symm) ?_ ?_
  · simp -dsimp only [go_sem]<;>simp
  · simp -dsimp only [go_sem]<;>simp
 | false=>
 rw [aH] at h4
 simp (maxSteps:=9^6) -dsimp only [go_sem]
 refine wF (z:=⟨false,oo,n⟩) ht h1 ?_
 rw [show bl (mk [125])=[125] from rfl]
 cases hh:aJ 4 [125] ts ⟨false,oo,n⟩ with
 | true=>
  rw [hh,aO] at h4
  simp (maxSteps:=9^6) -dsimp only [go_sem]
  refine bK 7 (fin _ h4.symm) ?_ ?_
  · simp -dsimp only [go_sem]<;>simp
  · simp -dsimp only [go_sem]<;>simp
 | false=>
 rw [hh,aH] at h4
 rw [fL hh]
 simp (maxSteps:=9^6) -dsimp only [go_sem]
 refine aX rfl (.done ?_)
 simp (maxSteps:=9^6) -dsimp only [go_sem,A7]
 refine jF ht.e h1 ?_
 simp only at h4
 cases hk:(aN ts n).k != 2 with
 | true=>
  rw [hk,aO] at h4
  simp (maxSteps:=9^6) -dsimp only [go_sem,cI,hk]
  refine gH (z:=⟨false,oo,n⟩) ht h1 ?_
  simp (maxSteps:=9^6) -dsimp only [go_sem]
  refine bK 7 (fin _ h4.symm) ?_ ?_
  · simp -dsimp only [go_sem]<;>simp
  · simp -dsimp only [go_sem]<;>simp
 | false=>
 rw [hk,aH] at h4
 clear fin
 simp (maxSteps:=9^6) -dsimp only [go_sem,cI,hk]
 refine aX rfl (.done ?_)
 simp (maxSteps:=9^6) -dsimp only [go_sem,CG]
 have hnu:fN false ts ⟨false,oo,n⟩=true:=by unfold fN; rw [bne_eq_false_iff_eq] at hk; simp [hk]
 obtain ⟨q1,q2,_⟩:=RY ht.e h1 hnu
 have q1:dR ts n=n + 1:=q1
 have hz1:eF false ts ⟨false,oo,n⟩=⟨false,oo,n + 1⟩:=by unfold eF; rw [hnu]; simp [q1]
 have hgo:=GP h1
 rw [hz1] at hgo
 simp only at hgo
 unfold p8 ML LC at h4 hgo
 rw [hz1] at h4 hgo
 refine rF (z:=⟨false,oo,n⟩) ht h1 ?_
 rw [hz1]
 generalize eL false ts ⟨false,oo,n⟩=v at *
 simp (maxSteps:=9^6) -dsimp only [go_sem]
 refine lF (z:=⟨false,oo,n + 1⟩) ht q2 ?_
 have g1:=eH (c:=false) (z:=⟨false,oo,n + 1⟩) q2
 generalize bZ false ts ⟨false,oo,n + 1⟩=w at *
 generalize bM false ts ⟨false,oo,n + 1⟩=y1 at *
 simp (maxSteps:=9^6) -dsimp only [go_sem]
 refine aX rfl (.done ?_)
 simp (maxSteps:=9^6) -dsimp only [go_sem,B6]
 refine fW ht g1.2 ?_
 rw [show bl (mk [58])=[58] from rfl]
 have g2:=cK (w:=[58]) g1.2
 generalize bN [58] ts y1=y2 at *
 simp (maxSteps:=9^6) -dsimp only [go_sem]
 refine aX rfl (.done ?_)
 simp (maxSteps:=9^6) -dsimp only [go_sem,BM]
 refine CP ht g2.2 ?_
 have g3:=FZ g2.2
 generalize gV ts y2=r at *
 obtain ⟨t,y3⟩:=r
 simp only at h4 hgo g3 ⊢
 simp (maxSteps:=9^6) -dsimp only [go_sem,aY t]
 refine aX rfl (.done ?_)
 simp (maxSteps:=9^6) -dsimp only [go_sem,AC]
 refine wF ht g3.2 ?_
 rw [show bl (mk [63])=[63] from rfl]
 have g4:=d7 (k:=4) (w:=[63]) g3.2
 generalize aJ 4 [63] ts y3=op at *
 generalize aQ 4 [63] ts y3=y4 at *
 simp (maxSteps:=9^6) -dsimp only [go_sem]
 refine aX rfl (.done ?_)
 simp (maxSteps:=9^6) -dsimp only [go_sem,wZ]
 refine fW ht g4.2 ?_
 rw [show bl (mk [59])=[59] from rfl]
 have g5:=cK (w:=[59]) g4.2
 generalize bN [59] ts y4=y5 at *
 simp (maxSteps:=9^6) -dsimp only [go_sem]
 refine aX rfl (.done ?_)
 simp (maxSteps:=9^6) -dsimp only [go_sem,wL]
 refine ⟨by omega,aD (f,l ++ [⟨v,w,t,op⟩],y5) 7 ⟨g5.2,?_,?_,h4⟩ (by simp) ?_ ?_⟩
 · simp only [List.length_append,List.length_singleton]; omega
 · simp only at g1 h3 ⊢; omega
 · simp -dsimp only [go_sem]<;>simp
 · simp -dsimp only [go_sem,bU]<;>simp
end Go.Proofs.YtgogpogophflhaaGreatDoor
namespace Go.W
open Go.RowKit
structure Stay (w w':World):Prop where
 os:w'.os=w.os
 out:w'.output=w.output
 size:w.heap.size<=w'.heap.size
 keep:∀ b:Nat,b < w.heap.size->w'.heap[b]? = w.heap[b]?
theorem Stay.kept {w w':World} (h:Stay w w') (may:MemPlace->Prop):w.keptBut w' may:=by
 refine ⟨h.os,h.out,fun i hi=>?_⟩
 rw [h.keep i hi]
 split
 · rename_i h1 h2; rw [h1] at h2; cases h2; exact ⟨rfl,rfl,rfl,fun _ _=>rfl⟩
 · rename_i h1 h2; rw [h1] at h2; cases h2; exact Or.inr ⟨rfl,rfl⟩
 · rfl
theorem Stay.frozen {w w':World} (h:Stay w w') {a:Addr} (ha:a.block < w.heap.size):w'.frozen? a=w.frozen? a:=by
 unfold World.frozen?; rw [h.keep _ ha]
theorem Stay.cell {w w':World} (h:Stay w w') {a:Addr} (ha:a.block < w.heap.size):w'.cell? a=w.cell? a:=by
 unfold World.cell?; rw [h.keep _ ha]
theorem PM {w:World} {ro:RO} (h:∀ (b off:Nat) (v:Value),ro b off=some v->w.cell? ⟨b,off,none⟩=some v) (hz:∀ b,ro.st b=0):Rel ⟨w,cZ [],ro,gm []⟩ [] ro w where
 own:=fun n g blk h=>by simp at h
 inj:=fun n m gn gm bn bm b h=>by simp at h
 apart:=fun b off v _ n g blk h=>by simp at h
 rd:=fun b off v hv=>⟨h b off v hv,fun q=>absurd (hz b) q⟩
 ro0:=fun _ _ _ h=>⟨h,rfl⟩
 rob:=fun b off v h=>.inl h
 par:=fun n b g blk h=>by simp at h
 gx:=.refl _
 sz:=Nat.le_refl _
 keep:=fun b _ _=>rfl
 os:=rfl
 tape:=rfl
 output:=rfl
theorem Meets.run {P:Program} {f:FuncId} {s:Fun} (hm:Meets P f s.sp) {av:List S} {vs:List Value} {ro:RO} {w:World} {x:A} (hpre:s.pre av) (hval:s.val av=x) (hl:av.length=vs.length)
 (hrel:∀ (i:Nat) (x:S) (v:Value),av[i]? = some x->vs[i]? = some v->x.rel (gm []) ro v) (hro:∀ (b off:Nat) (v:Value),ro b off=some v->w.cell? ⟨b,off,none⟩=some v) (hG:GR P ro w) (hz:∀ b,ro.st b=0:=by intro _; rfl) :
 Calls P f vs.toArray w fun e w'=>∃ v γ ro',e=.returned v/\S.rel γ ro' (.va x) v/\Stay w w':=by
 subst hval
 refine (hm.2 av vs [] ro w (fun r H=>r=.va (s.val av)/\H=[]) hl hrel (PM hro hz) ⟨⟨hpre,rfl⟩,rfl,rfl⟩ hG).mono ?_
 rintro e w' ⟨r,v,E',ro',rfl,h1,⟨rfl,h2⟩,h3⟩
 exact ⟨v,_,ro',rfl,h1,h3.os,h3.output,h3.sz,fun b hb=>h3.keep b hb (by simp [cZ])⟩
theorem Meets.yes {P:Program} {f:FuncId} {s:Fun} (hm:Meets P f s.sp) {av:List S} {vs:List Value} {ro:RO} {w:World} (hpre:s.pre av) (hval:s.val av=.c1 (.vl (.bool true))) (hl:av.length=vs.length)
 (hrel:∀ (i:Nat) (x:S) (v:Value),av[i]? = some x->vs[i]? = some v->x.rel (gm []) ro v) (hro:∀ (b off:Nat) (v:Value),ro b off=some v->w.cell? ⟨b,off,none⟩=some v) (hG:GR P ro w) (hz:∀ b,ro.st b=0:=by intro _; rfl) :
 Calls P f vs.toArray w fun e w'=>e=.returned (.bool true)/\Stay w w':=by
 refine (hm.run hpre hval hl hrel hro hG hz).mono ?_
 rintro e w' ⟨v,γ,ro',rfl,h1,h2⟩
 have:v=.bool true:=h1
 exact ⟨by rw [this],h2⟩
section
variable {H:Type} {enc:TypeId × Value->H} {P:Program}
theorem AS {f:Func} {s:ChangeSpec} {apart fresh handsOn again:Bool} {W W':World} {args:Array Value} {v:Value} {ds gs:List (DataW H)} {before pa pv:List MemPlace}
 (hW:DataW.Whole enc P f.params.toList s.vars apart W args.toList ds gs before)
 (hres:∀ (b:Nat) (sp:Nat->Bool) (hd:Bool),DataW.TrodAll enc P W' b sp hd f.resultTypes.toList (v.resultList f.resultTypes.size) (s.fn H (ds ++ gs)).results [])
 (hargs:∀ sp:Nat->Bool,(∀ p ∈ before,sp p.block=true)->DataW.TrodAll enc P W' 0 sp true f.params.toList args.toList (s.fn H (ds ++ gs)).args pa)
 (hvars:∀ sp:Nat->Bool,(∀ p ∈ before,sp p.block=true)->DataW.TrodVars enc P W' sp s.vars (s.fn H (ds ++ gs)).vars pv)
 (hps:before=pa ++ pv) (hs:Stay W W')
 (hok:∀ (j:Nat) (t:TypeId) (r:Value),f.resultTypes[j]? = some t->(v.resultList f.resultTypes.size)[j]? = some r->Value.okWide P W' .any 0 t r) :
 s.post enc P f apart fresh handsOn again W args v W':=by
 have hlt:∀ p ∈ before,p.block < W.heap.size:=fun p hp=>hW.lt p hp
 have hsp:∀ p ∈ before,(fun b=>decide (b < W.heap.size)) p.block=true:=fun p hp=>by simpa using hlt p hp
 have hall:∀ p ∈ before,(fun _:Nat=>true) p.block=true:=fun _ _=>rfl
 obtain ⟨_,_,_,_,_,hz,hn⟩:=id hW
 refine ⟨ds,gs,before,[],pa,pv,hW,hres _ _ _,hargs _ hsp,hvars _ hsp,World.keptBut_mono (fun p hp=>⟨hp,.inr ?_⟩) (hs.kept (· ∈ before)),fun _=>⟨hok,_,_,([] ++ pa) ++ pv,
  ⟨[] ++ pa,pv,ChangeShapes.trodAll_append (hargs _ hall) (hres _ _ _),hvars _ hall,rfl,fun b off hp=>?_,fun ha=>?_⟩,fun p hp _=>?_⟩⟩
 · rw [hps,List.mem_append] at hp; exact hp
 · have hb:MemPlace.cell b off ∈ before:=by rw [hps]; simpa using hp
   rw [hs.frozen (hlt _ hb)]
   exact hz b off hb
 · have:=hn ha
   rw [hps] at this
   simpa using this
 · rw [hps]
   simpa using hp
end
def oU:Nat->Code->Option (Code × Code)
 | 0,.seq x y=>some (x,y)
 | n + 1,.seq _ y=>oU n y
 | _,_=>none
def qS:Nat->PC->Option (PC × PC)
 | 0,.seq _ y=>some (.skip,y)
 | n + 1,.seq x y=>(qS n y).map fun t=>(.seq x t.1,t.2)
 | _,_=>none
def pK (Mid:Fr->Hp->Prop) (K:Ex->Fr->Hp->Prop):Ex->Fr->Hp->Prop
 | .n,fr,H=>Mid fr H
 | ex,fr,H=>K ex fr H
section
variable {P:Program} {N:Nat} {nw:Bool} {X:Ctx} {Γ:cO}
theorem GX {h:Hint} {x y:Code} {pc:PC} (hpc:tr P nw N h (.seq x y)=some pc):∃ px py,tr P nw N h x=some px/\tr P nw N h y=some py/\pc=.seq px py:=by
 simp only [tr] at hpc
 split at hpc
 · rename_i px py hx hy; exact ⟨px,py,hx,hy,(aZ hpc).symm⟩
 · cases hpc
theorem AA (hm:MeetsIn P X Γ) {h:Hint} {k0:Nat} (hk0:X.g0.length=k0) {K:Ex->Fr->Hp->Prop} {Mid:Fr->Hp->Prop} {Q:Exit->Act->World->Prop}
 (hQ:∀ ex fr' E' ro' a' w',ex ≠ .n->K ex fr' (hp E')->FRel N (gm E') ro' fr' a'->Rel X E' ro' w'->Q ex.to a' w') :
 ∀ (n:Nat) (c:Code) (pc pre post:PC) (r c2:Code),tr P nw N h c=some pc->oU n c=some (r,c2)->qS n pc=some (pre,post)->
 tr P nw N h c2=some post/\∀ (fr:Fr) (E:Es) (ro:RO) (a:Act) (w:World),FRel N (gm E) ro fr a->Rel X E ro w->vc Γ k0 pre fr (hp E) (pK Mid K)->
  (∀ fr' E' ro' a' w',Mid fr' (hp E')->FRel N (gm E') ro' fr' a'->Rel X E' ro' w'->r.wp P (Exit.then (c2.wp P Q) Q) a' w')->c.wp P Q a w
 | 0,.seq x y,pc,pre,post,r,c2,hpc,hc,hp=>by
  obtain ⟨px,py,hx,hy,rfl⟩:=GX hpc
  simp only [oU,aC,Prod.mk.injEq] at hc
  simp only [qS,aC,Prod.mk.injEq] at hp
  obtain ⟨rfl,rfl⟩:=hc
  obtain ⟨rfl,rfl⟩:=hp
  refine ⟨hy,fun fr E ro a w hf hr hv hmid=>?_⟩
  simp only [vc] at hv
  exact wp_seq (hmid fr E ro a w hv hf hr)
 | n + 1,.seq x y,pc,pre,post,r,c2,hpc,hc,hp=>by
  obtain ⟨px,py,hx,hy,rfl⟩:=GX hpc
  simp only [oU] at hc
  simp only [qS,Option.map_eq_some_iff,Prod.mk.injEq] at hp
  obtain ⟨⟨t1,t2⟩,ht,rfl,rfl⟩:=hp
  obtain ⟨h1,h2⟩:=AA hm hk0 hQ n y py t1 t2 r c2 hy hc ht
  refine ⟨h1,fun fr E ro a w hf hr hv hmid=>?_⟩
  simp only [vc] at hv
  refine wp_seq (nZ hm hk0 x px hx fr E ro a w _ hf hr hv _ ?_)
  intro ex fr' E' ro' a' w' hK hf' hr'
  cases ex with
  | n=>exact h2 fr' E' ro' a' w' hf' hr' hK hmid
  | e id=>exact hQ (.e id) _ _ _ _ _ (by simp) hK hf' hr'
  | r=>exact hQ .r _ _ _ _ _ (by simp) hK hf' hr'
theorem OG {f:FuncId} {o1 o2:Oper} {ST:Array TypeId} {id s d:Nat} {a:Act} {w:World} {v:Value} {Q:Exit->Act->World->Prop} {R:Ending->World->Prop} (h1:o1.op=.move (.tmp s)) (g1:o1.guard=none) (d1:o1.dst=some d)
 (h2:o2.op=.call { callee:=.value (.func f),args:=#[.tmp d],argTypes:=ST }) (g2:o2.guard=none) (hs:a.tmps.getD s undef=v) (hd:d < a.tmps.size) (he:j4 P f=true)
 (hc:Calls P f #[v] w R) (hR:∀ e w',R e w'->∃ u,e=.returned u/\Q .normal ((a.put o1.dst v).put o2.dst u) w'):(Code.region id #[o1,o2] false).wp P Q a w:=by
 refine wp_region_list ?_
 simp only [wpList]
 rw [if_pos (cY g1 _)]
 refine .inl ?_
 have r1:(execOp a.eval o1).run P w=.ok (.value v) w:=by simp [execOp,h1,Act.eval,hs]
 unfold Oper.wp
 rw [r1,Oper.upon_value,if_pos (cY g2 _)]
 refine .inl ?_
 have hv:(a.put o1.dst v).tmps.getD d undef=v:=by
  simp only [Act.put,d1]
  rw [Array.getD_eq_getD_getElem?,Array.getElem?_setIfInBounds_self_of_lt hd]; rfl
 have he':=j1 he #[v] w
 have r2:(execOp (a.put o1.dst v).eval o2).run P w=.ok (.enter f #[v]) w:=by
  simp [execOp,h2,resolve,Act.eval,hv,Deferred.ofValue,invoke,he']
 rw [r2,Oper.upon_enter]
 refine hc.mono fun e w' he=>?_
 obtain ⟨u,rfl,hq⟩:=hR e w' he
 exact hq
end
open Classical in
noncomputable def roG (P:Program) (ro:RO):RO:=⟨fun b off=>if off=0/\∃ x ∈ zG,P.globalNamed x.1=some b then ro b off else none,ro.st⟩
theorem EM (P:Program) (ro:RO):Ext (roG P ro) ro:=fun b off v h=>by
 simp only [roG] at h
 split at h
 · exact ⟨h,rfl⟩
 · cases h
theorem PG {P:Program} {ro:RO} {b off:Nat} {v:Value} (h:roG P ro b off=some v):off=0:=by
 simp only [roG] at h
 split at h
 · rename_i hc; exact hc.1
 · cases h
theorem GR.roG {P:Program} {ro:RO} {w:World} (h:GR P ro w):GR P (roG P ro) w:=fun x hx g hg=>⟨by
 obtain ⟨v,hv⟩:=(h x hx g hg).1
 refine ⟨v,?_⟩
 exact (if_pos ⟨rfl,x,hx,hg⟩).trans hv,(h x hx g hg).2⟩
theorem Rel.nilRo {w:World} {ro ro1:RO} {pb:List Nat} (h:Rel ⟨w,pb,ro,[]⟩ [] ro w) (he:Ext ro1 ro):Rel ⟨w,[],ro1,[]⟩ [] ro1 w where
 own:=fun n g blk h=>by simp at h
 inj:=fun n m gn gm bn bm b h=>by simp at h
 apart:=fun b off v _ n g blk h=>by simp at h
 rd:=fun b off v hv=>by
  have h1:=he b off v hv
  rw [<-h1.2]
  exact h.rd b off v h1.1
 ro0:=.refl _
 rob:=fun b off v h=>.inl h
 par:=fun n b g blk h=>by simp at h
 gx:=.refl _
 sz:=Nat.le_refl _
 keep:=fun b _ _=>rfl
 os:=rfl
 tape:=rfl
 output:=rfl
def yC (w:World) (ro ro':RO):RO:=⟨fun b off=>if b < w.heap.size then ro b off else ro' b off,fun b=>if b < w.heap.size then ro.st b else ro'.st b⟩
theorem Rel.widen {w w':World} {ro ro1 ro':RO} {E':Es} (h:Rel ⟨w,[],ro,[]⟩ [] ro w) (he:Ext ro1 ro) (k:Rel ⟨w,[],ro1,[]⟩ E' ro' w'):Ext ro' (yC w ro ro')/\Rel ⟨w,[],ro,[]⟩ E' (yC w ro ro') w':=by
 have hx:Ext ro' (yC w ro ro'):=fun b off v hv=>by
  simp only [yC]
  rcases k.rob b off v hv with h1 | ⟨h1 | h1,_⟩
  · have h2:=he b off v h1
    have hlt:=h.cell_lt h2.1
    rw [if_pos hlt,if_pos hlt]
    exact ⟨h2.1,h2.2.trans (k.ro0 b off v h1).2.symm⟩
  · have hlt:¬ b < w.heap.size:=Nat.not_lt.2 h1
    rw [if_neg hlt,if_neg hlt]; exact ⟨hv,rfl⟩
  · cases h1
 have hpar:∀ (n b:Nat) (g:Gb) (blk:B),E'[n]? = some (g,blk)->g.ob=some b->blk.live=true->¬ b < w.heap.size:=fun n b g blk h1 h2 h3=>by
  rcases k.par n b g blk h1 h2 h3 with q | q
  · exact Nat.not_lt.2 q
  · cases q
 refine ⟨hx,⟨fun n g blk hn=>?_,k.inj,fun b off v hv n g blk hn hb=>?_,fun b off v hv=>?_,fun b off v hv=>?_,fun b off v hv=>?_,k.par,k.gx,k.sz,k.keep,k.os,k.tape,k.output⟩⟩
 · by_cases hl:blk.live=true
   · exact (k.own n g blk hn).same (.refl _) hx fun _ _=>rfl
   · cases blk<;>simp [B.live] at hl; trivial
 · by_cases hl:blk.live=true
   · have hlt:=hpar n b g blk hn hb hl
     simp only [yC] at hv
     rw [if_neg hlt] at hv
     exact k.apart b off v hv n g blk hn hb
   · simpa using hl
 · simp only [yC] at hv ⊢
   split at hv
   · rename_i hlt
     rw [if_pos hlt]
     exact (h.rd b off v hv).same (k.keep b hlt (by simp))
   · rename_i hlt
     rw [if_neg hlt]
     exact k.rd b off v hv
 · have hlt:=h.cell_lt hv
   simp only [yC]
   rw [if_pos hlt,if_pos hlt]; exact ⟨hv,rfl⟩
 · simp only [yC] at hv ⊢
   split at hv
   · exact .inl hv
   · rename_i hlt
     rw [if_neg hlt]
     rcases k.rob b off v hv with h1 | ⟨_,h2⟩
     · exact absurd (h.cell_lt (he b off v h1).1) hlt
     · exact .inr ⟨.inl (Nat.not_lt.1 hlt),h2⟩
theorem ID {P:Program} {nw:Bool} {Γ:cO} {f:FuncId} {fn:Func} {c r c2:Code} {n:Nat} {pc pre post:PC} {rs:List RV} {h:Hint} (hf:P.funcs[f]? = some fn) (hb:fn.body=some c) (hpc:aT P nw h fn=some (pc,rs))
 (hcut:oU n c=some (r,c2)) (hcp:qS n pc=some (pre,post)) (hm:fC P Γ) {s:Spec} (hlen:∀ az H K,s az H K->az.length<=fn.ntmps) (hH:∀ az H K,s az H K->H=[]/\∀ x ∈ az,∃ v,x=.va (.c1 (.vl v)))
 {Mid:(S->Hp->Prop)->Fr->Hp->Prop} (hs:∀ az K,s az [] K->vc Γ 0 pre (rH az) [] (pK (Mid K) (eB 0 rs K)))
 (hr:∀ (K:S->Hp->Prop) (w0:World) (ro0:RO) (fr:Fr) (E:Es) (ro:RO) (a:Act) (w:World),(∀ b off v,ro0 b off=some v->off=0/\b < w0.heap.size)->Mid K fr (hp E)->FRel fn.ntmps (gm E) ro fr a->Rel ⟨w0,[],ro0,[]⟩ E ro w->GR P ro w->
   ∀ Q:Exit->Act->World->Prop,(∀ fr' E' ro' a' w',vc Γ 0 post fr' (hp E') (eB 0 rs K)->FRel fn.ntmps (gm E') ro' fr' a'->Rel ⟨w0,[],ro0,[]⟩ E' ro' w'->Q .normal a' w')->r.wp P Q a w):Meets P f s:=by
 unfold aT at hpc
 split at hpc
 · cases hpc
 rename_i hnm
 rw [hb] at hpc
 simp only at hpc
 obtain ⟨hpc,hrs⟩:tr P nw fn.ntmps h c=some pc/\l9 P fn.results.toList=some rs:=by
  cases h1:tr P nw fn.ntmps h c with
  | none=>rw [h1] at hpc; cases hpc
  | some p1=>
   cases h2:l9 P fn.results.toList with
   | none=>rw [h1,h2] at hpc; cases hpc
   | some r1=>
    rw [h1,h2] at hpc
    simp only [aC,Prod.mk.injEq] at hpc
    exact ⟨congrArg some hpc.1,congrArg some hpc.2⟩
 refine ⟨by simp [j4,hf,hb,hnm],?_⟩
 intro az vs E ro w K hl hrel hr0 hsp hG
 obtain ⟨hE,hflat⟩:=hH az (hp E) K hsp
 have hE0:E=[]:=by cases E with
  | nil=>rfl
  | cons x r=>simp [hp] at hE
 subst hE0
 have hlN:=hlen az _ K hsp
 have hG1:=hG.roG
 have hr1:Rel ⟨w,[],roG P ro,[]⟩ [] (roG P ro) w:=hr0.nilRo (EM P ro)
 refine calls_of_wp hf hb ?_
 have hfr:FRel fn.ntmps (gm []) (roG P ro) (rH az) { tmps:=vs.toArray ++ Array.replicate (fn.ntmps - vs.toArray.size) undef,defers:=[] }:=by
  refine ⟨by simp; omega,fun i=>?_,rfl⟩
  unfold rH
  rw [List.getD_eq_getElem?_getD]
  cases hi:az[i]? with
  | none=>trivial
  | some x=>
   have hlt:i < vs.length:=by rw [<-hl]; exact (aU.1 hi).1
   have hv:vs[i]? = some vs[i]:=a8 hlt
   have:=hrel i x _ hi hv
   simp only [Option.getD_some]
   have he:(vs.toArray ++ Array.replicate (fn.ntmps - vs.toArray.size) undef).getD i undef=vs[i]:=by
    rw [Array.getD_eq_getD_getElem?,Array.getElem?_append_left (by simpa using hlt)]
    simp [hlt]
   simp only [he]
   obtain ⟨u,rfl⟩:=hflat x (b6 hi)
   exact this
 have fin:∀ fr' E' ro' a' w',qA fr' (hp E') rs (fun l=>Fin 0 K (xV l).nf (hp E'))->FRel fn.ntmps (gm E') ro' fr' a'->Rel ⟨w,[],roG P ro,[]⟩ E' ro' w'->
  a'.defers=[]/\∃ v,(results fn a'.tmps).run P w'=.ok v w'/\∃ r v' E'' ro'',Ending.returned v=.returned v'/\S.rel (gm E'') ro'' r v'/\K r (hp E'')/\Rel ⟨w,cZ [],ro,gm []⟩ E'' ro'' w':=by
  intro fr' E' ro' a' w' h1 h4 h5
  obtain ⟨l,us,h3,hrun,hus⟩:=oZ h4 h5 hrs h1
  refine ⟨h4.defers,(if h:us.toArray.size=1 then us.toArray[0] else .tuple us.toArray),?_,?_⟩
  · simp only [rO,Array.mapM_eq_mapM_toList,Sem.run_bind,Sem.run_map,hrun,Result.andThen_ok,Sem.run_pure]
  · have hrel:(xV l).rel (gm E') ro' (if h:us.toArray.size=1 then us.toArray[0] else .tuple us.toArray):=by
     match l,us,hus with
     | [],us,hus=>have:=hus.nil_inv; subst this; exact ⟨[],rfl,.nil⟩
     | [y],us,hus=>
      obtain ⟨u,m',rfl,hy,hm'⟩:=hus.cons_inv
      have:=hm'.nil_inv
      subst this
      exact hy
     | y :: z :: r,us,hus=>
      have:¬ us.toArray.size=1:=by have:=hus.1; simp at this ⊢; omega
      rw [dif_neg this]
      exact ⟨us,rfl,hus⟩
    obtain ⟨r',E'',ro'',hK,hr',hR⟩:=yG (X:=⟨w,[],roG P ro,[]⟩) rfl h3 rfl (S.rel_nf hrel) h5
    obtain ⟨g1,g2⟩:=hr0.widen (EM P ro) hR
    exact ⟨r',_,E'',_,rfl,S.rel_mono (.refl _) g1 hr',hK,g2⟩
 have hmI:MeetsIn P ⟨w,[],roG P ro,[]⟩ Γ:=⟨hG1,fun x hx g hg hb=>(by cases hb),hm⟩
 have hQ:∀ ex fr' E' ro' a' w',eB 0 rs K ex fr' (hp E')->FRel fn.ntmps (gm E') ro' fr' a'->Rel ⟨w,[],roG P ro,[]⟩ E' ro' w'->bodyPost P fn (fun e w'=>∃ r v E' ro',e=.returned v/\S.rel (gm E') ro' r v/\K r (hp E')/\Rel ⟨w,cZ [],ro,gm []⟩ E' ro' w') ex.to a' w':=by
  intro ex fr' E' ro' a' w' hK h4 h5
  cases ex with
  | n=>exact fin fr' E' ro' a' w' hK h4 h5
  | r=>exact fin fr' E' ro' a' w' hK h4 h5
  | e id=>exact hK.elim
 obtain ⟨q1,q2⟩:=AA hmI (X:=⟨w,[],roG P ro,[]⟩) rfl (K:=eB 0 rs K) (Mid:=Mid K) (Q:=bodyPost P fn _) (fun ex fr' E' ro' a' w' _ hK h4 h5=>hQ ex fr' E' ro' a' w' hK h4 h5) n c pc pre post r c2 hpc hcut hcp
 refine q2 _ [] _ _ _ hfr hr1 (hs az K hsp) fun fr' E' ro' a' w' h1 h2 h3=>?_
 refine hr K w (roG P ro) fr' E' ro' a' w' (fun b off v hv=>⟨PG hv,hr1.cell_lt hv⟩) h1 h2 h3 (hmI.at h3) _ fun fr2 E2 ro2 a2 w2 k1 k2 k3=>?_
 exact nZ hmI (X:=⟨w,[],roG P ro,[]⟩) rfl c2 post q1 fr2 E2 ro2 a2 w2 _ k2 k3 k1 _ hQ
end Go.W
namespace Go.Proofs.YtgogpogophflhaaGreatDoor
open Go.W
theorem v7 {ro:RO} {xs:List (List C)} {v:Value} (h:FzR ro xs v) {i sz:Nat} {r:List C} (hr:xs[i]? = some r) (hz:r.length=sz) (hs:0 < sz) :
 ∃ b off cap,v=.slice (some ⟨b,off,none⟩) xs.length cap/\(ro.st b=0\/(ro.st b=sz/\off % sz=0))/\∀ k c,r[k]? = some c->∃ u,ro b (off + i * sz + k)=some u/\c.fv ro u:=by
 obtain ⟨b,off,cap,rfl,h2⟩:=HL h hr hz
 refine ⟨b,off,cap,rfl,?_,h2⟩
 generalize hv:Value.slice (some ⟨b,off,none⟩) xs.length cap=v at h
 obtain ⟨_,sz',ob,oa,koa,cap',vs,k1,k2,k3,k4,k5,k6,k7,k8⟩:=h
 have hi:i < xs.length:=(aU.1 hr).1
 have hne:xs ≠ []:=fun e=>by subst e; simp at hi
 have hob:=k3 hne
 obtain rfl:=koa hne
 have hmem:=b6 hr
 have hs':sz'=sz:=by rw [<-k1 r hmem,hz]
 subst hs'
 cases ob with
 | none=>simp at hob
 | some y=>
  simp only [oO,Option.map_some,Nat.add_zero,Value.slice.injEq,aC,Addr.mk.injEq] at hv
  obtain ⟨⟨rfl,rfl,_⟩,_,_⟩:=hv
  have hk:0 < r.length:=by omega
  have hfl:xs.flatten[i * sz' + 0]? = some r[0]:=by rw [f6 k1 hi hs,hr]; exact a8 hk
  exact k8 _ _ hfl
theorem vQ {ro ro2:RO} {xs ys:List (List C)} {v:Value} (h:FzR ro xs v) (hl:ys.length=xs.length) (hst:ro2.st=ro.st)
 (hy:∀ (i:Nat) (x y:List C),xs[i]? = some x->ys[i]? = some y->y.length=x.length/\∀ b off cap,v=.slice (some ⟨b,off,none⟩) xs.length cap->(ro.st b=0\/(ro.st b=x.length/\off % x.length=0))->
   ∀ (j:Nat) (c c':C) (u:Value),x[j]? = some c->y[j]? = some c'->ro b (off + i * x.length + j)=some u->c.fv ro u->∃ u',ro2 b (off + i * x.length + j)=some u'/\c'.fv ro2 u'/\c'.shut=true):FzR ro2 ys v:=by
 have hrow:∀ (i:Nat) (x:List C),xs[i]? = some x->0 < x.length->∃ b off cap,v=.slice (some ⟨b,off,none⟩) xs.length cap/\(ro.st b=0\/(ro.st b=x.length/\off % x.length=0))/\∀ k c,x[k]? = some c->∃ u,ro b (off + i * x.length + k)=some u/\c.fv ro u:=
  fun i x hx hp=>v7 h hx rfl hp
 generalize hv:v=v' at h
 obtain ⟨_,sz,ob,oa,koa,cap,vs,k1,k2,k3,k4,k5,k6,k7,k8⟩:=h
 subst hv
 have hz:∀ y ∈ ys,y.length=sz:=fun y hm=>by
  obtain ⟨i,hi⟩:=List.mem_iff_getElem?.1 hm
  have hlt:=(aU.1 hi).1
  have hx:xs[i]? = some xs[i]:=a8 (by omega)
  rw [(hy i _ y hx hi).1]
  exact k1 _ (List.getElem_mem _)
 have hcell:∀ (k:Nat) (c':C),ys.flatten[k]? = some c'->∃ u,ro2 (ob.getD (0,0)).1 ((ob.getD (0,0)).2 + k)=some u/\c'.fv ro2 u/\c'.shut=true:=fun k c' hk=>by
  have hkl:k < ys.length * sz:=by
   have h1:=(aU.1 hk).1
   rwa [iJ _ hz] at h1
  have hsz:0 < sz:=Nat.pos_of_ne_zero fun e=>by subst e; omega
  have hi:k / sz < ys.length:=(Nat.div_lt_iff_lt_mul hsz).2 hkl
  have hj:=Nat.mod_lt k hsz
  have hg:=f6 hz hi hj
  rw [Nat.mul_comm,Nat.div_add_mod,hk] at hg
  have hyi:ys[k / sz]? = some ys[k / sz]:=a8 hi
  have hi':k / sz < xs.length:=by rw [<-hl]; exact hi
  have hxi:xs[k / sz]? = some xs[k / sz]:=a8 hi'
  rw [hyi,Option.bind_some] at hg
  have hxl:(xs[k / sz]).length=sz:=k1 _ (List.getElem_mem _)
  obtain ⟨q1,q2⟩:=hy _ _ _ hxi hyi
  have hxp:0 < (xs[k / sz]).length:=by rw [hxl]; exact hsz
  obtain ⟨b,off,cp,e1,e2,e3⟩:=hrow _ _ hxi hxp
  have hjx:k % sz < (xs[k / sz]).length:=by rw [hxl]; exact hj
  have hxj:(xs[k / sz])[k % sz]? = some ((xs[k / sz])[k % sz]):=a8 hjx
  obtain ⟨u,e4,e5⟩:=e3 _ _ hxj
  obtain ⟨u',f1,f2,f3⟩:=q2 b off cp e1 e2 _ _ _ u hxj hg.symm e4 e5
  have hne:xs ≠ []:=fun e=>by
   rw [e] at hi'
   exact Nat.not_lt_zero _ hi'
  have hob:=k3 hne
  have hoa:=koa hne
  cases ob with
  | none=>simp at hob
  | some y=>
   rw [hoa] at e1
   simp only [oO,Option.map_some,Nat.add_zero,Value.slice.injEq,aC,Addr.mk.injEq] at e1
   obtain ⟨⟨e6,e7,_⟩,_,_⟩:=e1
   refine ⟨u',?_,f2,f3⟩
   simp only [Option.getD_some]
   rw [hxl,Nat.add_assoc,Nat.mul_comm,Nat.div_add_mod] at f1
   rw [e6,e7]; exact f1
 rw [<-hl]
 refine .mk ys sz ob oa (fun hne=>koa fun e=>hne (List.eq_nil_of_length_eq_zero (by rw [hl,e]; rfl))) cap (fun k=>(ro2 (ob.getD (0,0)).1 ((ob.getD (0,0)).2 + k)).getD undef) hz (by rw [hl]; exact k2) (fun hne=>k3 fun e=>hne (List.eq_nil_of_length_eq_zero (by rw [hl,e]; rfl)))
  (fun k c hk=>?_) (fun k u hk=>?_) (fun k zs hk=>?_) (fun c hc=>?_) (fun k c hk=>?_)
 · obtain ⟨u,h1,_,_⟩:=hcell k c hk
   rw [h1]; rfl
 · obtain ⟨u',h1,h2,_⟩:=hcell k _ hk
   have h2:u'=u:=h2
   simp only [h1,Option.getD_some]; exact h2
 · obtain ⟨u',h1,h2,_⟩:=hcell k _ hk
   have h2:FzR ro2 zs u':=h2
   simp only [h1,Option.getD_some]; exact h2
 · obtain ⟨k,hk⟩:=List.mem_iff_getElem?.1 hc
   exact (hcell k c hk).choose_spec.2.2
 · rw [hst]
   have hkl:k < xs.flatten.length:=by
    have h1:=(aU.1 hk).1
    rw [iJ _ hz] at h1
    rw [iJ _ k1,<-hl]; exact h1
   exact k8 k _ (a8 hkl)
structure TyAt (ro:RO) (b off:Nat) (t:Ty):Prop where
 k:ro b off=some (.int .i64 t.k)
 s:ro b (off + 1)=some (.int .i64 t.s)
 n:ro b (off + 2)=some (.string t.n)
 e:∃ v,ro b (off + 3)=some v/\FzR ro (t.e.map aP) v
 st:ro.st b=0\/(ro.st b=4/\off % 4=0)\/(ro.st b=7/\off % 7=2)
theorem G2 {ro:RO} {l:List Ty} {v:Value} {i:Nat} {t:Ty} (h:FzR ro (l.map aP) v) (hi:l[i]? = some t):∃ b off cap,v=.slice (some ⟨b,off,none⟩) l.length cap/\TyAt ro b (off + i * 4) t:=by
 obtain ⟨b,off,cap,h1,h2,h3⟩:=v7 h (i:=i) (sz:=4) (r:=aP t) (by rw [List.getElem?_map,hi]; rfl) (by rw [aY]; rfl) (by decide)
 rw [List.length_map] at h1
 rw [aY] at h3
 obtain ⟨u0,a0,b0⟩:=h3 0 _ rfl
 obtain ⟨u1,a1,b1⟩:=h3 1 _ rfl
 obtain ⟨u2,a2,b2⟩:=h3 2 _ rfl
 obtain ⟨u3,a3,b3⟩:=h3 3 _ rfl
 have b0:u0=_:=b0
 have b1:u1=_:=b1
 have b2:u2=_:=b2
 subst b0 b1 b2
 refine ⟨b,off,cap,h1,a0,a1,a2,⟨u3,a3,b3⟩,?_⟩
 rcases h2 with h2 | ⟨h2,h4⟩
 · exact .inl h2
 · exact .inr (.inl ⟨h2,by omega⟩)
theorem SH {ro:RO} {l:List Fl} {v:Value} {i:Nat} {f:Fl} (h:FzR ro (l.map bU) v) (hi:l[i]? = some f):∃ b off cap,v=.slice (some ⟨b,off,none⟩) l.length cap/\TyAt ro b (off + i * 7 + 2) f.ty:=by
 obtain ⟨b,off,cap,h1,h2,h3⟩:=v7 h (i:=i) (sz:=7) (r:=bU f) (by rw [List.getElem?_map,hi]; rfl) rfl (by decide)
 rw [List.length_map] at h1
 obtain ⟨u0,a0,b0⟩:=h3 2 _ rfl
 obtain ⟨u1,a1,b1⟩:=h3 3 _ rfl
 obtain ⟨u2,a2,b2⟩:=h3 4 _ rfl
 obtain ⟨u3,a3,b3⟩:=h3 5 _ rfl
 have b0:u0=_:=b0
 have b1:u1=_:=b1
 have b2:u2=_:=b2
 subst b0 b1 b2
 refine ⟨b,off,cap,h1,a0,a1,a2,⟨u3,a3,b3⟩,?_⟩
 rcases h2 with h2 | ⟨h2,h4⟩
 · exact .inl h2
 · exact .inr (.inr ⟨h2,by omega⟩)
def wC (ns:List ByteArray) (n:ByteArray):Bool:=ns.any fun m=>decide (m=n)
mutual
def nA (ns:List ByteArray):Ty->Ty
 | .mk k s n e=>bif k == 5 then .mk k s n (F6 ns e) else bif k == 6 && wC ns n then .mk 7 s n e else .mk k s n e
def F6 (ns:List ByteArray):List Ty->List Ty
 | []=>[]
 | t :: r=>nA ns t :: F6 ns r
end
def KT (ns:List ByteArray) (f:Fl):Fl:=⟨f.num,f.nm,nA ns f.ty,f.opt⟩
def mV (ns:List ByteArray) (s:St):St:=⟨s.nm,s.fs.map (KT ns)⟩
def yJ (d:List Int) (t0 t:Ty):Prop:=t=a6 d t0/\t0.k ≠ 5/\t0.e=[]
theorem sD {ns:List ByteArray} {t0:Ty}:∀ d:List Int,nA ns (a6 d t0)=a6 d (nA ns t0)
 | []=>rfl
 | s :: d=>by
  show nA ns (.mk 5 s (mk []) [a6 d t0])=.mk 5 s (mk []) [a6 d (nA ns t0)]
  rw [nA,F6,F6,sD d]; rfl
theorem AV {ns:List ByteArray} {t:Ty} (h:t.k ≠ 5):nA ns t=bif t.k == 6 && wC ns t.n then .mk 7 t.s t.n t.e else t:=by
 cases t with
 | mk k s n e=>
  have h:k ≠ 5:=h
  rw [nA,beq_eq_false_iff_ne.2 h]; rfl
def InA (ro:RO) (t0:Ty):List Int->Nat->Nat->Nat->Nat->Prop
 | [],b,off,b',o'=>(b=b'/\off=o')/\TyAt ro b off t0
 | s :: d,b,off,b',o'=>TyAt ro b off (a6 (s :: d) t0)/\∃ b1 o1 cap,ro b (off + 3)=some (.slice (some ⟨b1,o1,none⟩) 1 cap)/\InA ro t0 d b1 o1 b' o'
theorem AK {ro:RO} {t0:Ty}:∀ (d:List Int) (b off:Nat),TyAt ro b off (a6 d t0)->∃ b' o',InA ro t0 d b off b' o'
 | [],b,off,h=>⟨b,off,⟨rfl,rfl⟩,h⟩
 | s :: d,b,off,h=>by
  obtain ⟨v,h1,h2⟩:=h.e
  have h2:FzR ro ([a6 d t0].map aP) v:=h2
  obtain ⟨b1,o1,cap,rfl,h3⟩:=G2 h2 (i:=0) rfl
  obtain ⟨b',o',h4⟩:=AK d b1 (o1 + 0 * 4) h3
  rw [Nat.zero_mul,Nat.add_zero] at h4
  exact ⟨b',o',h,b1,o1,cap,h1,h4⟩
theorem InA.at {ro:RO} {t0:Ty}:∀ {d:List Int} {b off b' o':Nat},InA ro t0 d b off b' o'->TyAt ro b' o' t0
 | [],b,off,b',o',⟨⟨h1,h2⟩,h⟩=>by subst h1 h2; exact h
 | s :: d,b,off,b',o',⟨_,b1,o1,cap,_,h⟩=>h.at
theorem InA.fst {ro:RO} {t0:Ty}:∀ {d:List Int} {b off b' o':Nat},InA ro t0 d b off b' o'->TyAt ro b off (a6 d t0)
 | [],b,off,b',o',⟨⟨h1,h2⟩,h⟩=>h
 | s :: d,b,off,b',o',⟨h,_⟩=>h
theorem InA.uniq {ro:RO} {t0:Ty}:∀ {d:List Int} {b off b' o' b2 o2:Nat},InA ro t0 d b off b' o'->InA ro t0 d b off b2 o2->b'=b2/\o'=o2
 | [],b,off,b',o',b2,o2,⟨⟨h1,h2⟩,_⟩,⟨⟨h3,h4⟩,_⟩=>⟨h1.symm.trans h3,h2.symm.trans h4⟩
 | s :: d,b,off,b',o',b2,o2,⟨_,b1,o1,cap,e1,h⟩,⟨_,b3,o3,cap3,e2,h2⟩=>by
  rw [e1] at e2
  simp only [aC,Value.slice.injEq,Addr.mk.injEq] at e2
  obtain ⟨⟨rfl,rfl,_⟩,_,_⟩:=e2
  exact h.uniq h2
def iX (ns:List ByteArray) (ro:RO) (a:Nat × Nat):Prop:=
 ro a.1 a.2=some (.int .i64 6)/\(∃ m ∈ ns,ro a.1 (a.2 + 2)=some (.string m))/\((ro.st a.1=4/\a.2 % 4=0)\/(ro.st a.1=7/\a.2 % 7=2))
def mE (L:List (Nat × Nat)) (ro:RO):RO:=⟨fun b off=>if (b,off) ∈ L then some (.int .i64 7) else ro b off,ro.st⟩
theorem dI {L:List (Nat × Nat)} {ro:RO} {b off:Nat} (h:(b,off) ∉ L):mE L ro b off=ro b off:=if_neg h
theorem GT {L:List (Nat × Nat)} {ro:RO} {b off:Nat} (h:(b,off) ∈ L):mE L ro b off=some (.int .i64 7):=if_pos h
section
variable {ns:List ByteArray} {ro:RO} {L:List (Nat × Nat)}
theorem BK {n:ByteArray}:wC ns n=true ↔ n ∈ ns:=by
 unfold wC
 rw [List.any_eq_true]
 constructor
 · rintro ⟨m,h1,h2⟩
   rw [<-of_decide_eq_true h2]; exact h1
 · exact fun h=>⟨n,h,decide_eq_true rfl⟩
theorem DW {xs:List (List C)} {v:Value} (hL:∀ a ∈ L,iX ns ro a) (h:FzR ro xs v) (hz:∀ x ∈ xs,x.length=1) (hv:∀ x ∈ xs,∀ c ∈ x,∃ u,c=.vl u):FzR (mE L ro) xs v:=by
 refine vQ h rfl rfl fun i x y hx hy=>?_
 rw [hx] at hy
 obtain rfl:=aZ hy
 refine ⟨rfl,fun b off cap _ hst j c c' u h1 h2 h3 h4=>?_⟩
 rw [h1] at h2
 obtain rfl:=aZ h2
 have hxm:=b6 hx
 obtain ⟨w,rfl⟩:=hv x hxm c (b6 h1)
 refine ⟨u,?_,h4,rfl⟩
 rw [dI fun hin=>?_]
 · exact h3
 · have:=(hL _ hin).2.2
   rw [hz x hxm] at hst
   simp only at this
   omega
theorem C6 {v:Value} (h:FzR ro [] v):FzR (mE L ro) [] v:=vQ h rfl rfl fun i x y hx=>by simp at hx
structure Ty4 (ro:RO) (b off:Nat) (t:Ty):Prop where
 k:ro b off=some (.int .i64 t.k)
 s:ro b (off + 1)=some (.int .i64 t.s)
 n:ro b (off + 2)=some (.string t.n)
 e:∃ v,ro b (off + 3)=some v/\FzR ro (t.e.map aP) v
theorem Ty4.cell {b off:Nat} {t:Ty} (h:Ty4 ro b off t) {j:Nat} {c:C} (hc:(aP t)[j]? = some c):∃ u,ro b (off + j)=some u/\c.fv ro u/\c.shut=true:=by
 rw [aY] at hc
 match j,hc with
 | 0,hc=>cases hc; exact ⟨_,h.k,rfl,rfl⟩
 | 1,hc=>cases hc; exact ⟨_,h.s,rfl,rfl⟩
 | 2,hc=>cases hc; exact ⟨_,h.n,rfl,rfl⟩
 | 3,hc=>cases hc; obtain ⟨v,h1,h2⟩:=h.e; exact ⟨v,h1,h2,rfl⟩
 | j + 4,hc=>cases hc
theorem tD {b off:Nat} {t:Ty} (hL:∀ a ∈ L,iX ns ro a) (h:TyAt ro b off t):(b,off + 1) ∉ L/\(b,off + 2) ∉ L/\(b,off + 3) ∉ L:=by
 have hs:=h.st
 refine ⟨fun hin=>?_,fun hin=>?_,fun hin=>?_⟩<;>(have:=(hL _ hin).2.2; simp only at this; omega)
theorem G5 {t0:Ty} (hL:∀ a ∈ L,iX ns ro a) (h5:t0.k ≠ 5) (he:t0.e=[]):∀ (d:List Int) (b off b' o':Nat),InA ro t0 d b off b' o'->(t0.k=6->t0.n ∈ ns->(b',o') ∈ L)->Ty4 (mE L ro) b off (a6 d (nA ns t0))
 | [],b,off,b',o',⟨⟨h1,h2⟩,h⟩,hc=>by
  subst h1 h2
  obtain ⟨n1,n2,n3⟩:=tD hL h
  obtain ⟨v,hv,hf⟩:=h.e
  rw [he] at hf
  show Ty4 (mE L ro) b off (nA ns t0)
  rw [AV h5]
  cases hk:t0.k == 6 && wC ns t0.n with
  | true=>
   rw [Bool.and_eq_true] at hk
   have hin:=hc (eq_of_beq hk.1) (BK.1 hk.2)
   exact ⟨GT hin,by rw [dI n1]; exact h.s,by rw [dI n2]; exact h.n,v,by rw [dI n3]; exact hv,by
    show FzR _ (t0.e.map aP) v
    rw [he]; exact C6 hf⟩
  | false=>
   have n0:(b,off) ∉ L:=fun hin=>by
    obtain ⟨m1,⟨m,hm,m2⟩,_⟩:=hL _ hin
    simp only at m1 m2
    rw [h.k] at m1
    rw [h.n] at m2
    have e1:t0.k=6:=by simpa using m1
    have e2:t0.n=m:=by simpa using m2
    rw [e1,e2] at hk
    rw [BK.2 hm] at hk
    cases hk
   exact ⟨by rw [dI n0]; exact h.k,by rw [dI n1]; exact h.s,by rw [dI n2]; exact h.n,v,by rw [dI n3]; exact hv,by
    show FzR _ (t0.e.map aP) v
    rw [he]; exact C6 hf⟩
 | s :: d,b,off,b',o',⟨h,b1,o1,cap,h1,h2⟩,hc=>by
  obtain ⟨n1,n2,n3⟩:=tD hL h
  have n0:(b,off) ∉ L:=fun hin=>by
   have m1:=(hL _ hin).1
   simp only at m1
   rw [h.k] at m1
   have e1:(5:Int)=6:=by
    have:(a6 (s :: d) t0).k=6:=by simpa using m1
    exact this
   cases e1
  have ih:=G5 hL h5 he d b1 o1 b' o' h2 hc
  obtain ⟨v,hv,hf⟩:=h.e
  rw [h1] at hv
  obtain rfl:=aZ hv
  refine ⟨by rw [dI n0]; exact h.k,by rw [dI n1]; exact h.s,by rw [dI n2]; exact h.n,_,by rw [dI n3]; exact h1,?_⟩
  have hf:FzR ro [aP (a6 d t0)] (.slice (some ⟨b1,o1,none⟩) 1 cap):=hf
  show FzR (mE L ro) [aP (a6 d (nA ns t0))] _
  refine vQ hf rfl rfl fun i x y hx hy=>?_
  match i,hx,hy with
  | 0,hx,hy=>
   obtain rfl:=aZ hx
   obtain rfl:=aZ hy
   refine ⟨by rw [aY,aY]; rfl,fun b2 o2 cap2 e2 _ j c c' u k1 k2 k3 k4=>?_⟩
   simp only [Value.slice.injEq,aC,Addr.mk.injEq] at e2
   obtain ⟨⟨rfl,rfl,_⟩,_,_⟩:=e2
   have:=ih.cell k2
   rwa [Nat.zero_mul,Nat.add_zero]
  | i + 1,hx,hy=>cases hx
def FlOk (ns:List ByteArray) (L:List (Nat × Nat)) (ro:RO) (f:Fl) (b off:Nat):Prop:=∃ d t0,yJ d t0 f.ty/\∀ b' o',InA ro t0 d b off b' o'->t0.k=6->t0.n ∈ ns->(b',o') ∈ L
theorem VM {fs:List Fl} {v:Value} (hL:∀ a ∈ L,iX ns ro a) (h:FzR ro (fs.map bU) v) (hc:∀ (i:Nat) (f:Fl) (b off cap:Nat),fs[i]? = some f->v=.slice (some ⟨b,off,none⟩) fs.length cap->FlOk ns L ro f b (off + i * 7 + 2)):FzR (mE L ro) ((fs.map (KT ns)).map bU) v:=by
 refine vQ h (by simp) rfl fun i x y hx hy=>?_
 rw [List.getElem?_map] at hx
 rw [List.map_map,List.getElem?_map] at hy
 cases hf:fs[i]? with
 | none=>rw [hf] at hx; cases hx
 | some f=>
  rw [hf] at hx hy
  obtain rfl:=aZ hx
  obtain rfl:=aZ hy
  refine ⟨rfl,fun b off cap e hst j c c' u k1 k2 k3 k4=>?_⟩
  rw [List.length_map] at e
  have hst:ro.st b=0\/(ro.st b=7/\off % 7=0):=hst
  obtain ⟨b9,o9,c9,e9,hat⟩:=SH h hf
  rw [e] at e9
  simp only [Value.slice.injEq,aC,Addr.mk.injEq] at e9
  obtain ⟨⟨rfl,rfl,_⟩,_,_⟩:=e9
  obtain ⟨d,t0,⟨w1,w2,w3⟩,hin⟩:=hc i f b off cap hf e
  rw [w1] at hat
  obtain ⟨b',o',hA⟩:=AK d _ _ hat
  have h4:=G5 hL w2 w3 d _ _ _ _ hA (hin b' o' hA)
  rw [<-sD,<-w1] at h4
  have e7:(bU f).length=7:=rfl
  rw [e7] at k3 ⊢
  have no:∀ m,m ≠ 2->m < 7->(b,off + i * 7 + m) ∉ L:=fun m hm hm7 hin=>by
   have:=(hL _ hin).2.2
   simp only at this
   omega
  match j,k1,k2,k3 with
  | 0,k1,k2,k3=>cases k1; cases k2; exact ⟨u,by rw [dI (no 0 (by decide) (by decide))]; exact k3,k4,rfl⟩
  | 1,k1,k2,k3=>cases k1; cases k2; exact ⟨u,by rw [dI (no 1 (by decide) (by decide))]; exact k3,k4,rfl⟩
  | 2,k1,k2,k3=>exact h4.cell (j:=0) (c:=c') (by rw [aY]; exact k2)
  | 3,k1,k2,k3=>exact h4.cell (j:=1) (c:=c') (by rw [aY]; exact k2)
  | 4,k1,k2,k3=>exact h4.cell (j:=2) (c:=c') (by rw [aY]; exact k2)
  | 5,k1,k2,k3=>exact h4.cell (j:=3) (c:=c') (by rw [aY]; exact k2)
  | 6,k1,k2,k3=>cases k1; cases k2; exact ⟨u,by rw [dI (no 6 (by decide) (by decide))]; exact k3,k4,rfl⟩
  | j + 7,k1,k2,k3=>cases k1
end
structure Cu (w:World) (L:List (Nat × Nat)) (wr:World):Prop where
 sz:w.heap.size<=wr.heap.size
 cell:∀ b off,b < w.heap.size->wr.cell? ⟨b,off,none⟩=if (b,off) ∈ L then some (.int .i64 7) else w.cell? ⟨b,off,none⟩
 fz:∀ b off,b < w.heap.size->wr.frozen? ⟨b,off,none⟩=w.frozen? ⟨b,off,none⟩
 keep:∀ b,b < w.heap.size->(∀ off,(b,off) ∉ L)->wr.heap[b]? = w.heap[b]?
 os:wr.os=w.os
 tape:wr.tape=w.tape
 output:wr.output=w.output
theorem Cu.refl (w:World):Cu w [] w:=⟨Nat.le_refl _,fun b off _=>by simp,fun _ _ _=>rfl,fun _ _ _=>rfl,rfl,rfl,rfl⟩
theorem Cu.alloc {w wr:World} {L:List (Nat × Nat)} (h:Cu w L wr) (o:Obj):Cu w L (wr.alloc o) where
 sz:=Nat.le_trans h.sz (by simp)
 cell:=fun b off hb=>by rw [World.cell?_alloc_lt wr o ⟨b,off,none⟩ (Nat.lt_of_lt_of_le hb h.sz)]; exact h.cell b off hb
 fz:=fun b off hb=>by
  have hlt:b < wr.heap.size:=Nat.lt_of_lt_of_le hb h.sz
  rw [<-h.fz b off hb]
  unfold World.frozen?
  rw [RowKit.Below.heap_alloc wr o b hlt]
 keep:=fun b hb hl=>by rw [RowKit.Below.heap_alloc wr o b (Nat.lt_of_lt_of_le hb h.sz)]; exact h.keep b hb hl
 os:=h.os
 tape:=h.tape
 output:=h.output
theorem Cu.set {w wr:World} {L:List (Nat × Nat)} (h:Cu w L wr) {b off:Nat} {u:Value} (hb:b < w.heap.size) (hc:w.cell? ⟨b,off,none⟩=some u):Cu w ((b,off) :: L) (wr.setCell ⟨b,off,none⟩ (.int .i64 7)) where
 sz:=by simpa using h.sz
 cell:=fun b' o' hb'=>by
  by_cases e:(b',o')=(b,off)
  · cases e
    have:∃ u',wr.cell? ⟨b,off,none⟩=some u':=by
     rw [h.cell b off hb]
     split
     · exact ⟨_,rfl⟩
     · exact ⟨u,hc⟩
    obtain ⟨u',hu'⟩:=this
    rw [World.cell?_setCell_same wr _ _ hu',if_pos (List.mem_cons_self ..)]
  · rw [World.cell?_setCell_other wr _ _ _ (fun e2=>e (by cases e2; rfl)),h.cell b' o' hb']
    by_cases hin:(b',o') ∈ L
    · rw [if_pos hin,if_pos (List.mem_cons_of_mem _ hin)]
    · rw [if_neg hin,if_neg (fun hm=>by rcases List.mem_cons.1 hm with h1 | h1; exact e h1; exact hin h1)]
 fz:=fun b' o' hb'=>by rw [World.frozen?_setCell]; exact h.fz b' o' hb'
 keep:=fun b' hb' hl=>by
  have hne:b' ≠ b:=fun e=>hl off (by rw [e]; exact List.mem_cons_self ..)
  rw [<-h.keep b' hb' fun o hin=>hl o (List.mem_cons_of_mem _ hin)]
  unfold World.setCell
  simp only [Array.getElem?_modify]
  rw [if_neg (fun e=>hne e.symm)]
 os:=h.os
 tape:=h.tape
 output:=h.output
theorem Cu.no {w wr:World} {L:List (Nat × Nat)} (h:Cu w L wr) {b off:Nat} {u:Value} (hb:b < w.heap.size) (hc:w.cell? ⟨b,off,none⟩=some u) (hn:(b,off) ∉ L):wr.cell? ⟨b,off,none⟩=some u:=by
 rw [h.cell b off hb,if_neg hn]; exact hc
structure Rs (ns:List ByteArray) (ro:RO) (w:World) (es:List En) (ss:List St) (aE aS:Option Nat):Prop where
 rd:∀ b off v,ro b off=some v->b < w.heap.size/\Rd (ro.st b) w b off v
 fr:∀ b off v,ro b off=some v->off ≠ 0->ro.st b ≠ 0
 e:∀ j e,es[j]? = some e->∃ b u1 u2,aE=some b/\b < w.heap.size/\(∀ v off,ro b off ≠ some v)/\w.cell? ⟨b,j * 3,none⟩=some (.string e.nm)/\w.cell? ⟨b,j * 3 + 1,none⟩=some u1/\w.cell? ⟨b,j * 3 + 2,none⟩=some u2/\(∃ o n c,u1=.slice o n c)/\∃ o n c,u2=.slice o n c
 s:∀ i s,ss[i]? = some s->∃ b u,aS=some b/\b < w.heap.size/\(∀ v off,ro b off ≠ some v)/\w.cell? ⟨b,i * 2 + 1,none⟩=some u/\FzR ro (s.fs.map bU) u
 w:∀ s ∈ ss,∀ f ∈ s.fs,∃ d t0,yJ d t0 f.ty
 n:ns=es.map En.nm
def DnF (ns:List ByteArray) (ro:RO) (L:List (Nat × Nat)) (s:St) (u:Value) (m:Nat):Prop:=∀ (k:Nat) (f:Fl) (b off cap:Nat),k < m->s.fs[k]? = some f->u=.slice (some ⟨b,off,none⟩) s.fs.length cap->FlOk ns L ro f b (off + k * 7 + 2)
def DnS (ns:List ByteArray) (ro:RO) (w:World) (L:List (Nat × Nat)) (ss:List St) (aS:Option Nat) (m:Nat):Prop:=∀ (i:Nat) (s:St) (b:Nat) (u:Value),i < m->ss[i]? = some s->aS=some b->w.cell? ⟨b,i * 2 + 1,none⟩=some u->DnF ns ro L s u s.fs.length
theorem FlOk.mono {ns:List ByteArray} {ro:RO} {L L':List (Nat × Nat)} {f:Fl} {b off:Nat} (h:FlOk ns L ro f b off) (hL:∀ a ∈ L,a ∈ L'):FlOk ns L' ro f b off:=by
 obtain ⟨d,t0,h1,h2⟩:=h
 exact ⟨d,t0,h1,fun b' o' k1 k2 k3=>hL _ (h2 b' o' k1 k2 k3)⟩
theorem DnF.mono {ns:List ByteArray} {ro:RO} {L L':List (Nat × Nat)} {s:St} {u:Value} {m:Nat} (h:DnF ns ro L s u m) (hL:∀ a ∈ L,a ∈ L'):DnF ns ro L' s u m:=fun k f b off cap h1 h2 h3=>(h k f b off cap h1 h2 h3).mono hL
theorem DnS.mono {ns:List ByteArray} {ro:RO} {w:World} {L L':List (Nat × Nat)} {ss:List St} {aS:Option Nat} {m:Nat} (h:DnS ns ro w L ss aS m) (hL:∀ a ∈ L,a ∈ L'):DnS ns ro w L' ss aS m:=fun i s b u h1 h2 h3 h4=>(h i s b u h1 h2 h3 h4).mono hL
theorem sG (b k:Nat):aW (some b) k=some ⟨b,k,none⟩:=rfl
theorem QM {ro:RO} {xs:List (List C)} {v:Value} (h:FzR ro xs v):∃ o c,v=.slice o xs.length c:=by cases h; exact ⟨_,_,rfl⟩
theorem Cu.loc {w w1 wr:World} {L:List (Nat × Nat)} {cs:Array Value} {T:TypeId} (h1:w1=w.alloc (.cells cs T)) (hL:∀ a ∈ L,a.1 < w.heap.size) (h:Cu w1 L wr) {j:Nat} {u:Value} (hc:cs[j]? = some u):wr.cell? ⟨w.heap.size,j,none⟩=some u:=by
 subst h1
 refine h.no (by simp) ?_ fun hin=>Nat.lt_irrefl _ (hL _ hin)
 rw [World.cell?_alloc_new]; exact hc
theorem Cu.old {w w1 wr:World} {L:List (Nat × Nat)} {o:Obj} (h1:w1=w.alloc o) (h:Cu w1 L wr):Cu w L wr where
 sz:=by subst h1; exact Nat.le_trans (by simp) h.sz
 cell:=fun b off hb=>by subst h1; rw [h.cell b off (by simp; omega),World.cell?_alloc_lt w o ⟨b,off,none⟩ hb]
 fz:=fun b off hb=>by
  subst h1
  rw [h.fz b off (by simp; omega)]
  unfold World.frozen?
  rw [RowKit.Below.heap_alloc w o b hb]
 keep:=fun b hb hl=>by subst h1; rw [h.keep b (by simp; omega) hl,RowKit.Below.heap_alloc w o b hb]
 os:=by subst h1; exact h.os
 tape:=by subst h1; exact h.tape
 output:=by subst h1; exact h.output
theorem Rs.lt {ns:List ByteArray} {ro:RO} {w:World} {es:List En} {ss:List St} {aE aS:Option Nat} (H:Rs ns ro w es ss aE aS) {L:List (Nat × Nat)} (hL:∀ a ∈ L,iX ns ro a):∀ a ∈ L,a.1 < w.heap.size:=fun a ha=>(H.rd _ _ _ (hL a ha).1).1
theorem Rs.outer {ns:List ByteArray} {ro:RO} {w w1 wr:World} {es:List En} {ss:List St} {aE aS:Option Nat} {L:List (Nat × Nat)} {m cE cS:Nat} {ver:Int} (H:Rs ns ro w es ss aE aS)
 (h1:w1=w.alloc (.cells #[.int .i64 ver,.slice (aW aE 0) es.length cE,.slice (aW aS 0) ss.length cS] 25)) (hL:∀ a ∈ L,iX ns ro a) (hC:Cu w1 L wr) (hm:m < ss.length) :
 ∃ s b o c,ss[m]? = some s/\aS=some b/\wr.cell? ⟨w.heap.size,2,none⟩=some (.slice (aW aS 0) ss.length cS)/\wr.cell? ⟨b,m * 2 + 1,none⟩=some (.slice o s.fs.length c)/\FzR ro (s.fs.map bU) (.slice o s.fs.length c)/\w.cell? ⟨b,m * 2 + 1,none⟩=some (.slice o s.fs.length c):=by
 obtain ⟨s,hs⟩:∃ s,ss[m]? = some s:=⟨_,a8 hm⟩
 obtain ⟨b,u,e1,e2,e3,e4,e5⟩:=H.s m s hs
 obtain ⟨o,c,rfl⟩:=QM e5
 rw [List.length_map] at e4 e5
 exact ⟨s,b,o,c,hs,e1,hC.loc h1 (H.lt hL) rfl,(hC.old h1).no e2 e4 fun hin=>e3 _ _ (hL _ hin).1,e5,e4⟩
theorem Rs.inner {ns:List ByteArray} {ro:RO} {w w1 wr:World} {es:List En} {ss:List St} {aE:Option Nat} {b:Nat} {L:List (Nat × Nat)} {m q cE cS c:Nat} {ver:Int} {o:Option Addr} {s:St} (H:Rs ns ro w es ss aE (some b))
 (h1:w1=w.alloc (.cells #[.int .i64 ver,.slice (aW aE 0) es.length cE,.slice (aW (some b) 0) ss.length cS] 25)) (hL:∀ a ∈ L,iX ns ro a) (hC:Cu w1 L wr) (hm:ss[m]? = some s) (hS:w.cell? ⟨b,m * 2 + 1,none⟩=some (.slice o s.fs.length c))
 (hF:FzR ro (s.fs.map bU) (.slice o s.fs.length c)) (hq:q < s.fs.length) :
 ∃ f bF oF d t0 b' o',s.fs[q]? = some f/\o=some ⟨bF,oF,none⟩/\wr.cell? ⟨w.heap.size,2,none⟩=some (.slice (aW (some b) 0) ss.length cS)/\wr.cell? ⟨b,m * 2 + 1,none⟩=some (.slice o s.fs.length c)/\yJ d t0 f.ty/\InA ro t0 d bF (oF + q * 7 + 2) b' o':=by
 obtain ⟨f,hf⟩:∃ f,s.fs[q]? = some f:=⟨_,a8 hq⟩
 obtain ⟨b2,u,e1,e2,e3,e4,e5⟩:=H.s m s hm
 cases e1
 obtain ⟨d,t0,hw⟩:=H.w s (b6 hm) f (b6 hf)
 obtain ⟨bF,oF,cap,h2,h3⟩:=SH hF hf
 simp only [Value.slice.injEq] at h2
 rw [hw.1] at h3
 obtain ⟨b',o',h4⟩:=AK d _ _ h3
 exact ⟨f,bF,oF,d,t0,b',o',hf,h2.1,hC.loc h1 (H.lt hL) rfl,(hC.old h1).no e2 hS fun hin=>e3 _ _ (hL _ hin).1,hw,h4⟩
theorem Rs.step {ns:List ByteArray} {ro:RO} {w w1 wr:World} {es:List En} {ss:List St} {aE aS:Option Nat} {L:List (Nat × Nat)} {o:Obj} {t0:Ty} {x:Int} {d:List Int} {b1 o1 b' o':Nat} (H:Rs ns ro w es ss aE aS)
 (h1:w1=w.alloc o) (hL:∀ a ∈ L,iX ns ro a) (hC:Cu w1 L wr) (hI:InA ro t0 (x :: d) b1 o1 b' o') :
 ∃ b3 o3 cap,wr.cell? ⟨b1,o1,none⟩=some (.int .i64 5)/\wr.cell? ⟨b1,o1 + 3,none⟩=some (.slice (some ⟨b3,o3,none⟩) 1 cap)/\InA ro t0 d b3 o3 b' o':=by
 obtain ⟨hT,b3,o3,cap,h2,h3⟩:=hI
 have hk:=hT.k
 have hlt:=(H.rd _ _ _ hk).1
 refine ⟨b3,o3,cap,(hC.old h1).no hlt (H.rd _ _ _ hk).2.1 fun hin=>?_,(hC.old h1).no hlt (H.rd _ _ _ h2).2.1 fun hin=>?_,h3⟩
 · have:=(hL _ hin).1
   simp only at this
   rw [hk] at this
   have h5:(a6 (x :: d) t0).k=5:=rfl
   rw [h5] at this
   cases this
 · have:=(hL _ hin).1
   simp only at this
   rw [h2] at this
   cases this
theorem Rs.last {ns:List ByteArray} {ro:RO} {w w1 wr:World} {es:List En} {ss:List St} {aE:Option Nat} {b cE cS:Nat} {ver:Int} {L:List (Nat × Nat)} {t0:Ty} {b1 o1 b' o':Nat} (H:Rs ns ro w es ss aE (some b))
 (h1:w1=w.alloc (.cells #[.int .i64 ver,.slice (aW aE 0) es.length cE,.slice (aW (some b) 0) ss.length cS] 25)) (hL:∀ a ∈ L,iX ns ro a) (hC:Cu w1 L wr) (h5:t0.k ≠ 5) (hI:InA ro t0 [] b1 o1 b' o') :
 ∃ kk,wr.cell? ⟨b1,o1,none⟩=some (.int .i64 kk)/\kk ≠ 5/\(b1=b'/\o1=o')/\wr.cell? ⟨w.heap.size,1,none⟩=some (.slice (aW aE 0) es.length cE)/\TyAt ro b' o' t0/\True:=by
 obtain ⟨⟨e1,e2⟩,hT⟩:=hI
 subst e1 e2
 have hlt:=(H.rd _ _ _ hT.k).1
 have hcell:=(hC.old h1).cell b1 o1 hlt
 by_cases hin:(b1,o1) ∈ L
 · rw [if_pos hin] at hcell
   exact ⟨7,hcell,by decide,⟨rfl,rfl⟩,hC.loc h1 (H.lt hL) rfl,hT,trivial⟩
 · rw [if_neg hin,(H.rd _ _ _ hT.k).2.1] at hcell
   exact ⟨t0.k,hcell,h5,⟨rfl,rfl⟩,hC.loc h1 (H.lt hL) rfl,hT,trivial⟩
def DnT (es:List En) (L:List (Nat × Nat)) (t0:Ty) (b o m:Nat):Prop:=∀ (j:Nat) (e:En),j < m->es[j]? = some e->t0.k=6->e.nm=t0.n->(b,o) ∈ L
theorem DnF.succ {ns:List ByteArray} {ro:RO} {L L':List (Nat × Nat)} {s:St} {m bF oF b' o' c:Nat} {f:Fl} {d:List Int} {t0:Ty} {es:List En} (h:DnF ns ro L s (.slice (some ⟨bF,oF,none⟩) s.fs.length c) m) (hL:∀ a ∈ L,a ∈ L') (hf:s.fs[m]? = some f) (hw:yJ d t0 f.ty)
 (hI:InA ro t0 d bF (oF + m * 7 + 2) b' o') (hn:ns=es.map En.nm) (hT:DnT es L' t0 b' o' es.length):DnF ns ro L' s (.slice (some ⟨bF,oF,none⟩) s.fs.length c) (m + 1):=by
 intro k g b off cap hk hg he
 rcases cM k m with h1 | h1
 · exact (h k g b off cap h1 hg he).mono hL
 · obtain rfl:k=m:=by omega
   rw [hf] at hg
   obtain rfl:=aZ hg
   simp only [Value.slice.injEq,aC,Addr.mk.injEq] at he
   obtain ⟨⟨rfl,rfl,_⟩,_⟩:=he
   refine ⟨d,t0,hw,fun b2 o2 hI2 hk6 hnm=>?_⟩
   obtain ⟨rfl,rfl⟩:=hI.uniq hI2
   rw [hn] at hnm
   obtain ⟨e,hm,hen⟩:=List.mem_map.1 hnm
   obtain ⟨j,hj⟩:=List.mem_iff_getElem?.1 hm
   exact hT j e (aU.1 hj).1 hj hk6 hen
theorem DnS.succ {ns:List ByteArray} {ro:RO} {w:World} {L':List (Nat × Nat)} {ss:List St} {b m c:Nat} {o:Option Addr} {s:St} (h:DnS ns ro w L' ss (some b) m) (hs:ss[m]? = some s) (hc:w.cell? ⟨b,m * 2 + 1,none⟩=some (.slice o s.fs.length c))
 (hF:DnF ns ro L' s (.slice o s.fs.length c) s.fs.length):DnS ns ro w L' ss (some b) (m + 1):=by
 intro i s2 b2 u hi hs2 hb hu
 rcases cM i m with h1 | h1
 · exact h i s2 b2 u h1 hs2 hb hu
 · obtain rfl:i=m:=by omega
   cases hb
   rw [hs] at hs2
   obtain rfl:=aZ hs2
   rw [hc] at hu
   obtain rfl:=aZ hu
   exact hF
theorem Rs.each {ns:List ByteArray} {ro:RO} {w w1 wr:World} {es:List En} {ss:List St} {aE:Option Nat} {b cE cS:Nat} {ver:Int} {L:List (Nat × Nat)} {t0:Ty} {b1 o1 j:Nat} (H:Rs ns ro w es ss aE (some b))
 (h1:w1=w.alloc (.cells #[.int .i64 ver,.slice (aW aE 0) es.length cE,.slice (aW (some b) 0) ss.length cS] 25)) (hL:∀ a ∈ L,iX ns ro a) (hC:Cu w1 L wr) (hT:TyAt ro b1 o1 t0) (hj:j < es.length) :
 ∃ e bE,∃ _:Unit,∃ o2 n2 c2 o3 n3 c3 kk,es[j]? = some e/\aE=some bE/\wr.cell? ⟨bE,j * 3,none⟩=some (.string e.nm)/\wr.cell? ⟨bE,j * 3 + 1,none⟩=some (.slice o2 n2 c2)/\wr.cell? ⟨bE,j * 3 + 2,none⟩=some (.slice o3 n3 c3)/\
  wr.cell? ⟨b1,o1,none⟩=some (.int .i64 kk)/\wr.cell? ⟨b1,o1 + 2,none⟩=some (.string t0.n)/\b1 < wr.heap.size/\wr.frozen? ⟨b1,o1,none⟩=false/\(((b1,o1) ∈ L/\kk=7)\/((b1,o1) ∉ L/\kk=t0.k)):=by
 obtain ⟨e,he⟩:∃ e,es[j]? = some e:=⟨_,a8 hj⟩
 obtain ⟨bE,u1,u2,e1,e2,e3,e4,e5,e6,⟨o2,n2,c2,rfl⟩,o3,n3,c3,rfl⟩:=H.e j e he
 have hO:=hC.old h1
 have no:∀ off,(bE,off) ∉ L:=fun off hin=>e3 _ _ (hL _ hin).1
 have hlt:=(H.rd _ _ _ hT.k).1
 have hst:ro.st b1 ≠ 0:=H.fr _ _ _ hT.s (by omega)
 have hfz:wr.frozen? ⟨b1,o1,none⟩=false:=by rw [hO.fz b1 o1 hlt]; exact (H.rd _ _ _ hT.k).2.2 hst
 have hnm:=hO.no hlt (H.rd _ _ _ hT.n).2.1 (tD hL hT).2.1
 have hcell:=hO.cell b1 o1 hlt
 have hsz:b1 < wr.heap.size:=Nat.lt_of_lt_of_le hlt hO.sz
 by_cases hin:(b1,o1) ∈ L
 · rw [if_pos hin] at hcell
   exact ⟨e,bE,(),o2,n2,c2,o3,n3,c3,7,he,e1,hO.no e2 e4 (no _),hO.no e2 e5 (no _),hO.no e2 e6 (no _),hcell,hnm,hsz,hfz,.inl ⟨hin,rfl⟩⟩
 · rw [if_neg hin,(H.rd _ _ _ hT.k).2.1] at hcell
   exact ⟨e,bE,(),o2,n2,c2,o3,n3,c3,t0.k,he,e1,hO.no e2 e4 (no _),hO.no e2 e5 (no _),hO.no e2 e6 (no _),hcell,hnm,hsz,hfz,.inr ⟨hin,rfl⟩⟩
theorem Cu.drewN {w wr:World} {L:List (Nat × Nat)} (h:Cu w L wr) (n:Nat):Cu w L (wr.drewN n):=⟨h.sz,h.cell,h.fz,h.keep,h.os,h.tape,h.output⟩
theorem WK {a b:ByteArray} (h:(a.toList == b.toList)=true):a=b:=by
 have h1:=eq_of_beq h
 rw [jW,jW] at h1
 rw [<-jO a,h1,jO]
theorem WR {a b:ByteArray} (h:(a.toList == b.toList)=false):a ≠ b:=fun e=>by
 rw [e,beq_self_eq_true] at h; cases h
theorem kk6 {p:Prop} {q:Prop} {t0:Ty} (h:(p/\(6:Int)=7)\/(q/\(6:Int)=t0.k)):t0.k=6:=by
 rcases h with ⟨_,h⟩ | ⟨_,h⟩
 · cases h
 · exact h.symm
theorem DnT.skip {es:List En} {L:List (Nat × Nat)} {t0:Ty} {b o m:Nat} {e:En} (h:DnT es L t0 b o m) (he:es[m]? = some e) (hn:t0.k=6->e.nm=t0.n->False):DnT es L t0 b o (m + 1):=by
 intro j e2 hj he2 hk hnm
 rcases cM j m with h1 | h1
 · exact h j e2 h1 he2 hk hnm
 · obtain rfl:j=m:=by omega
   rw [he] at he2
   obtain rfl:=aZ he2
   exact (hn hk hnm).elim
theorem DnT.other {es:List En} {L:List (Nat × Nat)} {t0:Ty} {b o m:Nat} {kk:Int} (h:DnT es L t0 b o m) (hk:(((b,o) ∈ L/\kk=7)\/((b,o) ∉ L/\kk=t0.k))) (h6:¬ kk=6):DnT es L t0 b o (m + 1):=by
 intro j e2 hj he2 hk6 hnm
 rcases hk with ⟨hin,_⟩ | ⟨_,hk⟩
 · exact hin
 · exact absurd (hk.trans hk6) h6
theorem Rs.mark {ns:List ByteArray} {ro:RO} {w w1 wr:World} {es:List En} {ss:List St} {aE aS:Option Nat} {L:List (Nat × Nat)} {o:Obj} {t0:Ty} {b1 o1 j:Nat} {e:En} (H:Rs ns ro w es ss aE aS) (h1:w1=w.alloc o) (hL:∀ a ∈ L,iX ns ro a) (hC:Cu w1 L wr)
 (hT:TyAt ro b1 o1 t0) (he:es[j]? = some e) (hk:t0.k=6) (hn:t0.n=e.nm):(∀ a ∈ (b1,o1) :: L,iX ns ro a)/\Cu w1 ((b1,o1) :: L) (wr.setCell ⟨b1,o1,none⟩ (.int .i64 7)):=by
 have hst:ro.st b1 ≠ 0:=H.fr _ _ _ hT.s (by omega)
 have hlt:=(H.rd _ _ _ hT.k).1
 refine ⟨fun a ha=>?_,?_⟩
 · rcases List.mem_cons.1 ha with rfl | ha
   · refine ⟨by rw [<-hk]; exact hT.k,⟨e.nm,?_,by rw [<-hn]; exact hT.n⟩,?_⟩
     · rw [H.n]; exact List.mem_map.2 ⟨e,b6 he,rfl⟩
     · rcases hT.st with h | h | h
       · exact absurd h hst
       · exact .inl h
       · exact .inr h
   · exact hL a ha
 · subst h1
   refine hC.set (u:=.int .i64 t0.k) (by simp; omega) ?_
   rw [World.cell?_alloc_lt w o ⟨b1,o1,none⟩ hlt]
   exact (H.rd _ _ _ hT.k).2.1
theorem A5 (w:World) (bp:Nat) (ver:Int) (aE aS:Option Nat) (cE cS:Nat) (es:List En) (ss:List St) (ns:List ByteArray) (ro:RO) (H:Rs ns ro w es ss aE aS) (hlE:es.length<=1000000) (hlS:ss.length<=1000000) (hlF:∀ s ∈ ss,s.fs.length<=1000000) (h3:w.cell? ⟨bp,3,none⟩=some (.int .i64 ver)) (h4:w.cell? ⟨bp,4,none⟩=some (.slice (aW aE 0) es.length cE)) (h5:w.cell? ⟨bp,5,none⟩=some (.slice (aW aS 0) ss.length cS)) :
 Calls Tryz.prog 41 #[.pointer (some ⟨bp,0,none⟩)] w fun e w'=>e=.returned (.tuple #[])/\∃ L,(∀ a ∈ L,iX ns ro a)/\Cu w L w'/\DnS ns ro w L ss aS ss.length:=by
 go_enter Tryz.func41,Tryz.ntmps41
 have A:Aside (Rs ns ro w es ss aE aS/\∀ s ∈ ss,s.fs.length<=1000000):=⟨H,hlF⟩
 clear H hlF
 go_wp2
 obtain ⟨w1,hw1⟩:∃ w1,w1=w.alloc (.cells #[.int .i64 ver,.slice (aW aE 0) es.length cE,.slice (aW aS 0) ss.length cS] 25):=⟨_,rfl⟩
 rw [<-hw1]
 have A1:Aside (w1=w.alloc (.cells #[.int .i64 ver,.slice (aW aE 0) es.length cE,.slice (aW aS 0) ss.length cS] 25)):=hw1
 clear hw1
 go_loopg [15] ss.length (fun k i wr=>∃ m L,i=.int .i64 (m:Nat)/\m + k=ss.length/\Aside ((∀ a ∈ L,iX ns ro a)/\Cu w1 L wr/\DnS ns ro w L ss aS m))
 case atStart=>exact ⟨0,[],rfl,by simp,fun a h=>(by cases h),Cu.refl _,fun i s b u h=>(by omega)⟩
 case round=>
  obtain ⟨m,L,rfl,hm,hR⟩:=hrel
  by_cases hlt:m < ss.length
  · have B:=A.out.1.outer A1.out hR.out.1 hR.out.2.1 hlt
    obtain ⟨s,b,o,c,hx,rfl,q1,q2,q3,q4⟩:=B
    rw [sG] at q1 ⊢
    have q3':Aside (FzR ro (s.fs.map bU) (.slice o s.fs.length c)):=q3
    have hx':Aside (ss[m]? = some s):=hx
    have hlf:s.fs.length<=1000000:=A.out.2 s (b6 hx)
    clear hx q3
    have hcS:Aside (w.cell? ⟨b,m * 2 + 1,none⟩=some (.slice o s.fs.length c)):=q4
    clear q4
    go_wp2
    obtain ⟨wo,rfl⟩:∃ wo:World,wo=wr:=⟨_,rfl⟩
    go_loopg [25] s.fs.length (fun k i wr=>∃ q L',i=.int .i64 (q:Nat)/\q + k=s.fs.length/\Aside ((∀ a ∈ L',iX ns ro a)/\Cu w1 L' wr/\DnS ns ro w L' ss (some b) m/\DnF ns ro L' s (.slice o s.fs.length c) q))
    case atStart=>exact ⟨0,L,rfl,by simp,hR.out.1,hR.out.2.1,hR.out.2.2,fun k f b off cap h=>(by omega)⟩
    case round=>
     obtain ⟨q,L',rfl,hq,hR'⟩:=hrel
     by_cases hlq:q < s.fs.length
     · have B:=A.out.1.inner A1.out hR'.out.1 hR'.out.2.1 hx'.out hcS.out q3'.out hlq
       obtain ⟨f,bF,oF,d,t0,b',o',hf,rfl,q5,q6,q7,q8⟩:=B
       have q8':Aside (s.fs[q]? = some f/\yJ d t0 f.ty/\InA ro t0 d bF (oF + q * 7 + 2) b' o'):=⟨hf,q7,q8⟩
       clear hf q7 q8 q1 q2
       rw [sG] at q5
       go_wp2
       obtain ⟨wi,rfl⟩:∃ wi:World,wi=wr:=⟨_,rfl⟩
       go_loopg [5] d.length (fun k v wr=>∃ d' b1 o1,v=.pointer (some ⟨b1,o1,none⟩)/\Aside (d'.length=k)/\Aside (InA ro t0 d' b1 o1 b' o')/\wr=wi)
       case atStart=>exact ⟨d,bF,_,rfl,rfl,q8'.out.2.2,rfl⟩
       case round=>
        obtain ⟨d',b1,o1,rfl,hd,hI,rfl⟩:=hrel
        match d',hd,hI with
        | x :: d2,hd,hI=>
         have B:=A.out.1.step A1.out hR'.out.1 hR'.out.2.1 hI.out
         obtain ⟨b3,o3,cap,q9,q10,q11⟩:=B
         have hI2:Aside (InA ro t0 d2 b3 o3 b' o'):=q11
         clear q11
         go_wp2
         go_roundg d2.length
         case rel=>exact ⟨d2,b3,o3,rfl,rfl,hI2.out,rfl⟩
         case measure=>have:=hd.out; simp only [List.length_cons] at this; omega
        | [],hd,hI=>
         have B:=A.out.1.last A1.out hR'.out.1 hR'.out.2.1 q8'.out.2.1.2.1 hI.out
         obtain ⟨kk,q9,q10,⟨rfl,rfl⟩,q12,q13,_⟩:=B
         have q13':Aside (TyAt ro b1 o1 t0):=q13
         clear q13
         go_wp2
         clear q9 q10 q12
         obtain ⟨wj,rfl⟩:∃ wj:World,wj=wr:=⟨_,rfl⟩
         go_loopg [50] es.length (fun k i wr=>∃ j L2,i=.int .i64 (j:Nat)/\j + k=es.length/\Aside ((∀ a ∈ L2,iX ns ro a)/\Cu w1 L2 wr/\(∀ a ∈ L',a ∈ L2)/\DnT es L2 t0 b1 o1 j))
         case atStart=>exact ⟨0,L',rfl,by simp,hR'.out.1,hR'.out.2.1,fun _ h=>h,fun i e h=>(by omega)⟩
         case round=>
          obtain ⟨j,L2,rfl,hj,hR2⟩:=hrel
          by_cases hlj:j < es.length
          · have B:=A.out.1.each A1.out hR2.out.1 hR2.out.2.1 q13'.out hlj
            obtain ⟨e,bE,u1,o2,n2,c2,o3,n3,c3,kk,hx2,rfl,r1,r2,r3,r4,r5,r6,r7,r8⟩:=B
            rw [sG]
            have hx2':Aside (es[j]? = some e/\(((b1,o1) ∈ L2/\kk=7)\/((b1,o1) ∉ L2/\kk=t0.k))):=⟨hx2,r8⟩
            clear hx2 r8
            by_cases h6:kk=6
            · subst h6
              go_wp2
              go_quiet (fail)
              go_wp2
              · rename_i hnm
                go_roundg (es.length - (j + 1))
                case rel=>
                 have e1:=kk6 hx2'.out.2
                 have e2:=WK hnm
                 exact ⟨j + 1,(b1,o1) :: L2,by simp,by omega,(A.out.1.mark A1.out hR2.out.1 hR2.out.2.1 q13'.out hx2'.out.1 e1 e2).1,(A.out.1.mark A1.out hR2.out.1 ((hR2.out.2.1.alloc _).drewN _) q13'.out hx2'.out.1 e1 e2).2,fun a h=>List.mem_cons_of_mem _ (hR2.out.2.2.1 a h),fun _ _ _ _ _ _=>List.mem_cons_self ..⟩
                case measure=>omega
              · rename_i hnm
                go_roundg (es.length - (j + 1))
                case rel=>exact ⟨j + 1,L2,by simp,by omega,hR2.out.1,(hR2.out.2.1.alloc _).drewN _,hR2.out.2.2.1,hR2.out.2.2.2.skip hx2'.out.1 fun _ e=>WR hnm e.symm⟩
                case measure=>omega
            · have hd:decide (kk=6)=false:=decide_eq_false h6
              have hd2:(kk == 6)=false:=beq_eq_false_iff_ne.2 h6
              go_wp2
              go_quiet (fail)
              go_wp2
              go_roundg (es.length - (j + 1))
              case rel=>exact ⟨j + 1,L2,by simp,by omega,hR2.out.1,(hR2.out.2.1.alloc _).drewN _,hR2.out.2.2.1,hR2.out.2.2.2.other hx2'.out.2 h6⟩
              case measure=>omega
          · obtain rfl:j=es.length:=by omega
            go_wp2
            go_roundg (s.fs.length - (q + 1))
            case rel=>exact ⟨q + 1,L2,by simp,by omega,hR2.out.1,hR2.out.2.1,hR'.out.2.2.1.mono hR2.out.2.2.1,hR'.out.2.2.2.succ hR2.out.2.2.1 q8'.out.1 q8'.out.2.1 q8'.out.2.2 A.out.1.n hR2.out.2.2.2⟩
            case measure=>omega
     · obtain rfl:q=s.fs.length:=by omega
       go_wp2
       go_roundg (ss.length - (m + 1))
       case rel=>exact ⟨m + 1,L',by simp,by omega,hR'.out.1,hR'.out.2.1,hR'.out.2.2.1.succ hx'.out hcS.out hR'.out.2.2.2⟩
       case measure=>omega
  · obtain rfl:m=ss.length:=by omega
    go_wp2
    exact bodyPost_end (results_none rfl _ _ _) rfl ⟨rfl,L,hR.out.1,hR.out.2.1.old A1.out,hR.out.2.2⟩
end Go.Proofs.YtgogpogophflhaaGreatDoor
