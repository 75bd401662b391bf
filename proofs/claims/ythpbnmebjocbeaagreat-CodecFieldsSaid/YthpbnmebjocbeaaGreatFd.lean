/- Lemmas and walks for the proof. -/
import Derived.Test.YthpbnmebjocbeaaGreatFc
import Derived.Test.YthpbnmebjocbeaaGreatProg
import Derived.Shelf.Small.Strs
set_option maxRecDepth 100000
set_option maxHeartbeats 8000000
namespace Go.Proofs.YthpbnmebjocbeaaGreat
open Go.W
mutual
def aLW:Ty->List ByteArray
 | .mk k _ n e=>bif k == 6 || k == 7 then [n] else OG e
def OG:List Ty->List ByteArray
 | []=>[]
 | t :: r=>aLW t ++ OG r
end
def jE (x:ByteArray):Bool->List ByteArray->List ByteArray
 | d,[]=>bif d then [] else [x]
 | d,y :: r=>bif !d && (Op.bytesLess (bl x) (bl y) || bl x == bl y) then (bif Op.bytesLess (bl x) (bl y) then x :: y :: jE x true r else y :: jE x true r) else y :: jE x d r
abbrev zU (a b:ByteArray):Prop:=bl a < bl b
theorem V5 (x:List UInt8):∀ y:List UInt8,Op.bytesLess x y=decide (x < y):=by
 induction x with
 | nil=>intro y; cases y<;>simp [Op.bytesLess]
 | cons a x ih=>
  intro y
  cases y with
  | nil=>simp [Op.bytesLess]
  | cons b y=>
   have:=ih y
   rw [Op.bytesLess,this,Bool.eq_iff_iff]
   simp [List.cons_lt_cons_iff]
theorem RH (a b:ByteArray):Op.bytesLess (bl a) (bl b)=decide (zU a b):=V5 _ _
theorem jP (a:ByteArray):¬ zU a a:=List.lt_irrefl _
theorem zP {a b c:ByteArray} (h:zU a b) (h2:zU b c):zU a c:=List.lt_trans h h2
theorem JF {a b:ByteArray} (h:¬ zU a b) (h2:a ≠ b):zU b a:=by
 have h3:bl b<=bl a:=List.not_lt.1 h
 exact Std.lt_of_le_of_ne h3 (fun e=>h2 (oZ e.symm))
def Asc (l:List ByteArray):Prop:=l.Pairwise zU
theorem E8:∀ {a b:List ByteArray},Asc a->Asc b->(∀ x,x ∈ a ↔ x ∈ b)->a=b
 | [],[],_,_,_=>rfl
 | [],y :: b,_,_,h=>by have:=(h y).2 List.mem_cons_self; cases this
 | x :: a,[],_,_,h=>by have:=(h x).1 List.mem_cons_self; cases this
 | x :: a,y :: b,h1,h2,h=>by
  obtain ⟨p1,p2⟩:=List.pairwise_cons.1 h1
  obtain ⟨p3,p4⟩:=List.pairwise_cons.1 h2
  have e:x=y:=by
   rcases List.mem_cons.1 ((h x).1 List.mem_cons_self) with e | e
   · exact e
   · rcases List.mem_cons.1 ((h y).2 List.mem_cons_self) with e2 | e2
     · exact e2.symm
     · exact absurd (zP (p1 y e2) (p3 x e)) (jP x)
  subst e
  rw [E8 p2 p4 fun z=>?_]
  constructor
  · intro hz
    rcases List.mem_cons.1 ((h z).1 (List.mem_cons_of_mem _ hz)) with e | e
    · exact absurd (p1 z hz) (by rw [e]; exact jP x)
    · exact e
  · intro hz
    rcases List.mem_cons.1 ((h z).2 (List.mem_cons_of_mem _ hz)) with e | e
    · exact absurd (p3 z hz) (by rw [e]; exact jP x)
    · exact e
theorem Asc.nodup {l:List ByteArray} (h:Asc l):l.Nodup:=by
 unfold List.Nodup
 refine List.Pairwise.imp ?_ h
 intro a b h e
 subst e
 exact jP a h
theorem oM (x:ByteArray):∀ l,jE x true l=l
 | []=>rfl
 | y :: r=>by rw [jE,oM x r]; rfl
theorem j4 {x z:ByteArray}:∀ {l:List ByteArray},z ∈ jE x false l ↔ z=x\/z ∈ l
 | []=>by simp [jE]
 | y :: r=>by
  rw [jE,oM]
  cases c1:Op.bytesLess (bl x) (bl y) with
  | true=>simp
  | false=>
   cases c2:bl x == bl y with
   | true=>
    have:x=y:=oZ (by simpa using c2)
    subst this
    simp
   | false=>
    have:=j4 (x:=x) (z:=z) (l:=r)
    simp [this]
    constructor
    · rintro (h | h | h)
      · exact .inr (.inl h)
      · exact .inl h
      · exact .inr (.inr h)
    · rintro (h | h | h)
      · exact .inr (.inl h)
      · exact .inl h
      · exact .inr (.inr h)
theorem C0 {x:ByteArray}:∀ {l:List ByteArray},Asc l->Asc (jE x false l)
 | [],_=>by simp [jE,Asc]
 | y :: r,h=>by
  obtain ⟨p1,p2⟩:=List.pairwise_cons.1 h
  rw [jE,oM]
  cases c1:Op.bytesLess (bl x) (bl y) with
  | true=>
   rw [RH] at c1
   have c1:=of_decide_eq_true c1
   simp only [Bool.not_false,Bool.true_or,Bool.and_true,bJ]
   refine List.pairwise_cons.2 ⟨fun z hz=>?_,h⟩
   rcases List.mem_cons.1 hz with rfl | hz
   · exact c1
   · exact zP c1 (p1 z hz)
  | false=>
   cases c2:bl x == bl y with
   | true=>exact h
   | false=>
    rw [RH] at c1
    have c1:=of_decide_eq_false c1
    have c2:x ≠ y:=fun e=>by subst e; simp at c2
    simp only [Bool.not_false,Bool.true_and,Bool.or_self,aX]
    refine List.pairwise_cons.2 ⟨fun z hz=>?_,C0 p2⟩
    rcases j4.1 hz with rfl | hz
    · exact JF c1 c2
    · exact p1 z hz
theorem M7 {l:List ByteArray} (h:l.Nodup):Asc (c8 l):=by
 have h1:((l.map bl).mergeSort fun x y=>decide (x<=y)).Pairwise fun a b=>decide (a<=b)=true:=
  List.pairwise_mergeSort (le:=fun (x y:List UInt8)=>decide (x<=y)) (fun (a b c:List UInt8) h1 h2=>decide_eq_true (List.le_trans (of_decide_eq_true h1) (of_decide_eq_true h2))) (fun (a b:List UInt8)=>by
   rcases List.le_total a b with h | h<;>simp [h]) _
 have h2:((l.map bl).mergeSort fun x y=>decide (x<=y)).Nodup:=by
  rw [(List.mergeSort_perm _ _).nodup_iff]
  exact List.Pairwise.map bl (fun a b (hab:a ≠ b) e=>hab (oZ e)) h
 unfold c8 Asc
 rw [List.pairwise_map]
 refine List.Pairwise.imp₂ (fun a b h1 h2=>?_) h1 h2
 exact Std.lt_of_le_of_ne (of_decide_eq_true h1) h2
theorem JV (ss:List St) (n:ByteArray):Asc (dR ss n):=M7 (oG ss n)
structure UI (ss:List St) (n:ByteArray) (i:Nat) (todo o:List ByteArray):Prop where
 hd:∃ r,todo=n :: r/\r.Nodup/\∀ x,x ∈ o ↔ x ∈ r
 rc:∀ x ∈ o,Reach ss n x
 dn:∀ j a,j < i->todo[j]? = some a->∀ y,cV ss a y->y ∈ o
 asc:Asc o
theorem I0 {ss:List St} {es:List En} (g:Gd ss es) {n:ByteArray} {l:List ByteArray} (h:l.Nodup) (hr:∀ x ∈ l,Reach ss n x):l.length<=32:=Nat.le_trans (oL h fun x hx=>(fV ss n x).2 (hr x hx)) (g.vlen n)
theorem UI.len {ss:List St} {es:List En} (g:Gd ss es) {n:ByteArray} {i:Nat} {todo o:List ByteArray} (h:UI ss n i todo o):todo.length<=33/\o.length<=32:=by
 obtain ⟨r,rfl,h1,h2⟩:=h.hd
 have:=I0 g h1 fun x hx=>h.rc x ((h2 x).2 hx)
 have:=I0 g h.asc.nodup h.rc
 simp only [List.length_cons]; omega
theorem UI.add {ss:List St} {n:ByteArray} {i:Nat} {todo o:List ByteArray} (h:UI ss n i todo o) {y:ByteArray} (hr:Reach ss n y) (hy:y ∉ o) (hi:i<=todo.length):UI ss n i (todo ++ [y]) (jE y false o):=by
 obtain ⟨r,rfl,h1,h2⟩:=h.hd
 refine ⟨⟨r ++ [y],by simp,?_,fun x=>?_⟩,fun x hx=>?_,fun j a hj ha z hz=>?_,C0 h.asc⟩
 · rw [List.nodup_append]
   exact ⟨h1,by simp,fun a ha b hb=>by simp at hb; subst hb; exact fun e=>hy ((h2 b).2 (e ▸ ha))⟩
 · rw [j4,h2]; simp [or_comm]
 · rcases j4.1 hx with rfl | hx
   · exact hr
   · exact h.rc x hx
 · rw [List.getElem?_append_left (by omega)] at ha
   exact j4.2 (.inr (h.dn j a hj ha z hz))
theorem UI.next {ss:List St} {n:ByteArray} {i:Nat} {todo o:List ByteArray} (h:UI ss n i todo o) {a:ByteArray} (ha:todo[i]? = some a) (hy:∀ y,cV ss a y->y ∈ o):UI ss n (i + 1) todo o:=by
 refine ⟨h.hd,h.rc,fun j b hj hb y hyb=>?_,h.asc⟩
 rcases a8 j i with h4 | h4
 · exact h.dn j b h4 hb y hyb
 · obtain rfl:j=i:=by omega
   rw [ha] at hb; obtain rfl:=bT hb
   exact hy y hyb
theorem UI.fin {ss:List St} {n:ByteArray} {todo o:List ByteArray} (h:UI ss n todo.length todo o):o=dR ss n:=by
 refine E8 h.asc (JV ss n) fun x=>?_
 rw [yW]
 refine ⟨h.rc x,fun hx=>?_⟩
 obtain ⟨r,e,h1,h2⟩:=h.hd
 have hn:∀ y,cV ss n y->y ∈ o:=h.dn 0 n (by rw [e]; simp) (by rw [e]; rfl)
 induction hx with
 | one h=>exact hn _ h
 | more _ h3 ih=>
  obtain ⟨j,hj⟩:=List.mem_iff_getElem?.1 ((h2 _).1 ih)
  rename_i b c _
  have hj2:todo[j + 1]? = some b:=by rw [e]; simpa using hj
  exact h.dn (j + 1) _ (bC.1 hj2).1 hj2 _ h3
def j3:List St->List Int->ByteArray->Int
 | s :: ss,d :: ds,n=>bif decide (s.nm=n) then d else j3 ss ds n
 | _,_,_=>0
theorem CK {n:ByteArray}:∀ {ss:List St} {ds:List Int},fS ss n=none->j3 ss ds n=0
 | [],_,_=>by simp [j3]
 | s :: ss,[],_=>by simp [j3]
 | s :: ss,d :: ds,h=>by
  unfold fS at h
  rw [List.find?_cons] at h
  rw [j3]
  cases hc:decide (s.nm=n) with
  | true=>rw [hc] at h; simp at h
  | false=>rw [hc] at h; exact CK (ss:=ss) h
theorem D9 {n:ByteArray} {u:St}:∀ {ss:List St} {ds:List Int},ss.length=ds.length->fS ss n=some u->∃ j:Nat,ss[j]? = some u/\ds[j]? = some (j3 ss ds n)
 | [],_,_,h=>by cases h
 | s :: ss,[],hl,_=>by simp at hl
 | s :: ss,d :: ds,hl,h=>by
  unfold fS at h
  rw [List.find?_cons] at h
  rw [j3]
  cases hc:decide (s.nm=n) with
  | true=>
   rw [hc] at h
   obtain rfl:s=u:=by simpa using h
   exact ⟨0,rfl,rfl⟩
  | false=>
   rw [hc] at h
   obtain ⟨j,h1,h2⟩:=D9 (ss:=ss) (ds:=ds) (by simpa using hl) h
   exact ⟨j + 1,by simpa using h1,by simpa using h2⟩
theorem N0 {s:Int} {n:ByteArray} {u:Ty} {r:List Ty}:bR (.mk 5 s n (u :: r))=((bR u).1 + 1,(bR u).2):=by simp [bR,KD]
theorem NE {k s:Int} {n:ByteArray} {e:List Ty} (h:(k == 5 && decide (0 < (e.length:Int)))=false):bR (.mk k s n e)=(0,.mk k s n e):=by
 rw [bR]
 cases hk:k == 5 with
 | false=>rfl
 | true=>
  rw [hk,Bool.true_and] at h
  have:e=[]:=List.length_eq_zero_iff.1 (by simp at h; simp [h])
  subst this; rfl
theorem LE {dp dq:ByteArray->Int} {l:List Fl} (h:∀ f ∈ l,bX dp f.ty<=bX dq f.ty):eF dp l<=eF dq l:=F6 (iT _ _) fun f hf=>Int.le_trans (h f hf) (GN hf)
structure DI (ss:List St) (r i:Nat) (d:List Int):Prop where
 len:d.length=ss.length
 lo:∀ (j:Nat) (t:St) (v:Int),ss[j]? = some t->d[j]? = some v->0<=v/\v<=dD ss t.nm/\(m4 ss t.nm < r->v=dD ss t.nm)/\(j < i->m4 ss t.nm < r + 1->v=dD ss t.nm)
theorem DI.ix {ss:List St} {es:List En} (_g:Gd ss es) {r i:Nat} {d:List Int} (h:DI ss r i d) (n:ByteArray):0<=j3 ss d n/\j3 ss d n<=dD ss n/\((fS ss n).isSome=true->m4 ss n < r->j3 ss d n=dD ss n):=by
 cases hf:fS ss n with
 | none=>
  rw [CK hf]
  exact ⟨Int.le_refl _,IK ss n,fun h=>by simp at h⟩
 | some u=>
  obtain ⟨j,h1,h2⟩:=D9 h.len.symm hf
  obtain ⟨a1,a2,a3,_⟩:=h.lo j u _ h1 h2
  obtain ⟨_,rfl⟩:=fJ hf
  exact ⟨a1,a2,fun _ h=>a3 h⟩
theorem DI.all {ss:List St} {es:List En} (g:Gd ss es) {r i:Nat} {d:List Int} (h:DI ss r i d):∀ v ∈ d,0<=v/\v<=1000000000000:=fun v hv=>by
 obtain ⟨j,hj⟩:=List.mem_iff_getElem?.1 hv
 have hl:=(bC.1 hj).1
 obtain ⟨t,ht⟩:∃ t,ss[j]? = some t:=⟨_,aV (by have:=h.len; omega)⟩
 obtain ⟨h1,h2,_⟩:=h.lo j t v ht hj
 have:=OL g t.nm
 omega
theorem DI.fd {ss:List St} {es:List En} (g:Gd ss es) {r i:Nat} {d:List Int} (h:DI ss r i d) (t:Ty):bX (j3 ss d) t<=bX (dD ss) t:=by
 unfold bX
 have:=h.ix g (bR t).2.n
 cases (bR t).2.k == 6<;>simp only [bJ,aX]<;>omega
theorem DI.set {ss:List St} {es:List En} (g:Gd ss es) (ha:y9 ss) {r i:Nat} {d:List Int} (h:DI ss r i d) {t:St} (ht:ss[i]? = some t):DI ss r (i + 1) (d.set i (1 + eF (j3 ss d) t.fs)):=by
 have htm:=b6 ht
 have hD:=HT g ha (g.nd t htm)
 have hle:eF (j3 ss d) t.fs<=eF (dD ss) t.fs:=LE fun f _=>h.fd g f.ty
 have heq:m4 ss t.nm < r + 1->eF (j3 ss d) t.fs=eF (dD ss) t.fs:=fun hr=>m1 fun f hf=>by
  unfold bX
  cases hk:(bR f.ty).2.k == 6 with
  | false=>rfl
  | true=>
   obtain ⟨h1,u,h2⟩:=xI g (g.nd t htm) hf hk
   have h3:=w7 h1 h2 ha
   rw [(h.ix g _).2.2 (by rw [h2]; rfl) (by omega)]
 have hn:=iT (j3 ss d) t.fs
 refine ⟨by rw [List.length_set]; exact h.len,fun j u v hu hv=>?_⟩
 rw [List.getElem?_set] at hv
 by_cases e:i=j
 · subst e
   rw [ht] at hu; obtain rfl:=bT hu
   have hlt:i < d.length:=by have:=h.len; have:=(bC.1 ht).1; omega
   simp [hlt] at hv
   subst hv
   exact ⟨by omega,by omega,fun hr=>by rw [heq (by omega)]; omega,fun _ hr=>by rw [heq hr]; omega⟩
 · rw [if_neg e] at hv
   obtain ⟨a1,a2,a3,a4⟩:=h.lo j u v hu hv
   exact ⟨a1,a2,a3,fun hj hr=>a4 (by omega) hr⟩
theorem DI.up {ss:List St} {r:Nat} {d:List Int} (h:DI ss r ss.length d):DI ss (r + 1) 0 d:=⟨h.len,fun j t v ht hv=>by
 obtain ⟨a1,a2,_,a4⟩:=h.lo j t v ht hv
 exact ⟨a1,a2,fun hr=>a4 (bC.1 ht).1 hr,fun h=>absurd h (Nat.not_lt_zero _)⟩⟩
theorem DI.fin {ss:List St} {d:List Int} (h:DI ss (ss.length + 1) 0 d):d=ss.map fun t=>dD ss t.nm:=by
 refine List.ext_getElem? fun j=>?_
 rw [List.getElem?_map]
 cases ht:ss[j]? with
 | none=>
  rw [List.getElem?_eq_none_iff] at ht
  rw [List.getElem?_eq_none (by rw [h.len]; exact ht)]; rfl
 | some t=>
  obtain ⟨v,hv⟩:∃ v,d[j]? = some v:=⟨_,aV (by rw [h.len]; exact (bC.1 ht).1)⟩
  obtain ⟨_,_,a3,_⟩:=h.lo j t v ht hv
  rw [hv,a3 (Nat.lt_succ_of_le (G1 _ _))]; rfl
def gW:Nat->Ty->Nat
 | 0,_=>0
 | N + 1,t=>t.e.foldl (fun m u=>max m (1 + gW N u)) 0
abbrev lF (N:Nat):Nat->Ty->Nat:=fun m u=>max m (1 + gW N u)
theorem OI (N:Nat):∀ (l:List Ty) (m:Nat),m<=l.foldl (lF N) m
 | [],_=>Nat.le_refl _
 | u :: l,m=>Nat.le_trans (Nat.le_max_left _ _) (OI N l (max m (1 + gW N u)))
theorem Y4 {N:Nat} {l:List Ty} {u:Ty} (h:u ∈ l):∀ m,1 + gW N u<=l.foldl (lF N) m:=by
 induction l with
 | nil=>cases h
 | cons v l ih=>
  intro m
  rcases List.mem_cons.1 h with rfl | h
  · exact Nat.le_trans (Nat.le_max_right m _) (OI N l _)
  · exact ih h _
theorem RP:∀ (N:Nat) (t:Ty),gW N t < N->t.h<=gW N t + 1
 | 0,_,h=>absurd h (Nat.not_lt_zero _)
 | N + 1,.mk k s n e,h=>by
  have hu:∀ u ∈ e,u.h<=gW (N + 1) (.mk k s n e):=fun u hu=>by
   have h1:1 + gW N u<=gW (N + 1) (.mk k s n e):=Y4 (N:=N) (l:=e) hu 0
   have:=RP N u (by omega)
   omega
  rw [Ty.h]
  have:∀ (l:List Ty),(∀ u ∈ l,u.h<=gW (N + 1) (.mk k s n e))->Ty.hs l<=gW (N + 1) (.mk k s n e):=by
   intro l
   induction l with
   | nil=>exact fun _=>Nat.zero_le _
   | cons v l ih=>
    intro h
    rw [Ty.hs]
    exact Nat.max_le.2 ⟨h v List.mem_cons_self,ih fun u hu=>h u (List.mem_cons_of_mem _ hu)⟩
  have:=this e hu
  omega
mutual
def nL:Ty->Bool
 | .mk k s n e=>bif decide (40 < (bl n).length) || decide (3 < e.length) || decide (8 < gW 20 (.mk k s n e)) then false else AK e
def AK:List Ty->Bool
 | []=>true
 | t :: r=>nL t && AK r
end
theorem yR:∀ l:List Ty,AK l=l.all nL
 | []=>rfl
 | t :: r=>by rw [AK,yR r]; rfl
theorem O8 {k s:Int} {n:ByteArray} {e:List Ty} (h:nL (.mk k s n e)=true):((bl n).length<=40/\e.length<=3/\gW 20 (.mk k s n e)<=8)/\∀ u ∈ e,nL u=true:=by
 rw [nL] at h
 cases c:decide (40 < (bl n).length) || decide (3 < e.length) || decide (8 < gW 20 (.mk k s n e)) with
 | true=>rw [c] at h; cases h
 | false=>
  rw [c] at h
  simp only [Bool.or_eq_false_iff,decide_eq_false_iff_not] at c
  refine ⟨by omega,fun u hu=>?_⟩
  simp only [aX,yR,List.all_eq_true] at h
  exact h u hu
theorem aFD {t:Ty} (h:nL t=true):t.h<=9:=by
 obtain ⟨k,s,n,e⟩:=t
 have h1:=(O8 h).1.2.2
 have:=RP 20 (.mk k s n e) (by omega)
 omega
theorem JK:∀ (N:Nat) (t:Ty),t.h<=N->nL t=true->TySm t
 | 0,t,h,_=>absurd h (by have:=t.h_pos; omega)
 | N + 1,.mk k s n e,h,hf=>by
  obtain ⟨⟨_,h2,_⟩,h3⟩:=O8 hf
  refine .mk (by omega) fun u hu=>JK N u ?_ (h3 u hu)
  have:=Ty.hs_mem hu; rw [Ty.h] at h; omega
theorem aAH:∀ (N:Nat) (t:Ty),t.h<=N->(bR t).1<=t.h
 | 0,t,h=>absurd h (by have:=t.h_pos; omega)
 | N + 1,.mk k s n e,h=>by
  cases c:(k == 5 && decide (0 < (e.length:Int))) with
  | false=>rw [NE c]; exact Nat.zero_le _
  | true=>
   simp only [Bool.and_eq_true,beq_iff_eq,decide_eq_true_eq] at c
   obtain ⟨rfl,c⟩:=c
   cases e with
   | nil=>simp at c
   | cons u r=>
    rw [N0]
    have h2:=aAH N u (by rw [Ty.h,Ty.hs] at h; omega)
    rw [Ty.h,Ty.hs]; simp only; omega
def aBJ (e:En):Bool:=!(decide (40 < (bl e.nm).length) || decide (18 < e.ns.length) || decide (18 < e.vs.length)) && e.ns.all fun n=>!(decide (40 < (bl n).length))
def OW (f:Fl):Bool:=!(decide (40 < (bl f.nm).length) || !(nL f.ty))
def QA (t:St):Bool:=!(decide (40 < (bl t.nm).length) || decide (18 < t.fs.length)) && t.fs.all OW
def M4 (s:Sc):Bool:=!(decide (18 < s.es.length) || decide (18 < s.ss.length)) && (s.es.all aBJ && s.ss.all QA)
theorem T8 {s:Sc} (h:s.ok) (hf:M4 s=true):s.fit:=by
 unfold M4 at hf
 simp only [Bool.and_eq_true,List.all_eq_true,Bool.not_eq_true',Bool.or_eq_false_iff,decide_eq_false_iff_not] at hf
 obtain ⟨_,he,hs⟩:=hf
 have hfl:∀ t ∈ s.ss,t.fs.length<=18/\∀ f ∈ t.fs,nL f.ty=true:=fun t ht=>by
  have:=hs t ht
  unfold QA at this
  simp only [Bool.and_eq_true,List.all_eq_true,Bool.not_eq_true',Bool.or_eq_false_iff,decide_eq_false_iff_not] at this
  refine ⟨by omega,fun f hf=>?_⟩
  have:=this.2 f hf
  unfold OW at this
  simp only [Bool.not_eq_true',Bool.or_eq_false_iff,Bool.not_eq_false'] at this
  exact this.2
 refine ⟨h,fun t ht f hf=>?_,fun t ht=>⟨by have:=(hfl t ht).1; omega,fun f hf=>JK _ _ (Nat.le_refl _) ((hfl t ht).2 f hf)⟩,fun e hm=>?_⟩
 · have h1:=aFD ((hfl t ht).2 f hf)
   have h2:=aAH _ f.ty (Nat.le_refl _)
   omega
 · have:=he e hm
   unfold aBJ at this
   simp only [Bool.and_eq_true,List.all_eq_true,Bool.not_eq_true',Bool.or_eq_false_iff,decide_eq_false_iff_not] at this
   omega
theorem MQ {α:Type} {l:List α} {i:Nat} {x:α} (hx:l[i]? = some x) (p:α->Bool):(l.drop i).all p=(p x && (l.drop (i + 1)).all p):=by
 obtain ⟨h,rfl⟩:=bC.1 hx
 rw [List.drop_eq_getElem_cons h,List.all_cons]
theorem TA {α:Type} {l:List α} (p:α->Bool):(l.drop l.length).all p=true:=by rw [List.drop_length]; rfl
def NY:PC:=.seq (.reg [.e 3 (.bx 25 (.t 0)),.e 4 (.bx 42 (.t 1)),.e 5 (.bx 29 (.t 2)),.q 6 (.mv (.i 0))]) (.seq (.seq (.reg [.l 7 (.ldn 5 (.t 5)),.a 8 (.cq 41 [(.t 7),(.i 6)]),.q 9 (.bin .gtr true (.t 8) (.i 6))]) (.cond (.t 9) (.seq (.reg [.q 6 (.mv (.i 9))]) .ret) .skip)) (.seq (.reg [.l 10 (.ldn 3 (.t 3)),.q 11 (.bd [(.int .i64 0),(.slice none 0 0),(.slice none 0 0)] [(0,3,(.t 10))]),.l 12 (.ldn 4 (.t 4)),.l 13 (.ldn 5 (.t 5)),.a 14 (.cq 42 [(.t 11),(.t 12),(.t 13)]),.v 6 14]) .ret))
def NK:List RV:=[.mv (.t 6)]
theorem aIK:aP Tryz.prog true ⟨fun r k=>if r=1/\k=1 then .q else if r=3/\k=4 then .q else .own [],fun _=>false⟩ Tryz.f24=some (NY,NK):=by kernel_rfl
def ME:PC:=.seq (.reg [.e 2 (.bx 29 (.t 0)),.q 4 (.mv (.i 0))]) (.seq (.seq (.reg [.q 10 (.fa 0 (.t 2)),.l 11 (.ld1 (.t 10)),.q 12 (.bin .neq true (.t 11) (.i 5)),.v 13 12,⟨some 14,(some (13,true)),.q (.fa 0 (.t 2))⟩,⟨some 15,(some (13,true)),.l (.ld1 (.t 14))⟩,⟨some 16,(some (13,true)),.q (.bin .neq true (.t 15) (.i 6))⟩,.a 17 (.pick (.t 13) (.t 16) (.k (.bool false))),.v 18 17,⟨some 19,(some (18,true)),.q (.fa 3 (.t 2))⟩,⟨some 20,(some (18,true)),.l (.ld1 (.t 19))⟩,⟨some 21,(some (18,true)),.q (.lnL (.t 20))⟩,⟨some 22,(some (18,true)),.q (.bin .eql true (.t 21) (.i 0))⟩,.a 23 (.pick (.t 18) (.t 22) (.k (.bool false))),.v 24 23,⟨some 25,(some (24,true)),.q (.fa 4 (.t 2))⟩,⟨some 26,(some (24,true)),.l (.ld1 (.t 25))⟩,⟨some 27,(some (24,true)),.q (.lnL (.t 26))⟩,⟨some 28,(some (24,true)),.q (.bin .eql true (.t 27) (.i 0))⟩,.a 29 (.pick (.t 24) (.t 28) (.k (.bool false)))]) (.cond (.t 29) (.seq (.reg [.q 4 (.mv (.i 0))]) .ret) .skip)) (.seq (.reg [.q 5 (.mv (.i 0))]) (.seq (.seq (.reg [.q 30 (.fa 3 (.t 2)),.l 31 (.ld1 (.t 30)),.q 32 (.lnL (.t 31)),.q 33 (.mv (.i 0))]) (.block 0 (.loop (.seq (.reg [.q 34 (.bin .lss true (.t 33) (.t 32))]) (.seq (.cond (.t 34) .skip (.exit 0)) (.seq (.block 1 (.seq (.reg [.l 35 (.ia 5 (.t 31) (.t 33)),.l 36 (.ldn 5 (.t 35)),.e 7 (.al (.agg #[(.int .i64 0),(.int .i64 0),(.string (mk [])),(.slice none 0 0),(.slice none 0 0)]) 29),.s (.st 5 (.t 7) (.t 36))]) (.seq (.reg [.v 37 5,.v 38 1,.q 39 (.bin .leq true (.t 37) (.t 38))]) (.cond (.t 39) (.reg [.v 40 5,.l 41 (.ldn 5 (.t 7)),.v 42 1,.q 43 (.bin .sub true (.t 42) (.i 1)),.a 44 (.cq 41 [(.t 41),(.t 43)]),.q 45 (.mx true (.t 40) (.t 44)),.v 5 45]) .skip)))) (.reg [.q 46 (.bin .add true (.t 33) (.i 1)),.v 33 46]))))))) (.seq (.seq (.reg [.q 47 (.fa 4 (.t 2)),.l 48 (.ld1 (.t 47)),.q 49 (.lnL (.t 48)),.q 50 (.mv (.i 0))]) (.block 2 (.loop (.seq (.reg [.q 51 (.bin .lss true (.t 50) (.t 49))]) (.seq (.cond (.t 51) .skip (.exit 2)) (.seq (.block 3 (.seq (.reg [.l 52 (.ia 6 (.t 48) (.t 50)),.l 53 (.ldn 6 (.t 52)),.e 9 (.al (.agg #[(.int .i64 0),(.int .i64 0),(.int .i64 0),(.string (mk [])),(.slice none 0 0),(.slice none 0 0)]) 76),.s (.st 6 (.t 9) (.t 53))]) (.seq (.reg [.v 54 5,.v 55 1,.q 56 (.bin .leq true (.t 54) (.t 55))]) (.cond (.t 56) (.reg [.v 57 5,.q 58 (.fa 1 (.t 9)),.l 59 (.ldn 5 (.t 58)),.v 60 1,.q 61 (.bin .sub true (.t 60) (.i 1)),.a 62 (.cq 41 [(.t 59),(.t 61)]),.q 63 (.mx true (.t 57) (.t 62)),.v 5 63]) .skip)))) (.reg [.q 64 (.bin .add true (.t 50) (.i 1)),.v 50 64]))))))) (.seq (.reg [.v 65 5,.q 66 (.bin .add true (.i 1) (.t 65)),.v 4 66]) .ret)))))
def NA:List RV:=[.mv (.t 4)]
theorem aH7:aP Tryz.prog true ⟨fun r k=>if r=8/\k=4 then .q else if r=14/\k=5 then .q else .own [],fun _=>false⟩ Tryz.f41=some (ME,NA):=by kernel_rfl
def s0:PC:=.seq (.reg [.e 3 (.bx 93 (.t 0)),.e 4 (.bx 42 (.t 1)),.e 5 (.bx 29 (.t 2)),.q 6 (.mv (.i 0))]) (.seq (.seq (.reg [.l 8 (.ldn 3 (.t 3)),.l 9 (.ldn 4 (.t 4)),.a 10 (.cq 75 [(.t 8),(.t 9)]),.q 11 (.not (.t 10)),.v 12 11,⟨some 13,(some (12,false)),.q (.fa 0 (.t 5))⟩,⟨some 14,(some (12,false)),.l (.ld1 (.t 13))⟩,⟨some 15,(some (12,false)),.q (.fa 0 (.t 4))⟩,⟨some 16,(some (12,false)),.l (.ld1 (.t 15))⟩,⟨some 17,(some (12,false)),.q (.bin .neq true (.t 14) (.t 16))⟩,.a 18 (.pick (.t 12) (.k (.bool true)) (.t 17))]) (.cond (.t 18) (.seq (.reg [.q 6 (.mv (.i 13))]) .ret) .skip)) (.seq (.reg [.l 19 (.ldn 3 (.t 3)),.q 20 (.mh 76 [(.t 19)]),.v 7 20]) (.seq (.seq (.reg [.q 21 (.fa 0 (.t 4)),.l 22 (.ld1 (.t 21))]) (.block 0 (.seq (.reg [.q 24 (.bin .eql true (.t 22) (.i 4)),.v 23 24]) (.cond (.t 23) (.reg [.l 25 (.ldn 3 (.t 3)),.q 26 (.mh 77 [(.t 25)]),.v 7 26]) (.seq (.reg [.q 28 (.bin .eql true (.t 22) (.i 5)),.v 27 28]) (.cond (.t 27) (.reg [.l 29 (.ldn 3 (.t 3)),.q 30 (.mh 78 [(.t 29)]),.v 7 30]) (.seq (.reg [.q 32 (.bin .eql true (.t 22) (.i 6)),.v 31 32]) (.cond (.t 31) (.reg [.l 33 (.ldn 3 (.t 3)),.q 34 (.mh 79 [(.t 33)]),.v 7 34]) .skip)))))))) (.seq (.reg [.v 35 7,.l 36 (.ldn 4 (.t 4)),.l 37 (.ldn 5 (.t 5)),.a 38 (.ca (.t 35) [(.t 36),(.t 37)] []),.v 6 38]) .ret))))
def rW:List RV:=[.mv (.t 6)]
theorem aKT:aP Tryz.prog true ⟨fun r k=>if r=1/\k=2 then .q else .own [],fun _=>false⟩ Tryz.f42=some (s0,rW):=by kernel_rfl
def aAK:PC:=.seq (.reg [.e 2 (.bx 25 (.t 0)),.e 3 (.bx 42 (.t 1)),.e 4 (.al (.agg #[(.int .i64 0),(.int .i64 0),(.string (mk [])),(.slice none 0 0),(.slice none 0 0)]) 29)]) (.seq (.reg [.l 5 (.ldn 3 (.t 2)),.q 6 (.bd [(.int .i64 0),(.slice none 0 0),(.slice none 0 0)] [(0,3,(.t 5))]),.l 7 (.ldn 4 (.t 3)),.a 8 (.cl 83 [(.t 6),(.t 7),(.i 22)] []),.s (.st 5 (.t 4) (.t 8))]) .ret)
def YO:List RV:=[.ld (.ldn 5 (.t 4))]
theorem aHM:aP Tryz.prog true ⟨fun _ _=>.own [],fun _=>false⟩ Tryz.f45=some (aAK,YO):=by kernel_rfl
def j6:PC:=.seq (.gh (.reg [.v 31 5,.v 32 31,⟨some 33,(some (32,true)),.q (.fa 1 (.t 3))⟩,⟨some 34,(some (32,true)),.l (.ld1 (.t 33))⟩,⟨some 35,(some (32,true)),.q (.bin .eql true (.t 34) (.i 8))⟩,⟨some 36,(some (32,true)),.q (.mv (.t 35))⟩,⟨some 37,(some (36,false)),.q (.fa 1 (.t 3))⟩,⟨some 38,(some (36,false)),.l (.ld1 (.t 37))⟩,⟨some 39,(some (36,false)),.q (.bin .eql true (.t 38) (.i 16))⟩,⟨some 40,(some (32,true)),.pick (.t 36) (.k (.bool true)) (.t 39)⟩,⟨some 41,(some (32,true)),.q (.mv (.t 40))⟩,⟨some 42,(some (41,false)),.q (.fa 1 (.t 3))⟩,⟨some 43,(some (41,false)),.l (.ld1 (.t 42))⟩,⟨some 44,(some (41,false)),.q (.bin .eql true (.t 43) (.i 32))⟩,⟨some 45,(some (32,true)),.pick (.t 41) (.k (.bool true)) (.t 44)⟩,⟨some 46,(some (32,true)),.q (.mv (.t 45))⟩,⟨some 47,(some (46,false)),.q (.fa 1 (.t 3))⟩,⟨some 48,(some (46,false)),.l (.ld1 (.t 47))⟩,⟨some 49,(some (46,false)),.q (.bin .eql true (.t 48) (.i 64))⟩,⟨some 50,(some (32,true)),.pick (.t 46) (.k (.bool true)) (.t 49)⟩,.a 51 (.pick (.t 32) (.t 50) (.k (.bool false))),.v 4 51])) .ret
@[go_sem ↓] theorem aKO:aM j6:=aO _
def mD:PC:=.seq (.gh (.reg [.v 54 5,.v 55 54,⟨some 56,(some (55,true)),.q (.fa 1 (.t 3))⟩,⟨some 57,(some (55,true)),.l (.ld1 (.t 56))⟩,⟨some 58,(some (55,true)),.q (.bin .eql true (.t 57) (.i 8))⟩,⟨some 59,(some (55,true)),.q (.mv (.t 58))⟩,⟨some 60,(some (59,false)),.q (.fa 1 (.t 3))⟩,⟨some 61,(some (59,false)),.l (.ld1 (.t 60))⟩,⟨some 62,(some (59,false)),.q (.bin .eql true (.t 61) (.i 16))⟩,⟨some 63,(some (55,true)),.pick (.t 59) (.k (.bool true)) (.t 62)⟩,⟨some 64,(some (55,true)),.q (.mv (.t 63))⟩,⟨some 65,(some (64,false)),.q (.fa 1 (.t 3))⟩,⟨some 66,(some (64,false)),.l (.ld1 (.t 65))⟩,⟨some 67,(some (64,false)),.q (.bin .eql true (.t 66) (.i 32))⟩,⟨some 68,(some (55,true)),.pick (.t 64) (.k (.bool true)) (.t 67)⟩,.a 69 (.pick (.t 55) (.t 68) (.k (.bool false))),.v 4 69])) .ret
@[go_sem ↓] theorem aL1:aM mD:=aO _
def iC:PC:=.seq (.gh (.reg [.q 85 (.fa 2 (.t 3)),.l 86 (.ld1 (.t 85)),.q 87 (.bin .eql true (.t 86) (.k (.string (mk [])))),.v 88 87,⟨some 89,(some (88,true)),.q (.fa 1 (.t 3))⟩,⟨some 90,(some (88,true)),.l (.ld1 (.t 89))⟩,⟨some 91,(some (88,true)),.q (.bin .geq true (.t 90) (.i 1))⟩,.a 92 (.pick (.t 88) (.t 91) (.k (.bool false))),.v 93 92,⟨some 94,(some (93,true)),.q (.fa 1 (.t 3))⟩,⟨some 95,(some (93,true)),.l (.ld1 (.t 94))⟩,⟨some 96,(some (93,true)),.q (.bin .leq true (.t 95) (.i 32))⟩,.a 97 (.pick (.t 93) (.t 96) (.k (.bool false))),.v 98 97,⟨some 99,(some (98,true)),.q (.fa 3 (.t 3))⟩,⟨some 100,(some (98,true)),.l (.ld1 (.t 99))⟩,⟨some 101,(some (98,true)),.q (.lnL (.t 100))⟩,⟨some 102,(some (98,true)),.q (.bin .eql true (.t 101) (.i 1))⟩,.a 103 (.pick (.t 98) (.t 102) (.k (.bool false))),.v 104 103,⟨some 105,(some (104,true)),.l (.ldn 3 (.t 2))⟩,⟨some 106,(some (104,true)),.q (.fa 3 (.t 3))⟩,⟨some 107,(some (104,true)),.l (.ld1 (.t 106))⟩,⟨some 108,(some (104,true)),.l (.ia 4 (.t 107) (.i 0))⟩,⟨some 109,(some (104,true)),.l (.ldn 4 (.t 108))⟩,⟨some 110,(some (104,true)),.cq 75 [(.t 105),(.t 109)]⟩,.a 111 (.pick (.t 104) (.t 110) (.k (.bool false))),.v 4 111])) .ret
@[go_sem ↓] theorem aGI:aM iC:=aO _
def xZ:PC:=.seq (.gh (.reg [.v 122 7,.v 123 122,⟨some 124,(some (123,true)),.q (.fa 1 (.t 3))⟩,⟨some 125,(some (123,true)),.l (.ld1 (.t 124))⟩,⟨some 126,(some (123,true)),.q (.bin .eql true (.t 125) (.i 0))⟩,.a 127 (.pick (.t 123) (.t 126) (.k (.bool false))),.v 128 127,⟨some 129,(some (128,true)),.q (.fa 3 (.t 3))⟩,⟨some 130,(some (128,true)),.l (.ld1 (.t 129))⟩,⟨some 131,(some (128,true)),.q (.lnL (.t 130))⟩,⟨some 132,(some (128,true)),.q (.bin .eql true (.t 131) (.i 0))⟩,.a 133 (.pick (.t 128) (.t 132) (.k (.bool false))),.v 4 133])) .ret
@[go_sem ↓] theorem aHF:aM xZ:=aO _
def xX:PC:=.seq (.gh (.reg [.q 115 (.fa 0 (.t 2)),.l 116 (.ldn 3 (.t 115)),.q 117 (.fa 2 (.t 3)),.l 118 (.ld1 (.t 117)),.a 119 (.cl 40 [(.t 116),(.t 118)] []),.v 114 119,.q 120 (.ex (.t 114) 0),.q 121 (.ex (.t 114) 1),.e 6 (.al (.agg #[(.string (mk [])),(.slice none 0 0)]) 48),.s (.st 2 (.t 6) (.t 120)),.v 7 121])) (xZ)
@[go_sem ↓] theorem aG7:aM xX:=aO _
def vT:PC:=.seq (.gh (.reg [.v 144 9,.v 145 144,⟨some 146,(some (145,true)),.q (.fa 1 (.t 3))⟩,⟨some 147,(some (145,true)),.l (.ld1 (.t 146))⟩,⟨some 148,(some (145,true)),.q (.bin .eql true (.t 147) (.i 0))⟩,.a 149 (.pick (.t 145) (.t 148) (.k (.bool false))),.v 150 149,⟨some 151,(some (150,true)),.q (.fa 3 (.t 3))⟩,⟨some 152,(some (150,true)),.l (.ld1 (.t 151))⟩,⟨some 153,(some (150,true)),.q (.lnL (.t 152))⟩,⟨some 154,(some (150,true)),.q (.bin .eql true (.t 153) (.i 0))⟩,.a 155 (.pick (.t 150) (.t 154) (.k (.bool false))),.v 4 155])) .ret
@[go_sem ↓] theorem aGY:aM vT:=aO _
def yG:PC:=.seq (.gh (.reg [.q 137 (.fa 0 (.t 2)),.l 138 (.ldn 3 (.t 137)),.q 139 (.fa 2 (.t 3)),.l 140 (.ld1 (.t 139)),.a 141 (.cl 113 [(.t 138),(.t 140)] []),.v 136 141,.q 142 (.ex (.t 136) 0),.q 143 (.ex (.t 136) 1),.e 8 (.al (.agg #[(.string (mk [])),(.slice none 0 0),(.slice none 0 0)]) 118),.s (.st 3 (.t 8) (.t 142)),.v 9 143])) (vT)
@[go_sem ↓] theorem aGS:aM yG:=aO _
def wY:PC:=.seq (.gh (.reg [.q 135 (.bin .eql true (.t 20) (.i 7)),.v 134 135])) (.cond (.t 134) (yG) .skip)
@[go_sem ↓] theorem aFX:aM wY:=aO _
def v8:PC:=.seq (.gh (.reg [.q 113 (.bin .eql true (.t 20) (.i 6)),.v 112 113])) (.cond (.t 112) (xX) (wY))
@[go_sem ↓] theorem aGL:aM v8:=aO _
def xK:PC:=.seq (.gh (.reg [.q 84 (.bin .eql true (.t 20) (.i 5)),.v 83 84])) (.cond (.t 83) (iC) (v8))
@[go_sem ↓] theorem aFM:aM xK:=aO _
def CZ:PC:=.seq (.gh (.reg [.q 71 (.bin .eql true (.t 20) (.i 4)),.v 70 71])) (.cond (.t 70) (.seq (.reg [.v 72 5,.v 73 72,⟨some 74,(some (73,true)),.q (.fa 1 (.t 3))⟩,⟨some 75,(some (73,true)),.l (.ld1 (.t 74))⟩,⟨some 76,(some (73,true)),.q (.bin .geq true (.t 75) (.i 1))⟩,.a 77 (.pick (.t 73) (.t 76) (.k (.bool false))),.v 78 77,⟨some 79,(some (78,true)),.q (.fa 1 (.t 3))⟩,⟨some 80,(some (78,true)),.l (.ld1 (.t 79))⟩,⟨some 81,(some (78,true)),.q (.bin .leq true (.t 80) (.i 2000))⟩,.a 82 (.pick (.t 78) (.t 81) (.k (.bool false))),.v 4 82]) .ret) (xK))
@[go_sem ↓] theorem aHW:aM CZ:=aO _
def A8:PC:=.seq (.gh (.reg [.q 53 (.bin .eql true (.t 20) (.i 3)),.v 52 53])) (.cond (.t 52) (mD) (CZ))
@[go_sem ↓] theorem aIL:aM A8:=aO _
def DL:PC:=.seq (.gh (.reg [.q 30 (.bin .eql true (.t 20) (.i 2)),.v 29 30])) (.cond (.t 29) (j6) (A8))
@[go_sem ↓] theorem aJJ:aM DL:=aO _
def Y1:PC:=.seq (.reg [.e 2 (.bx 93 (.t 0)),.e 3 (.bx 42 (.t 1)),.q 4 (.mv (.k (.bool false)))]) (.seq (.reg [.q 10 (.fa 2 (.t 3)),.l 11 (.ld1 (.t 10)),.q 12 (.bin .eql true (.t 11) (.k (.string (mk [])))),.v 13 12,⟨some 14,(some (13,true)),.q (.fa 3 (.t 3))⟩,⟨some 15,(some (13,true)),.l (.ld1 (.t 14))⟩,⟨some 16,(some (13,true)),.q (.lnL (.t 15))⟩,⟨some 17,(some (13,true)),.q (.bin .eql true (.t 16) (.i 0))⟩,.a 18 (.pick (.t 13) (.t 17) (.k (.bool false))),.v 5 18]) (.seq (.seq (.reg [.q 19 (.fa 0 (.t 3)),.l 20 (.ld1 (.t 19))]) (.block 0 (.seq (.reg [.q 22 (.bin .eql true (.t 20) (.i 1)),.v 21 22]) (.cond (.t 21) (.seq (.reg [.v 23 5,.v 24 23,⟨some 25,(some (24,true)),.q (.fa 1 (.t 3))⟩,⟨some 26,(some (24,true)),.l (.ld1 (.t 25))⟩,⟨some 27,(some (24,true)),.q (.bin .eql true (.t 26) (.i 0))⟩,.a 28 (.pick (.t 24) (.t 27) (.k (.bool false))),.v 4 28]) .ret) (DL))))) (.seq (.reg [.q 4 (.mv (.k (.bool false)))]) .ret)))
def YP:List RV:=[.mv (.t 4)]
theorem aJ7:aP Tryz.prog true ⟨fun r k=>if r=12/\k=25 then .q else .own [],fun r=>[5,6,7,8,9,11,12,13,14,15,16,17,18].contains r⟩ Tryz.f75=some (Y1,YP):=by kernel_rfl
def D8:PC:=.gh (.reg [.q 29 (.fa 1 (.t 5)),.l 30 (.ld1 (.t 29)),.q 31 (.bin .eql true (.t 30) (.i 0)),.v 32 31,⟨some 33,(some (32,false)),.q (.fa 1 (.t 5))⟩,⟨some 34,(some (32,false)),.l (.ld1 (.t 33))⟩,⟨some 35,(some (32,false)),.q (.bin .eql true (.t 34) (.i 1))⟩,.a 36 (.pick (.t 32) (.k (.bool true)) (.t 35)),.v 7 36])
@[go_sem ↓] theorem aJ5:aM D8:=aO _
def uN:PC:=.gh (.reg [.q 39 (.fa 1 (.t 4)),.l 40 (.ld1 (.t 39)),.q 41 (.bin .eql true (.t 40) (.i 64)),.v 42 41,⟨some 43,(some (42,false)),.q (.fa 1 (.t 5))⟩,⟨some 44,(some (42,false)),.l (.ld1 (.t 43))⟩,⟨some 45,(some (42,false)),.q (.fa 1 (.t 4))⟩,⟨some 46,(some (42,false)),.l (.ld1 (.t 45))⟩,⟨some 47,(some (42,false)),.q (.bin .sub true (.t 46) (.i 1))⟩,⟨some 48,(some (42,false)),.q (.bin .shl true (.i (-1)) (.t 47))⟩,⟨some 49,(some (42,false)),.q (.bin .geq true (.t 44) (.t 48))⟩,⟨some 50,(some (42,false)),.q (.mv (.t 49))⟩,⟨some 51,(some (50,true)),.q (.fa 1 (.t 5))⟩,⟨some 52,(some (50,true)),.l (.ld1 (.t 51))⟩,⟨some 53,(some (50,true)),.q (.fa 1 (.t 4))⟩,⟨some 54,(some (50,true)),.l (.ld1 (.t 53))⟩,⟨some 55,(some (50,true)),.q (.bin .sub true (.t 54) (.i 1))⟩,⟨some 56,(some (50,true)),.q (.bin .shl true (.i 1) (.t 55))⟩,⟨some 57,(some (50,true)),.q (.bin .lss true (.t 52) (.t 56))⟩,⟨some 58,(some (42,false)),.pick (.t 50) (.t 57) (.k (.bool false))⟩,.a 59 (.pick (.t 42) (.k (.bool true)) (.t 58)),.v 7 59])
@[go_sem ↓] theorem aK7:aM uN:=aO _
def vX:PC:=.gh (.reg [.q 62 (.fa 1 (.t 5)),.l 63 (.ld1 (.t 62)),.q 64 (.bin .geq true (.t 63) (.i 0)),.v 65 64,⟨some 66,(some (65,true)),.q (.fa 1 (.t 5))⟩,⟨some 67,(some (65,true)),.l (.ld1 (.t 66))⟩,⟨some 68,(some (65,true)),.q (.fa 1 (.t 4))⟩,⟨some 69,(some (65,true)),.l (.ld1 (.t 68))⟩,⟨some 70,(some (65,true)),.q (.bin .shl true (.i 1) (.t 69))⟩,⟨some 71,(some (65,true)),.q (.bin .lss true (.t 67) (.t 70))⟩,.a 72 (.pick (.t 65) (.t 71) (.k (.bool false))),.v 7 72])
@[go_sem ↓] theorem aG5:aM vX:=aO _
def x7:PC:=.gh (.reg [.q 83 (.fa 2 (.t 8)),.l 84 (.ld1 (.t 83)),.q 85 (.mf 115 [(.t 5)]),.a 86 (.cl 114 [(.t 84),(.t 85)] [2]),.v 7 86])
@[go_sem ↓] theorem aGA:aM x7:=aO _
def x5:PC:=.seq (.gh (.reg [.q 76 (.fa 0 (.t 3)),.l 77 (.ldn 3 (.t 76)),.q 78 (.fa 2 (.t 4)),.l 79 (.ld1 (.t 78)),.a 80 (.cl 113 [(.t 77),(.t 79)] []),.v 75 80,.q 81 (.ex (.t 75) 0),.q 82 (.ex (.t 75) 1),.e 8 (.al (.agg #[(.string (mk [])),(.slice none 0 0),(.slice none 0 0)]) 118),.s (.st 3 (.t 8) (.t 81)),.v 9 82])) (x7)
@[go_sem ↓] theorem aFP:aM x5:=aO _
def xO:PC:=.seq (.gh (.reg [.q 74 (.bin .eql true (.t 26) (.i 7)),.v 73 74])) (.cond (.t 73) (x5) .skip)
@[go_sem ↓] theorem aG2:aM xO:=aO _
def DM:PC:=.seq (.gh (.reg [.q 61 (.bin .eql true (.t 26) (.i 3)),.v 60 61])) (.cond (.t 60) (vX) (xO))
@[go_sem ↓] theorem aI4:aM DM:=aO _
def BR:PC:=.seq (.gh (.reg [.q 38 (.bin .eql true (.t 26) (.i 2)),.v 37 38])) (.cond (.t 37) (uN) (DM))
@[go_sem ↓] theorem aH4:aM BR:=aO _
def gP:PC:=.seq (.seq (.gh (.reg [.v 87 7,.q 88 (.not (.t 87))])) (.cond (.t 88) (.seq (.reg [.q 6 (.mv (.i 4))]) .ret) .skip)) (.seq (.reg [.q 6 (.mv (.i 0))]) .ret)
@[go_sem ↓] theorem aF7:aM gP:=aO _
def DD:PC:=.seq (.reg [.e 3 (.bx 93 (.t 0)),.e 4 (.bx 42 (.t 1)),.e 5 (.bx 29 (.t 2)),.q 6 (.mv (.i 0))]) (.seq (.seq (.reg [.q 10 (.fa 2 (.t 5)),.l 11 (.ld1 (.t 10)),.q 12 (.bin .neq true (.t 11) (.k (.string (mk [])))),.v 13 12,⟨some 14,(some (13,false)),.q (.fa 3 (.t 5))⟩,⟨some 15,(some (13,false)),.l (.ld1 (.t 14))⟩,⟨some 16,(some (13,false)),.q (.lnL (.t 15))⟩,⟨some 17,(some (13,false)),.q (.bin .gtr true (.t 16) (.i 0))⟩,.a 18 (.pick (.t 13) (.k (.bool true)) (.t 17)),.v 19 18,⟨some 20,(some (19,false)),.q (.fa 4 (.t 5))⟩,⟨some 21,(some (19,false)),.l (.ld1 (.t 20))⟩,⟨some 22,(some (19,false)),.q (.lnL (.t 21))⟩,⟨some 23,(some (19,false)),.q (.bin .gtr true (.t 22) (.i 0))⟩,.a 24 (.pick (.t 19) (.k (.bool true)) (.t 23))]) (.cond (.t 24) (.seq (.reg [.q 6 (.mv (.i 13))]) .ret) .skip)) (.seq (.reg [.q 7 (.mv (.k (.bool false)))]) (.seq (.seq (.reg [.q 25 (.fa 0 (.t 4)),.l 26 (.ld1 (.t 25))]) (.block 0 (.seq (.reg [.q 28 (.bin .eql true (.t 26) (.i 1)),.v 27 28]) (.cond (.t 27) (D8) (BR))))) (gP))))
def DC:List RV:=[.mv (.t 6)]
theorem aJ3:aP Tryz.prog true ⟨fun r k=>if r=13/\k=3 then .own [2] else .own [],fun r=>[7,9,11,12,14,6,8,10,13].contains r⟩ Tryz.f76=some (DD,DC):=by kernel_rfl
def YN:PC:=.seq (.reg [.e 3 (.bx 93 (.t 0)),.e 4 (.bx 42 (.t 1)),.e 5 (.bx 29 (.t 2)),.q 6 (.mv (.i 0))]) (.seq (.block 0 (.seq (.reg [.q 8 (.fa 1 (.t 5)),.l 9 (.ld1 (.t 8)),.q 10 (.bin .neq true (.t 9) (.i 0)),.v 11 10,⟨some 12,(some (11,false)),.q (.fa 3 (.t 5))⟩,⟨some 13,(some (11,false)),.l (.ld1 (.t 12))⟩,⟨some 14,(some (11,false)),.q (.lnL (.t 13))⟩,⟨some 15,(some (11,false)),.q (.bin .gtr true (.t 14) (.i 0))⟩,.a 16 (.pick (.t 11) (.k (.bool true)) (.t 15)),.v 17 16,⟨some 18,(some (17,false)),.q (.fa 4 (.t 5))⟩,⟨some 19,(some (17,false)),.l (.ld1 (.t 18))⟩,⟨some 20,(some (17,false)),.q (.lnL (.t 19))⟩,⟨some 21,(some (17,false)),.q (.bin .gtr true (.t 20) (.i 0))⟩,.a 22 (.pick (.t 17) (.k (.bool true)) (.t 21)),.v 7 22]) (.cond (.t 7) (.seq (.reg [.q 6 (.mv (.i 13))]) .ret) (.seq (.reg [.q 24 (.fa 2 (.t 5)),.l 25 (.ld1 (.t 24)),.q 26 (.lnS (.t 25)),.q 27 (.fa 1 (.t 4)),.l 28 (.ld1 (.t 27)),.q 29 (.bin .gtr true (.t 26) (.t 28)),.v 23 29]) (.cond (.t 23) (.seq (.reg [.q 6 (.mv (.i 3))]) .ret) .skip))))) (.seq (.reg [.q 6 (.mv (.i 0))]) .ret))
def XK:List RV:=[.mv (.t 6)]
theorem aH1:aP Tryz.prog true ⟨fun _ _=>.own [],fun _=>false⟩ Tryz.f77=some (YN,XK):=by kernel_rfl
def IF:PC:=.seq (.reg [.e 3 (.bx 93 (.t 0)),.e 4 (.bx 42 (.t 1)),.e 5 (.bx 29 (.t 2)),.q 6 (.mv (.i 0))]) (.seq (.block 0 (.seq (.reg [.q 11 (.fa 1 (.t 5)),.l 12 (.ld1 (.t 11)),.q 13 (.bin .neq true (.t 12) (.i 0)),.v 14 13,⟨some 15,(some (14,false)),.q (.fa 2 (.t 5))⟩,⟨some 16,(some (14,false)),.l (.ld1 (.t 15))⟩,⟨some 17,(some (14,false)),.q (.bin .neq true (.t 16) (.k (.string (mk []))))⟩,.a 18 (.pick (.t 14) (.k (.bool true)) (.t 17)),.v 19 18,⟨some 20,(some (19,false)),.q (.fa 4 (.t 5))⟩,⟨some 21,(some (19,false)),.l (.ld1 (.t 20))⟩,⟨some 22,(some (19,false)),.q (.lnL (.t 21))⟩,⟨some 23,(some (19,false)),.q (.bin .gtr true (.t 22) (.i 0))⟩,.a 24 (.pick (.t 19) (.k (.bool true)) (.t 23)),.v 10 24]) (.cond (.t 10) (.seq (.reg [.q 6 (.mv (.i 13))]) .ret) (.seq (.reg [.q 26 (.fa 3 (.t 5)),.l 27 (.ld1 (.t 26)),.q 28 (.lnL (.t 27)),.q 29 (.fa 1 (.t 4)),.l 30 (.ld1 (.t 29)),.q 31 (.bin .gtr true (.t 28) (.t 30)),.v 25 31]) (.cond (.t 25) (.seq (.reg [.q 6 (.mv (.i 3))]) .ret) .skip))))) (.seq (.seq (.reg [.q 32 (.fa 3 (.t 5)),.l 33 (.ld1 (.t 32)),.q 34 (.lnL (.t 33)),.q 35 (.mv (.i 0))]) (.block 1 (.loop (.seq (.reg [.q 36 (.bin .lss true (.t 35) (.t 34))]) (.seq (.cond (.t 36) .skip (.exit 1)) (.seq (.block 2 (.seq (.reg [.l 37 (.ia 5 (.t 33) (.t 35)),.l 38 (.ldn 5 (.t 37)),.e 8 (.al (.agg #[(.int .i64 0),(.int .i64 0),(.string (mk [])),(.slice none 0 0),(.slice none 0 0)]) 29),.s (.st 5 (.t 8) (.t 38))]) (.seq (.reg [.l 39 (.ldn 3 (.t 3)),.q 40 (.fa 3 (.t 4)),.l 41 (.ld1 (.t 40)),.l 42 (.ia 4 (.t 41) (.i 0)),.l 43 (.ldn 4 (.t 42)),.l 44 (.ldn 5 (.t 8)),.a 45 (.cq 42 [(.t 39),(.t 43),(.t 44)]),.v 9 45]) (.seq (.reg [.v 46 9,.q 47 (.bin .neq true (.t 46) (.i 0))]) (.cond (.t 47) (.seq (.reg [.v 48 9,.v 6 48]) .ret) .skip))))) (.reg [.q 49 (.bin .add true (.t 35) (.i 1)),.v 35 49]))))))) (.seq (.reg [.q 6 (.mv (.i 0))]) .ret)))
def HC:List RV:=[.mv (.t 6)]
theorem aIP:aP Tryz.prog true ⟨fun r k=>if r=8/\k=6 then .q else .own [],fun _=>false⟩ Tryz.f78=some (IF,HC):=by kernel_rfl
def vP:PC:=.seq (.gh (.reg [.v 63 13,.q 64 (.bin .neq true (.t 63) (.i 0))])) (.cond (.t 64) (.seq (.reg [.v 65 13,.v 6 65]) .ret) .skip)
@[go_sem ↓] theorem aI6:aM vP:=aO _
def BO:PC:=.seq (.gh (.reg [.l 57 (.ldn 3 (.t 3)),.q 58 (.fa 2 (.t 11)),.l 59 (.ldn 4 (.t 58)),.q 60 (.fa 1 (.t 10)),.l 61 (.ldn 5 (.t 60)),.a 62 (.cq 42 [(.t 57),(.t 59),(.t 61)]),.v 13 62])) (vP)
@[go_sem ↓] theorem aKC:aM BO:=aO _
def DT:PC:=.seq (.gh (.reg [.l 51 (.ldn 2 (.t 7)),.q 52 (.fa 0 (.t 10)),.l 53 (.ld1 (.t 52)),.a 54 (.cl 54 [(.t 51),(.t 53)] []),.v 50 54,.q 55 (.ex (.t 50) 0),.q 56 (.ex (.t 50) 1),.e 11 (.al (.agg #[(.int .i64 0),(.string (mk [])),(.int .i64 0),(.int .i64 0),(.string (mk [])),(.slice none 0 0),(.bool false)]) 52),.s (.st 7 (.t 11) (.t 55)),.v 12 56])) (BO)
@[go_sem ↓] theorem aHU:aM DT:=aO _
def vM:PC:=.seq (.seq (.gh (.reg [.q 22 (.fa 1 (.t 5)),.l 23 (.ld1 (.t 22)),.q 24 (.bin .neq true (.t 23) (.i 0)),.v 25 24,⟨some 26,(some (25,false)),.q (.fa 2 (.t 5))⟩,⟨some 27,(some (25,false)),.l (.ld1 (.t 26))⟩,⟨some 28,(some (25,false)),.q (.bin .neq true (.t 27) (.k (.string (mk []))))⟩,.a 29 (.pick (.t 25) (.k (.bool true)) (.t 28)),.v 30 29,⟨some 31,(some (30,false)),.q (.fa 3 (.t 5))⟩,⟨some 32,(some (30,false)),.l (.ld1 (.t 31))⟩,⟨some 33,(some (30,false)),.q (.lnL (.t 32))⟩,⟨some 34,(some (30,false)),.q (.bin .gtr true (.t 33) (.i 0))⟩,.a 35 (.pick (.t 30) (.k (.bool true)) (.t 34)),.v 36 35,⟨some 37,(some (36,false)),.l (.ldn 2 (.t 7))⟩,⟨some 38,(some (36,false)),.q (.fa 4 (.t 5))⟩,⟨some 39,(some (36,false)),.l (.ld1 (.t 38))⟩,⟨some 40,(some (36,false)),.cq 116 [(.t 37),(.t 39)]⟩,⟨some 41,(some (36,false)),.q (.not (.t 40))⟩,.a 42 (.pick (.t 36) (.k (.bool true)) (.t 41))])) (.cond (.t 42) (.seq (.reg [.q 6 (.mv (.i 13))]) .ret) .skip)) (.seq (.seq (.reg [.q 43 (.fa 4 (.t 5)),.l 44 (.ld1 (.t 43)),.q 45 (.lnL (.t 44)),.q 46 (.mv (.i 0))]) (.block 0 (.loop (.seq (.reg [.q 47 (.bin .lss true (.t 46) (.t 45))]) (.seq (.cond (.t 47) .skip (.exit 0)) (.seq (.block 1 (.seq (.reg [.l 48 (.ia 6 (.t 44) (.t 46)),.l 49 (.ldn 6 (.t 48)),.e 10 (.al (.agg #[(.int .i64 0),(.int .i64 0),(.int .i64 0),(.string (mk [])),(.slice none 0 0),(.slice none 0 0)]) 76),.s (.st 6 (.t 10) (.t 49))]) (DT))) (.reg [.q 66 (.bin .add true (.t 46) (.i 1)),.v 46 66]))))))) (.seq (.reg [.q 6 (.mv (.i 0))]) .ret))
@[go_sem ↓] theorem aIR:aM vM:=aO _
def YC:PC:=.seq (.reg [.e 3 (.bx 93 (.t 0)),.e 4 (.bx 42 (.t 1)),.e 5 (.bx 29 (.t 2)),.q 6 (.mv (.i 0))]) (.seq (.reg [.q 15 (.fa 0 (.t 3)),.l 16 (.ldn 3 (.t 15)),.q 17 (.fa 2 (.t 4)),.l 18 (.ld1 (.t 17)),.a 19 (.cl 40 [(.t 16),(.t 18)] []),.v 14 19,.q 20 (.ex (.t 14) 0),.q 21 (.ex (.t 14) 1),.e 7 (.al (.agg #[(.string (mk [])),(.slice none 0 0)]) 48),.s (.st 2 (.t 7) (.t 20)),.v 8 21]) (vM))
def ZR:List RV:=[.mv (.t 6)]
theorem aJS:aP Tryz.prog true ⟨fun r k=>if r=2/\k=18 then .q else if r=8/\k=5 then .q else .own [],fun r=>[2,7,8,9].contains r⟩ Tryz.f79=some (YC,ZR):=by kernel_rfl
def B3:PC:=.seq (.reg [.e 3 (.bx 93 (.t 0)),.e 4 (.bx 42 (.t 1)),.e 6 (.al (.agg #[(.int .i64 0),(.int .i64 0),(.string (mk [])),(.slice none 0 0),(.slice none 0 0)]) 29)]) (.seq (.seq (.reg [.v 12 2,.q 13 (.bin .lss true (.t 12) (.i 0)),.v 14 13,⟨some 15,(some (14,false)),.l (.ldn 3 (.t 3))⟩,⟨some 16,(some (14,false)),.l (.ldn 4 (.t 4))⟩,⟨some 17,(some (14,false)),.cq 75 [(.t 15),(.t 16)]⟩,⟨some 18,(some (14,false)),.q (.not (.t 17))⟩,.a 19 (.pick (.t 14) (.k (.bool true)) (.t 18))]) (.cond (.t 19) (.seq (.reg [.q 20 (.bd [(.int .i64 0),(.int .i64 0),(.string (mk [])),(.slice none 0 0),(.slice none 0 0)] []),.s (.st 5 (.t 6) (.t 20))]) .ret) .skip)) (.seq (.reg [.q 21 (.fa 0 (.t 4)),.l 22 (.ld1 (.t 21)),.q 23 (.bd [(.int .i64 0),(.int .i64 0),(.string (mk [])),(.slice none 0 0),(.slice none 0 0)] [(0,1,(.t 22))]),.e 7 (.al (.agg #[(.int .i64 0),(.int .i64 0),(.string (mk [])),(.slice none 0 0),(.slice none 0 0)]) 29),.s (.st 5 (.t 7) (.t 23))]) (.seq (.seq (.reg [.q 24 (.fa 0 (.t 4)),.l 25 (.ld1 (.t 24)),.q 26 (.bin .neq true (.t 25) (.i 6))]) (.cond (.t 26) (.seq (.reg [.l 27 (.ldn 5 (.t 7)),.s (.st 5 (.t 6) (.t 27))]) .ret) .skip)) (.seq (.reg [.q 29 (.fa 0 (.t 3)),.l 30 (.ldn 3 (.t 29)),.q 31 (.fa 2 (.t 4)),.l 32 (.ld1 (.t 31)),.a 33 (.cl 40 [(.t 30),(.t 32)] []),.v 28 33,.q 34 (.ex (.t 28) 0),.q 35 (.ex (.t 28) 1),.e 8 (.al (.agg #[(.string (mk [])),(.slice none 0 0)]) 48),.s (.st 2 (.t 8) (.t 34)),.v 9 35]) (.seq (.seq (.reg [.q 36 (.fa 1 (.t 8)),.l 37 (.ld1 (.t 36)),.q 38 (.lnL (.t 37)),.q 39 (.mv (.i 0))]) (.block 0 (.loop (.seq (.reg [.q 40 (.bin .lss true (.t 39) (.t 38))]) (.seq (.cond (.t 40) .skip (.exit 0)) (.seq (.block 1 (.seq (.reg [.l 41 (.ia 7 (.t 37) (.t 39)),.l 42 (.ldn 7 (.t 41)),.e 11 (.al (.agg #[(.int .i64 0),(.string (mk [])),(.int .i64 0),(.int .i64 0),(.string (mk [])),(.slice none 0 0),(.bool false)]) 52),.s (.st 7 (.t 11) (.t 42))]) (.seq (.reg [.q 43 (.fa 6 (.t 11)),.l 44 (.ld1 (.t 43)),.q 45 (.not (.t 44))]) (.cond (.t 45) (.ord  [.q (.q 46 (.fa 4 (.t 7))),.q (.l 47 (.ld1 (.t 46))),.q (.q 48 (.fa 0 (.t 11))),.q (.l 49 (.ld1 (.t 48))),.q (.l 50 (.ldn 3 (.t 3))),.q (.q 51 (.fa 2 (.t 11))),.q (.l 52 (.ldn 4 (.t 51))),.q (.v 53 2),.q (.q 54 (.bin .sub true (.t 53) (.i 1))),.m (.a 55 (.cl 83 [(.t 50),(.t 52),(.t 54)] [])),.rc (.q 46 (.fa 4 (.t 7))),.rc (.l 47 (.ld1 (.t 46))),.rc (.q 48 (.fa 0 (.t 11))),.rc (.l 49 (.ld1 (.t 48))),.q (.q 56 (.bd [(.int .i64 0),(.int .i64 0),(.int .i64 0),(.string (mk [])),(.slice none 0 0),(.slice none 0 0)] [(0,1,(.t 49)),(1,5,(.t 55))])),.m (.e 57 (.bsl 76 6 [(.t 56)])),.rc (.q 46 (.fa 4 (.t 7))),.rc (.l 47 (.ld1 (.t 46))),.m (.e 58 (.ap 76 6 88 (.t 47) (.t 57))),.q (.q 59 (.fa 4 (.t 7))),.m (.s (.st 1 (.t 59) (.t 58)))]) .skip)))) (.reg [.q 60 (.bin .add true (.t 39) (.i 1)),.v 39 60]))))))) (.seq (.reg [.l 61 (.ldn 5 (.t 7)),.s (.st 5 (.t 6) (.t 61))]) .ret))))))
def EG:List RV:=[.ld (.ldn 5 (.t 6))]
theorem aLF:aP Tryz.prog true ⟨fun r k=>if r=1/\k=5 then .q else .own [],fun _=>false⟩ Tryz.f83=some (B3,EG):=by kernel_rfl
def QW:PC:=.seq (.reg [.q 3 (.mv (.k (.bool false)))]) (.seq (.reg [.v 4 0,.q 5 (.fa 1 (.t 1)),.l 6 (.ld1 (.t 5)),.q 7 (.bin .eql true (.t 4) (.t 6)),.v 3 7]) .ret)
def SC:List RV:=[.mv (.t 3)]
theorem aC8:aP Tryz.prog true ⟨fun _ _=>.own [],fun _=>false⟩ Tryz.f115=some (QW,SC):=by kernel_rfl
def j0:PC:=.seq (.gh (.reg [.v 25 8,.q 26 (.not (.t 25)),.v 27 26,⟨some 28,(some (27,false)),.q (.mv (.t 5))⟩,⟨some 29,(some (27,false)),.q (.bin .gtr true (.t 28) (.i 0))⟩,⟨some 30,(some (27,false)),.q (.mv (.t 29))⟩,⟨some 31,(some (30,true)),.q (.mv (.t 1))⟩,⟨some 32,(some (30,true)),.q (.mv (.t 5))⟩,⟨some 33,(some (30,true)),.q (.bin .sub true (.t 32) (.i 1))⟩,⟨some 34,(some (30,true)),.l (.ia 6 (.t 31) (.t 33))⟩,⟨some 35,(some (30,true)),.q (.fa 0 (.t 34))⟩,⟨some 36,(some (30,true)),.l (.ld1 (.t 35))⟩,⟨some 37,(some (30,true)),.q (.fa 0 (.t 6))⟩,⟨some 38,(some (30,true)),.l (.ld1 (.t 37))⟩,⟨some 39,(some (30,true)),.q (.bin .geq true (.t 36) (.t 38))⟩,⟨some 40,(some (27,false)),.pick (.t 30) (.t 39) (.k (.bool false))⟩,.a 41 (.pick (.t 27) (.k (.bool true)) (.t 40))])) (.cond (.t 41) (.seq (.reg [.q 4 (.mv (.k (.bool false)))]) .ret) .skip)
@[go_sem ↓] theorem aGJ:aM j0:=aO _
def v2:PC:=.seq (.gh (.reg [.l 19 (.ldn 2 (.t 2)),.q 20 (.fa 0 (.t 6)),.l 21 (.ld1 (.t 20)),.a 22 (.cl 54 [(.t 19),(.t 21)] []),.v 18 22,.q 23 (.ex (.t 18) 0),.q 24 (.ex (.t 18) 1),.e 7 (.al (.agg #[(.int .i64 0),(.string (mk [])),(.int .i64 0),(.int .i64 0),(.string (mk [])),(.slice none 0 0),(.bool false)]) 52),.s (.st 7 (.t 7) (.t 23)),.v 8 24])) (j0)
@[go_sem ↓] theorem aF1:aM v2:=aO _
def m6:PC:=.seq (.gh (.reg [.q 50 (.fa 6 (.t 10)),.l 51 (.ld1 (.t 50)),.q 52 (.not (.t 51)),.v 53 52,⟨some 54,(some (53,true)),.q (.mv (.t 1))⟩,⟨some 55,(some (53,true)),.q (.mf 151 [(.t 10)])⟩,⟨some 56,(some (53,true)),.cl 150 [(.t 54),(.t 55)] [1]⟩,⟨some 57,(some (53,true)),.q (.not (.t 56))⟩,.a 58 (.pick (.t 53) (.t 57) (.k (.bool false)))])) (.cond (.t 58) (.seq (.reg [.q 4 (.mv (.k (.bool false)))]) .ret) .skip)
@[go_sem ↓] theorem aCO:aM m6:=aO _
def xP:PC:=.seq (.seq (.gh (.reg [.q 43 (.fa 1 (.t 2)),.l 44 (.ld1 (.t 43)),.q 45 (.lnL (.t 44)),.q 46 (.mv (.i 0))])) (.block 2 (.loop (.seq (.reg [.q 47 (.bin .lss true (.t 46) (.t 45))]) (.seq (.cond (.t 47) .skip (.exit 2)) (.seq (.block 3 (.seq (.reg [.l 48 (.ia 7 (.t 44) (.t 46)),.l 49 (.ldn 7 (.t 48)),.e 10 (.al (.agg #[(.int .i64 0),(.string (mk [])),(.int .i64 0),(.int .i64 0),(.string (mk [])),(.slice none 0 0),(.bool false)]) 52),.s (.st 7 (.t 10) (.t 49))]) (m6))) (.reg [.q 59 (.bin .add true (.t 46) (.i 1)),.v 46 59]))))))) (.seq (.reg [.q 4 (.mv (.k (.bool true)))]) .ret)
@[go_sem ↓] theorem aFT:aM xP:=aO _
def P5:PC:=.seq (.reg [.e 2 (.bx 48 (.t 0)),.q 4 (.mv (.k (.bool false)))]) (.seq (.seq (.reg [.v 11 1,.q 12 (.lnL (.t 11)),.q 13 (.mv (.i 0))]) (.block 0 (.loop (.seq (.reg [.q 14 (.bin .lss true (.t 13) (.t 12))]) (.seq (.cond (.t 14) .skip (.exit 0)) (.seq (.block 1 (.seq (.reg [.v 15 13,.l 16 (.ia 6 (.t 11) (.t 13)),.l 17 (.ldn 6 (.t 16)),.e 6 (.al (.agg #[(.int .i64 0),(.int .i64 0),(.int .i64 0),(.string (mk [])),(.slice none 0 0),(.slice none 0 0)]) 76),.v 5 15,.s (.st 6 (.t 6) (.t 17))]) (v2))) (.reg [.q 42 (.bin .add true (.t 13) (.i 1)),.v 13 42]))))))) (xP))
def RA:List RV:=[.mv (.t 4)]
theorem aCY:aP Tryz.prog true ⟨fun r k=>if r=11/\k=6 then .own [1] else .own [],fun r=>[4,5,8,11].contains r⟩ Tryz.f116=some (P5,RA):=by kernel_rfl
def RL:PC:=.seq (.reg [.e 2 (.bx 76 (.t 0)),.q 3 (.mv (.k (.bool false)))]) (.seq (.reg [.q 4 (.fa 0 (.t 2)),.l 5 (.ld1 (.t 4)),.q 6 (.fa 0 (.t 1)),.l 7 (.ld1 (.t 6)),.q 8 (.bin .eql true (.t 5) (.t 7)),.v 3 8]) .ret)
def QX:List RV:=[.mv (.t 3)]
theorem aCL:aP Tryz.prog true ⟨fun _ _=>.own [],fun _=>false⟩ Tryz.f151=some (RL,QX):=by kernel_rfl
def lY (v:Vl):Bool:=(v.k != 5) && (v.k != 6) && ((v.l.length:Int) == 0) && ((v.f.length:Int) == 0)
def jC (g:Vl->Int) (most:Int) (d:Int) (x:Vl):Int:=bif decide (d<=most) then max d (g x) else d
def l8 (g:Vl->Int) (most:Int) (d:Int) (x:Int × Vl):Int:=bif decide (d<=most) then max d (g x.2) else d
def D4 (g:Vl->Int) (most:Int) (v:Vl):Int:=bif lY v then 0 else 1 + v.f.foldl (l8 g most) (v.l.foldl (jC g most) 0)
def n8:Nat->Vl->Int
 | 0=>D4 (fun _=>0) (-1)
 | n + 1=>D4 (n8 n) n
def fI:Nat->Vl->Int
 | 0=>fun _=>0
 | n + 1=>n8 n
theorem uS (n:Nat):n8 n=D4 (fI n) ((n:Int) - 1):=by
 cases n with
 | zero=>rfl
 | succ n=>rw [n8,fI]; congr 1; omega
theorem C3 {g:Vl->Int} {most B:Int} (hg:∀ x,0<=g x/\g x<=B) {d:Int} (h:0<=d/\d<=B) (x:Vl):0<=jC g most d x/\jC g most d x<=B:=by
 unfold jC
 cases decide (d<=most)
 · exact h
 · have:=hg x; show 0<=max d (g x)/\max d (g x)<=B; omega
theorem KC {g:Vl->Int} {most B:Int} (hg:∀ x,0<=g x/\g x<=B) {d:Int} (h:0<=d/\d<=B) (x:Int × Vl):0<=l8 g most d x/\l8 g most d x<=B:=C3 hg h x.2
theorem mE {α:Type} {f:Int->α->Int} {B:Int} (h:∀ d x,0<=d/\d<=B->0<=f d x/\f d x<=B):∀ (l:List α) (d:Int),0<=d/\d<=B->0<=l.foldl f d/\l.foldl f d<=B
 | [],_,hd=>hd
 | x :: l,d,hd=>mE h l (f d x) (h d x hd)
theorem mG:∀ (n:Nat) (x:Vl),0<=fI n x/\fI n x<=n
 | 0,_=>⟨Int.le_refl _,Int.le_refl _⟩
 | n + 1,x=>by
  rw [fI,uS]
  unfold D4
  have h1:=mE (f:=jC (fI n) ((n:Int) - 1)) (fun d x h=>C3 (mG n) h x) x.l 0 ⟨Int.le_refl _,by omega⟩
  have h2:=mE (f:=l8 (fI n) ((n:Int) - 1)) (fun d x h=>KC (mG n) h x) x.f _ h1
  cases lY x
  · show 0<=1 + _/\1 + _<=_; omega
  · show (0:Int)<=0/\(0:Int)<=_; omega
theorem zM {α β:Type} {f:β->α->β} {l:List α} {i:Nat} {x:α} (h:l[i]? = some x) (d:β):(l.take (i + 1)).foldl f d=f ((l.take i).foldl f d) x:=by rw [dV h,List.foldl_append]; rfl
def uR (n:Nat):List S->Prop:=fun av=>match av with
 | [.va (.gs r),.va (.c1 (.vl (.int .i64 k)))]=>0 < n/\nF r/\k=(n:Int) - 2/\n<=100
 | _=>False
theorem iW {n:Nat} {av:List S} (h:uR n av):∃ m v,n=m + 1/\av=[.va (.gs (aQ v)),iS .i64 ((m:Int) - 1)]/\VlOk v/\m<=99:=by
 unfold uR at h
 split at h
 · obtain ⟨h0,⟨v,rfl,hv⟩,rfl,hn⟩:=h
   refine ⟨n - 1,v,by omega,?_,hv,by omega⟩
   rw [show (n:Int) - 2=((n - 1:Nat):Int) - 1 by omega]
 · exact h.elim
noncomputable def JG (n:Nat):List S->A:=fun av=>match av with
 | [.va (.gs r),.va (.c1 (.vl (.int .i64 _)))]=>iA .i64 (fI n (C.vv r))
 | _=>.gs []
noncomputable def AU (n:Nat):Fun:=⟨uR n,JG n,fun av h=>by obtain ⟨m,v,_,rfl,_⟩:=iW h; trivial⟩
theorem J5 {n:Nat}:∀ av H K,(AU n).sp av H K->av.length=2:=fun av H K h=>by obtain ⟨m,v,_,rfl,_⟩:=iW h.1.1; rfl
attribute [go_sem] AU uR JG
theorem GP:∀ n,Meets Tryz.prog 41 (AU n).sp
 | 0=>⟨by kernel_rfl,by rintro xs vs E ro w K _ _ _ ⟨⟨h,_⟩,_⟩; obtain ⟨m,_,h,_⟩:=iW h; omega⟩
 | n + 1=>by
  refine aD Tryz.func41 aH7 2 (by rw [Tryz.ntmps41]; decide) (aH (GP n) (aB _)) J5 ?_
  rintro av H K ⟨⟨h,rfl⟩,hK⟩
  obtain ⟨m,v,hm,rfl,hv,hm99⟩:=iW h
  obtain rfl:m=n:=by omega
  have hK:K (iS .i64 (n8 m v)) []:=by
   have:(AU (m + 1)).val [.va (.gs (aQ v)),iS .i64 ((m:Int) - 1)]=iA .i64 (n8 m v):=by simp -dsimp only [go_sem,fI]
   rw [this] at hK; exact hK
  clear h hm
  rw [uS] at hK
  unfold D4 at hK
  have hll:=hv.ll
  have hlf:=hv.lf
  have bd1:=fun i=>mE (f:=jC (fI m) ((m:Int) - 1)) (fun d x h=>C3 (mG m) h x) (v.l.take i) 0 ⟨Int.le_refl _,by omega⟩
  have fin:∀ (z:Int) (R:Hp),(bif lY v then 0 else 1 + v.f.foldl (l8 (fI m) ((m:Int) - 1)) (v.l.foldl (jC (fI m) ((m:Int) - 1)) 0))=z->W.Fin 0 K (iS .i64 z) R:=fun z R h=>by
   rw [h] at hK; exact .sel [] (by simp) (by simp) rfl (.done (by simpa [go_sem] using hK))
  clear hK
  cases hsc:lY v with
  | true=>
   have hs':=hsc
   unfold lY at hs'
   simp (maxSteps:=1000000) -dsimp only [go_sem,aK v,ME,NA,hs']
   exact fin _ _ (by rw [hsc]; rfl)
  | false=>
   have hs':=hsc
   unfold lY at hs'
   rw [hsc] at fin
   simp (maxSteps:=1000000) -dsimp only [go_sem,aK v,ME,NA,hs']
   refine aU (α:=Nat) (fun i=>[(1,iS .i64 ((m:Int) - 1)),(2,.va (.c1 (.pt 0 0))),(5,iS .i64 ((v.l.take i).foldl (jC (fI m) ((m:Int) - 1)) 0)),(31,.va (.c1 (.fz (v.l.map aQ)))),(32,iS .i64 v.l.length),(33,iS .i64 i)]) (fun _=>[.cells (bD v) 29])
    (fun i=>i<=v.l.length) (fun i=>v.l.length - i) 0 1 (Nat.zero_le _) ?_ ?_ ?_
   · simp -dsimp only [go_sem]<;>simp
   · simp -dsimp only [go_sem,bD]<;>simp
   intro i hi
   rcases a8 i v.l.length with hlt | hge
   · have hg:decide ((i:Int) < (v.l.length:Int))=true:=by simp; omega
     obtain ⟨x,hx⟩:∃ t,v.l[i]? = some t:=⟨_,aV hlt⟩
     have q1:=lJ hx
     have hxm:=b6 hx
     have k1:=dO (hv.l x hxm)
     have k2:=gJ x
     have ft:=zM (f:=jC (fI m) ((m:Int) - 1)) hx 0
     have hbd:=bd1 i
     generalize hd:(v.l.take i).foldl (jC (fI m) ((m:Int) - 1)) 0=d at *
     have hgb:=mG m x
     cases hc:decide (d<=(m:Int) - 1) with
     | true=>
      have hm0:0 < m:=by have:=of_decide_eq_true hc; omega
      have he:(m:Int) - 1 - 1=(m:Int) - 2:=by omega
      have hn:m<=100:=by omega
      simp (maxSteps:=1000000) -dsimp only [go_sem,hg,↓q1,bD,k1,k2,hc,he,hm0,hn]
      refine ⟨by omega,by omega,by omega,aE (i + 1) 1 (by omega) (by omega) ?_ ?_⟩
      · simp -dsimp only [go_sem,ft,jC,hc]<;>simp
      · simp -dsimp only [go_sem,bD]<;>simp [bD]
     | false=>
      simp (maxSteps:=1000000) -dsimp only [go_sem,hg,↓q1,bD,hc]
      refine ⟨by omega,by omega,aE (i + 1) 1 (by omega) (by omega) ?_ ?_⟩
      · simp -dsimp only [go_sem,ft,jC,hc]<;>simp
      · simp -dsimp only [go_sem,bD]<;>simp [bD]
   · have hg:decide ((i:Int) < (v.l.length:Int))=false:=by simp; omega
     obtain rfl:i=v.l.length:=by omega
     have hbd:=bd1 v.l.length
     rw [List.take_length] at hbd ⊢
     simp (maxSteps:=1000000) -dsimp only [go_sem,hg,bD]
     generalize v.l.foldl (jC (fI m) ((m:Int) - 1)) 0=D at *
     have bd2:=fun i=>mE (f:=l8 (fI m) ((m:Int) - 1)) (fun d x h=>KC (mG m) h x) (v.f.take i) D hbd
     clear hi hge hg bd1
     refine aU (α:=Nat) (fun i=>[(1,iS .i64 ((m:Int) - 1)),(2,.va (.c1 (.pt 0 0))),(5,iS .i64 ((v.f.take i).foldl (l8 (fI m) ((m:Int) - 1)) D)),(48,.va (.c1 (.fz (v.f.map bE)))),(49,iS .i64 v.f.length),(50,iS .i64 i)]) (fun _=>[.cells (bD v) 29])
      (fun i=>i<=v.f.length) (fun i=>v.f.length - i) 0 1 (Nat.zero_le _) ?_ ?_ ?_
     · simp -dsimp only [go_sem]<;>simp
     · simp -dsimp only [go_sem,bD]<;>simp
     intro i hi
     rcases a8 i v.f.length with hlt | hge
     · have hg:decide ((i:Int) < (v.f.length:Int))=true:=by simp; omega
       obtain ⟨x,hx⟩:∃ t,v.f[i]? = some t:=⟨_,aV hlt⟩
       have q1:=gZ hx
       have hxm:=b6 hx
       have k1:=dO (hv.f x hxm)
       have k2:=gJ x.2
       have ft:=zM (f:=l8 (fI m) ((m:Int) - 1)) hx D
       have hbd2:=bd2 i
       generalize hd:(v.f.take i).foldl (l8 (fI m) ((m:Int) - 1)) D=d at *
       have hgb:=mG m x.2
       cases hc:decide (d<=(m:Int) - 1) with
       | true=>
        have hm0:0 < m:=by have:=of_decide_eq_true hc; omega
        have he:(m:Int) - 1 - 1=(m:Int) - 2:=by omega
        have hn:m<=100:=by omega
        simp (maxSteps:=1000000) -dsimp only [go_sem,hg,↓q1,bD,k1,k2,hc,he,hm0,hn]
        refine ⟨by omega,by omega,by omega,aE (i + 1) 1 (by omega) (by omega) ?_ ?_⟩
        · simp -dsimp only [go_sem,ft,l8,hc]<;>simp
        · simp -dsimp only [go_sem,bD]<;>simp [bD]
       | false=>
        simp (maxSteps:=1000000) -dsimp only [go_sem,hg,↓q1,bD,hc]
        refine ⟨by omega,by omega,aE (i + 1) 1 (by omega) (by omega) ?_ ?_⟩
        · simp -dsimp only [go_sem,ft,l8,hc]<;>simp
        · simp -dsimp only [go_sem,bD]<;>simp [bD]
     · have hg:decide ((i:Int) < (v.f.length:Int))=false:=by simp; omega
       obtain rfl:i=v.f.length:=by omega
       have hbd2:=bd2 v.f.length
       rw [List.take_length] at hbd2 ⊢
       simp (maxSteps:=1000000) -dsimp only [go_sem,hg,bD]
       exact ⟨by omega,fin _ _ rfl⟩
theorem tL:∀ N,Meets Tryz.prog 75 (IA N).sp
 | 0=>⟨by kernel_rfl,by rintro xs vs E ro w K _ _ _ ⟨⟨h,_⟩,_⟩; obtain ⟨_,a,_,_,_,h⟩:=jQ h; have:=a.h_pos; omega⟩
 | N + 1=>by
  refine aD Tryz.func75 aJ7 2 (by rw [Tryz.ntmps75]; decide) (aH (tL N) (aC iG (aC DH (aB _)))) LM ?_
  rintro av H K ⟨⟨h,rfl⟩,hK⟩
  obtain ⟨sc,t,rfl,hs,ht,hh⟩:=jQ h
  have hK:K (bS (valF sc.ss sc.es t)) []:=by
   have:(IA (N + 1)).val [.va (.gs (aI sc)),.va (.gs (aW t))]=bA (valF sc.ss sc.es t):=by simp -dsimp only [go_sem]
   rw [this] at hK; exact hK
  clear h
  have fin:∀ (b:Bool) (R:Hp),valF sc.ss sc.es t=b->W.Fin 0 K (bS b) R:=fun b R h=>by
   rw [h] at hK
   exact .sel [] (by simp) (by simp) rfl (.done (by simp -dsimp only [go_sem]; simpa using hK))
  clear hK
  cases t with
  | mk k s n e=>
  have hF:=valF.eq_1 sc.ss sc.es k s n e
  simp (maxSteps:=1000000) -dsimp only [go_sem,aI,aW,bI,Y1,YP]
  refine ⟨fun k1=>fin _ _ (by rw [hF,k1]; simp only [bJ]; ac_rfl),fun k1=>aA rfl (.done ?_)⟩
  rw [k1,aX] at hF
  simp (maxSteps:=1000000) -dsimp only [go_sem,DL]
  refine ⟨fun k2=>aA rfl (.done ?_),fun k2=>aA rfl (.done ?_)⟩
  · rw [k2,bJ] at hF
    have hF':valF sc.ss sc.es (.mk k s n e)=((bl n == [] && (e.length:Int) == 0) && (s == 8 || s == 16 || s == 32 || s == 64)):=by rw [hF]; ac_rfl
    clear hF
    cases hp:(bl n == [] && (e.length:Int) == 0) with
    | false=>
     simp (maxSteps:=1000000) -dsimp only [go_sem,j6]
     exact fin _ _ (by rw [hF',hp]; rfl)
    | true=>
     rw [hp,Bool.true_and] at hF'
     cases h8:s == 8 with
     | true=>
      simp (maxSteps:=1000000) -dsimp only [go_sem,j6,h8]
      exact fin _ _ (by rw [hF',h8]; rfl)
     | false=>
     cases h16:s == 16 with
     | true=>
      simp (maxSteps:=1000000) -dsimp only [go_sem,j6,h8,h16]
      exact fin _ _ (by rw [hF',h8,h16]; rfl)
     | false=>
     cases h32:s == 32 with
     | true=>
      simp (maxSteps:=1000000) -dsimp only [go_sem,j6,h8,h16,h32]
      exact fin _ _ (by rw [hF',h8,h16,h32]; rfl)
     | false=>
      simp (maxSteps:=1000000) -dsimp only [go_sem,j6,h8,h16,h32]
      exact fin _ _ (by rw [hF',h8,h16,h32]; rfl)
  rw [k2,aX] at hF
  simp (maxSteps:=1000000) -dsimp only [go_sem,A8]
  refine ⟨fun k3=>aA rfl (.done ?_),fun k3=>aA rfl (.done ?_)⟩
  · rw [k3] at hF
    simp only [bJ,Bool.and_false,Bool.or_false] at hF
    have hF':valF sc.ss sc.es (.mk k s n e)=((bl n == [] && (e.length:Int) == 0) && (s == 8 || s == 16 || s == 32)):=by rw [hF]; ac_rfl
    clear hF
    cases hp:(bl n == [] && (e.length:Int) == 0) with
    | false=>
     simp (maxSteps:=1000000) -dsimp only [go_sem,mD]
     exact fin _ _ (by rw [hF',hp]; rfl)
    | true=>
     rw [hp,Bool.true_and] at hF'
     cases h8:s == 8 with
     | true=>
      simp (maxSteps:=1000000) -dsimp only [go_sem,mD,h8]
      exact fin _ _ (by rw [hF',h8]; rfl)
     | false=>
     cases h16:s == 16 with
     | true=>
      simp (maxSteps:=1000000) -dsimp only [go_sem,mD,h8,h16]
      exact fin _ _ (by rw [hF',h8,h16]; rfl)
     | false=>
      simp (maxSteps:=1000000) -dsimp only [go_sem,mD,h8,h16]
      exact fin _ _ (by rw [hF',h8,h16]; rfl)
  rw [k3,aX] at hF
  simp (maxSteps:=1000000) -dsimp only [go_sem,CZ]
  refine ⟨fun k4=>fin _ _ (by rw [hF,k4]; simp only [bJ]; ac_rfl),fun k4=>aA rfl (.done ?_)⟩
  rw [k4,aX] at hF
  simp (maxSteps:=1000000) -dsimp only [go_sem,xK]
  refine ⟨fun k5=>aA rfl (.done ?_),fun k5=>aA rfl (.done ?_)⟩
  · rw [k5,bJ] at hF
    have no:∀ {R:Hp},(bl n == [])=false\/decide (1<=s)=false\/decide (s<=32)=false\/((e.length:Int) == 1)=false->W.Fin 0 K (bS false) R:=fun h=>fin _ _ (by
     rw [hF]
     rcases h with h | h | h | h
     · rw [h,Bool.and_false,Bool.false_and]
     · rw [h,Bool.false_and,Bool.false_and,Bool.false_and]
     · rw [h,Bool.and_false,Bool.false_and,Bool.false_and]
     · match e,h with
       | [],_=>simp [jO]
       | [u],h=>simp at h
       | u :: v :: r,_=>simp [jO])
    cases h1:bl n == [] with
    | false=>
     simp (maxSteps:=1000000) -dsimp only [go_sem,iC,h1]
     exact no (.inl h1)
    | true=>
    cases h2:decide (1<=s) with
    | false=>
     simp (maxSteps:=1000000) -dsimp only [go_sem,iC,h1,h2]
     exact no (.inr (.inl h2))
    | true=>
    cases h3:decide (s<=32) with
    | false=>
     simp (maxSteps:=1000000) -dsimp only [go_sem,iC,h1,h2,h3]
     exact no (.inr (.inr (.inl h3)))
    | true=>
    cases h4:(e.length:Int) == 1 with
    | false=>
     simp (maxSteps:=1000000) -dsimp only [go_sem,iC,h1,h2,h3,h4]
     exact no (.inr (.inr (.inr h4)))
    | true=>
     have hl1:(e.length:Int)=1:=by simpa using h4
     obtain ⟨u,rfl⟩:∃ u,e=[u]:=List.length_eq_one_iff.1 (by omega)
     have hF':valF sc.ss sc.es (.mk k s n [u])=valF sc.ss sc.es u:=by rw [hF,h1,h2,h3]; simp [jO]
     have hu2:u.h<=N:=by rw [Ty.h,Ty.hs,Ty.hs] at hh; omega
     have hu:oI (aW u):=l5 (ht.e u (by simp [Ty.e]))
     have hsf:=nD hs
     rw [aI] at hsf
     have hsd:=kF sc
     rw [aI] at hsd
     have h4':(((1:Nat):Int) == 1)=true:=rfl
     simp (maxSteps:=1000000) -dsimp only [go_sem,iC,h1,h2,h3,h4']
     refine ⟨⟨by omega,fun r hr=>by subst hr; exact dH u⟩,fun r hr=>?_⟩
     subst hr
     simp (maxSteps:=1000000) -dsimp only [go_sem,hsf,hsd,hu,dH]
     exact ⟨hu2,fin _ _ hF'⟩
  rw [k5,aX] at hF
  simp (maxSteps:=1000000) -dsimp only [go_sem,v8]
  refine ⟨fun k6=>aA rfl (.done ?_),fun k6=>aA rfl (.done ?_)⟩
  · rw [k6,bJ] at hF
    simp (maxSteps:=1000000) -dsimp only [go_sem,xX]
    refine jY hs ?_
    simp (maxSteps:=1000000) -dsimp only [go_sem,aJ]
    refine aA rfl (.done ?_)
    cases h1:cK sc.ss n<;>cases h2:s == 0 <;>
    · simp (maxSteps:=1000000) -dsimp only [go_sem,xZ,h2]
      exact fin _ _ (by rw [hF,h1,h2]; rfl)
  rw [k6,aX] at hF
  simp (maxSteps:=1000000) -dsimp only [go_sem,wY]
  refine ⟨fun k7=>aA rfl (.done ?_),fun k7=>fin _ _ (by rw [hF,k7]; rfl)⟩
  rw [k7,bJ] at hF
  simp (maxSteps:=1000000) -dsimp only [go_sem,yG]
  refine xH hs ?_
  simp (maxSteps:=1000000) -dsimp only [go_sem,a7]
  refine aA rfl (.done ?_)
  cases h1:dA sc.es n<;>cases h2:s == 0 <;>
  · simp (maxSteps:=1000000) -dsimp only [go_sem,vT,h2]
    exact fin _ _ (by rw [hF,h1,h2]; rfl)
theorem rT:Meets Tryz.prog 75 r0Fn.sp:=dX 0 tL fun av H K ⟨⟨h,e⟩,hK⟩=>by
 obtain ⟨a,b,rfl,ha,hb⟩:=tU h
 exact ⟨b.h,⟨⟨⟨nD ha,l5 hb,by rw [oC]; exact Nat.le_refl _⟩,e⟩,hK⟩⟩
def f6 (s:Sc) (t:Ty) (n:Int):Bool:=
 bif t.k == 1 then n == 0 || n == 1
 else bif t.k == 2 then t.s == 64 || (decide (-(2 ^ (t.s.toNat - 1):Int)<=n) && decide (n < (2 ^ (t.s.toNat - 1):Int)))
 else bif t.k == 3 then decide (0<=n) && decide (n < (2 ^ t.s.toNat:Int))
 else bif t.k == 7 then ((eI s.es t.n).getD default).vs.any fun x=>x == n else false
def nQ (s:Sc) (t:Ty) (n:Int) (str:ByteArray) (ll lf:Int):Int:=bif !(bl str == []) || decide (0 < ll) || decide (0 < lf) then 13 else bif f6 s t n then 0 else 4
def mS (t:Ty) (n:Int) (str:ByteArray) (ll lf:Int):Int:=bif n != 0 || decide (0 < ll) || decide (0 < lf) then 13 else bif decide (t.s < ((bl str).length:Int)) then 3 else 0
def ZJ:Option Int->Int->Bool
 | none,_=>true
 | some q,n=>decide (q < n)
def ftA (fs:List Fl):Option Int->List (Int × Vl)->Bool
 | _,[]=>true
 | p,x :: r=>(fF fs x.1).isSome && ZJ p x.1 && ftA fs (some x.1) r
theorem L0 (fs:List Fl) (p:Option Int) (x:Int × Vl) (r:List (Int × Vl)):ftA fs p (x :: r)=((fF fs x.1).isSome && ZJ p x.1 && ftA fs (some x.1) r):=by rw [ftA.eq_def]
theorem TT (fs:List Fl) (p:Option Int):ftA fs p []=true:=by rw [ftA.eq_def]
def n9 (l:List (Int × Vl)) (n:Int):Bool:=l.any fun y=>y.1 == n
def eE (fs:List Fl) (l:List (Int × Vl)):Bool:=ftA fs none l && fs.all fun f=>f.opt || n9 l f.num
mutual
def cZ (s:Sc) (t:Ty):Vl->Int
 | .mk k n str l f=>
  bif !(valF s.ss s.es t) || k != t.k then 13
  else bif t.k == 4 then mS t n str l.length f.length
  else bif t.k == 5 then (bif n != 0 || !(bl str == []) || decide (0 < (f.length:Int)) then 13 else bif decide (t.s < (l.length:Int)) then 3 else hZ s (t.e.headD default) l)
  else bif t.k == 6 then (bif n != 0 || !(bl str == []) || decide (0 < (l.length:Int)) || !(eE ((fS s.ss t.n).getD default).fs f) then 13 else hY s ((fS s.ss t.n).getD default).fs f)
  else nQ s t n str l.length f.length
def hZ (s:Sc) (t:Ty):List Vl->Int
 | []=>0
 | v :: r=>bif cZ s t v != 0 then cZ s t v else hZ s t r
def hY (s:Sc) (fs:List Fl):List (Int × Vl)->Int
 | []=>0
 | (i,v) :: r=>bif cZ s ((fF fs i).getD default).ty v != 0 then cZ s ((fF fs i).getD default).ty v else hY s fs r
end
theorem IN (s:Sc) (t:Ty) (v:Vl):cZ s t v=bif !(valF s.ss s.es t) || v.k != t.k then 13
 else bif t.k == 4 then mS t v.n v.s v.l.length v.f.length
 else bif t.k == 5 then (bif v.n != 0 || !(bl v.s == []) || decide (0 < (v.f.length:Int)) then 13 else bif decide (t.s < (v.l.length:Int)) then 3 else hZ s (t.e.headD default) v.l)
 else bif t.k == 6 then (bif v.n != 0 || !(bl v.s == []) || decide (0 < (v.l.length:Int)) || !(eE ((fS s.ss t.n).getD default).fs v.f) then 13 else hY s ((fS s.ss t.n).getD default).fs v.f)
 else nQ s t v.n v.s v.l.length v.f.length:=by cases v; rw [cZ]; rfl
theorem BI (s:Sc) (fs:List Fl) (x:Int × Vl) (r:List (Int × Vl)):hY s fs (x :: r)=bif cZ s ((fF fs x.1).getD default).ty x.2 != 0 then cZ s ((fF fs x.1).getD default).ty x.2 else hY s fs r:=by cases x; rw [hY]
abbrev JR:S:=.va (.c1 (.fn 115 [(false,[.pt 0 0])]))
def YZ:W.Spec:=fun av H K=>∃ (x:Int) (v:Vl),av=[iS .i64 x,.va (.c1 (.pt 0 0))]/\H=[.cells (bD v) 29]/\K (bS (x == v.n)) [.cells (bD v) 29]
theorem YA {x:Int} {v:Vl} {K:S->Hp->Prop} (hK:K (bS (x == v.n)) [.cells (bD v) 29]):YZ [iS .i64 x,.va (.c1 (.pt 0 0))] [.cells (bD v) 29] K:=⟨x,v,rfl,rfl,hK⟩
theorem NH:Meets Tryz.prog 115 YZ:=by
 refine aD Tryz.func115 aC8 2 (by rw [Tryz.ntmps115]; decide) (aB _) (fun av H K h=>by obtain ⟨_,_,rfl,_⟩:=h; rfl) ?_
 rintro av H K ⟨x,v,rfl,rfl,hK⟩
 simp -dsimp only [go_sem,bD,QW,SC]
 exact .sel [0] (by simp) (by simp) rfl (.done (by simpa [go_sem,bD] using hK))
def t7 (p:Int->Bool):List Int->Nat->Int
 | [],_=>-1
 | x :: l,i=>bif p x then (i:Int) else t7 p l (i + 1)
theorem FH (p:Int->Bool):∀ (l:List Int) (i:Nat),decide (0<=t7 p l i)=l.any p
 | [],_=>rfl
 | x :: l,i=>by
  rw [List.any_cons,t7]
  cases h:p x
  · rw [aX,FH p l (i + 1),Bool.false_or]
  · simp
def XN:W.Spec:=fun av H K=>∃ (l:List Int) (v:Vl),av=[.va (.c1 (.fz (l.map dF))),JR]/\H=[.cells (bD v) 29]/\l.length<=9223372036854775807/\K (iS .i64 (t7 (fun x=>x == v.n) l 0)) [.cells (bD v) 29]
theorem X6 {l:List Int} {v:Vl} {K:S->Hp->Prop} (h:l.length<=9223372036854775807) (hK:K (iS .i64 (t7 (fun x=>x == v.n) l 0)) [.cells (bD v) 29]):XN [.va (.c1 (.fz (l.map dF))),JR] [.cells (bD v) 29] K:=⟨l,v,rfl,rfl,h,hK⟩
theorem UZ:Meets Tryz.prog 149 XN:=by
 refine aD Tryz.func149 aC1 2 (by rw [Tryz.ntmps149]; decide) (aC NH (aB _)) (fun av H K h=>by obtain ⟨_,_,rfl,_⟩:=h; rfl) ?_
 rintro av H K ⟨l,v,rfl,rfl,hl,hK⟩
 simp -dsimp only [go_sem,QB,RI]
 refine aU (α:=Nat) (fun i=>[(0,.va (.c1 (.fz (l.map dF)))),(1,JR),(7,iS .i64 l.length),(8,iS .i64 i)]) (fun _=>[.cells (bD v) 29])
  (fun i=>i<=l.length/\t7 (fun x=>x == v.n) (l.drop i) i=t7 (fun x=>x == v.n) l 0) (fun i=>l.length - i) 0 1 ⟨Nat.zero_le _,rfl⟩ ?_ ?_ ?_
 · simp -dsimp only [go_sem]<;>simp
 · simp -dsimp only [go_sem,bD]<;>simp
 rintro i ⟨hi,ho⟩
 rcases a8 i l.length with hlt | hge
 · have hg:decide ((i:Int) < (l.length:Int))=true:=by simp; omega
   have hx:l[i]? = some l[i]:=aV hlt
   have q2:=aZ (row:=dF) hx
   rw [List.drop_eq_getElem_cons hlt,t7] at ho
   generalize l[i]=y at *
   simp -dsimp only [go_sem,hg,↓q2]
   refine ⟨by omega,YA ?_⟩
   cases hc:y == v.n with
   | true=>
    rw [hc,bJ] at ho
    simp -dsimp only [go_sem]
    exact .sel [0] (by simp) (by simp) rfl (.done (by simpa [go_sem,bD,ho] using hK))
   | false=>
    rw [hc,aX] at ho
    simp -dsimp only [go_sem]
    refine ⟨by omega,aE (i + 1) 1 ⟨by omega,ho⟩ (by omega) ?_ ?_⟩
    · simp -dsimp only [go_sem]<;>simp
    · simp -dsimp only [go_sem,bD]<;>simp [bD]
 · have hg:decide ((i:Int) < (l.length:Int))=false:=by simp; omega
   have:l.drop i=[]:=List.drop_eq_nil_iff.2 (by omega)
   rw [this] at ho
   simp -dsimp only [go_sem,hg]
   exact .sel [0] (by simp) (by simp) rfl (.done (by rw [show t7 (fun x=>x == v.n) l 0=-1 from ho.symm] at hK; simpa [go_sem,bD] using hK))
def XD:W.Spec:=fun av H K=>∃ (l:List Int) (v:Vl),av=[.va (.c1 (.fz (l.map dF))),JR]/\H=[.cells (bD v) 29]/\l.length<=9223372036854775807/\K (bS (l.any fun x=>x == v.n)) [.cells (bD v) 29]
theorem XX {l:List Int} {v:Vl} {K:S->Hp->Prop} (h:l.length<=9223372036854775807) (hK:K (bS (l.any fun x=>x == v.n)) [.cells (bD v) 29]):XD [.va (.c1 (.fz (l.map dF))),JR] [.cells (bD v) 29] K:=⟨l,v,rfl,rfl,h,hK⟩
theorem IE:Meets Tryz.prog 114 XD:=by
 refine aD Tryz.func114 aER 2 (by rw [Tryz.ntmps114]; decide) (aC UZ (aB _)) (fun av H K h=>by obtain ⟨_,_,rfl,_⟩:=h; rfl) ?_
 rintro av H K ⟨l,v,rfl,rfl,hl,hK⟩
 simp -dsimp only [go_sem,bD,PL,P8]
 refine X6 hl ?_
 simp -dsimp only [go_sem,bD,FH]
 exact .sel [0] (by simp) (by simp) rfl (.done (by simpa [go_sem,bD] using hK))
abbrev I4:S:=.va (.c1 (.fn 151 [(false,[.pt 0 0])]))
def GQ (x:Int × Vl):List C:=[.vl (.int .i64 x.1),.vl (.int .i64 x.2.k),.vl (.int .i64 x.2.n),.vl (.string x.2.s),.fz (x.2.l.map aQ),.fz (x.2.f.map bE)]
def RK:W.Spec:=fun av H K=>∃ (x:Int × Vl) (f:Fl),av=[.va (.gs (GQ x)),.va (.c1 (.pt 0 0))]/\H=[.cells (aT f) 52]/\K (bS (x.1 == f.num)) [.cells (aT f) 52]
theorem UO {x:Int × Vl} {f:Fl} {K:S->Hp->Prop} (hK:K (bS (x.1 == f.num)) [.cells (aT f) 52]):RK [.va (.gs (GQ x)),.va (.c1 (.pt 0 0))] [.cells (aT f) 52] K:=⟨x,f,rfl,rfl,hK⟩
theorem aBD:Meets Tryz.prog 151 RK:=by
 refine aD Tryz.func151 aCL 2 (by rw [Tryz.ntmps151]; decide) (aB _) (fun av H K h=>by obtain ⟨_,_,rfl,_⟩:=h; rfl) ?_
 rintro av H K ⟨x,f,rfl,rfl,hK⟩
 simp -dsimp only [go_sem,GQ,aT,RL,QX]
 exact .sel [0] (by simp) (by simp) rfl (.done (by simpa [go_sem,aT] using hK))
def gQ (n:Int):List (Int × Vl)->Nat->Int
 | [],_=>-1
 | x :: l,i=>bif x.1 == n then (i:Int) else gQ n l (i + 1)
theorem EY (n:Int):∀ (l:List (Int × Vl)) (i:Nat),decide (0<=gQ n l i)=n9 l n
 | [],_=>rfl
 | x :: l,i=>by
  rw [n9,List.any_cons,gQ]
  cases h:x.1 == n
  · rw [aX,EY n l (i + 1),Bool.false_or]; rfl
  · simp
def aAW:W.Spec:=fun av H K=>∃ (l:List (Int × Vl)) (f:Fl),av=[.va (.c1 (.fz (l.map bE))),I4]/\H=[.cells (aT f) 52]/\l.length<=9223372036854775807/\K (iS .i64 (gQ f.num l 0)) [.cells (aT f) 52]
theorem WR {l:List (Int × Vl)} {f:Fl} {K:S->Hp->Prop} (h:l.length<=9223372036854775807) (hK:K (iS .i64 (gQ f.num l 0)) [.cells (aT f) 52]):aAW [.va (.c1 (.fz (l.map bE))),I4] [.cells (aT f) 52] K:=⟨l,f,rfl,rfl,h,hK⟩
theorem VF:Meets Tryz.prog 117 aAW:=by
 refine aD Tryz.func117 QV 2 (by rw [Tryz.ntmps117]; decide) (aC aBD (aB _)) (fun av H K h=>by obtain ⟨_,_,rfl,_⟩:=h; rfl) ?_
 rintro av H K ⟨l,f,rfl,rfl,hl,hK⟩
 simp -dsimp only [go_sem,HY,HF]
 refine aU (α:=Nat) (fun i=>[(0,.va (.c1 (.fz (l.map bE)))),(1,I4),(7,iS .i64 l.length),(8,iS .i64 i)]) (fun _=>[.cells (aT f) 52])
  (fun i=>i<=l.length/\gQ f.num (l.drop i) i=gQ f.num l 0) (fun i=>l.length - i) 0 1 ⟨Nat.zero_le _,rfl⟩ ?_ ?_ ?_
 · simp -dsimp only [go_sem]<;>simp
 · simp -dsimp only [go_sem,aT]<;>simp
 rintro i ⟨hi,ho⟩
 rcases a8 i l.length with hlt | hge
 · have hg:decide ((i:Int) < (l.length:Int))=true:=by simp; omega
   have hx:l[i]? = some l[i]:=aV hlt
   have q2:=gZ hx
   rw [List.drop_eq_getElem_cons hlt,gQ] at ho
   generalize l[i]=y at *
   simp -dsimp only [go_sem,hg,↓q2]
   refine ⟨by omega,UO ?_⟩
   cases hc:y.1 == f.num with
   | true=>
    rw [hc,bJ] at ho
    simp -dsimp only [go_sem]
    exact .sel [0] (by simp) (by simp) rfl (.done (by simpa [go_sem,aT,ho] using hK))
   | false=>
    rw [hc,aX] at ho
    simp -dsimp only [go_sem]
    refine ⟨by omega,aE (i + 1) 1 ⟨by omega,ho⟩ (by omega) ?_ ?_⟩
    · simp -dsimp only [go_sem]<;>simp
    · simp -dsimp only [go_sem,aT]<;>simp [aT]
 · have hg:decide ((i:Int) < (l.length:Int))=false:=by simp; omega
   have:l.drop i=[]:=List.drop_eq_nil_iff.2 (by omega)
   rw [this] at ho
   simp -dsimp only [go_sem,hg]
   exact .sel [0] (by simp) (by simp) rfl (.done (by rw [show gQ f.num l 0=-1 from ho.symm] at hK; simpa [go_sem,aT] using hK))
def W7:W.Spec:=fun av H K=>∃ (l:List (Int × Vl)) (f:Fl),av=[.va (.c1 (.fz (l.map bE))),I4]/\H=[.cells (aT f) 52]/\l.length<=9223372036854775807/\K (bS (n9 l f.num)) [.cells (aT f) 52]
theorem ZO {l:List (Int × Vl)} {f:Fl} {K:S->Hp->Prop} (h:l.length<=9223372036854775807) (hK:K (bS (n9 l f.num)) [.cells (aT f) 52]):W7 [.va (.c1 (.fz (l.map bE))),I4] [.cells (aT f) 52] K:=⟨l,f,rfl,rfl,h,hK⟩
theorem IJ:Meets Tryz.prog 150 W7:=by
 refine aD Tryz.func150 aE6 2 (by rw [Tryz.ntmps150]; decide) (aC VF (aB _)) (fun av H K h=>by obtain ⟨_,_,rfl,_⟩:=h; rfl) ?_
 rintro av H K ⟨l,f,rfl,rfl,hl,hK⟩
 simp -dsimp only [go_sem,aT,SX,SU]
 refine WR hl ?_
 simp -dsimp only [go_sem,aT,EY]
 exact .sel [0] (by simp) (by simp) rfl (.done (by simpa [go_sem,aT] using hK))
def AH (P:Sc->Ty->Vl->Prop):List S->Prop:=fun av=>match av with
 | [.va (.gs r),.va (.gs q),.va (.gs p)]=>lD r/\oI q/\nF p/\P (C.sc r) (C.ty q) (C.vv p)
 | _=>False
theorem nP {P:Sc->Ty->Vl->Prop} {av:List S} (h:AH P av):∃ s t v,av=[.va (.gs (aI s)),.va (.gs (aW t)),.va (.gs (aQ v))]/\s.fit/\TyOk t/\VlOk v/\P s t v:=by
 unfold AH at h
 split at h
 · obtain ⟨⟨s,rfl,hs⟩,⟨t,rfl,ht⟩,⟨v,rfl,hv⟩,h⟩:=h
   rw [kF,oC,f7] at h
   exact ⟨s,t,v,rfl,hs,ht,hv,h⟩
 · exact h.elim
noncomputable def Q5 (f:Sc->Ty->Vl->Value):List S->A:=fun av=>match av with
 | [.va (.gs r),.va (.gs q),.va (.gs p)]=>.c1 (.vl (f (C.sc r) (C.ty q) (C.vv p)))
 | _=>.gs []
noncomputable def gY (P:Sc->Ty->Vl->Prop) (f:Sc->Ty->Vl->Value):Fun:=⟨AH P,Q5 f,fun av h=>by obtain ⟨_,_,_,rfl,_⟩:=nP h; trivial⟩
theorem gL {P:Sc->Ty->Vl->Prop} {f:Sc->Ty->Vl->Value}:∀ av H K,(gY P f).sp av H K->av.length=3:=fun av H K h=>by obtain ⟨_,_,_,rfl,_⟩:=nP h.1.1; rfl
attribute [go_sem] gY AH Q5
theorem eU {P:Sc->Ty->Vl->Prop} {f:Sc->Ty->Vl->Value} {av:List S} {H:Hp} {K:S->Hp->Prop} (h:(gY P f).sp av H K) :
 ∃ s t v,av=[.va (.gs (aI s)),.va (.gs (aW t)),.va (.gs (aQ v))]/\H=[]/\s.fit/\TyOk t/\VlOk v/\P s t v/\K (.va (.c1 (.vl (f s t v)))) []:=by
 obtain ⟨⟨h,rfl⟩,hK⟩:=h
 obtain ⟨s,t,v,rfl,hs,ht,hv,hp⟩:=nP h
 have:(gY P f).val [.va (.gs (aI s)),.va (.gs (aW t)),.va (.gs (aQ v))]=.c1 (.vl (f s t v)):=by simp -dsimp only [go_sem]
 rw [this] at hK
 exact ⟨s,t,v,rfl,rfl,hs,ht,hv,hp,hK⟩
theorem aBN:Meets Tryz.prog 77 (gY (fun _ _ _=>True) fun _ t v=>.int .i64 (mS t v.n v.s v.l.length v.f.length)).sp:=by
 refine aD Tryz.func77 aH1 3 (by rw [Tryz.ntmps77]; decide) (aB _) gL ?_
 intro av H K h
 obtain ⟨s,t,v,rfl,rfl,hs,ht,hv,_,hK⟩:=eU h
 clear h
 have fin:∀ (z:Int) (R:Hp),mS t v.n v.s v.l.length v.f.length=z->W.Fin 0 K (iS .i64 z) R:=fun z R h=>by
  rw [h] at hK; exact .sel [] (by simp) (by simp) rfl (.done (by simpa [go_sem] using hK))
 clear hK
 unfold mS at fin
 cases h1:v.n != 0<;>cases h2:decide (0 < (v.l.length:Int))<;>cases h3:decide (0 < (v.f.length:Int))<;>cases h4:decide (t.s < ((bl v.s).length:Int)) <;>
 · rw [h1,h2,h3,h4] at fin
   simp (maxSteps:=1000000) -dsimp only [go_sem,aI,aR t,aK v,YN,XK,h1,h2,h3,h4]
   exact fin _ _ rfl
theorem YY {ss:List St} {es:List En} {t:Ty} (h:valF ss es t=true) (k:(t.k == 2)=true):t.s=8\/t.s=16\/t.s=32\/t.s=64:=by
 cases t with
 | mk k0 s n e=>
  obtain rfl:k0=2:=by have k:(k0 == 2)=true:=k; simpa using k
  rw [valF] at h
  have:(s == 8 || s == 16 || s == 32 || s == 64)=true:=by
   simp only [show ((2:Int) == 1)=false from rfl,show ((2:Int) == 2)=true from rfl,bJ,aX,Bool.and_eq_true] at h
   exact h.1.1
  show s=8\/s=16\/s=32\/s=64
  simp only [Bool.or_eq_true,beq_iff_eq] at this
  omega
theorem L3 {ss:List St} {es:List En} {t:Ty} (h:valF ss es t=true) (k:(t.k == 3)=true):t.s=8\/t.s=16\/t.s=32:=by
 cases t with
 | mk k0 s n e=>
  obtain rfl:k0=3:=by have k:(k0 == 3)=true:=k; simpa using k
  rw [valF] at h
  have:(s == 8 || s == 16 || s == 32)=true:=by
   simp only [show ((3:Int) == 1)=false from rfl,show ((3:Int) == 2)=false from rfl,show ((3:Int) == 3)=true from rfl,bJ,aX,Bool.and_eq_true,Bool.and_false,Bool.or_false] at h
   exact h.1.1
  show s=8\/s=16\/s=32
  simp only [Bool.or_eq_true,beq_iff_eq] at this
  omega
theorem NB:Meets Tryz.prog 76 (gY (fun s t _=>valF s.ss s.es t=true) fun s t v=>.int .i64 (nQ s t v.n v.s v.l.length v.f.length)).sp:=by
 refine aD Tryz.func76 aJ3 3 (by rw [Tryz.ntmps76]; decide) (aC DH (aC IE (aB _))) gL ?_
 intro av H K h
 obtain ⟨s,t,v,rfl,rfl,hs,ht,hv,hp,hK⟩:=eU h
 clear h
 have fin:∀ (z:Int) (R:Hp),nQ s t v.n v.s v.l.length v.f.length=z->W.Fin 0 K (iS .i64 z) R:=fun z R h=>by
  rw [h] at hK; exact .sel [] (by simp) (by simp) rfl (.done (by simpa [go_sem] using hK))
 clear hK
 unfold nQ at fin
 cases h1:bl v.s == [] with
 | false=>
  rw [h1] at fin
  simp (maxSteps:=1000000) -dsimp only [go_sem,aI,aR t,aK v,DD,DC,h1]
  exact fin _ _ rfl
 | true=>
 cases h2:decide (0 < (v.l.length:Int)) with
 | true=>
  rw [h1,h2] at fin
  simp (maxSteps:=1000000) -dsimp only [go_sem,aI,aR t,aK v,DD,DC,h1,h2]
  exact fin _ _ rfl
 | false=>
 cases h3:decide (0 < (v.f.length:Int)) with
 | true=>
  rw [h1,h2,h3] at fin
  simp (maxSteps:=1000000) -dsimp only [go_sem,aI,aR t,aK v,DD,DC,h1,h2,h3]
  exact fin _ _ rfl
 | false=>
 rw [h1,h2,h3] at fin
 simp only [Bool.not_true,Bool.or_self,aX] at fin
 unfold f6 at fin
 simp (maxSteps:=1000000) -dsimp only [go_sem,aI,aR t,aK v,DD,DC,h1,h2,h3]
 refine ⟨fun k1=>aA rfl (.done ?_),fun k1=>aA rfl (.done ?_)⟩
 · rw [k1,bJ] at fin
   simp (maxSteps:=1000000) -dsimp only [go_sem,D8]
   refine aA rfl (.done ?_)
   cases h4:(v.n == 0 || v.n == 1) <;>
   · rw [h4] at fin
     simp (maxSteps:=1000000) -dsimp only [go_sem,gP]
     exact fin _ _ rfl
 rw [k1,aX] at fin
 simp (maxSteps:=1000000) -dsimp only [go_sem,BR]
 refine ⟨fun k2=>aA rfl (.done ?_),fun k2=>aA rfl (.done ?_)⟩
 · rw [k2,bJ] at fin
   cases h64:t.s == 64 with
   | true=>
    rw [h64] at fin
    simp (maxSteps:=1000000) -dsimp only [go_sem,uN,h64,Bool.false_and]
    refine aA rfl (.done ?_)
    simp (maxSteps:=1000000) -dsimp only [go_sem,gP]
    exact fin _ _ rfl
   | false=>
    rw [h64,Bool.false_or] at fin
    obtain ⟨b1,b2,e1,e2⟩:8<=t.s/\t.s<=32/\IntKind.i64.wrap (-1 * 2 ^ min (t.s - 1).toNat 64)=-(2 ^ (t.s.toNat - 1):Int)/\IntKind.i64.wrap (1 * 2 ^ min (t.s - 1).toNat 64)=(2 ^ (t.s.toNat - 1):Int):=by
     rcases YY hp k2 with hz | hz | hz | hz
     · rw [hz]; decide
     · rw [hz]; decide
     · rw [hz]; decide
     · rw [hz] at h64; simp at h64
    have f1:(0<=t.s - 1)=True:=eq_true (by omega)
    have f2:(-9223372036854775808<=t.s - 1)=True:=eq_true (by omega)
    have f3:(t.s - 1<=9223372036854775807)=True:=eq_true (by omega)
    generalize (2 ^ (t.s.toNat - 1):Int)=hi at *
    cases h4:decide (-hi<=v.n)<;>cases h5:decide (v.n < hi) <;>
    · rw [h4,h5] at fin
      simp (maxSteps:=1000000) -dsimp only [go_sem,uN,h64,e1,e2,h4,h5,f1,f2,f3]
      refine aA rfl (.done ?_)
      simp (maxSteps:=1000000) -dsimp only [go_sem,gP]
      exact fin _ _ rfl
 rw [k2,aX] at fin
 simp (maxSteps:=1000000) -dsimp only [go_sem,DM]
 refine ⟨fun k3=>aA rfl (.done ?_),fun k3=>aA rfl (.done ?_)⟩
 · rw [k3,bJ] at fin
   obtain ⟨b1,e1⟩:0<=t.s/\IntKind.i64.wrap (1 * 2 ^ min t.s.toNat 64)=(2 ^ t.s.toNat:Int):=by
    rcases L3 hp k3 with hz | hz | hz
    · rw [hz]; decide
    · rw [hz]; decide
    · rw [hz]; decide
   generalize (2 ^ t.s.toNat:Int)=hi at *
   cases h4:decide (0<=v.n)<;>cases h5:decide (v.n < hi) <;>
   · rw [h4,h5] at fin
     simp (maxSteps:=1000000) -dsimp only [go_sem,vX,e1,h4,h5,b1]
     refine aA rfl (.done ?_)
     simp (maxSteps:=1000000) -dsimp only [go_sem,gP]
     exact fin _ _ rfl
 rw [k3,aX] at fin
 simp (maxSteps:=1000000) -dsimp only [go_sem,xO]
 refine ⟨fun k7=>aA rfl (.done ?_),fun k7=>aA rfl (.done ?_)⟩
 · rw [k7,bJ] at fin
   simp (maxSteps:=1000000) -dsimp only [go_sem,x5]
   refine xH (s:=s) hs ?_
   generalize hu:(eI s.es t.n).getD default=u at *
   have hul:u.vs.length<=9223372036854775807:=by
    rw [<-hu]
    cases hf:eI s.es t.n with
    | none=>exact Nat.zero_le _
    | some w=>exact (hs.ok.es w (GZ hf).1).lv
   simp (maxSteps:=1000000) -dsimp only [go_sem,a7]
   refine aA rfl (.done ?_)
   simp (maxSteps:=1000000) -dsimp only [go_sem,x7]
   refine XX hul ?_
   simp (maxSteps:=1000000) -dsimp only [go_sem,bD]
   refine aA rfl (.done ?_)
   cases h4:u.vs.any fun x=>x == v.n <;>
   · rw [h4] at fin
     simp (maxSteps:=1000000) -dsimp only [go_sem,gP]
     exact fin _ _ rfl
 rw [k7] at fin
 simp (maxSteps:=1000000) -dsimp only [go_sem,gP]
 exact fin _ _ rfl
theorem E7 {a b:Int × Vl} (h:bE a=bE b):a=b:=by
 obtain ⟨i,x⟩:=a
 obtain ⟨j,y⟩:=b
 obtain ⟨h1,h2⟩:=List.cons.inj h
 have e:i=j:=by simpa using h1
 have e2:x=y:=pR h2
 rw [e,e2]
instance:Inhabited (Int × Vl):=⟨(0,default)⟩
noncomputable def C.ve:=nV bE
@[go_sem] theorem aPF (v:Int × Vl):C.ve (bE v)=v:=gB E7 v
@[go_sem] theorem ZH (l:List (Int × Vl)):(l.map bE).map C.ve=l:=iK E7 l
def SB (r:List C):Prop:=∃ u:St,r=aJ u/\u.ok/\∀ f ∈ u.fs,TySm f.ty
def WK (rs:List (List C)):Prop:=∃ l:List (Int × Vl),rs=l.map bE/\l.length * 88<=140737488355328/\∀ x ∈ l,bV x.1/\VlOk x.2
theorem TM {v:Vl} (h:VlOk v):WK (v.f.map bE):=⟨v.f,rfl,h.lf,fun x hx=>⟨h.fn x hx,h.f x hx⟩⟩
theorem MR {s:Sc} (hs:s.fit) (n:ByteArray):SB (aJ ((fS s.ss n).getD default)):=by
 refine ⟨_,rfl,?_⟩
 cases hf:fS s.ss n with
 | none=>exact ⟨St.ok_default,fun f hf=>(List.not_mem_nil hf).elim⟩
 | some w=>exact ⟨hs.ok.ss w (fJ hf).1,(hs.sm w (fJ hf).1).2⟩
def tQ:List S->Prop:=fun av=>match av with
 | [.va (.gs r),.va (.c1 (.fz rs))]=>SB r/\WK rs
 | _=>False
theorem lT {av:List S} (h:tQ av):∃ (u:St) (l:List (Int × Vl)),av=[.va (.gs (aJ u)),.va (.c1 (.fz (l.map bE)))]/\u.ok/\(∀ f ∈ u.fs,TySm f.ty)/\l.length * 88<=140737488355328/\∀ x ∈ l,bV x.1/\VlOk x.2:=by
 unfold tQ at h
 split at h
 · obtain ⟨⟨u,rfl,h1,h2⟩,⟨l,rfl,h3,h4⟩⟩:=h; exact ⟨u,l,rfl,h1,h2,h3,h4⟩
 · exact h.elim
noncomputable def K5:List S->A:=fun av=>match av with
 | [.va (.gs r),.va (.c1 (.fz rs))]=>bA (eE (C.st r).fs (rs.map C.ve))
 | _=>.gs []
noncomputable def ftFn1:Fun:=⟨tQ,K5,fun av h=>by obtain ⟨_,_,rfl,_⟩:=lT h; trivial⟩
theorem IQ:∀ av H K,ftFn1.sp av H K->av.length=2:=fun av H K h=>by obtain ⟨_,_,rfl,_⟩:=lT h.1.1; rfl
attribute [go_sem] ftFn1 tQ K5
def KA (l:List (Int × Vl)):Nat->Option Int
 | 0=>none
 | j + 1=>(l[j]?).map (·.1)
theorem Z7 {l:List (Int × Vl)} {n:Int} {x:Int × Vl} (h:l[n.toNat]? = some x) (p:List C->Prop):(∀ r,(l.map bE)[n.toNat]? = some r->p r)=p [.vl (.int .i64 x.1),.vl (.int .i64 x.2.k),.vl (.int .i64 x.2.n),.vl (.string x.2.s),.fz (x.2.l.map aQ),.fz (x.2.f.map bE)]:=by
 rw [<-hM]; exact I3 (row:=bE) h p
theorem YD:Meets Tryz.prog 116 ftFn1.sp:=by
 refine aD Tryz.func116 aCY 2 (by rw [Tryz.ntmps116]; decide) (aC oA (aC IJ (aB _))) IQ ?_
 rintro av H K ⟨⟨h,rfl⟩,hK⟩
 obtain ⟨u,l,rfl,hu,hus,hl,hlo⟩:=lT h
 replace hK:K (bS (eE u.fs l)) []:=by
  have:ftFn1.val [.va (.gs (aJ u)),.va (.c1 (.fz (l.map bE)))]=bA (eE u.fs l):=by simp -dsimp only [go_sem]
  rw [this] at hK; exact hK
 clear h
 have fin:∀ (b:Bool) (R:Hp),eE u.fs l=b->W.Fin 0 K (bS b) R:=fun b R h=>by
  rw [h] at hK; exact .sel [] (by simp) (by simp) rfl (.done (by simpa [go_sem] using hK))
 clear hK
 have hfl:=hu.len
 generalize hR:u.fs.all (fun f=>f.opt || n9 l f.num)=R2
 have hF:eE u.fs l=(ftA u.fs none l && R2):=by rw [<-hR]; rfl
 rw [hF] at fin
 generalize hR0:(ftA u.fs none l && R2)=R0 at fin
 clear hF
 simp (maxSteps:=1000000) -dsimp only [go_sem,aJ,P5,RA]
 refine aU (α:=Nat) (fun i=>[(1,.va (.c1 (.fz (l.map bE)))),(2,.va (.c1 (.pt 0 0))),(11,.va (.c1 (.fz (l.map bE)))),(12,iS .i64 l.length),(13,iS .i64 i)]) (fun _=>[.cells (aJ u) 48])
  (fun i=>i<=l.length/\(ftA u.fs (KA l i) (l.drop i) && R2)=R0) (fun i=>l.length - i) 0 1 ⟨Nat.zero_le _,hR0⟩ ?_ ?_ ?_
 · simp -dsimp only [go_sem]<;>simp
 · simp -dsimp only [go_sem,aJ]<;>simp
 rintro i ⟨hi,ho⟩
 rcases a8 i l.length with hlt | hge
 · have hg:decide ((i:Int) < (l.length:Int))=true:=by simp; omega
   obtain ⟨x,hx⟩:∃ t,l[i]? = some t:=⟨_,aV hlt⟩
   have q1:=gZ hx
   have hdr:l.drop i=x :: l.drop (i + 1):=by
    obtain ⟨h,rfl⟩:=bC.1 hx
    exact List.drop_eq_getElem_cons h
   have hpv:KA l (i + 1)=some x.1:=by rw [KA,hx]; rfl
   rw [hdr,L0,<-hpv] at ho
   simp (maxSteps:=1000000) -dsimp only [go_sem,hg,↓q1,aJ]
   refine ⟨by omega,aA rfl (.done ?_)⟩
   simp (maxSteps:=1000000) -dsimp only [go_sem,v2]
   refine wT (t:=u) hu hus ?_
   cases hf:fF u.fs x.1 with
   | none=>
    rw [hf] at ho
    simp (maxSteps:=1000000) -dsimp only [go_sem,wF,Option.getD_none,Option.isSome_none]
    refine aA rfl (.done ?_)
    simp (maxSteps:=1000000) -dsimp only [go_sem,j0,Bool.false_and]
    exact fin _ _ ho.symm
   | some g=>
    rw [hf,Option.isSome_some,Bool.true_and] at ho
    simp (maxSteps:=1000000) -dsimp only [go_sem,aT,Option.getD_some,Option.isSome_some]
    refine aA rfl (.done ?_)
    cases hz:decide ((0:Int) < (i:Int)) with
    | false=>
     obtain rfl:i=0:=by have:=of_decide_eq_false hz; omega
     simp (maxSteps:=1000000) -dsimp only [go_sem,j0,hz]
     refine ⟨by omega,aE (0 + 1) 1 ⟨by omega,ho⟩ (by omega) ?_ ?_⟩
     · simp -dsimp only [go_sem]<;>simp
     · simp -dsimp only [go_sem,aJ]<;>simp [aJ]
    | true=>
     have hz':=of_decide_eq_true hz
     obtain ⟨y,hy⟩:∃ t,l[i - 1]? = some t:=⟨_,aV (by omega)⟩
     have hti:((i:Int) - 1).toNat=i - 1:=by omega
     have q2:=fun p=>Z7 (n:=(i:Int) - 1) (x:=y) (by rw [hti]; exact hy) p
     have hpi:KA l i=some y.1:=by
      match i,hz',hy with
      | j + 1,_,hy=>rw [KA]; rw [show j + 1 - 1=j by omega] at hy; rw [hy]; rfl
     rw [hpi,ZJ] at ho
     have f1:(0<=(i:Int) - 1)=True:=eq_true (by omega)
     have f2:((i:Int) - 1 < (l.length:Int))=True:=eq_true (by omega)
     cases hc:decide (x.1<=y.1) with
     | true=>
      have:decide (y.1 < x.1)=false:=by have:=of_decide_eq_true hc; simp; omega
      rw [this] at ho
      simp (maxSteps:=1000000) -dsimp only [go_sem,j0,hz,↓q2,hc,f1,f2]
      exact ⟨by omega,fin _ _ ho.symm⟩
     | false=>
      have:decide (y.1 < x.1)=true:=by have:=of_decide_eq_false hc; simp; omega
      rw [this,Bool.true_and] at ho
      simp (maxSteps:=1000000) -dsimp only [go_sem,j0,hz,↓q2,hc,f1,f2]
      refine ⟨by omega,by omega,aE (i + 1) 1 ⟨by omega,ho⟩ (by omega) ?_ ?_⟩
      · simp -dsimp only [go_sem]<;>simp
      · simp -dsimp only [go_sem,aJ]<;>simp [aJ]
 · have hg:decide ((i:Int) < (l.length:Int))=false:=by simp; omega
   obtain rfl:i=l.length:=by omega
   rw [List.drop_length,TT,Bool.true_and] at ho
   simp (maxSteps:=1000000) -dsimp only [go_sem,hg,aJ]
   refine aA rfl (.done ?_)
   simp (maxSteps:=1000000) -dsimp only [go_sem,xP]
   clear hi hge hg hR0
   rw [<-hR] at ho
   clear hR
   refine aU (α:=Nat) (fun i=>[(1,.va (.c1 (.fz (l.map bE)))),(2,.va (.c1 (.pt 0 0))),(44,.va (.c1 (.fz (u.fs.map aT)))),(45,iS .i64 u.fs.length),(46,iS .i64 i)]) (fun _=>[.cells (aJ u) 48])
    (fun i=>i<=u.fs.length/\(u.fs.drop i).all (fun f=>f.opt || n9 l f.num)=R0) (fun i=>u.fs.length - i) 0 1 ⟨Nat.zero_le _,ho⟩ ?_ ?_ ?_
   · simp -dsimp only [go_sem]<;>simp
   · simp -dsimp only [go_sem,aJ]<;>simp
   clear ho
   rintro i ⟨hi,ho⟩
   rcases a8 i u.fs.length with hlt | hge
   · have hg:decide ((i:Int) < (u.fs.length:Int))=true:=by simp; omega
     obtain ⟨f,hx⟩:∃ t,u.fs[i]? = some t:=⟨_,aV hlt⟩
     have q1:=aZ (row:=aT) hx
     rw [MQ hx] at ho
     simp (maxSteps:=1000000) -dsimp only [go_sem,hg,↓q1,aJ,aT]
     refine ⟨by omega,aA rfl (.done ?_)⟩
     cases hop:f.opt with
     | true=>
      rw [hop,Bool.true_or,Bool.true_and] at ho
      simp (maxSteps:=1000000) -dsimp only [go_sem,m6]
      refine ⟨by omega,aE (i + 1) 1 ⟨by omega,ho⟩ (by omega) ?_ ?_⟩
      · simp -dsimp only [go_sem]<;>simp
      · simp -dsimp only [go_sem,aJ]<;>simp [aJ]
     | false=>
      rw [hop,Bool.false_or] at ho
      have cu:=fun K h=>ZO (l:=l) (f:=f) (K:=K) (by omega) h
      rw [aT,hop] at cu
      simp (maxSteps:=1000000) -dsimp only [go_sem,m6]
      refine cu _ ?_
      cases hc:n9 l f.num with
      | false=>
       rw [hc,Bool.false_and] at ho
       simp (maxSteps:=1000000) -dsimp only [go_sem]
       exact fin _ _ ho.symm
      | true=>
       rw [hc,Bool.true_and] at ho
       simp (maxSteps:=1000000) -dsimp only [go_sem]
       refine ⟨by omega,aE (i + 1) 1 ⟨by omega,ho⟩ (by omega) ?_ ?_⟩
       · simp -dsimp only [go_sem]<;>simp
       · simp -dsimp only [go_sem,aJ]<;>simp [aJ]
   · have hg:decide ((i:Int) < (u.fs.length:Int))=false:=by simp; omega
     obtain rfl:i=u.fs.length:=by omega
     rw [TA] at ho
     simp (maxSteps:=1000000) -dsimp only [go_sem,hg,aJ]
     exact fin _ _ ho.symm
abbrev RZ (s:Sc) (t:Ty) (v:Vl):Value:=.int .i64 (cZ s t v)
abbrev ckH (N:Nat):Sc->Ty->Vl->Prop:=fun _ _ v=>v.h<=N
def G6 (s:Sc) (t:Ty) (v:Vl):Int:=bif v.n != 0 || !(bl v.s == []) || decide (0 < (v.f.length:Int)) then 13 else bif decide (t.s < (v.l.length:Int)) then 3 else hZ s (t.e.headD default) v.l
def HN (s:Sc) (t:Ty) (v:Vl):Int:=bif v.n != 0 || !(bl v.s == []) || decide (0 < (v.l.length:Int)) || !(eE ((fS s.ss t.n).getD default).fs v.f) then 13 else hY s ((fS s.ss t.n).getD default).fs v.f
theorem iX {t:Ty} (h:TyOk t):oI [.vl (.int .i64 t.k),.vl (.int .i64 t.s),.vl (.string t.n),.fz (t.e.map aW)]:=by rw [<-aR]; exact l5 h
theorem oO (t:Ty):C.ty [.vl (.int .i64 t.k),.vl (.int .i64 t.s),.vl (.string t.n),.fz (t.e.map aW)]=t:=by rw [<-aR,oC]
theorem fK {s:Sc} (h:s.fit):lD [.vl (.int .i64 s.ver),.fz (s.es.map a7),.fz (s.ss.map aJ)]:=nD h
theorem kB (s:Sc):C.sc [.vl (.int .i64 s.ver),.fz (s.es.map a7),.fz (s.ss.map aJ)]=s:=kF s
theorem HZ {ss:List St} {es:List En} {t:Ty} (h:valF ss es t=true) (k:(t.k == 5)=true):∃ u,t.e=[u]/\valF ss es u=true:=by
 cases t with
 | mk k0 s n e=>
  obtain rfl:k0=5:=by have k:(k0 == 5)=true:=k; simpa using k
  exact DY h
theorem ZV (N:Nat) (hc:Meets Tryz.prog 42 (gY (ckH N) RZ).sp):Meets Tryz.prog 78 (gY (fun s t v=>valF s.ss s.es t=true/\(t.k == 5)=true/\v.h<=N + 1) fun s t v=>.int .i64 (G6 s t v)).sp:=by
 refine aD Tryz.func78 aIP 3 (by rw [Tryz.ntmps78]; decide) (aH hc (aB _)) gL ?_
 intro av H K h
 obtain ⟨s,t,v,rfl,rfl,hs,ht,hv,⟨hp,hk,hh⟩,hK⟩:=eU h
 clear h
 have fin:∀ (z:Int) (R:Hp),G6 s t v=z->W.Fin 0 K (iS .i64 z) R:=fun z R h=>by
  rw [h] at hK; exact .sel [] (by simp) (by simp) rfl (.done (by simpa [go_sem] using hK))
 clear hK
 unfold G6 at fin
 obtain ⟨u,he,hu⟩:=HZ hp hk
 have huo:TyOk u:=ht.e u (by rw [he]; simp)
 have hll:=hv.ll
 rw [he] at fin
 simp only [List.headD_cons] at fin
 cases h0:(v.n != 0 || !(bl v.s == []) || decide (0 < (v.f.length:Int))) with
 | true=>
  rw [h0] at fin
  cases h1:v.n != 0<;>cases h2:bl v.s == []<;>cases h3:decide (0 < (v.f.length:Int)) <;>
  first
   | (exfalso; rw [h1,h2,h3] at h0; exact absurd h0 (by decide))
   | (simp (maxSteps:=1000000) -dsimp only [go_sem,aI,aR t,aK v,IF,HC,h1,h2,h3]
      exact fin _ _ rfl)
 | false=>
 rw [h0] at fin
 obtain ⟨h1,h2,h3⟩:(v.n != 0)=false/\(bl v.s == [])=true/\decide (0 < (v.f.length:Int))=false:=by
  simp only [Bool.or_eq_false_iff,Bool.not_eq_false'] at h0; exact ⟨h0.1.1,h0.1.2,h0.2⟩
 cases h4:decide (t.s < (v.l.length:Int)) with
 | true=>
  rw [h4] at fin
  simp (maxSteps:=1000000) -dsimp only [go_sem,aI,aR t,aK v,IF,HC,h1,h2,h3,h4]
  exact fin _ _ rfl
 | false=>
 rw [h4] at fin
 simp only [aX] at fin
 simp (maxSteps:=1000000) -dsimp only [go_sem,aI,aR t,aK v,IF,HC,h1,h2,h3,h4]
 refine aU (α:=Nat) (fun i=>[(3,.va (.c1 (.pt 0 0))),(4,.va (.c1 (.pt 1 0))),(5,.va (.c1 (.pt 2 0))),(33,.va (.c1 (.fz (v.l.map aQ)))),(34,iS .i64 v.l.length),(35,iS .i64 i)]) (fun _=>[.cells (aI s) 93,.cells [.vl (.int .i64 t.k),.vl (.int .i64 t.s),.vl (.string t.n),.fz (t.e.map aW)] 42,.cells (bD v) 29])
  (fun i=>i<=v.l.length/\hZ s u (v.l.drop i)=hZ s u v.l) (fun i=>v.l.length - i) 0 3 ⟨Nat.zero_le _,rfl⟩ ?_ ?_ ?_
 · simp -dsimp only [go_sem]<;>simp
 · simp -dsimp only [go_sem,bD,aI]<;>simp
 rintro i ⟨hi,ho⟩
 rcases a8 i v.l.length with hlt | hge
 · have hg:decide ((i:Int) < (v.l.length:Int))=true:=by simp; omega
   obtain ⟨x,hx⟩:∃ t,v.l[i]? = some t:=⟨_,aV hlt⟩
   have q1:=lJ hx
   have hxm:=b6 hx
   have k1:=dO (hv.l x hxm)
   have k2:=gJ x
   have k3:x.h<=N:=by have:=Vl.h_l hxm; omega
   have hdr:v.l.drop i=x :: v.l.drop (i + 1):=by
    obtain ⟨h,rfl⟩:=bC.1 hx
    exact List.drop_eq_getElem_cons h
   have k4:=iX huo
   have k5:=oO u
   have k6:=fK hs
   have k7:=kB s
   rw [hdr,hZ] at ho
   rw [he]
   cases h5:cZ s u x != 0 with
   | true=>
    rw [h5,bJ] at ho
    simp (maxSteps:=1000000) -dsimp only [go_sem,hg,↓q1,bD,aI,aR u,k1,k2,k3,k4,k5,k6,k7,h5,List.getElem?_cons_zero,aF,forall_eq']
    exact ⟨by omega,by omega,fin _ _ ho.symm⟩
   | false=>
    rw [h5,aX] at ho
    simp (maxSteps:=1000000) -dsimp only [go_sem,hg,↓q1,bD,aI,aR u,k1,k2,k3,k4,k5,k6,k7,h5,List.getElem?_cons_zero,aF,forall_eq']
    refine ⟨by omega,by omega,by omega,aE (i + 1) 3 ⟨by omega,ho⟩ (by omega) ?_ ?_⟩
    · simp -dsimp only [go_sem]<;>simp
    · simp -dsimp only [go_sem,bD,aI]<;>simp [aR u]
 · have hg:decide ((i:Int) < (v.l.length:Int))=false:=by simp; omega
   obtain rfl:i=v.l.length:=by omega
   rw [List.drop_length,hZ] at ho
   simp (maxSteps:=1000000) -dsimp only [go_sem,hg,bD,aI]
   exact fin _ _ ho.symm
theorem BX:TyOk default:=.mk (by unfold bV; decide) (by unfold bV; decide) (by decide) (by decide) (fun _ h=>by cases h)
theorem aAR {fs:List Fl} {u:St} (hu:u.ok) (e:fs=u.fs) (k:Int):TyOk ((fF fs k).getD default).ty:=by
 subst e
 cases hf:fF u.fs k with
 | none=>exact BX
 | some g=>exact (hu.fs g (List.mem_of_find?_eq_some hf)).ty
theorem J6 (N:Nat) (hc:Meets Tryz.prog 42 (gY (ckH N) RZ).sp):Meets Tryz.prog 79 (gY (fun _ _ v=>v.h<=N + 1) fun s t v=>.int .i64 (HN s t v)).sp:=by
 refine aD Tryz.func79 aJS 3 (by rw [Tryz.ntmps79]; decide) (aH hc (aC iG (aH YD (aC oA (aB _))))) gL ?_
 intro av H K h
 obtain ⟨s,t,v,rfl,rfl,hs,ht,hv,hh,hK⟩:=eU h
 clear h
 have fin:∀ (z:Int) (R:Hp),HN s t v=z->W.Fin 0 K (iS .i64 z) R:=fun z R h=>by
  rw [h] at hK; exact .sel [] (by simp) (by simp) rfl (.done (by simpa [go_sem] using hK))
 clear hK
 unfold HN at fin
 have hlf:=hv.lf
 have kS:=MR hs t.n
 have kE:=TM hv
 simp (maxSteps:=1000000) -dsimp only [go_sem,aI,aR t,aK v,YC,ZR]
 refine jY (s:=s) hs ?_
 generalize (fS s.ss t.n).getD default=u at *
 obtain ⟨huo,hus⟩:u.ok/\∀ f ∈ u.fs,TySm f.ty:=by
  obtain ⟨w,hw,h1,h2⟩:=kS
  obtain rfl:=qD hw
  exact ⟨h1,h2⟩
 have kd:=B8 u
 have kv:=ZH v.f
 rw [aJ] at kS kd
 simp (maxSteps:=1000000) -dsimp only [go_sem,aJ]
 refine aA rfl (.done ?_)
 cases h0:(v.n != 0 || !(bl v.s == []) || decide (0 < (v.l.length:Int)) || !(eE u.fs v.f)) with
 | true=>
  rw [h0] at fin
  cases h1:v.n != 0<;>cases h2:bl v.s == []<;>cases h3:decide (0 < (v.l.length:Int))<;>cases h4:eE u.fs v.f <;>
  first
   | (exfalso; rw [h1,h2,h3,h4] at h0; exact absurd h0 (by decide))
   | (simp (maxSteps:=1000000) -dsimp only [go_sem,vM,h1,h2,h3,h4,kS,kE,kd]
      exact fin _ _ rfl)
 | false=>
 rw [h0] at fin
 simp only [aX] at fin
 obtain ⟨h1,h2,h3,h4⟩:(v.n != 0)=false/\(bl v.s == [])=true/\decide (0 < (v.l.length:Int))=false/\eE u.fs v.f=true:=by
  simp only [Bool.or_eq_false_iff,Bool.not_eq_false'] at h0; exact ⟨h0.1.1.1,h0.1.1.2,h0.1.2,h0.2⟩
 simp (maxSteps:=1000000) -dsimp only [go_sem,vM,h1,h2,h3,h4,kS,kE,kd]
 refine aU (α:=Nat) (fun i=>[(3,.va (.c1 (.pt 0 0))),(4,.va (.c1 (.pt 1 0))),(5,.va (.c1 (.pt 2 0))),(7,.va (.c1 (.pt 3 0))),(44,.va (.c1 (.fz (v.f.map bE)))),(45,iS .i64 v.f.length),(46,iS .i64 i)]) (fun _=>[.cells (aI s) 93,.cells [.vl (.int .i64 t.k),.vl (.int .i64 t.s),.vl (.string t.n),.fz (t.e.map aW)] 42,.cells (bD v) 29,.cells (aJ u) 48])
  (fun i=>i<=v.f.length/\hY s u.fs (v.f.drop i)=hY s u.fs v.f) (fun i=>v.f.length - i) 0 4 ⟨Nat.zero_le _,rfl⟩ ?_ ?_ ?_
 · simp -dsimp only [go_sem]<;>simp
 · simp -dsimp only [go_sem,bD,aI,aJ]<;>simp
 rintro i ⟨hi,ho⟩
 rcases a8 i v.f.length with hlt | hge
 · have hg:decide ((i:Int) < (v.f.length:Int))=true:=by simp; omega
   obtain ⟨x,hx⟩:∃ t,v.f[i]? = some t:=⟨_,aV hlt⟩
   have q1:=gZ hx
   have hxm:=b6 hx
   have k1:=dO (hv.f x hxm)
   have k2:=gJ x.2
   have k3:x.2.h<=N:=by have:=Vl.h_f hxm; omega
   have hdr:v.f.drop i=x :: v.f.drop (i + 1):=by
    obtain ⟨h,rfl⟩:=bC.1 hx
    exact List.drop_eq_getElem_cons h
   have k6:=fK hs
   have k7:=kB s
   rw [hdr,BI] at ho
   have hgo:=aAR huo rfl x.1
   simp (maxSteps:=1000000) -dsimp only [go_sem,hg,↓q1,bD,aI,aJ]
   refine ⟨by omega,aA rfl (.done ?_)⟩
   simp (maxSteps:=1000000) -dsimp only [go_sem,DT]
   refine wT (t:=u) huo hus ?_
   generalize (fF u.fs x.1).getD default=g at *
   have k4:=iX hgo
   have k5:=oO g.ty
   simp (maxSteps:=1000000) -dsimp only [go_sem,aT]
   refine aA rfl (.done ?_)
   simp (maxSteps:=1000000) -dsimp only [go_sem,BO,k1,k2,k3,k4,k5,k6,k7]
   refine aA rfl (.done ?_)
   cases h5:cZ s g.ty x.2 != 0 with
   | true=>
    rw [h5,bJ] at ho
    simp (maxSteps:=1000000) -dsimp only [go_sem,vP,h5]
    exact fin _ _ ho.symm
   | false=>
    rw [h5,aX] at ho
    simp (maxSteps:=1000000) -dsimp only [go_sem,vP,h5]
    refine ⟨by omega,aE (i + 1) 4 ⟨by omega,ho⟩ (by omega) ?_ ?_⟩
    · simp -dsimp only [go_sem]<;>simp
    · simp -dsimp only [go_sem,bD,aI,aJ]<;>simp [bD,aI,aJ]
 · have hg:decide ((i:Int) < (v.f.length:Int))=false:=by simp; omega
   obtain rfl:i=v.f.length:=by omega
   rw [List.drop_length,hY] at ho
   simp (maxSteps:=1000000) -dsimp only [go_sem,hg,bD,aI,aJ]
   exact fin _ _ ho.symm
theorem yD:∀ N,Meets Tryz.prog 42 (gY (ckH N) RZ).sp
 | 0=>⟨by kernel_rfl,by rintro xs vs E ro w K _ _ _ h; obtain ⟨_,_,v,_,_,_,_,_,h,_⟩:=eU h; have:=v.h_pos; have h:v.h<=0:=h; omega⟩
 | N + 1=>by
  refine aD Tryz.func42 aKT 3 (by rw [Tryz.ntmps42]; decide) (aH rT (aH NB (aH aBN (aH (ZV N (yD N)) (aH (J6 N (yD N)) (aB _)))))) gL ?_
  intro av H K h
  obtain ⟨s,t,v,rfl,rfl,hs,ht,hv,hh,hK⟩:=eU h
  clear h
  have hh:v.h<=N + 1:=hh
  have fin:∀ (z:Int) (R:Hp),cZ s t v=z->W.Fin 0 K (iS .i64 z) R:=fun z R h=>by
   have hK:K (iS .i64 (cZ s t v)) []:=hK
   rw [h] at hK; exact .sel [] (by simp) (by simp) rfl (.done (by simpa [go_sem] using hK))
  clear hK
  rw [IN] at fin
  have k1:=dO hv
  have k2:=gJ v
  have k4:=iX ht
  have k5:=oO t
  have k6:=fK hs
  have k7:=kB s
  cases h1:valF s.ss s.es t with
  | false=>
   rw [h1] at fin
   simp (maxSteps:=1000000) -dsimp only [go_sem,aI,aR t,aK v,s0,rW,k4,k5,k6,k7,h1]
   exact fin _ _ rfl
  | true=>
  cases h2:v.k != t.k with
  | true=>
   rw [h1,h2] at fin
   simp (maxSteps:=1000000) -dsimp only [go_sem,aI,aR t,aK v,s0,rW,k4,k5,k6,k7,h1,h2]
   exact fin _ _ rfl
  | false=>
  rw [h1,h2] at fin
  simp only [Bool.not_true,Bool.or_self,aX] at fin
  cases h4:t.k == 4 with
  | true=>
   rw [h4,bJ] at fin
   simp (maxSteps:=1000000) -dsimp only [go_sem,aI,aR t,aK v,s0,rW,k1,k2,k4,k5,k6,k7,h1,h2,h4,List.all_cons,List.all_nil]
   exact fin _ _ rfl
  | false=>
  rw [h4,aX] at fin
  cases h5:t.k == 5 with
  | true=>
   rw [h5,bJ] at fin
   simp (maxSteps:=1000000) -dsimp only [go_sem,aI,aR t,aK v,s0,rW,k1,k2,k4,k5,k6,k7,h1,h2,h4,h5,hh,List.all_cons,List.all_nil]
   exact fin _ _ rfl
  | false=>
  rw [h5,aX] at fin
  cases h6:t.k == 6 with
  | true=>
   rw [h6,bJ] at fin
   simp (maxSteps:=1000000) -dsimp only [go_sem,aI,aR t,aK v,s0,rW,k1,k2,k4,k5,k6,k7,h1,h2,h4,h5,h6,hh,List.all_cons,List.all_nil]
   exact fin _ _ rfl
  | false=>
  rw [h6,aX] at fin
  simp (maxSteps:=1000000) -dsimp only [go_sem,aI,aR t,aK v,s0,rW,k1,k2,k4,k5,k6,k7,h1,h2,h4,h5,h6,List.all_cons,List.all_nil]
  exact fin _ _ rfl
def lB (s:Sc) (t:Ty) (v:Vl):Int:=bif decide (6 < n8 7 v) then 9 else cZ s t v
theorem T0:Meets Tryz.prog 42 (gY (fun _ _ _=>True) RZ).sp:=dX 0 yD fun av H K h=>by
 obtain ⟨s,t,v,rfl,rfl,hs,ht,hv,_,hK⟩:=eU h
 refine ⟨v.h,⟨⟨nD hs,l5 ht,FF hv,?_⟩,rfl⟩,?_⟩
 · show (C.vv (aQ v)).h<=v.h; rw [f7]; exact Nat.le_refl _
 · simpa -dsimp only [go_sem] using hK
theorem T6:Meets Tryz.prog 24 (gY (fun _ _ _=>True) fun s t v=>.int .i64 (lB s t v)).sp:=by
 refine aD Tryz.func24 aIK 3 (by rw [Tryz.ntmps24]; decide) (aH (GP 8) (aH T0 (aB _))) gL ?_
 intro av H K h
 obtain ⟨s,t,v,rfl,rfl,hs,ht,hv,_,hK⟩:=eU h
 clear h
 have fin:∀ (z:Int) (R:Hp),lB s t v=z->W.Fin 0 K (iS .i64 z) R:=fun z R h=>by
  rw [h] at hK; exact .sel [] (by simp) (by simp) rfl (.done (by simpa [go_sem] using hK))
 clear hK
 unfold lB at fin
 have k1:=dO hv
 have k2:=gJ v
 have k4:=iX ht
 have k5:=oO t
 have k6:=fK hs
 have k7:=kB s
 have e8:((6:Int)=((8:Nat):Int) - 2)=True:=by decide
 have e9:fI 8 v=n8 7 v:=rfl
 cases h1:decide (6 < n8 7 v) with
 | true=>
  rw [h1] at fin
  simp (maxSteps:=1000000) -dsimp only [go_sem,aI,aR t,aK v,NY,NK,k1,k2,e8,e9,h1]
  exact fin _ _ rfl
 | false=>
  rw [h1] at fin
  simp (maxSteps:=1000000) -dsimp only [go_sem,aI,aR t,aK v,NY,NK,k1,k2,k4,k5,k6,k7,e8,e9,h1]
  exact fin _ _ rfl
structure Told (l:List UInt8) (p:Nat) (k:Int) (x:List UInt8) (n:Int) (z:Nat):Prop where
 zero:k=0->p=l.length/\x=[]/\n=0
 one:k ≠ 0->∃ c,l[p]? = some c/\p < z/\z<=l.length/\0 < k/\k<=4/\32 < c.toNat/\c.toNat ≠ 35/\(c == 34)=(k == 3)/\(k == 1)=g5 c.toNat
def Got:R->ByteArray->Int->Int->Int->Int->Prop
 | .ok _ x n z,x',n',z',e',t'=>x'=mk x/\n'=n/\z'=z/\e'=0/\t'=0
 | .bad e t,_,_,_,e',t'=>e'=e/\t'=t
theorem Got.bad {r:R} {e t:Int} (h:r=.bad e t) {x:ByteArray} {n z:Int}:Got r x n z e t:=by subst h; exact ⟨rfl,rfl⟩
theorem Got.ok {r:R} {k:Int} {x:List UInt8} {n:Int} {z:Nat} (h:r=.ok k x n z):Got r (mk x) n z 0 0:=by subst h; exact ⟨rfl,rfl,rfl,rfl,rfl⟩
structure Ends (ts:List Tk):Prop where
 pos:0 < ts.length
 le:ts.length<=4001
 last:∀ (i:Nat) (t:Tk),ts[i]? = some t->(t.k=0 ↔ i + 1=ts.length)
def fX (ts:List Tk) (n:Nat):Nat:=if n + 1 < ts.length then n + 1 else n
def sG (k:Int) (w:List UInt8) (t:Tk):Bool:=t.k == k && t.x == w
def MD (n:Nat):List UInt8:=(if h:n < 10 then [] else MD (n / 10)) ++ [(48 + n % 10).toUInt8]
 termination_by n
 decreasing_by omega
def aIG (n:Int):List UInt8:=bif decide (n < 0) then 45 :: MD n.natAbs else MD n.natAbs
def aJE (c:UInt8):List UInt8:=bif c == 34 || c == 92 then [92,c] else [c]
def aH2 (l:List UInt8):List UInt8:=34 :: l.flatMap aJE ++ [34]
def VY (c:UInt8):Bool:=decide (32<=c) && decide (c<=126)
def okK (k:Int) (x:List UInt8) (n:Int):Bool:=
 bif k == 1 then n == 0 && cP x else bif k == 2 then x == [] else bif k == 3 then n == 0 && (decide (x.length<=200) && x.all VY) else bif k == 4 then n == 0 && (match x with | [c]=>tD c.toNat | _=>false) else false
structure Tx where
 k:Int
 x:List UInt8
 n:Int
 a:Int
structure TkFit (t:Tx):Prop where
 lo:-9223372036854775808<=t.n
 hi:t.n<=9223372036854775807
 len:t.x.length<=100000
structure Fs where
 bad:Bool
 off:Int
 n:Nat
instance:Inhabited Tk:=⟨⟨0,[],0,0⟩⟩
def eV (ts:List Tk) (n:Nat):Tk:=ts.getD n default
structure Tks (ts:List Tk):Prop where
 e:Ends ts
 n:∀ t ∈ ts,bV t.n
 x:∀ t ∈ ts,t.x.length<=4000
 a:∀ t ∈ ts,t.a<=4000
def gG (ts:List Tk) (z:Fs):Fs:=bif z.bad then z else ⟨true,(eV ts z.n).a,z.n⟩
def g4 (w:List UInt8) (ts:List Tk) (z:Fs):Bool:=!z.bad && sG 4 w (eV ts z.n)
def qN (w:List UInt8) (ts:List Tk) (z:Fs):Fs:=bif g4 w ts z then ⟨false,z.off,fX ts z.n⟩ else z
def dW (w:List UInt8) (ts:List Tk) (z:Fs):Fs:=bif g4 w ts z then ⟨false,z.off,fX ts z.n⟩ else gG ts z
def jR (k:Int) (ts:List Tk) (z:Fs):Bool:=!z.bad && (eV ts z.n).k == k
def OM (k:Int) (ts:List Tk) (z:Fs):Tk:=bif jR k ts z then eV ts z.n else default
def QH (k:Int) (ts:List Tk) (z:Fs):Fs:=bif jR k ts z then ⟨false,z.off,fX ts z.n⟩ else gG ts z
theorem CF {ts:List Tk} {n:Nat} (h:n < ts.length):ts[n]? = some (eV ts n):=by simp [eV,List.getD_eq_getElem?_getD,aV h]
def QF:List UInt8:=[116,114,117,101]
def IW:List UInt8:=[102,97,108,115,101]
def aD4 (ts:List Tk) (z:Fs):Vl × Fs:=
 bif !z.bad && sG 1 QF (eV ts z.n) then (.mk 1 1 (mk []) [] [],⟨false,z.off,fX ts z.n⟩)
 else bif !z.bad && sG 1 IW (eV ts z.n) then (.mk 1 0 (mk []) [] [],⟨false,z.off,fX ts z.n⟩)
 else (.mk 1 0 (mk []) [] [],gG ts z)
def aJX (k:Int) (ts:List Tk) (z:Fs):Vl × Fs:=(.mk k (OM 2 ts z).n (mk []) [] [],QH 2 ts z)
def aCN (ts:List Tk) (z:Fs):Vl × Fs:=(.mk 4 0 (mk (OM 3 ts z).x) [] [],QH 3 ts z)
def ML (e:En) (ts:List Tk) (z:Fs):Int:=bif !z.bad && (eV ts z.n).k == 1 then mF e.ns (mk (eV ts z.n).x) 0 else -1
def aDF (e:En) (ts:List Tk) (z:Fs):Vl × Fs:=
 bif decide (ML e ts z < 0) || decide ((e.vs.length:Int)<=ML e ts z) then (.mk 7 0 (mk []) [] [],gG ts z)
 else (.mk 7 (e.vs.getD (ML e ts z).toNat 0) (mk []) [] [],⟨false,z.off,fX ts z.n⟩)
abbrev E4:Type:=Sc->List Tk->Ty->Fs->Vl × Fs
def vW {α:Type} (one:α->Fs->α × Fs) (ts:List Tk):Nat->α->Fs->α × Fs
 | 0,a,z=>(a,z)
 | f + 1,a,z=>bif z.bad then (a,z) else bif g4 [44] ts (one a z).2 then vW one ts f (one a z).1 (qN [44] ts (one a z).2) else one a z
theorem JZ {α:Type} (one:α->Fs->α × Fs) (ts:List Tk) (f:Nat) (a:α) (z:Fs):vW one ts (f + 1) a z=bif z.bad then (a,z) else bif g4 [44] ts (one a z).2 then vW one ts f (one a z).1 (qN [44] ts (one a z).2) else one a z:=rfl
def HJ {α:Type} (one:α->Fs->α × Fs) (op sh:List UInt8) (ts:List Tk) (a:α) (z:Fs):α × Fs:=
 bif g4 sh ts (dW op ts z) then (a,qN sh ts (dW op ts z))
 else ((vW one ts (ts.length + 1) a (dW op ts z)).1,dW sh ts (vW one ts (ts.length + 1) a (dW op ts z)).2)
theorem aAC {ts:List Tk} {n:Nat} (h:n < ts.length):n<=fX ts n/\fX ts n < ts.length:=by
 unfold fX; split<;>omega
theorem U5 (ts:List Tk) (z:Fs):(gG ts z).n=z.n:=by unfold gG; cases z.bad<;>rfl
theorem E6 {w:List UInt8} {ts:List Tk} {z:Fs} (h:z.n < ts.length):z.n<=(dW w ts z).n/\(dW w ts z).n < ts.length:=by
 unfold dW
 cases g4 w ts z
 · rw [aX,U5]; exact ⟨Nat.le_refl _,h⟩
 · exact aAC h
def Onw {α:Type} (one:α->Fs->α × Fs) (ts:List Tk):Prop:=∀ a z,z.n < ts.length->z.n<=(one a z).2.n/\(one a z).2.n < ts.length
def Y2 (P:E4) (s:Sc) (ts:List Tk) (u:Ty):List Vl->Fs->List Vl × Fs:=fun l z=>(l ++ [(P s ts u z).1],(P s ts u z).2)
def aD6 (P:E4) (s:Sc) (ts:List Tk) (u:Ty) (z:Fs):Vl × Fs:=(.mk 5 0 (mk []) (HJ (Y2 P s ts u) [91] [93] ts [] z).1 [],(HJ (Y2 P s ts u) [91] [93] ts [] z).2)
def Y8 (n:List UInt8):List Fl->Nat->Int
 | [],_=>-1
 | x :: l,i=>bif bl x.nm == n then (i:Int) else Y8 n l (i + 1)
abbrev Fst:Type:=Int × List (Int × Vl)
def p8 (ts:List Tk) (u:St) (z:Fs):Int:=Y8 (eV ts z.n).x u.fs 0
def YG (ts:List Tk) (u:St) (last:Int) (z:Fs):Bool:=(eV ts z.n).k != 1 || decide (p8 ts u z < 0) || decide ((u.fs.getD (p8 ts u z).toNat default).num<=last)
def aA0 (ts:List Tk) (z:Fs):Fs:=dW [61] ts ⟨z.bad,z.off,fX ts z.n⟩
def Z5 (P:E4) (s:Sc) (ts:List Tk) (u:St):Fst->Fs->Fst × Fs:=fun a z=>
 bif YG ts u a.1 z then (a,gG ts z)
 else (((u.fs.getD (p8 ts u z).toNat default).num,a.2 ++ [((u.fs.getD (p8 ts u z).toNat default).num,(P s ts (u.fs.getD (p8 ts u z).toNat default).ty (aA0 ts z)).1)]),(P s ts (u.fs.getD (p8 ts u z).toNat default).ty (aA0 ts z)).2)
def stOf (s:Sc) (t:Ty):St:=(fS s.ss t.n).getD default
def VD (P:E4) (s:Sc) (ts:List Tk) (u:St) (z:Fs):Vl × Fs:=(.mk 6 0 (mk []) [] (HJ (Z5 P s ts u) [123] [125] ts (0,[]) z).1.2,(HJ (Z5 P s ts u) [123] [125] ts (0,[]) z).2)
theorem iI {s:Sc} (hs:s.fit) (t:Ty):(stOf s t).ok:=by
 unfold stOf
 cases h:fS s.ss t.n with
 | none=>exact ⟨by decide,by decide,fun _ h=>(by cases h)⟩
 | some u=>exact hs.ok.ss u (List.mem_of_find?_eq_some h)
def pP:Nat->E4
 | 0=>fun _ _ _ z=>(default,z)
 | N + 1=>fun s ts t z=>bif t.k == 1 then aD4 ts z else bif t.k == 4 then aCN ts z else bif t.k == 7 then aDF ((eI s.es t.n).getD default) ts z
  else bif t.k == 5 then aD6 (pP N) s ts (t.e.headD default) z else bif t.k == 6 then VD (pP N) s ts (stOf s t) z else aJX t.k ts z
def zF (s:Sc):Nat->Ty->Vl
 | 0,_=>.mk 0 0 (mk []) [] []
 | n + 1,t=>bif valF s.ss s.es t then (bif t.k == 6 then .mk 6 0 (mk []) [] (((stOf s t).fs.filter fun f=>!f.opt).map fun f=>(f.num,zF s n f.ty)) else .mk t.k 0 (mk []) [] []) else .mk 0 0 (mk []) [] []
def zE (s:Sc) (n:Nat) (l:List Fl):List (Int × Vl):=(l.filter fun f=>!f.opt).map fun f=>(f.num,zF s n f.ty)
theorem wJ (s:Sc) (n:Nat) (t:Ty):zF s (n + 1) t=bif valF s.ss s.es t then (bif t.k == 6 then .mk 6 0 (mk []) [] (zE s n (stOf s t).fs) else .mk t.k 0 (mk []) [] []) else .mk 0 0 (mk []) [] []:=rfl
theorem U3 {s:Sc} {n i:Nat} {l:List Fl} {f:Fl} (h:l[i]? = some f):zE s n (l.take (i + 1))=bif f.opt then zE s n (l.take i) else zE s n (l.take i) ++ [(f.num,zF s n f.ty)]:=by
 unfold zE
 rw [List.take_add_one,h,List.filter_append,List.map_append]
 cases hf:f.opt<;>simp [hf]
theorem KV (s:Sc) (n:Nat) (l:List Fl):(zE s n l).length<=l.length:=by
 unfold zE; rw [List.length_map]; exact List.length_filter_le _ _
theorem FL {s:Sc} (hs:s.fit) (t:Ty):(stOf s t).fs.length<=1000000000:=by
 unfold stOf
 cases h:fS s.ss t.n with
 | none=>exact Nat.zero_le _
 | some u=>exact (hs.sm u (List.mem_of_find?_eq_some h)).1
def aAD (N:Nat):W.Spec:=fun av H K=>∃ (s:Sc) (t:Ty) (n:Nat),av=[.va (.gs (aI s)),.va (.gs (aW t)),iS .i64 ((n:Int) - 1)]/\H=[]/\s.fit/\TyOk t/\n < N/\N<=100/\K (.va (.gs (aQ (zF s n t)))) []
theorem JT {N:Nat} {s:Sc} {t:Ty} {n:Nat} {K:S->Hp->Prop} (h1:s.fit) (h2:TyOk t) (h3:n < N) (h4:N<=100) (hK:K (.va (.gs (aQ (zF s n t)))) []):aAD N [.va (.gs [.vl (.int .i64 s.ver),.fz (s.es.map a7),.fz (s.ss.map aJ)]),.va (.gs [.vl (.int .i64 t.k),.vl (.int .i64 t.s),.vl (.string t.n),.fz (t.e.map aW)]),iS .i64 ((n:Int) - 1)] [] K:=⟨s,t,n,by rw [aR]; rfl,rfl,h1,h2,h3,h4,hK⟩
theorem JI:∀ N,Meets Tryz.prog 83 (aAD N)
 | 0=>⟨by kernel_rfl,by rintro xs vs E ro w K _ _ _ ⟨_,_,n,_,_,_,_,h,_⟩; exact absurd h (Nat.not_lt_zero n)⟩
 | N + 1=>by
  refine aD Tryz.func83 aLF 3 (by rw [Tryz.ntmps83]; decide) (aH rT (aC iG (aC (JI N) (aB _)))) (fun av H K h=>by obtain ⟨_,_,_,rfl,_⟩:=h; rfl) ?_
  rintro av H K ⟨s,t,n,rfl,rfl,hs,ht,hn,hN,hK⟩
  have k4:=iX ht
  have k5:=oO t
  have k6:=fK hs
  have k7:=kB s
  have fin:∀ {v:Vl} (R:Hp),zF s n t=v->W.Fin 0 K (.va (.gs (aQ v))) R:=fun {v} R h=>by
   rw [h] at hK; refine .sel [] (by simp) (by simp) rfl (.done ?_)
   rw [aK] at hK ⊢
   simpa [go_sem] using hK
  cases n with
  | zero=>
   have g:decide (((0:Nat):Int) - 1 < 0)=true:=rfl
   simp (maxSteps:=1000000) -dsimp only [go_sem,aI,aR t,B3,EG,g,k4,k5,k6,k7]
   exact fin (v:=.mk 0 0 (mk []) [] []) _ rfl
  | succ n=>
   have g:decide (((n + 1:Nat):Int) - 1 < 0)=false:=by rw [decide_eq_false_iff_not]; omega
   have g':((n + 1:Nat):Int) - 1=n:=by omega
   rw [g'] at g ⊢
   rw [wJ] at fin
   cases h1:valF s.ss s.es t with
   | false=>
    rw [h1,aX] at fin
    simp (maxSteps:=1000000) -dsimp only [go_sem,aI,aR t,B3,EG,g,k4,k5,k6,k7,h1]
    exact fin _ rfl
   | true=>
   rw [h1,bJ] at fin
   cases h2:t.k == 6 with
   | false=>
    have h2':(t.k != 6)=true:=by rw [bne,h2]; rfl
    rw [h2,aX] at fin
    simp (maxSteps:=1000000) -dsimp only [go_sem,aI,aR t,B3,EG,g,k4,k5,k6,k7,h1,h2']
    exact fin _ rfl
   | true=>
   have h2':(t.k != 6)=false:=by rw [bne,h2]; rfl
   rw [h2,bJ] at fin
   simp (maxSteps:=1000000) -dsimp only [go_sem,aI,aR t,B3,EG,g,k4,k5,k6,k7,h1,h2']
   refine jY hs ?_
   rw [show (fS s.ss t.n).getD default=stOf s t from rfl]
   have hok:=iI hs t
   have hsm:=FL hs t
   have hz6:zF s (n + 1) t=.mk 6 0 (mk []) [] (zE s n (stOf s t).fs):=by rw [wJ,h1,h2]; rfl
   rw [hz6,aK] at hK
   clear hz6 fin
   generalize stOf s t=u at *
   simp (maxSteps:=1000000) -dsimp only [go_sem,aJ]
   have hlen:=fun i=>Nat.le_trans (KV s n (u.fs.take i)) (Nat.le_trans (List.length_take_le' i u.fs) hsm)
   refine cH (α:=Nat) (fun i=>[(2,iS .i64 n),(3,.va (.c1 (.pt 0 0))),(4,.va (.c1 (.pt 1 0))),(6,.va (.c1 (.pt 2 0))),(7,.va (.c1 (.pt 3 0))),(37,.va (.c1 (.fz (u.fs.map aT)))),(38,iS .i64 u.fs.length),(39,iS .i64 i)])
    (fun i=>[.cells [.vl (.int .i64 s.ver),.fz (s.es.map a7),.fz (s.ss.map aJ)] 93,.cells [.vl (.int .i64 t.k),.vl (.int .i64 t.s),.vl (.string t.n),.fz (t.e.map aW)] 42,.cells [.vl (.int .i64 0),.vl (.int .i64 0),.vl (.string (mk [])),.vl (.slice none 0 0),.vl (.slice none 0 0)] 29,
      .cells [.vl (.int .i64 t.k),.vl (.int .i64 0),.vl (.string (mk [])),.vl (.slice none 0 0),.sl 5 (zE s n (u.fs.take i)).length] 29,.cells [.vl (.string u.nm),.fz (u.fs.map aT)] 48,.row ((zE s n (u.fs.take i)).map bE) 76 6])
    (fun i=>i<=u.fs.length) (fun i=>u.fs.length - i) (.nilc 3 4 76 6 _ _ rfl rfl (iU 0 6 (Nat.zero_le _) ?_ ?_)) ?_
   · simp -dsimp only [go_sem]<;>simp
   · simp -dsimp only [go_sem]<;>simp [zE]
   intro i hi
   have hli:=hlen i
   rcases a8 i u.fs.length with hlt | hge
   · have hg:decide ((i:Int) < (u.fs.length:Int))=true:=by simp; omega
     have hx:u.fs[i]? = some u.fs[i]:=aV hlt
     have q2:=aZ (row:=aT) hx
     have hfo:=(hok.fs _ (List.getElem_mem hlt)).ty
     generalize u.fs[i]=f at *
     have hz:=U3 (s:=s) (n:=n) hx
     cases ho:f.opt with
     | true=>
      rw [ho,bJ] at hz
      simp (maxSteps:=1000000) -dsimp only [go_sem,hg,↓q2,aT,ho,List.take_succ_cons,List.take_zero,List.length_cons]
      refine ⟨by omega,by omega,aE (i + 1) 6 (by omega) (by omega) ?_ ?_⟩
      · simp -dsimp only [go_sem]<;>simp
      · simp -dsimp only [go_sem,hz]<;>simp
     | false=>
      rw [ho,aX] at hz
      simp (maxSteps:=1000000) -dsimp only [go_sem,hg,↓q2,aT,ho,List.take_succ_cons,List.take_zero,List.length_cons]
      refine ⟨⟨by omega,by omega⟩,⟨by omega,by omega⟩,JT hs hfo (by omega) (by omega) ?_⟩
      generalize zF s n f.ty=v at *
      simp (maxSteps:=1000000) -dsimp only [go_sem,aK v]
      refine ⟨by omega,by omega,aE (i + 1) 6 (by omega) (by omega) ?_ ?_⟩
      · simp -dsimp only [go_sem]<;>simp
      · simp -dsimp only [go_sem,hz]<;>simp [bE,aK v]
   · have hg:decide ((i:Int) < (u.fs.length:Int))=false:=by simp; omega
     rw [List.take_of_length_le hge] at *
     have h6:t.k=6:=eq_of_beq h2
     simp (maxSteps:=1000000) -dsimp only [go_sem,hg,h6]
     refine .pub 5 _ _ _ rfl (.sel [] (by simp) (by simp [cA]) rfl (.done ?_))
     simp -dsimp only [go_sem,cA]
     exact hK
def C8:W.Spec:=fun av H K=>∃ (s:Sc) (t:Ty),av=[.va (.gs (aI s)),.va (.gs (aW t))]/\H=[]/\s.fit/\TyOk t/\K (.va (.gs (aQ (zF s 23 t)))) []
theorem v6 {s:Sc} {t:Ty} {K:S->Hp->Prop} (h1:s.fit) (h2:TyOk t) (hK:K (.va (.gs (aQ (zF s 23 t)))) []):C8 [.va (.gs [.vl (.int .i64 s.ver),.fz (s.es.map a7),.fz (s.ss.map aJ)]),.va (.gs [.vl (.int .i64 t.k),.vl (.int .i64 t.s),.vl (.string t.n),.fz (t.e.map aW)])] [] K:=⟨s,t,by rw [aR]; rfl,rfl,h1,h2,hK⟩
theorem QU:Meets Tryz.prog 45 C8:=by
 refine aD Tryz.func45 aHM 2 (by rw [Tryz.ntmps45]; decide) (aC (JI 24) (aB _)) (fun av H K h=>by obtain ⟨_,_,rfl,_⟩:=h; rfl) ?_
 rintro av H K ⟨s,t,rfl,rfl,hs,ht,hK⟩
 simp (maxSteps:=1000000) -dsimp only [go_sem,aI,aR t,aAK,YO]
 refine JT (n:=23) hs ht (by decide) (by decide) ?_
 rw [aK] at hK ⊢
 simp (maxSteps:=1000000) -dsimp only [go_sem]
 refine .sel [] (by simp) (by simp) rfl (.done ?_)
 simp -dsimp only [go_sem]
 exact hK
theorem AE {s:Sc} (hs:s.fit):∀ (n:Nat) (t:Ty),TyOk t->VlOk (zF s n t)
 | 0,t,ht=>.mk ⟨by decide,by decide⟩ ⟨by decide,by decide⟩ (by decide) (by simp) (by simp) (by simp) (by simp) (by simp)
 | n + 1,t,ht=>by
  have hok:=iI hs t
  have hsm:=FL hs t
  rw [wJ]
  cases valF s.ss s.es t with
  | false=>exact .mk ⟨by decide,by decide⟩ ⟨by decide,by decide⟩ (by decide) (by simp) (by simp) (by simp) (by simp) (by simp)
  | true=>
   cases t.k == 6 with
   | false=>exact .mk ht.k ⟨by decide,by decide⟩ (by decide) (by simp) (by simp) (by simp) (by simp) (by simp)
   | true=>
    have hl:=KV s n (stOf s t).fs
    have hm:∀ x ∈ zE s n (stOf s t).fs,∃ f ∈ (stOf s t).fs,x=(f.num,zF s n f.ty):=fun x hx=>by
     unfold zE at hx
     obtain ⟨f,hf,rfl⟩:=List.mem_map.1 hx
     exact ⟨f,(List.mem_filter.1 hf).1,rfl⟩
    refine .mk ⟨by decide,by decide⟩ ⟨by decide,by decide⟩ (by decide) (by simp) (by omega) (by simp) (fun x hx=>?_) (fun x hx=>?_)
    · obtain ⟨f,hf,rfl⟩:=hm x hx; exact (hok.fs f hf).num
    · obtain ⟨f,hf,rfl⟩:=hm x hx; exact AE hs n f.ty (hok.fs f hf).ty
def pmF (s:Sc) (t:Ty):Bool:=lB s t (zF s 23 t) == 0
theorem CR {k n:Int} {s:ByteArray} (hk:bV k) (hn:bV n) (hs:s.size<=9223372036854775807):VlOk (.mk k n s [] []):=.mk hk hn hs (by simp) (by simp) (by simp) (by simp) (by simp)
def v0:Vl:=.mk 0 0 (mk []) [] []
def W8 (ts:List Tk) (z:Fs):Fs:=bif (eV ts z.n).k != 0 then gG ts z else z
def aJR (s:Sc) (t:Ty) (ts:List Tk) (r:Vl × Fs):Vl × Int × Int:=
 bif (W8 ts r.2).bad then (v0,2,(W8 ts r.2).off) else bif lB s t r.1 != 0 then (v0,lB s t r.1,0) else (r.1,0,0)
def HQ (P:E4) (s:Sc) (t:Ty) (x:List UInt8):Vl × Int × Int:=
 bif !pmF s t then (v0,13,0) else bif (vQ x).err != 0 then (v0,(vQ x).err,(vQ x).off) else aJR s t (vQ x).toks (P s (vQ x).toks t ⟨false,0,0⟩)
abbrev KL:Type:=Sc->Ty->Vl->List UInt8 × Bool
def tvB (n:Int):List UInt8:=bif n == 1 then QF else IW
def tvT (x:List UInt8):List UInt8:=bif decide (x.length<=200) && x.all VY then aH2 x else []
def nmF (ns:List ByteArray) (n:Int):List Int->Nat->ByteArray
 | [],_=>mk []
 | m :: l,i=>bif m == n && decide ((i:Int) < (ns.length:Int)) then ns.getD i (mk []) else nmF ns n l (i + 1)
def enOf (s:Sc) (t:Ty):En:=(eI s.es t.n).getD default
def MT:Bool->List (List UInt8)->List UInt8
 | _,[]=>[]
 | c,x :: r=>(bif c then [44,32] else []) ++ x ++ MT true r
def aEV (F:KL) (s:Sc) (u:Ty) (l:List Vl):List UInt8 × Bool:=([91] ++ MT false (l.map fun x=>(F s u x).1) ++ [93],l.any fun x=>(F s u x).2)
def kN (u:St) (n:Int):Fl:=(fF u.fs n).getD default
def itF (F:KL) (s:Sc) (u:St) (x:Int × Vl):List UInt8:=bl (kN u x.1).nm ++ [32,61,32] ++ (F s (kN u x.1).ty x.2).1
def UE (F:KL) (s:Sc) (u:St) (l:List (Int × Vl)):List UInt8 × Bool:=([123] ++ MT false (l.map (itF F s u)) ++ [125],l.any fun x=>(F s (kN u x.1).ty x.2).2)
def fP:Nat->KL
 | 0=>fun _ _ _=>([],false)
 | N + 1=>fun s t v=>bif t.k == 1 then (tvB v.n,false) else bif t.k == 4 then (tvT (bl v.s),tvT (bl v.s) == []) else bif t.k == 7 then (bl (nmF (enOf s t).ns v.n (enOf s t).vs 0),false)
  else bif t.k == 5 then aEV (fP N) s (t.e.headD default) v.l else bif t.k == 6 then UE (fP N) s (stOf s t) v.f else (aIG v.n,false)
def aJ9 (F:KL) (s:Sc) (t:Ty) (v:Vl):List UInt8:=bif lB s t v != 0 then [] else bif (F s t v).2 || decide (4000 < ((F s t v).1.length:Int)) then [] else (F s t v).1
def eC (l:List (Int × Vl)) (k:Int):Option (Int × Vl):=l.find? fun x=>decide (x.1=k)
def WC:W.Spec:=fun av H K=>∃ (v:Vl) (k:Int),av=[.va (.gs (aQ v)),iS .i64 k]/\H=[]/\VlOk v/\v.k=6/\K (.tu [.gs (aQ (((eC v.f k).map (·.2)).getD default)),bA (eC v.f k).isSome]) []
theorem W2 {v:Vl} {k:Int} {K:S->Hp->Prop} (h:VlOk v) (h6:v.k=6) (hK:K (.tu [.gs (aQ (((eC v.f k).map (·.2)).getD default)),bA (eC v.f k).isSome]) []):WC [.va (.gs [.vl (.int .i64 v.k),.vl (.int .i64 v.n),.vl (.string v.s),.fz (v.l.map aQ),.fz (v.f.map bE)]),iS .i64 k] [] K:=⟨v,k,by rw [aK],rfl,h,h6,hK⟩
theorem GA:aQ default=[.vl (.int .i64 0),.vl (.int .i64 0),.vl (.string (mk [])),.fz [],.fz []]:=rfl
def LH (v:Vl):Bool:=(v.k != 4 && !(bl v.s == [])) || (v.k != 5 && decide (0 < (v.l.length:Int))) || (v.k != 6 && decide (0 < (v.f.length:Int)))
def N4 (v:Vl):Bool:=(v.k == 4 || v.k == 5 || v.k == 6) && v.n != 0
def KI (s:Sc) (t:Ty) (v:Vl):Bool:=bif !(valF s.ss s.es t) || v.k != t.k || LH v then false else bif N4 v then false else bif v.k != 6 then true else eE (stOf s t).fs v.f
def vC (s:Sc) (t:Ty) (n:Int):Bool:=
 bif t.k == 1 then n == 0 || n == 1
 else bif t.k == 2 then t.s == 64 || (decide (-(2 ^ (t.s.toNat - 1):Int)<=n) && decide (n < (2 ^ (t.s.toNat - 1):Int)))
 else bif t.k == 3 then decide (0<=n) && decide (n < (2 ^ t.s.toNat:Int))
 else bif t.k == 7 then (enOf s t).vs.any fun x=>x == n else true
def aBO (t:Ty) (a b:Int):Bool:=(t.k == 4 && decide (t.s < a)) || (t.k == 5 && decide (t.s < b))
mutual
def FO (s:Sc) (t:Ty):Vl->Int
 | .mk k n str l f=>bif !(KI s t (.mk k n str l f)) then 13 else bif !(vC s t n) then 4 else bif aBO t (bl str).length l.length then 3
  else bif BD s (t.e.headD default) l != 0 then BD s (t.e.headD default) l else GY s (stOf s t) f
def BD (s:Sc) (t:Ty):List Vl->Int
 | []=>0
 | v :: r=>bif FO s t v != 0 then FO s t v else BD s t r
def GY (s:Sc) (u:St):List (Int × Vl)->Int
 | []=>0
 | (i,v) :: r=>bif FO s (kN u i).ty v != 0 then FO s (kN u i).ty v else GY s u r
end
theorem l6 {α:Type} {l:List α} (h:decide (0 < (l.length:Int))=false):l=[]:=by
 have:=of_decide_eq_false h
 exact List.length_eq_zero_iff.1 (by omega)
theorem WG {s:Sc} {t:Ty} {n:Int} (hp:valF s.ss s.es t=true) (h4:(t.k == 4)=false) (h5:(t.k == 5)=false) (h6:(t.k == 6)=false):vC s t n=f6 s t n:=by
 unfold vC f6
 cases h1:t.k == 1 with
 | true=>rfl
 | false=>
 cases h2:t.k == 2 with
 | true=>rfl
 | false=>
 cases h3:t.k == 3 with
 | true=>rfl
 | false=>
 cases h7:t.k == 7 with
 | true=>rfl
 | false=>
  exfalso
  obtain ⟨k,sz,nm,e⟩:=t
  have h1:(k == 1)=false:=h1
  have h2:(k == 2)=false:=h2
  have h3:(k == 3)=false:=h3
  have h4:(k == 4)=false:=h4
  have h5:(k == 5)=false:=h5
  have h6:(k == 6)=false:=h6
  have h7:(k == 7)=false:=h7
  rw [valF,h1,h2,h3,h4,h5,h6,h7] at hp
  cases hp
mutual
theorem JN (s:Sc) (t:Ty):∀ v:Vl,FO s t v=cZ s t v
 | .mk k n str l f=>by
  have hL:∀ u,BD s u l=hZ s u l:=fun u=>IT s u l
  have hE:GY s (stOf s t) f=hY s ((fS s.ss t.n).getD default).fs f:=JY s (stOf s t) f
  rw [FO,cZ,hL,hE]
  unfold KI
  cases hp:valF s.ss s.es t with
  | false=>rfl
  | true=>
  show (bif !(bif !true || k != t.k || LH (.mk k n str l f) then false else bif N4 (.mk k n str l f) then false else bif k != 6 then true else eE (stOf s t).fs f) then 13 else _)=_
  cases hk:k != t.k with
  | true=>rfl
  | false=>
  have hk':k=t.k:=by simpa using hk
  subst hk'
  have eA:LH (.mk t.k n str l f)=((t.k != 4 && !(bl str == [])) || (t.k != 5 && decide (0 < (l.length:Int))) || (t.k != 6 && decide (0 < (f.length:Int)))):=rfl
  have eB:N4 (.mk t.k n str l f)=((t.k == 4 || t.k == 5 || t.k == 6) && n != 0):=rfl
  rw [eA,eB]
  unfold aBO
  cases h4:t.k == 4 with
  | true=>
   have e4:t.k=4:=eq_of_beq h4
   have er:vC s t n=true:=by unfold vC; rw [e4]; rfl
   rw [er,e4]
   unfold mS
   cases hn:n != 0<;>cases hl:decide (0 < (l.length:Int))<;>cases hf:decide (0 < (f.length:Int))<;>cases hs:decide (t.s < ((bl str).length:Int))<;>(try rw [l6 hl])<;>(try rw [l6 hf])<;>simp [hZ,hY]
  | false=>
  cases h5:t.k == 5 with
  | true=>
   have e5:t.k=5:=eq_of_beq h5
   have er:vC s t n=true:=by unfold vC; rw [e5]; rfl
   rw [er,e5]
   generalize hZ s (t.e.headD default) l=q
   have hq:(bif q != 0 then q else 0)=q:=by
    cases hz:q != 0 with
    | true=>rfl
    | false=>
     have hq0:q=0:=by simpa using hz
     rw [hq0]; rfl
   cases hn:n != 0<;>cases hb:bl str == []<;>cases hf:decide (0 < (f.length:Int))<;>cases hs:decide (t.s < (l.length:Int))<;>(try rw [l6 hf])<;>simp [hY,hq]
  | false=>
  cases h6:t.k == 6 with
  | true=>
   have e6:t.k=6:=eq_of_beq h6
   have er:vC s t n=true:=by unfold vC; rw [e6]; rfl
   have ef:(stOf s t).fs=((fS s.ss t.n).getD default).fs:=rfl
   rw [er,e6,ef]
   cases hn:n != 0<;>cases hb:bl str == []<;>cases hl:decide (0 < (l.length:Int))<;>cases hs:eE ((fS s.ss t.n).getD default).fs f<;>(try rw [l6 hl])<;>simp [hZ]
  | false=>
   rw [WG hp h4 h5 h6]
   have c4:(t.k != 4)=true:=by rw [bne,h4]; rfl
   have c5:(t.k != 5)=true:=by rw [bne,h5]; rfl
   have c6:(t.k != 6)=true:=by rw [bne,h6]; rfl
   rw [c4,c5,c6]
   unfold nQ
   cases hb:bl str == []<;>cases hl:decide (0 < (l.length:Int))<;>cases hf:decide (0 < (f.length:Int))<;>cases hr:f6 s t n<;>(try rw [l6 hl])<;>(try rw [l6 hf])<;>simp [hZ,hY]
theorem IT (s:Sc) (t:Ty):∀ l:List Vl,BD s t l=hZ s t l
 | []=>by rw [BD,hZ]
 | v :: r=>by rw [BD,hZ,JN s t v,IT s t r]
theorem JY (s:Sc) (u:St):∀ l:List (Int × Vl),GY s u l=hY s u.fs l
 | []=>by rw [GY,hY]
 | (i,v) :: r=>by
  rw [GY,hY,JN s (kN u i).ty v,JY s u r]; rfl
end
mutual
def dQ:Vl->Int
 | .mk k n s l f=>bif lY (.mk k n s l f) then 0 else 1 + kI (gV 0 l) f
def gV (d:Int):List Vl->Int
 | []=>d
 | v :: r=>gV (max d (dQ v)) r
def kI (d:Int):List (Int × Vl)->Int
 | []=>d
 | (_,v) :: r=>kI (max d (dQ v)) r
end
theorem YK (v:Vl):dQ v=bif lY v then 0 else 1 + kI (gV 0 v.l) v.f:=by cases v; rw [dQ]; rfl
theorem BN {g:Vl->Int} {n:Nat} (hg:∀ x,g x=min (dQ x) n) (D:Int) (x:Vl):jC g ((n:Int) - 1) (min D n) x=min (max D (dQ x)) n:=by
 unfold jC
 rw [hg x]
 cases h:decide (min D (n:Int)<=(n:Int) - 1) with
 | true=>have:=of_decide_eq_true h; rw [bJ]; omega
 | false=>have:=of_decide_eq_false h; rw [aX]; omega
theorem OR {g:Vl->Int} {n:Nat} (hg:∀ x,g x=min (dQ x) n):∀ (l:List Vl) (D:Int),l.foldl (jC g ((n:Int) - 1)) (min D n)=min (gV D l) n
 | [],D=>by rw [gV]; rfl
 | x :: l,D=>by rw [List.foldl_cons,BN hg,OR hg l,gV]
theorem QL {g:Vl->Int} {n:Nat} (hg:∀ x,g x=min (dQ x) n):∀ (l:List (Int × Vl)) (D:Int),l.foldl (l8 g ((n:Int) - 1)) (min D n)=min (kI D l) n
 | [],D=>by rw [kI]; rfl
 | (i,x) :: l,D=>by
  rw [List.foldl_cons,show l8 g ((n:Int) - 1) (min D n) (i,x)=jC g ((n:Int) - 1) (min D n) x from rfl,BN hg,QL hg l,kI]
theorem RJ {g:Vl->Int} {n:Nat} (hg:∀ x,g x=min (dQ x) n) (v:Vl):D4 g ((n:Int) - 1) v=min (dQ v) ((n:Int) + 1):=by
 unfold D4
 rw [YK]
 cases lY v with
 | true=>rw [bJ,bJ]; omega
 | false=>
  rw [aX,aX]
  have h1:=OR hg v.l 0
  rw [show min (0:Int) (n:Int)=0 by omega] at h1
  rw [h1,QL hg v.f]
  omega
mutual
theorem TG:∀ v:Vl,0<=dQ v
 | .mk k n s l f=>by
  rw [dQ]
  have h1:=pY l 0
  have h2:=pG f (gV 0 l)
  cases lY (.mk k n s l f) with
  | true=>exact Int.le_refl _
  | false=>rw [aX]; omega
theorem pY:∀ (l:List Vl) (d:Int),d<=gV d l
 | [],d=>by rw [gV]; exact Int.le_refl _
 | v :: r,d=>by
  rw [gV]
  have:=pY r (max d (dQ v))
  omega
theorem pG:∀ (l:List (Int × Vl)) (d:Int),d<=kI d l
 | [],d=>by rw [kI]; exact Int.le_refl _
 | (_,v) :: r,d=>by
  rw [kI]
  have:=pG r (max d (dQ v))
  omega
end
theorem GJ:∀ (n:Nat) (x:Vl),fI n x=min (dQ x) n
 | 0,x=>by have:=TG x; show (0:Int)=min (dQ x) 0; omega
 | n + 1,x=>by
  rw [fI,uS,RJ (GJ n) x]
  omega
theorem TO (n:Nat) (v:Vl):n8 n v=min (dQ v) ((n:Int) + 1):=by rw [uS,RJ (GJ n) v]
theorem UA (v:Vl):decide (6 < n8 7 v)=decide (6 < dQ v):=by
 rw [TO]
 rw [Bool.eq_iff_iff,decide_eq_true_iff,decide_eq_true_iff]
 omega
mutual
theorem RU:∀ v:Vl,dQ v<=v.h
 | .mk k n s l f=>by
  rw [dQ,Vl.h]
  have h1:=Q4 l 0
  have h2:=QP f (gV 0 l)
  cases lY (.mk k n s l f) with
  | true=>rw [bJ]; omega
  | false=>rw [aX]; omega
theorem Q4:∀ (l:List Vl) (d:Int),gV d l<=max d (Vl.hl l)
 | [],d=>by rw [gV,Vl.hl]; omega
 | v :: r,d=>by
  rw [gV,Vl.hl]
  have h1:=RU v
  have h2:=Q4 r (max d (dQ v))
  omega
theorem QP:∀ (l:List (Int × Vl)) (d:Int),kI d l<=max d (Vl.hf l)
 | [],d=>by rw [kI,Vl.hf]; omega
 | (i,v) :: r,d=>by
  rw [kI,Vl.hf]
  have h1:=RU v
  have h2:=QP r (max d (dQ v))
  omega
end
mutual
def prV:Vl->Bool
 | .mk _ _ s l f=>(decide ((bl s).length<=200) && (bl s).all VY) && (prL l && prG f)
def prL:List Vl->Bool
 | []=>true
 | v :: r=>prV v && prL r
def prG:List (Int × Vl)->Bool
 | []=>true
 | (_,v) :: r=>prV v && prG r
end
def aJY (s:Sc):Prop:=∀ e ∈ s.es,e.ns.length=e.vs.length
structure NSt (ss:List St) (es:List En) (u:St):Prop where
 l:u.fs.length<=16
 n:∀ f ∈ u.fs,1<=f.num/\f.num<=127
 m:∀ f ∈ u.fs,cP (bl f.nm)=true
 v:∀ f ∈ u.fs,valF ss es f.ty=true
 a:∀ k f g,0 < k->u.fs[k - 1]? = some g->u.fs[k]? = some f->g.num < f.num
 d:∀ k f,u.fs[k]? = some f->(u.fs.take k).any (fun g=>decide (g.nm=f.nm))=false
structure NEn (e:En):Prop where
 l:e.ns.length=e.vs.length
 s:e.ns.length<=16
 m:∀ n ∈ e.ns,cP (bl n)=true
 d:∀ k x,e.ns[k]? = some x->bU (e.ns.take k) x=false
 a:∀ k x y,0 < k->e.vs[k - 1]? = some x->e.vs[k]? = some y->x < y
 n:∀ x ∈ e.vs,0<=x/\x<=127
structure Nice (s:Sc):Prop where
 st:∀ u ∈ s.ss,NSt s.ss s.es u
 en:∀ e ∈ s.es,NEn e
theorem dZ {b:Bool} {x y:Int} (h:(bif b then x else y)=0) (hx:x ≠ 0):b=false/\y=0:=by
 cases b with
 | true=>exact absurd h hx
 | false=>exact ⟨rfl,h⟩
theorem KG {x y:Int} (h:(bif x != 0 then x else y)=0):x=0/\y=0:=by
 by_cases c:x=0
 · subst c; exact ⟨rfl,h⟩
 · rw [show (x != 0)=true by simpa using c] at h; exact absurd h c
theorem JS {ss:List St} {es:List En} {t:St} {k:Nat} {f:Fl} (hx:t.fs[k]? = some f) (h:lO ss es t k=0) :
 (1<=f.num/\f.num<=127)/\(∀ g,0 < k->t.fs[k - 1]? = some g->g.num < f.num)/\cP (bl f.nm)=true/\(t.fs.take k).any (fun g=>decide (g.nm=f.nm))=false/\valF ss es f.ty=true:=by
 unfold lO at h
 rw [hx] at h
 simp only at h
 obtain ⟨c1,h⟩:=dZ h (by decide)
 obtain ⟨c2,h⟩:=dZ h (by decide)
 obtain ⟨c3,h⟩:=dZ h (by decide)
 obtain ⟨c4,h⟩:=dZ h (by decide)
 obtain ⟨c5,h⟩:=dZ h (by decide)
 simp only [Bool.or_eq_false_iff,decide_eq_false_iff_not] at c1
 refine ⟨⟨by omega,by omega⟩,fun g hk hg=>?_,by simpa using c3,c4,by simpa using c5⟩
 rw [hg] at c2
 simp only at c2
 rw [show decide (0 < (k:Int))=true by simp; omega,Bool.true_and] at c2
 have:=of_decide_eq_false c2
 omega
theorem yL {e:En} {k:Nat} {x:ByteArray} {n:Int} (hx:e.ns[k]? = some x) (hn:e.vs[k]? = some n) (h:iH e k=0) :
 cP (bl x)=true/\bU (e.ns.take k) x=false/\(0<=n/\n<=127)/\(k=0->n=0)/\∀ m,0 < k->e.vs[k - 1]? = some m->m < n:=by
 unfold iH at h
 rw [hx,hn] at h
 simp only at h
 obtain ⟨c3,h⟩:=dZ h (by decide)
 obtain ⟨c4,h⟩:=dZ h (by decide)
 obtain ⟨c1,h⟩:=dZ h (by decide)
 obtain ⟨c2,h⟩:=dZ h (by decide)
 rw [Bool.or_eq_false_iff] at c1 c2
 have a1:=of_decide_eq_false c1.1
 have a2:=of_decide_eq_false c1.2
 refine ⟨by simpa using c3,c4,⟨by omega,by omega⟩,fun hk=>?_,fun m hk hm=>?_⟩
 · have c2:=c2.1
   rw [show decide ((k:Int)=0)=true by simp; omega,Bool.true_and] at c2
   exact Decidable.of_not_not (of_decide_eq_false c2)
 · have c2:=c2.2
   rw [hm] at c2
   simp only at c2
   rw [show decide (0 < (k:Int))=true by simp; omega,Bool.true_and] at c2
   have:=of_decide_eq_false c2
   omega
theorem F7 {e:En} (h:l0 e=0):0 < e.ns.length/\e.ns.length=e.vs.length/\∀ k < e.ns.length,iH e k=0:=by
 unfold l0 at h
 obtain ⟨c1,h⟩:=dZ h (by decide)
 simp only [Bool.or_eq_false_iff,decide_eq_false_iff_not] at c1
 exact ⟨by omega,by omega,fun k hk=>iN (m:=e.ns.length) (by rw [Nat.sub_zero]; exact h) k hk⟩
theorem nI {s:Sc} (h:bP s=0):dP s=false/\EE s=0/\zY s=0/\iP s.ss=0:=by
 unfold bP at h
 obtain ⟨_,h⟩:=dZ h (by decide)
 obtain ⟨c2,h⟩:=dZ h (by decide)
 obtain ⟨c3,h⟩:=KG h
 obtain ⟨c4,h⟩:=KG h
 exact ⟨c2,c3,c4,h⟩
theorem T9 {s:Sc} (h:bP s=0):Nice s:=by
 obtain ⟨c2,c3,c4,_⟩:=nI h
 obtain ⟨l1,l2,l3,l4⟩:=rI c2
 refine ⟨fun u hu=>?_,fun e he=>?_⟩
 · obtain ⟨i,hi⟩:=List.mem_iff_getElem?.1 hu
   have hc:=(EV hi (iN c4 i (bC.1 hi).1)).2
   have key:=fun k f (hx:u.fs[k]? = some f)=>JS hx (iN hc k (bC.1 hx).1)
   have mem:∀ f ∈ u.fs,∃ k,u.fs[k]? = some f:=fun f hf=>List.mem_iff_getElem?.1 hf
   exact ⟨l4 u hu,fun f hf=>(mem f hf).elim fun k hx=>(key k f hx).1,fun f hf=>(mem f hf).elim fun k hx=>(key k f hx).2.2.1,fun f hf=>(mem f hf).elim fun k hx=>(key k f hx).2.2.2.2,
    fun k f g hk hg hf=>(key k f hf).2.1 g hk hg,fun k f hf=>(key k f hf).2.2.2.1⟩
 · obtain ⟨i,hi⟩:=List.mem_iff_getElem?.1 he
   obtain ⟨hp,hl,hc⟩:=F7 (F0 hi (iN c3 i (bC.1 hi).1)).2.2
   have key:=fun k x n (hx:e.ns[k]? = some x) (hn:e.vs[k]? = some n)=>yL hx hn (hc k (bC.1 hx).1)
   have oth:∀ k x,e.ns[k]? = some x->∃ n,e.vs[k]? = some n:=fun k x hx=>⟨_,aV (hl ▸ (bC.1 hx).1)⟩
   have oth2:∀ k n,e.vs[k]? = some n->∃ x,e.ns[k]? = some x:=fun k x hx=>⟨_,aV (hl ▸ (bC.1 hx).1)⟩
   refine ⟨hl,l3 e he,fun x hx=>?_,fun k x hx=>?_,fun k x y hk hx hy=>?_,fun n hn=>?_⟩
   · obtain ⟨k,hk⟩:=List.mem_iff_getElem?.1 hx
     obtain ⟨n,hn⟩:=oth k x hk
     exact (key k x n hk hn).1
   · obtain ⟨n,hn⟩:=oth k x hx
     exact (key k x n hx hn).2.1
   · obtain ⟨z,hz⟩:=oth2 k y hy
     exact (key k z y hz hy).2.2.2.2 x hk hx
   · obtain ⟨k,hk⟩:=List.mem_iff_getElem?.1 hn
     obtain ⟨z,hz⟩:=oth2 k n hk
     exact (key k z n hz hk).2.2.1
theorem LU {s:Sc} (h:bP s=0) {e:En} (he:e ∈ s.es):e.vs[0]? = some 0:=by
 obtain ⟨c2,c3,c4,_⟩:=nI h
 obtain ⟨i,hi⟩:=List.mem_iff_getElem?.1 he
 obtain ⟨hp,hl,hc⟩:=F7 (F0 hi (iN c3 i (bC.1 hi).1)).2.2
 have h1:e.ns[0]? = some e.ns[0]:=aV hp
 have h2:e.vs[0]? = some (e.vs[0]'(hl ▸ hp)):=aV (hl ▸ hp)
 rw [h2,(yL h1 h2 (hc 0 hp)).2.2.2.1 rfl]
theorem Nice.stOf {s:Sc} (h:Nice s) (t:Ty):NSt s.ss s.es (stOf s t):=by
 unfold Proofs.YthpbnmebjocbeaaGreat.stOf
 cases h1:fS s.ss t.n with
 | none=>exact ⟨by decide,fun _ h=>(by cases h),fun _ h=>(by cases h),fun _ h=>(by cases h),fun _ _ _ _ h=>(by cases h),fun _ _ h=>(by cases h)⟩
 | some u=>exact h.st u (List.mem_of_find?_eq_some h1)
theorem Nice.enOf {s:Sc} (h:Nice s) (t:Ty):NEn (enOf s t):=by
 unfold Proofs.YthpbnmebjocbeaaGreat.enOf
 cases h1:eI s.es t.n with
 | none=>exact ⟨rfl,by decide,fun _ h=>(by cases h),fun _ _ h=>(by cases h),fun _ _ _ _ h=>(by cases h),fun _ h=>(by cases h)⟩
 | some u=>exact h.en u (List.mem_of_find?_eq_some h1)
theorem Nice.eq {s:Sc} (h:Nice s):aJY s:=fun e he=>(h.en e he).l
theorem L1 {x:List UInt8} (h:cP x=true):x.length<=16:=by
 rcases a8 16 x.length with h1 | h1
 · rw [zG h1] at h; cases h
 · exact h1
structure Ck (s:Sc) (t:Ty) (v:Vl):Prop where
 va:valF s.ss s.es t=true
 kk:v.k=t.k
 tx:(t.k == 4)=true->v.n=0/\v.l=[]/\v.f=[]/\((bl v.s).length:Int)<=t.s
 ls:(t.k == 5)=true->v.n=0/\bl v.s=[]/\v.f=[]/\(v.l.length:Int)<=t.s/\∀ x ∈ v.l,cZ s (t.e.headD default) x=0
 st:(t.k == 6)=true->v.n=0/\bl v.s=[]/\v.l=[]/\eE (stOf s t).fs v.f=true/\∀ x ∈ v.f,cZ s (kN (stOf s t) x.1).ty x.2=0
 nu:(t.k == 4)=false->(t.k == 5)=false->(t.k == 6)=false->bl v.s=[]/\v.l=[]/\v.f=[]/\f6 s t v.n=true
theorem CT {s:Sc} {t:Ty}:∀ {l:List Vl},hZ s t l=0->∀ x ∈ l,cZ s t x=0
 | [],_,_,h=>by cases h
 | y :: l,h,x,hx=>by
  rw [hZ] at h
  by_cases c:cZ s t y=0
  · rw [c] at h
    rcases List.mem_cons.1 hx with rfl | hx
    · exact c
    · exact CT h x hx
  · rw [show (cZ s t y != 0)=true by simpa using c] at h; exact absurd h c
theorem CS {s:Sc} {fs:List Fl}:∀ {l:List (Int × Vl)},hY s fs l=0->∀ x ∈ l,cZ s ((fF fs x.1).getD default).ty x.2=0
 | [],_,_,h=>by cases h
 | y :: l,h,x,hx=>by
  rw [BI] at h
  by_cases c:cZ s ((fF fs y.1).getD default).ty y.2=0
  · rw [c] at h
    rcases List.mem_cons.1 hx with rfl | hx
    · exact c
    · exact CS h x hx
  · rw [show (cZ s ((fF fs y.1).getD default).ty y.2 != 0)=true by simpa using c] at h; exact absurd h c
theorem jS {α:Type} {l:List α} (h:¬ 0 < (l.length:Int)):l=[]:=List.eq_nil_of_length_eq_zero (by omega)
theorem fO {k a b:Int} (h:(k == a)=true) (hab:a ≠ b):(k == b)=false:=by
 have:=eq_of_beq h; simp; omega
theorem pX {s:Sc} {t:Ty} {v:Vl} (h:cZ s t v=0):Ck s t v:=by
 rw [IN] at h
 cases c1:!(valF s.ss s.es t) || v.k != t.k with
 | true=>rw [c1] at h; simp at h
 | false=>
 rw [c1,aX] at h
 rw [Bool.or_eq_false_iff] at c1
 have va:valF s.ss s.es t=true:=by simpa using c1.1
 have kk:v.k=t.k:=by simpa using c1.2
 cases c4:t.k == 4 with
 | true=>
  rw [c4,bJ] at h
  unfold mS at h
  cases d1:v.n != 0 || decide (0 < (v.l.length:Int)) || decide (0 < (v.f.length:Int)) with
  | true=>rw [d1] at h; simp at h
  | false=>
   rw [d1,aX] at h
   cases d2:decide (t.s < ((bl v.s).length:Int)) with
   | true=>rw [d2] at h; simp at h
   | false=>
    simp only [Bool.or_eq_false_iff,decide_eq_false_iff_not,bne_eq_false_iff_eq] at d1 d2
    refine ⟨va,kk,fun _=>⟨d1.1.1,jS d1.1.2,jS d1.2,by omega⟩,fun h=>?_,fun h=>?_,fun h _ _=>?_⟩
    · rw [fO c4 (by decide)] at h; cases h
    · rw [fO c4 (by decide)] at h; cases h
    · rw [c4] at h; cases h
 | false=>
 rw [c4,aX] at h
 cases c5:t.k == 5 with
 | true=>
  rw [c5,bJ] at h
  cases d1:v.n != 0 || !(bl v.s == []) || decide (0 < (v.f.length:Int)) with
  | true=>rw [d1] at h; simp at h
  | false=>
   rw [d1,aX] at h
   cases d2:decide (t.s < (v.l.length:Int)) with
   | true=>rw [d2] at h; simp at h
   | false=>
    rw [d2,aX] at h
    simp only [Bool.or_eq_false_iff,decide_eq_false_iff_not,bne_eq_false_iff_eq,Bool.not_eq_false'] at d1 d2
    refine ⟨va,kk,fun h=>?_,fun _=>⟨d1.1.1,eq_of_beq d1.1.2,jS d1.2,by omega,CT h⟩,fun h=>?_,fun _ h _=>?_⟩
    · rw [c4] at h; cases h
    · rw [fO c5 (by decide)] at h; cases h
    · rw [c5] at h; cases h
 | false=>
 rw [c5,aX] at h
 cases c6:t.k == 6 with
 | true=>
  rw [c6,bJ] at h
  cases d1:v.n != 0 || !(bl v.s == []) || decide (0 < (v.l.length:Int)) || !(eE ((fS s.ss t.n).getD default).fs v.f) with
  | true=>rw [d1] at h; simp at h
  | false=>
   rw [d1,aX] at h
   simp only [Bool.or_eq_false_iff,decide_eq_false_iff_not,bne_eq_false_iff_eq,Bool.not_eq_false'] at d1
   refine ⟨va,kk,fun h=>?_,fun h=>?_,fun _=>⟨d1.1.1.1,eq_of_beq d1.1.1.2,jS d1.1.2,d1.2,CS h⟩,fun _ _ h=>?_⟩
   · rw [c4] at h; cases h
   · rw [c5] at h; cases h
   · rw [c6] at h; cases h
 | false=>
 rw [c6,aX] at h
 unfold nQ at h
 cases d1:!(bl v.s == []) || decide (0 < (v.l.length:Int)) || decide (0 < (v.f.length:Int)) with
 | true=>rw [d1] at h; simp at h
 | false=>
  rw [d1,aX] at h
  cases d2:f6 s t v.n with
  | false=>rw [d2] at h; simp at h
  | true=>
   simp only [Bool.or_eq_false_iff,decide_eq_false_iff_not,Bool.not_eq_false'] at d1
   refine ⟨va,kk,fun h=>?_,fun h=>?_,fun h=>?_,fun _ _ _=>⟨eq_of_beq d1.1.1,jS d1.1.2,jS d1.2,d2⟩⟩
   · rw [c4] at h; cases h
   · rw [c5] at h; cases h
   · rw [c6] at h; cases h
def eR:Nat->Nat
 | 0=>500
 | m + 1=>40 * eR m
theorem CD {s:Sc} {t:Ty} {v:Vl} (h:lB s t v=0):cZ s t v=0/\dQ v<=6:=by
 unfold lB at h
 rw [UA] at h
 cases c:decide (6 < dQ v) with
 | true=>rw [c] at h; simp at h
 | false=>rw [c] at h; exact ⟨h,by have:=of_decide_eq_false c; omega⟩
def n4 (a b:Int × Int):Int × Int:=(IntKind.i64.wrap (a.1 + b.1),max a.2 b.2)
mutual
def kX:Vl->Int->Int × Int
 | .mk _ _ _ l f,lev=>bif decide (20 < lev) then (1,lev) else D0 f (lev + 1) (rK l (lev + 1) (1,lev))
def rK:List Vl->Int->Int × Int->Int × Int
 | [],_,a=>a
 | v :: r,lev,a=>rK r lev (n4 a (kX v lev))
def D0:List (Int × Vl)->Int->Int × Int->Int × Int
 | [],_,a=>a
 | (_,v) :: r,lev,a=>D0 r lev (n4 a (kX v lev))
end
mutual
theorem UP:∀ (v:Vl) (lev:Int),lev<=(kX v lev).2
 | .mk k n s l f,lev=>by
  rw [kX]
  cases decide (20 < lev) with
  | true=>exact Int.le_refl _
  | false=>
   have h1:=pN l (lev + 1) (1,lev)
   have h2:=qG f (lev + 1) (rK l (lev + 1) (1,lev))
   rw [aX]
   simp only at h1
   omega
theorem pN:∀ (l:List Vl) (lev:Int) (a:Int × Int),a.2<=(rK l lev a).2
 | [],_,_=>by rw [rK]; exact Int.le_refl _
 | v :: r,lev,a=>by
  have h:=pN r lev (n4 a (kX v lev))
  rw [rK]
  unfold n4 at h ⊢
  simp only at h
  omega
theorem qG:∀ (l:List (Int × Vl)) (lev:Int) (a:Int × Int),a.2<=(D0 l lev a).2
 | [],_,_=>by rw [D0]; exact Int.le_refl _
 | (i,v) :: r,lev,a=>by
  have h:=qG r lev (n4 a (kX v lev))
  rw [D0]
  unfold n4 at h ⊢
  simp only at h
  omega
end
mutual
theorem O1:∀ (v:Vl) (lev:Int),(kX v lev).2<=12->lev + v.h<=13
 | .mk k n s l f,lev,h=>by
  have h0:=UP (.mk k n s l f) lev
  rw [kX] at h h0
  cases c:decide (20 < lev) with
  | true=>have:=of_decide_eq_true c; rw [c,bJ] at h; simp only at h; omega
  | false=>
   rw [c,aX] at h h0
   have h1:=pN l (lev + 1) (1,lev)
   have h2:=qG f (lev + 1) (rK l (lev + 1) (1,lev))
   have h3:=RB f (lev + 1) (rK l (lev + 1) (1,lev)) h
   have h4:=RE l (lev + 1) (1,lev) (by omega)
   rw [Vl.h]
   simp only at h1
   omega
theorem RE:∀ (l:List Vl) (lev:Int) (a:Int × Int),(rK l lev a).2<=12->Vl.hl l=0\/lev + Vl.hl l<=13
 | [],_,_,_=>.inl (by rw [Vl.hl])
 | v :: r,lev,a,h=>by
  rw [rK] at h
  have h1:=pN r lev (n4 a (kX v lev))
  have h2:(kX v lev).2<=(n4 a (kX v lev)).2:=by unfold n4; simp only; omega
  have h3:=O1 v lev (by omega)
  have h4:=RE r lev _ h
  rw [Vl.hl]
  omega
theorem RB:∀ (l:List (Int × Vl)) (lev:Int) (a:Int × Int),(D0 l lev a).2<=12->Vl.hf l=0\/lev + Vl.hf l<=13
 | [],_,_,_=>.inl (by rw [Vl.hf])
 | (i,v) :: r,lev,a,h=>by
  rw [D0] at h
  have h1:=qG r lev (n4 a (kX v lev))
  have h2:(kX v lev).2<=(n4 a (kX v lev)).2:=by unfold n4; simp only; omega
  have h3:=O1 v lev (by omega)
  have h4:=RB r lev _ h
  rw [Vl.hf]
  omega
end
theorem Y7 {ts:List Tk} {n:Nat} (he:Ends ts) (hn:n < ts.length) (hk:(eV ts n).k ≠ 0):fX ts n=n + 1:=by
 have h:=he.last n _ (CF hn)
 unfold fX
 rw [if_pos]
 by_cases e:n + 1=ts.length
 · exact absurd (h.2 e) hk
 · omega
abbrev f5 (n:Nat):Fs:=⟨false,0,n⟩
def moN (w:List UInt8) (ts:List Tk) (n:Nat):Fs:=bif g4 [44] ts (f5 n) then qN [44] ts (f5 n) else dW w ts (f5 n)
theorem JU {ts:List Tk} {z:Fs} (h:z.bad=true):gG ts z=z:=by unfold gG; rw [h]; rfl
theorem DQ {w:List UInt8} {ts:List Tk} {z:Fs} (h:z.bad=true):g4 w ts z=false:=by unfold g4; rw [h]; rfl
theorem yQ {w:List UInt8} {ts:List Tk} {z:Fs} (h:z.bad=true):dW w ts z=z:=by unfold dW; rw [DQ h]; exact JU h
structure Vr {α:Type} (ts:List Tk) (r:α × Fs) (v:α) (n:Nat) (b:Bool):Prop where
 hb:r.2.bad=b
 hn:n < ts.length
 ok:b=false->v=r.1/\r.2=f5 n
 er:b=true->r.2.off=((eV ts n).a:Int)
theorem TQ {ts:List Tk} {n:Nat} (he:Ends ts) (hn:n < ts.length) (hk:(eV ts n).k ≠ 0):n + 1 < ts.length:=by
 have h:=he.last n _ (CF hn)
 by_cases e:n + 1=ts.length
 · exact absurd (h.2 e) hk
 · omega
theorem KW {k:Int} {w:List UInt8} {t:Tk} (h:sG k w t=true):t.k=k:=by unfold sG at h; rw [Bool.and_eq_true] at h; exact eq_of_beq h.1
end Go.Proofs.YthpbnmebjocbeaaGreat
namespace Go.W
section
variable {P:Program} {f:FuncId} {s t:Spec}
def C.pl:C->C->Prop
 | .vl v,c'=>c'=.vl v
 | c,c'=>∃ u,c'=.vl u/\(c.one->u.oneCell'=true)
def A.pl:A->A->Prop
 | .c1 c,.c1 c'=>C.pl c c'
 | .gs cs,.gs cs'=>All2 C.pl cs cs'
 | _,_=>False
def S.pl:S->S->Prop
 | .va a,s=>∃ b,s=.va b/\A.pl a b
 | .tu l,s=>∃ m,s=.tu m/\All2 A.pl l m
 | _,s=>s=.un
end
end Go.W
namespace Go.Proofs.YthpbnmebjocbeaaGreat
open Go.W
theorem aEP {α:Type} {ts:List Tk} {n:Nat} {v:α} {z:Fs} (h:z=f5 z.n\/z=gG ts (f5 n)) (hn:n < ts.length) (hz:z.n < ts.length):Vr ts (v,z) v z.n z.bad:=by
 rcases h with h | h
 · rw [h]; exact ⟨rfl,hz,fun _=>⟨rfl,rfl⟩,fun h=>(by cases h)⟩
 · rw [h]; exact ⟨rfl,hn,fun h=>(by cases h),fun _=>rfl⟩
theorem LQ (w:List UInt8) (ts:List Tk) (n:Nat):dW w ts (f5 n)=f5 (dW w ts (f5 n)).n\/dW w ts (f5 n)=gG ts (f5 n):=by
 unfold dW
 cases g4 w ts (f5 n) with
 | true=>exact .inl rfl
 | false=>exact .inr rfl
abbrev zK:List (Nat × S):=[(0,.va (.c1 (.pt 0 0))),(4,.va (.c1 (.pt 1 0))),(5,.va (.c1 (.pt 2 0))),(6,.va (.c1 (.pt 3 0))),(7,.va (.c1 (.pt 4 0)))]
theorem FN {ss:List St} {es:List En} {t:Ty} (h:valF ss es t=true):(t.k == 1)=true\/(t.k == 2)=true\/(t.k == 3)=true\/(t.k == 4)=true\/(t.k == 5)=true\/(t.k == 6)=true\/(t.k == 7)=true:=by
 obtain ⟨k,s,n,e⟩:=t
 show (k == 1)=true\/_
 rw [valF.eq_def] at h
 simp only at h
 cases h1:k == 1<;>cases h2:k == 2<;>cases h3:k == 3<;>cases h4:k == 4<;>cases h5:k == 5<;>cases h6:k == 6<;>cases h7:k == 7 <;>
 first
  | (simp [Ty.k,h1,h2,h3,h4,h5,h6,h7]; done)
  | (rw [h1,h2,h3,h4,h5,h6,h7] at h; cases h)
theorem JQ {w:List UInt8} {ts:List Tk} {n:Nat}:g4 w ts (f5 n)=sG 4 w (eV ts n):=by unfold g4; rw [Bool.not_false,Bool.true_and]
theorem BG {w:List UInt8} {ts:List Tk} {n:Nat} (he:Ends ts) (hn:n < ts.length) (h:sG 4 w (eV ts n)=true):qN w ts (f5 n)=f5 (n + 1):=by
 unfold qN; rw [JQ,h,Y7 he hn (by rw [KW h]; decide)]; rfl
structure Ser {α:Type} (one:α->Fs->α × Fs) (sh:List UInt8) (ts:List Tk) (Q:α × Fs) (f:Nat) (m:Bool) (a:α) (n:Nat) (b:Bool):Prop where
 hn:n < ts.length
 go:m=true->b=false/\ts.length < n + f/\vW one ts f a (f5 n)=Q
 no:m=false->Vr ts (Q.1,dW sh ts Q.2) a n b
theorem Ser.next {α:Type} {one:α->Fs->α × Fs} {sh:List UInt8} {ts:List Tk} {Q:α × Fs} {f:Nat} {a a':α} {n n':Nat} {b':Bool} (he:Ends ts) (ho:Onw one ts) (h:Ser one sh ts Q (f + 1) true a n false) (hr:Vr ts (one a (f5 n)) a' n' b') :
 (b'=true->Ser one sh ts Q f false a' n' true)/\(b'=false->Ser one sh ts Q f (g4 [44] ts (f5 n')) a' (moN sh ts n').n (moN sh ts n').bad):=by
 obtain ⟨_,h2,h3⟩:=h.go rfl
 rw [JZ] at h3
 simp only [aX] at h3
 refine ⟨fun hb=>?_,fun hb=>?_⟩
 · have hbad:(one a (f5 n)).2.bad=true:=by rw [hr.hb,hb]
   rw [DQ hbad,aX] at h3
   refine ⟨hr.hn,fun h=>(by cases h),fun _=>?_⟩
   rw [<-h3]
   exact ⟨by rw [yQ hbad,hbad],hr.hn,fun h=>(by cases h),fun _=>by rw [yQ hbad]; exact hr.er hb⟩
 · obtain ⟨e1,e2⟩:=hr.ok hb
   have hn':=hr.hn
   rw [e2] at h3
   unfold moN
   cases hc:g4 [44] ts (f5 n') with
   | true=>
    have hc':=hc
    rw [JQ] at hc'
    have hm:=TQ he hn' (by rw [KW hc']; decide)
    rw [hc,bJ,BG he hn' hc'] at h3
    rw [bJ,BG he hn' hc']
    refine ⟨hm,fun _=>⟨rfl,?_,by rw [e1]; exact h3⟩,fun h=>(by cases h)⟩
    have h5:=(ho a (f5 n) h.hn).1
    rw [e2] at h5
    show ts.length < n' + 1 + f
    have h5:n<=n':=h5
    omega
   | false=>
    rw [hc,aX] at h3
    rw [aX]
    have hq:Q=(a',f5 n'):=by rw [<-h3,e1,<-e2]
    refine ⟨(E6 (w:=sh) hn').2,fun h=>(by cases h),fun _=>?_⟩
    rw [hq]
    exact aEP (LQ sh ts n') hn' (E6 (w:=sh) hn').2
structure Gtk (k:Int) (x:List UInt8) (n:Int):Prop where
 e:k=0->x=[]/\n=0
 o:k ≠ 0->okK k x n=true
 i:bV n
theorem T5 {k:Int} {x:List UInt8} {n:Int} (h:okK k x n=true):x.length<=200:=by
 unfold okK at h
 cases c1:k == 1 with
 | true=>rw [c1,bJ,Bool.and_eq_true] at h; have:=L1 h.2; omega
 | false=>
 rw [c1,aX] at h
 cases c2:k == 2 with
 | true=>rw [c2,bJ] at h; rw [eq_of_beq h]; exact Nat.zero_le _
 | false=>
 rw [c2,aX] at h
 cases c3:k == 3 with
 | true=>rw [c3,bJ,Bool.and_eq_true,Bool.and_eq_true] at h; exact of_decide_eq_true h.2.1
 | false=>
 rw [c3,aX] at h
 cases c4:k == 4 with
 | false=>rw [c4] at h; cases h
 | true=>
  rw [c4,bJ,Bool.and_eq_true] at h
  match x,h with
  | [],_=>exact Nat.zero_le _
  | [_],_=>exact (by decide:1<=200)
  | _ :: _ :: _,h=>exact absurd h.2 (by simp)
theorem Gtk.len {k:Int} {x:List UInt8} {n:Int} (h:Gtk k x n):x.length<=200:=by
 by_cases hk:k=0
 · rw [(h.e hk).1]; exact Nat.zero_le _
 · exact T5 (h.o hk)
structure Dg (s:Sc):Prop where
 ni:Nice s
 g:Gd s.ss s.es
 ac:y9 s.ss
 d6:∀ u ∈ s.ss,dD s.ss u.nm<=6
 z:∀ e ∈ s.es,e.vs[0]? = some 0
theorem O0 {s:Sc} (hf:s.fit) (h:bP s=0):Dg s:=by
 obtain ⟨c2,c3,c4,c5⟩:=nI h
 unfold iP at c5
 obtain ⟨d1,c5⟩:=dZ c5 (by decide)
 obtain ⟨d2,c5⟩:=dZ c5 (by decide)
 exact ⟨T9 h,FW hf c2 c4,fun t ht=>gU d1 t ht,fun u hu=>by have:=of_decide_eq_false (gU d2 u hu); omega,fun e he=>LU h he⟩
abbrev kJ (s:Sc) (t:Ty):Int:=bX (dD s.ss) t
theorem IS (s:Sc) (t:Ty):0<=kJ s t:=by
 unfold kJ bX
 have:=IK s.ss (bR t).2.n
 cases (bR t).2.k == 6 with
 | true=>rw [bJ]; omega
 | false=>rw [aX]; omega
theorem UX {s:Sc} {t u:Ty} (h5:(t.k == 5)=true) (he:t.e=[u]):kJ s t=kJ s u + 1:=by
 obtain ⟨k,z,n,e⟩:=t
 have hk:k=5:=eq_of_beq h5
 have he:e=[u]:=he
 subst hk he
 unfold kJ bX
 rw [bR,show ((5:Int) == 5)=true from rfl,bJ,KD]
 simp only
 omega
theorem JP {s:Sc} {t:Ty} (h6:(t.k == 6)=true):kJ s t=dD s.ss t.n:=by
 obtain ⟨k,z,n,e⟩:=t
 have hk:k=6:=eq_of_beq h6
 subst hk
 unfold kJ bX
 rw [bR,show ((6:Int) == 5)=false from rfl,aX]
 show ((0:Nat):Int) + (bif (6:Int) == 6 then dD s.ss n else 0)=dD s.ss n
 simp
theorem va6 {s:Sc} {t:Ty} (h:valF s.ss s.es t=true) (h6:(t.k == 6)=true):∃ u,fS s.ss t.n=some u/\stOf s t=u/\u ∈ s.ss/\u.nm=t.n:=by
 have hh:cK s.ss t.n=true:=by
  obtain ⟨k,z,n,e⟩:=t
  have hk:k=6:=eq_of_beq h6
  subst hk
  rw [valF] at h; simp at h; exact h.1.1
 rw [<-tV] at hh
 obtain ⟨u,hu⟩:=Option.isSome_iff_exists.1 hh
 exact ⟨u,hu,by unfold stOf; rw [hu]; rfl,(fJ hu).1,(fJ hu).2⟩
theorem HM {s:Sc} (hd:Dg s) {t:Ty} (h:valF s.ss s.es t=true) (h6:(t.k == 6)=true):1<=dD s.ss t.n/\dD s.ss t.n<=6/\∀ f ∈ (stOf s t).fs,kJ s f.ty + 1<=dD s.ss t.n:=by
 obtain ⟨u,h1,h2,h3,h4⟩:=va6 h h6
 have e:=HT hd.g hd.ac h1
 have h0:=iT (dD s.ss) u.fs
 refine ⟨by omega,by rw [<-h4]; exact hd.d6 u h3,fun f hf=>?_⟩
 rw [h2] at hf
 have:=GN (dp:=dD s.ss) hf
 show bX (dD s.ss) f.ty + 1<=_
 omega
theorem aCJ {ss:List St} {es:List En} {u:St} (hu:NSt ss es u):u.fs.Pairwise fun f g=>f.num < g.num:=by
 have key:∀ (l:List Fl),(∀ k f g,0 < k->l[k - 1]? = some g->l[k]? = some f->g.num < f.num)->l.Pairwise fun f g=>f.num < g.num:=by
  intro l
  induction l with
  | nil=>intro _; exact .nil
  | cons y l ih=>
   intro h
   have hl:=ih fun k f g hk h1 h2=>h (k + 1) f g (by omega) (by rw [show k + 1 - 1=k - 1 + 1 by omega]; simpa using h1) (by simpa using h2)
   refine List.pairwise_cons.2 ⟨fun f hf=>?_,hl⟩
   cases l with
   | nil=>cases hf
   | cons z l=>
    have h1:=h 1 z y (by omega) rfl rfl
    rcases List.mem_cons.1 hf with rfl | hf
    · exact h1
    · exact Int.lt_trans h1 ((List.pairwise_cons.1 hl).1 f hf)
 exact key u.fs hu.a
theorem P7:∀ {fs:List Fl} {f:Fl},fs.Pairwise (fun f g=>f.num < g.num)->f ∈ fs->fF fs f.num=some f
 | y :: l,f,hp,hf=>by
  obtain ⟨h1,h2⟩:=List.pairwise_cons.1 hp
  show List.find? _ _=_
  rw [List.find?_cons]
  rcases List.mem_cons.1 hf with rfl | hf
  · simp
  · have:=h1 f hf
    have e:decide (y.num=f.num)=false:=by simp; omega
    rw [e]
    exact P7 h2 hf
theorem aIY {s:Sc} {t:Ty} (h:valF s.ss s.es t=true) (hk:(t.k == 4)=true\/(t.k == 5)=true):1<=t.s:=by
 obtain ⟨k,z,n,e⟩:=t
 show 1<=z
 rcases hk with hk | hk
 · have hk:k=4:=eq_of_beq hk
   subst hk
   rw [valF.eq_def] at h
   simp at h
   omega
 · have hk:k=5:=eq_of_beq hk
   subst hk
   rw [valF.eq_def] at h
   simp at h
   omega
mutual
def dL:Vl->Vl->Bool
 | .mk k n s l f,.mk k' n' s' l' f'=>k == k' && (n == n' && (bl s == bl s' && (eK l l' && d7 f f')))
def eK:List Vl->List Vl->Bool
 | [],[]=>true
 | x :: a,y :: b=>dL x y && eK a b
 | [],_ :: _=>false
 | _ :: _,[]=>false
def d7:List (Int × Vl)->List (Int × Vl)->Bool
 | [],[]=>true
 | (i,x) :: a,(j,y) :: b=>i == j && (dL x y && d7 a b)
 | [],_ :: _=>false
 | _ :: _,[]=>false
end
mutual
theorem xE:∀ {a b:Vl},dL a b=true ↔ a=b
 | .mk k n s l f,.mk k' n' s' l' f'=>by
  rw [dL]
  simp only [Bool.and_eq_true,beq_iff_eq,GI,FM,Vl.mk.injEq]
  exact ⟨fun ⟨h1,h2,h3,h4,h5⟩=>⟨h1,h2,oZ h3,h4,h5⟩,fun ⟨h1,h2,h3,h4,h5⟩=>⟨h1,h2,by rw [h3],h4,h5⟩⟩
theorem GI:∀ {a b:List Vl},eK a b=true ↔ a=b
 | [],[]=>by rw [eK]; simp
 | [],_ :: _=>by rw [eK]; simp
 | _ :: _,[]=>by rw [eK]; simp
 | x :: a,y :: b=>by rw [eK,Bool.and_eq_true,xE,GI]; simp
theorem FM:∀ {a b:List (Int × Vl)},d7 a b=true ↔ a=b
 | [],[]=>by rw [d7]; simp
 | [],_ :: _=>by rw [d7]; simp
 | (_,_) :: _,[]=>by rw [d7]; simp
 | (i,x) :: a,(j,y) :: b=>by rw [d7,Bool.and_eq_true,Bool.and_eq_true,xE,FM]; simp [and_assoc]
end
theorem LS (a:Vl):dL a a=true:=xE.2 rfl
theorem JJ (a b:Vl):dL a b=(a.k == b.k && (a.n == b.n && (bl a.s == bl b.s && (eK a.l b.l && d7 a.f b.f)))):=by
 cases a; cases b; rw [dL]; rfl
theorem D5 (x y:Int × Vl) (a b:List (Int × Vl)):d7 (x :: a) (y :: b)=(x.1 == y.1 && (dL x.2 y.2 && d7 a b)):=by
 obtain ⟨i,x⟩:=x; obtain ⟨j,y⟩:=y; rw [d7]
def JC (R:Ty->Vl->List UInt8) (s:Sc) (f:List (Int × Vl)) (g:Fl):List UInt8:=
 bif !(eC f g.num).isSome || (!g.opt && dL (((eC f g.num).map (·.2)).getD default) (zF s 23 g.ty)) then [] else n0 g.num ++ rQ (R g.ty (((eC f g.num).map (·.2)).getD default))
def f4 (R:Ty->Vl->List UInt8) (s:Sc) (fs:List Fl) (f:List (Int × Vl)):List UInt8:=fs.flatMap (JC R s f)
def jJ (R:Ty->Vl->List UInt8) (t:Ty) (l:List Vl):List UInt8:=l.flatMap fun x=>rQ (R t x)
def cS (s:Sc):Nat->Ty->Vl->List UInt8
 | 0,_,_=>[]
 | N + 1,t,v=>bif t.k == 1 || (t.k == 3 || t.k == 7) then n0 v.n else bif t.k == 2 then vi (vF v.n) else bif t.k == 4 then bl v.s else bif t.k == 5 then n0 v.l.length ++ jJ (cS s N) (t.e.headD default) v.l else f4 (cS s N) s (stOf s t).fs v.f
theorem BJ (s:Sc) (N:Nat) (t:Ty) (v:Vl):cS s (N + 1) t v=bif t.k == 1 || (t.k == 3 || t.k == 7) then n0 v.n else bif t.k == 2 then vi (vF v.n) else bif t.k == 4 then bl v.s else bif t.k == 5 then n0 v.l.length ++ jJ (cS s N) (t.e.headD default) v.l else f4 (cS s N) s (stOf s t).fs v.f:=rfl
theorem mJ {α:Type} {f:α->List UInt8} {B:Nat}:∀ {l:List α},(∀ x ∈ l,(f x).length<=B)->(l.flatMap f).length<=l.length * B
 | [],_=>Nat.zero_le _
 | x :: l,h=>by
  have h1:=h x (List.mem_cons_self ..)
  have h2:=mJ fun y hy=>h y (List.mem_cons_of_mem _ hy)
  rw [List.flatMap_cons,List.length_append,List.length_cons,Nat.add_mul,Nat.one_mul]; omega
theorem mC (l:List UInt8):(rQ l).length<=10 + l.length:=by
 unfold rQ; have:=iM l.length; rw [List.length_append]; omega
def eB (N:Nat):Nat:=4000 * 40 ^ N
theorem VA (N:Nat):eB (N + 1)=40 * eB N:=by unfold eB; rw [Nat.pow_succ]; omega
theorem W4 (N:Nat):4000<=eB N:=by unfold eB; have:0 < 40 ^ N:=Nat.pow_pos (by decide); omega
theorem s7 {N:Nat} (h:N<=8):eB N<=27000000000000000:=by
 have:40 ^ N<=40 ^ 8:=Nat.pow_le_pow_right (by decide) h
 have h2:(40:Nat) ^ 8=6553600000000:=by decide
 unfold eB; omega
theorem xM {l:List (Int × Vl)} {k:Int} {x:Int × Vl} (h:eC l k=some x):x ∈ l/\x.1=k:=by
 unfold eC at h
 exact ⟨List.mem_of_find?_eq_some h,by have:=List.find?_some h; simpa using this⟩
theorem F4 {s:Sc} (hd:Dg s) {t:Ty} {g:Fl} (hg:g ∈ (stOf s t).fs):kN (stOf s t) g.num=g:=by
 unfold kN
 rw [P7 (aCJ (hd.ni.stOf t)) hg]; rfl
theorem GO {s:Sc} (hd:Dg s) {R:Ty->Vl->List UInt8} {t:Ty} {f:List (Int × Vl)} {g:Fl} {B:Nat} (hg:g ∈ (stOf s t).fs) (hR:∀ x ∈ f,(R (kN (stOf s t) x.1).ty x.2).length<=B):(JC R s f g).length<=20 + B:=by
 unfold JC
 cases hv:eC f g.num with
 | none=>exact Nat.zero_le _
 | some x=>
  obtain ⟨hm,he⟩:=xM hv
  have h1:=hR x hm
  rw [he,F4 hd hg] at h1
  have h2:=iM g.num
  have h3:=mC (R g.ty x.2)
  show (bif !true || (!g.opt && dL x.2 (zF s 23 g.ty)) then [] else n0 g.num ++ rQ (R g.ty x.2)).length<=_
  cases !true || (!g.opt && dL x.2 (zF s 23 g.ty)) with
  | true=>exact Nat.zero_le _
  | false=>rw [cond_false,List.length_append]; omega
theorem qS {s:Sc} {t:Ty} (h:valF s.ss s.es t=true):((t.k == 4)=true->t.s<=2000)/\((t.k == 5)=true->t.s<=32):=by
 obtain ⟨k,z,n,e⟩:=t
 refine ⟨fun hk=>?_,fun hk=>?_⟩
 · have hk:k=4:=eq_of_beq hk
   subst hk
   rw [valF.eq_def] at h
   simp at h
   show z<=2000
   omega
 · have hk:k=5:=eq_of_beq hk
   subst hk
   rw [valF.eq_def] at h
   simp at h
   show z<=32
   omega
theorem jX {s:Sc} (hd:Dg s):∀ (N:Nat) (t:Ty) (v:Vl),v.h<=N->cZ s t v=0->(cS s N t v).length<=eB N
 | 0,_,v,h,_=>by have:=v.h_pos; omega
 | N + 1,t,v,hh,h0=>by
  have hc:=pX h0
  have hB:=VA N
  have hp:=W4 N
  have hvz:=qS hc.va
  rw [BJ]
  cases c1:t.k == 1 || (t.k == 3 || t.k == 7) with
  | true=>rw [cond_true]; have:=iM v.n; omega
  | false=>
  rw [cond_false]
  cases c2:t.k == 2 with
  | true=>rw [cond_true]; have:=I6 (vF v.n); omega
  | false=>
  rw [cond_false]
  cases c4:t.k == 4 with
  | true=>
   rw [cond_true]
   obtain ⟨_,_,_,h1⟩:=hc.tx c4
   have:=hvz.1 c4
   omega
  | false=>
  rw [cond_false]
  cases c5:t.k == 5 with
  | true=>
   rw [cond_true,List.length_append]
   obtain ⟨_,_,_,h1,h2⟩:=hc.ls c5
   have h3:=hvz.2 c5
   have h4:=iM v.l.length
   have h5:(jJ (cS s N) (t.e.headD default) v.l).length<=v.l.length * (10 + eB N):=mJ fun x hx=>by
    have:=jX hd N _ x (by have:=Vl.h_l hx; omega) (h2 x hx)
    have:=mC (cS s N (t.e.headD default) x)
    omega
   have h6:v.l.length * (10 + eB N)<=32 * (10 + eB N):=Nat.mul_le_mul_right _ (by omega)
   omega
  | false=>
   rw [cond_false]
   have c6:(t.k == 6)=true:=by
    rcases FN hc.va with h | h | h | h | h | h | h
    · rw [h] at c1; cases c1
    · rw [h] at c2; cases c2
    · rw [h,Bool.true_or,Bool.or_true] at c1; cases c1
    · rw [h] at c4; cases c4
    · rw [h] at c5; cases c5
    · exact h
    · rw [h,Bool.or_true,Bool.or_true] at c1; cases c1
   obtain ⟨_,_,_,_,h2⟩:=hc.st c6
   have hl:=(hd.ni.stOf t).l
   have h5:(f4 (cS s N) s (stOf s t).fs v.f).length<=(stOf s t).fs.length * (20 + eB N):=mJ fun g hg=>GO hd hg fun x hx=>jX hd N _ x.2 (by have:=Vl.h_f hx; omega) (h2 x hx)
   have h6:(stOf s t).fs.length * (20 + eB N)<=16 * (20 + eB N):=Nat.mul_le_mul_right _ hl
   omega
def C1 (s:Sc) (nm:ByteArray) (v:Vl):List UInt8 × Int:=
 bif bP s != 0 then ([],bP s) else bif !(cK s.ss nm) then ([],6) else bif lB s (.mk 6 0 nm []) v != 0 then ([],lB s (.mk 6 0 nm []) v) else bif decide (2000 < ((f4 (cS s 8) s (stOf s (.mk 6 0 nm [])).fs v.f).length:Int)) then ([],3) else (f4 (cS s 8) s (stOf s (.mk 6 0 nm [])).fs v.f,0)
mutual
theorem N5:∀ v:Vl,(v.h:Int)<=dQ v + 1
 | .mk k n s l f=>by
  have h1:=QT l 0 (Int.le_refl _)
  have h0:=pY l 0
  have h2:=SA f (gV 0 l) h0
  have h3:=pG f (gV 0 l)
  rw [dQ,Vl.h]
  cases hs:lY (.mk k n s l f) with
  | true=>
   rw [cond_true]
   unfold lY at hs
   simp only [Bool.and_eq_true] at hs
   have e1:l=[]:=by have:=hs.1.2; simpa [Vl.l] using this
   have e2:f=[]:=by have:=hs.2; simpa [Vl.f] using this
   rw [e1,e2,Vl.hl,Vl.hf]; decide
  | false=>rw [cond_false]; omega
theorem QT:∀ (l:List Vl) (d:Int),0<=d->(Vl.hl l:Int)<=gV d l + 1
 | [],d,hd=>by rw [Vl.hl,gV]; omega
 | v :: r,d,hd=>by
  have h1:=N5 v
  have h2:=QT r (max d (dQ v)) (by omega)
  have h3:=pY r (max d (dQ v))
  rw [Vl.hl,gV]; omega
theorem SA:∀ (l:List (Int × Vl)) (d:Int),0<=d->(Vl.hf l:Int)<=kI d l + 1
 | [],d,hd=>by rw [Vl.hf,kI]; omega
 | (_,v) :: r,d,hd=>by
  have h1:=N5 v
  have h2:=SA r (max d (dQ v)) (by omega)
  have h3:=pG r (max d (dQ v))
  rw [Vl.hf,kI]; omega
end
theorem aJH {s:Sc} {t:Ty} {v:Vl} (h:lB s t v=0):v.h<=7:=by
 have h1:=(CD h).2
 have h2:=N5 v
 omega
def uM:PC:=.seq (.seq (.gh (.reg [.v 10 6,.q 11 (.bin .lss true (.t 10) (.i 0))])) (.cond (.t 11) (.seq (.reg [.q 12 (.bd [(.int .i64 0),(.int .i64 0),(.string (mk [])),(.slice none 0 0),(.slice none 0 0)] []),.s (.st 5 (.t 4) (.t 12)),.q 5 (.mv (.k (.bool false)))]) .ret) .skip)) (.seq (.reg [.q 13 (.fa 4 (.t 2)),.l 14 (.ld1 (.t 13)),.v 15 6,.l 16 (.ia 6 (.t 14) (.t 15)),.q 17 (.fa 1 (.t 16)),.l 18 (.ldn 5 (.t 17)),.a 19 (.cl 81 [(.t 18)] []),.s (.st 5 (.t 4) (.t 19)),.q 5 (.mv (.k (.bool true)))]) .ret)
@[go_sem ↓] theorem aKD:aM uM:=aO _
def MS:PC:=.seq (.reg [.e 2 (.bx 29 (.t 0)),.e 4 (.al (.agg #[(.int .i64 0),(.int .i64 0),(.string (mk [])),(.slice none 0 0),(.slice none 0 0)]) 29),.q 5 (.mv (.k (.bool false)))]) (.seq (.reg [.l 7 (.ldn 5 (.t 2)),.v 8 1,.a 9 (.cq 80 [(.t 7),(.t 8)]),.v 6 9]) (uM))
def MU:List RV:=[.ld (.ldn 5 (.t 4)),.mv (.t 5)]
theorem aLM:aP Tryz.prog true ⟨fun r k=>if r=1/\k=2 then .q else .own [],fun r=>[2].contains r⟩ Tryz.f43=some (MS,MU):=by kernel_rfl
def VX:PC:=.seq (.reg [.e 2 (.bx 29 (.t 0)),.e 3 (.bx 29 (.t 1)),.q 4 (.mv (.k (.bool false)))]) (.seq (.reg [.l 5 (.ldn 5 (.t 2)),.l 6 (.ldn 5 (.t 3)),.a 7 (.cl 82 [(.t 5),(.t 6)] []),.q 8 (.bin .eql true (.t 7) (.i 0)),.v 4 8]) .ret)
def aAP:List RV:=[.mv (.t 4)]
theorem aKI:aP Tryz.prog true ⟨fun r k=>if r=1/\k=2 then .own [] else .own [],fun _=>false⟩ Tryz.f44=some (VX,aAP):=by kernel_rfl
def YX:PC:=.seq (.reg [.e 2 (.bx 29 (.t 0)),.e 3 (.bx 3 (.t 1)),.q 4 (.mv (.i 0))]) (.seq (.seq (.reg [.q 5 (.fa 0 (.t 2)),.l 6 (.ld1 (.t 5)),.q 7 (.bin .neq true (.t 6) (.i 6))]) (.cond (.t 7) (.seq (.reg [.q 4 (.mv (.i (-1)))]) .ret) .skip)) (.seq (.reg [.q 8 (.fa 4 (.t 2)),.l 9 (.ld1 (.t 8)),.q 10 (.mf 118 [(.t 3)]),.a 11 (.cl 117 [(.t 9),(.t 10)] [1]),.v 4 11]) .ret))
def XU:List RV:=[.mv (.t 4)]
theorem aI0:aP Tryz.prog true ⟨fun r k=>if r=3/\k=3 then .own [1] else .own [],fun _=>false⟩ Tryz.f80=some (YX,XU):=by kernel_rfl
def aAZ:PC:=.seq (.reg [.e 1 (.bx 29 (.t 0)),.e 2 (.al (.agg #[(.int .i64 0),(.int .i64 0),(.string (mk [])),(.slice none 0 0),(.slice none 0 0)]) 29)]) (.seq (.reg [.q 9 (.fa 3 (.t 1)),.l 10 (.ld1 (.t 9)),.q 11 (.fa 4 (.t 1)),.l 12 (.ld1 (.t 11)),.v 3 10,.v 4 12]) (.seq (.reg [.q 13 (.fa 3 (.t 1)),.s (.st 1 (.t 13) (.k (.slice none 0 0))),.q 14 (.fa 4 (.t 1)),.s (.st 1 (.t 14) (.k (.slice none 0 0)))]) (.seq (.seq (.reg [.v 15 3,.q 16 (.lnL (.t 15)),.q 17 (.mv (.i 0))]) (.block 0 (.loop (.seq (.reg [.q 18 (.bin .lss true (.t 17) (.t 16))]) (.seq (.cond (.t 18) .skip (.exit 0)) (.seq (.block 1 (.seq (.reg [.l 19 (.ia 5 (.t 15) (.t 17)),.l 20 (.ldn 5 (.t 19)),.e 6 (.al (.agg #[(.int .i64 0),(.int .i64 0),(.string (mk [])),(.slice none 0 0),(.slice none 0 0)]) 29),.s (.st 5 (.t 6) (.t 20))]) (.ord  [.q (.q 21 (.fa 3 (.t 1))),.q (.l 22 (.ld1 (.t 21))),.q (.l 23 (.ldn 5 (.t 6))),.m (.a 24 (.cl 81 [(.t 23)] [])),.rc (.q 21 (.fa 3 (.t 1))),.rc (.l 22 (.ld1 (.t 21))),.m (.e 25 (.bsl 29 5 [(.t 24)])),.rc (.q 21 (.fa 3 (.t 1))),.rc (.l 22 (.ld1 (.t 21))),.m (.e 26 (.ap 29 5 80 (.t 22) (.t 25))),.q (.q 27 (.fa 3 (.t 1))),.m (.s (.st 1 (.t 27) (.t 26)))]))) (.reg [.q 28 (.bin .add true (.t 17) (.i 1)),.v 17 28]))))))) (.seq (.seq (.reg [.v 29 4,.q 30 (.lnL (.t 29)),.q 31 (.mv (.i 0))]) (.block 2 (.loop (.seq (.reg [.q 32 (.bin .lss true (.t 31) (.t 30))]) (.seq (.cond (.t 32) .skip (.exit 2)) (.seq (.block 3 (.seq (.reg [.l 33 (.ia 6 (.t 29) (.t 31)),.l 34 (.ldn 6 (.t 33)),.e 8 (.al (.agg #[(.int .i64 0),(.int .i64 0),(.int .i64 0),(.string (mk [])),(.slice none 0 0),(.slice none 0 0)]) 76),.s (.st 6 (.t 8) (.t 34))]) (.ord  [.q (.q 35 (.fa 4 (.t 1))),.q (.l 36 (.ld1 (.t 35))),.q (.q 37 (.fa 0 (.t 8))),.q (.l 38 (.ld1 (.t 37))),.q (.q 39 (.fa 1 (.t 8))),.q (.l 40 (.ldn 5 (.t 39))),.m (.a 41 (.cl 81 [(.t 40)] [])),.rc (.q 35 (.fa 4 (.t 1))),.rc (.l 36 (.ld1 (.t 35))),.rc (.q 37 (.fa 0 (.t 8))),.rc (.l 38 (.ld1 (.t 37))),.q (.q 42 (.bd [(.int .i64 0),(.int .i64 0),(.int .i64 0),(.string (mk [])),(.slice none 0 0),(.slice none 0 0)] [(0,1,(.t 38)),(1,5,(.t 41))])),.m (.e 43 (.bsl 76 6 [(.t 42)])),.rc (.q 35 (.fa 4 (.t 1))),.rc (.l 36 (.ld1 (.t 35))),.m (.e 44 (.ap 76 6 88 (.t 36) (.t 43))),.q (.q 45 (.fa 4 (.t 1))),.m (.s (.st 1 (.t 45) (.t 44)))]))) (.reg [.q 46 (.bin .add true (.t 31) (.i 1)),.v 31 46]))))))) (.seq (.reg [.l 47 (.ldn 5 (.t 1)),.s (.st 5 (.t 2) (.t 47))]) .ret)))))
def aAA:List RV:=[.ld (.ldn 5 (.t 2))]
theorem aIJ:aP Tryz.prog true ⟨fun _ _=>.own [],fun _=>false⟩ Tryz.f81=some (aAZ,aAA):=by kernel_rfl
def vU:PC:=.seq (.gh (.reg [.q 41 (.fa 4 (.t 2)),.l 42 (.ld1 (.t 41)),.q 43 (.fa 4 (.t 3)),.l 44 (.ld1 (.t 43)),.a 45 (.cl 123 [(.t 42),(.t 44),(.f 124)] []),.v 4 45])) .ret
@[go_sem ↓] theorem aFK:aM vU:=aO _
def xN:PC:=.seq (.seq (.gh (.reg [.q 33 (.fa 3 (.t 2)),.l 34 (.ld1 (.t 33)),.q 35 (.fa 3 (.t 3)),.l 36 (.ld1 (.t 35)),.a 37 (.cl 122 [(.t 34),(.t 36),(.f 82)] []),.v 8 37])) (.seq (.reg [.v 38 8,.q 39 (.bin .neq true (.t 38) (.i 0))]) (.cond (.t 39) (.seq (.reg [.v 40 8,.v 4 40]) .ret) .skip))) (vU)
@[go_sem ↓] theorem aFW:aM xN:=aO _
def A6:PC:=.seq (.seq (.gh (.reg [.q 25 (.fa 2 (.t 2)),.l 26 (.ld1 (.t 25)),.q 27 (.fa 2 (.t 3)),.l 28 (.ld1 (.t 27)),.a 29 (.cq 121 [(.t 26),(.t 28)]),.v 7 29])) (.seq (.reg [.v 30 7,.q 31 (.bin .neq true (.t 30) (.i 0))]) (.cond (.t 31) (.seq (.reg [.v 32 7,.v 4 32]) .ret) .skip))) (xN)
@[go_sem ↓] theorem aLA:aM A6:=aO _
def ED:PC:=.seq (.seq (.gh (.reg [.q 17 (.fa 1 (.t 2)),.l 18 (.ld1 (.t 17)),.q 19 (.fa 1 (.t 3)),.l 20 (.ld1 (.t 19)),.a 21 (.cq 120 [(.t 18),(.t 20)]),.v 6 21])) (.seq (.reg [.v 22 6,.q 23 (.bin .neq true (.t 22) (.i 0))]) (.cond (.t 23) (.seq (.reg [.v 24 6,.v 4 24]) .ret) .skip))) (A6)
@[go_sem ↓] theorem aJN:aM ED:=aO _
def aCA:PC:=.seq (.reg [.e 2 (.bx 29 (.t 0)),.e 3 (.bx 29 (.t 1)),.q 4 (.mv (.i 0))]) (.seq (.seq (.reg [.q 9 (.fa 0 (.t 2)),.l 10 (.ld1 (.t 9)),.q 11 (.fa 0 (.t 3)),.l 12 (.ld1 (.t 11)),.a 13 (.cq 119 [(.t 10),(.t 12)]),.v 5 13]) (.seq (.reg [.v 14 5,.q 15 (.bin .neq true (.t 14) (.i 0))]) (.cond (.t 15) (.seq (.reg [.v 16 5,.v 4 16]) .ret) .skip))) (ED))
def YS:List RV:=[.mv (.t 4)]
theorem aHO:aP Tryz.prog true ⟨fun r k=>if r=1/\k=4 then .q else if r=4/\k=4 then .q else if r=7/\k=4 then .q else .own [],fun r=>[4,7,10,13].contains r⟩ Tryz.f82=some (aCA,YS):=by kernel_rfl
def O9:PC:=.seq (.reg [.e 2 (.bx 76 (.t 0)),.q 3 (.mv (.k (.bool false)))]) (.seq (.reg [.q 4 (.fa 0 (.t 2)),.l 5 (.ld1 (.t 4)),.l 6 (.ld1 (.t 1)),.q 7 (.bin .eql true (.t 5) (.t 6)),.v 3 7]) .ret)
def RM:List RV:=[.mv (.t 3)]
theorem aDT:aP Tryz.prog true ⟨fun _ _=>.own [],fun _=>false⟩ Tryz.f118=some (O9,RM):=by kernel_rfl
def SM:PC:=.seq (.reg [.q 4 (.mv (.i 0))]) (.seq (.block 0 (.seq (.reg [.v 6 0,.v 7 1,.q 8 (.bin .lss true (.t 6) (.t 7)),.v 5 8]) (.cond (.t 5) (.seq (.reg [.q 4 (.mv (.i (-1)))]) .ret) (.seq (.reg [.v 10 0,.v 11 1,.q 12 (.bin .gtr true (.t 10) (.t 11)),.v 9 12]) (.cond (.t 9) (.seq (.reg [.q 4 (.mv (.i 1))]) .ret) .skip))))) (.seq (.reg [.q 4 (.mv (.i 0))]) .ret))
def RW:List RV:=[.mv (.t 4)]
theorem aE1:aP Tryz.prog true ⟨fun _ _=>.own [],fun _=>false⟩ Tryz.f119=some (SM,RW):=by kernel_rfl
def SZ:PC:=.seq (.reg [.q 4 (.mv (.i 0))]) (.seq (.block 0 (.seq (.reg [.v 6 0,.v 7 1,.q 8 (.bin .lss true (.t 6) (.t 7)),.v 5 8]) (.cond (.t 5) (.seq (.reg [.q 4 (.mv (.i (-1)))]) .ret) (.seq (.reg [.v 10 0,.v 11 1,.q 12 (.bin .gtr true (.t 10) (.t 11)),.v 9 12]) (.cond (.t 9) (.seq (.reg [.q 4 (.mv (.i 1))]) .ret) .skip))))) (.seq (.reg [.q 4 (.mv (.i 0))]) .ret))
def PZ:List RV:=[.mv (.t 4)]
theorem aEW:aP Tryz.prog true ⟨fun _ _=>.own [],fun _=>false⟩ Tryz.f120=some (SZ,PZ):=by kernel_rfl
def QN:PC:=.seq (.reg [.q 6 (.mv (.i 0))]) (.seq (.seq (.reg [.v 11 0,.q 12 (.lnL (.t 11)),.q 13 (.mv (.i 0))]) (.block 0 (.loop (.seq (.reg [.q 14 (.bin .lss true (.t 13) (.t 12))]) (.seq (.cond (.t 14) .skip (.exit 0)) (.seq (.block 1 (.seq (.reg [.v 15 13,.l 16 (.ia 5 (.t 11) (.t 13)),.l 17 (.ldn 5 (.t 16)),.e 8 (.al (.agg #[(.int .i64 0),(.int .i64 0),(.string (mk [])),(.slice none 0 0),(.slice none 0 0)]) 29),.v 7 15,.s (.st 5 (.t 8) (.t 17))]) (.seq (.seq (.reg [.v 18 7,.v 19 1,.q 20 (.lnL (.t 19)),.q 21 (.bin .geq true (.t 18) (.t 20))]) (.cond (.t 21) (.seq (.reg [.q 6 (.mv (.i 1))]) .ret) .skip)) (.seq (.reg [.v 22 1,.v 23 7,.l 24 (.ia 5 (.t 22) (.t 23)),.l 25 (.ldn 5 (.t 24)),.e 9 (.al (.agg #[(.int .i64 0),(.int .i64 0),(.string (mk [])),(.slice none 0 0),(.slice none 0 0)]) 29),.s (.st 5 (.t 9) (.t 25))]) (.seq (.reg [.v 26 2,.l 27 (.ldn 5 (.t 8)),.l 28 (.ldn 5 (.t 9)),.a 29 (.ca (.t 26) [(.t 27),(.t 28)] []),.v 10 29]) (.seq (.reg [.v 30 10,.q 31 (.bin .neq true (.t 30) (.i 0))]) (.cond (.t 31) (.seq (.reg [.v 32 10,.v 6 32]) .ret) .skip))))))) (.reg [.q 33 (.bin .add true (.t 13) (.i 1)),.v 13 33]))))))) (.seq (.seq (.reg [.v 34 0,.q 35 (.lnL (.t 34)),.v 36 1,.q 37 (.lnL (.t 36)),.q 38 (.bin .lss true (.t 35) (.t 37))]) (.cond (.t 38) (.seq (.reg [.q 6 (.mv (.i (-1)))]) .ret) .skip)) (.seq (.reg [.q 6 (.mv (.i 0))]) .ret)))
def ON:List RV:=[.mv (.t 6)]
theorem aFB:aP Tryz.prog true ⟨fun _ _=>.own [],fun _=>false⟩ Tryz.f122=some (QN,ON):=by kernel_rfl
def SH:PC:=.seq (.reg [.q 6 (.mv (.i 0))]) (.seq (.seq (.reg [.v 11 0,.q 12 (.lnL (.t 11)),.q 13 (.mv (.i 0))]) (.block 0 (.loop (.seq (.reg [.q 14 (.bin .lss true (.t 13) (.t 12))]) (.seq (.cond (.t 14) .skip (.exit 0)) (.seq (.block 1 (.seq (.reg [.v 15 13,.l 16 (.ia 6 (.t 11) (.t 13)),.l 17 (.ldn 6 (.t 16)),.e 8 (.al (.agg #[(.int .i64 0),(.int .i64 0),(.int .i64 0),(.string (mk [])),(.slice none 0 0),(.slice none 0 0)]) 76),.v 7 15,.s (.st 6 (.t 8) (.t 17))]) (.seq (.seq (.reg [.v 18 7,.v 19 1,.q 20 (.lnL (.t 19)),.q 21 (.bin .geq true (.t 18) (.t 20))]) (.cond (.t 21) (.seq (.reg [.q 6 (.mv (.i 1))]) .ret) .skip)) (.seq (.reg [.v 22 1,.v 23 7,.l 24 (.ia 6 (.t 22) (.t 23)),.l 25 (.ldn 6 (.t 24)),.e 9 (.al (.agg #[(.int .i64 0),(.int .i64 0),(.int .i64 0),(.string (mk [])),(.slice none 0 0),(.slice none 0 0)]) 76),.s (.st 6 (.t 9) (.t 25))]) (.seq (.reg [.v 26 2,.l 27 (.ldn 6 (.t 8)),.l 28 (.ldn 6 (.t 9)),.a 29 (.ca (.t 26) [(.t 27),(.t 28)] []),.v 10 29]) (.seq (.reg [.v 30 10,.q 31 (.bin .neq true (.t 30) (.i 0))]) (.cond (.t 31) (.seq (.reg [.v 32 10,.v 6 32]) .ret) .skip))))))) (.reg [.q 33 (.bin .add true (.t 13) (.i 1)),.v 13 33]))))))) (.seq (.seq (.reg [.v 34 0,.q 35 (.lnL (.t 34)),.v 36 1,.q 37 (.lnL (.t 36)),.q 38 (.bin .lss true (.t 35) (.t 37))]) (.cond (.t 38) (.seq (.reg [.q 6 (.mv (.i (-1)))]) .ret) .skip)) (.seq (.reg [.q 6 (.mv (.i 0))]) .ret)))
def ST:List RV:=[.mv (.t 6)]
theorem aCW:aP Tryz.prog true ⟨fun _ _=>.own [],fun _=>false⟩ Tryz.f123=some (SH,ST):=by kernel_rfl
def xC:PC:=.seq (.gh (.reg [.q 14 (.fa 1 (.t 2)),.l 15 (.ldn 5 (.t 14)),.q 16 (.fa 1 (.t 3)),.l 17 (.ldn 5 (.t 16)),.a 18 (.cl 82 [(.t 15),(.t 17)] []),.v 4 18])) .ret
@[go_sem ↓] theorem aGO:aM xC:=aO _
def QC:PC:=.seq (.reg [.e 2 (.bx 76 (.t 0)),.e 3 (.bx 76 (.t 1)),.q 4 (.mv (.i 0))]) (.seq (.seq (.reg [.q 6 (.fa 0 (.t 2)),.l 7 (.ld1 (.t 6)),.q 8 (.fa 0 (.t 3)),.l 9 (.ld1 (.t 8)),.a 10 (.cq 119 [(.t 7),(.t 9)]),.v 5 10]) (.seq (.reg [.v 11 5,.q 12 (.bin .neq true (.t 11) (.i 0))]) (.cond (.t 12) (.seq (.reg [.v 13 5,.v 4 13]) .ret) .skip))) (xC))
def RS:List RV:=[.mv (.t 4)]
theorem aDB:aP Tryz.prog true ⟨fun r k=>if r=1/\k=4 then .q else if r=4/\k=4 then .own [] else .own [],fun r=>[4].contains r⟩ Tryz.f124=some (QC,RS):=by kernel_rfl
end Go.Proofs.YthpbnmebjocbeaaGreat
namespace Go.Proofs
open Go.Shelf
def Tryz.lays106_ren:Go.Shelf.Ren:=⟨fun | 106=>121 | 213=>152 | 265=>160 | n=>n,fun | 9=>9 | 3=>3 | n=>n,fun | n=>n⟩
theorem Tryz.lays106:Go.Proofs.Lays.n106 Tryz.prog Tryz.lays106_ren:={
 mixed:=by kernel_rfl
 f106:=Tryz.func121.trans (congrArg some (by kernel_rfl))
 f213:=Tryz.func152.trans (congrArg some (by kernel_rfl))
 f265:=Tryz.func160.trans (congrArg some (by kernel_rfl))
 t3:=Tryz.underlying3
 a3:=Tryz.isAgg3
 z3:=Tryz.sizeOf3
 v3:=Tryz.zeroValue3
 t9:=Tryz.underlying9
 a9:=Tryz.isAgg9
 z9:=Tryz.sizeOf9
 v9:=Tryz.zeroValue9 }
end Go.Proofs
namespace Go.Proofs.YthpbnmebjocbeaaGreat
open Go.W
theorem S7 (a b:ByteArray) (w:World):Calls Tryz.prog 121 #[.string a,.string b] w fun e w'=>e=.returned (.int .i64 (Lib.compareBytes a.data.toList b.data.toList))/\w'=w:=Any.strings_Compare Tryz.lays106 a b w
def AL:List S->Prop:=fun av=>match av with
 | [.va (.c1 (.vl (.string _))),.va (.c1 (.vl (.string _)))]=>True
 | _=>False
theorem uH {av:List S} (h:AL av):∃ a b:ByteArray,av=[tS a,tS b]:=by
 unfold AL at h
 split at h
 · exact ⟨_,_,rfl⟩
 · exact h.elim
def H3:List S->A:=fun av=>match av with
 | [.va (.c1 (.vl (.string a))),.va (.c1 (.vl (.string b)))]=>iA .i64 (Lib.compareBytes (bl a) (bl b))
 | _=>.gs []
def scFn:Fun:=⟨AL,H3,fun av h=>by obtain ⟨a,b,rfl⟩:=uH h; trivial⟩
attribute [go_sem] scFn AL H3
theorem VE:Meets Tryz.prog 121 scFn.sp:=by
 refine ⟨by kernel_rfl,?_⟩
 rintro av vs E ro w K hlen hrel hR ⟨⟨h,hE⟩,hK⟩ _
 obtain ⟨a,b,rfl⟩:=uH h
 obtain ⟨v0,v1,rfl⟩:∃ v0 v1,vs=[v0,v1]:=by
  match vs,hlen with
  | [v0,v1],_=>exact ⟨v0,v1,rfl⟩
 have h0:v0=.string a:=hrel 0 _ _ rfl rfl
 have h1:v1=.string b:=hrel 1 _ _ rfl rfl
 subst h0 h1
 refine (S7 a b w).mono ?_
 rintro e w' ⟨rfl,rfl⟩
 exact ⟨iS .i64 (Lib.compareBytes (bl a) (bl b)),_,E,ro,rfl,rfl,by rw [hE]; exact hK,hR⟩
theorem BZ:∀ (a b:List UInt8),(Lib.compareBytes a b == 0)=(a == b)
 | [],[]=>rfl
 | [],_ :: _=>rfl
 | _ :: _,[]=>rfl
 | x :: a,y :: b=>by
  rw [Lib.compareBytes]
  split
  · rename_i h
    have:(x :: a == y :: b)=false:=by
     rw [beq_eq_false_iff_ne]; intro e; cases e; exact UInt8.lt_irrefl _ h
    rw [this]; rfl
  · split
    · rename_i h
      have:(x :: a == y :: b)=false:=by
       rw [beq_eq_false_iff_ne]; intro e; cases e; exact UInt8.lt_irrefl _ h
      rw [this]; rfl
    · rename_i h1 h2
      have e:x=y:=UInt8.le_antisymm (UInt8.not_lt.1 h2) (UInt8.not_lt.1 h1)
      rw [e,BZ a b]
      simp
theorem kL (a b:Int):(jB a b == 0)=(a == b):=by
 unfold jB
 cases h1:decide (a < b) with
 | true=>
  have:=of_decide_eq_true h1
  rw [cond_true,show (a == b)=false by simp; omega]; rfl
 | false=>
  have h1:=of_decide_eq_false h1
  rw [cond_false]
  cases h2:decide (b < a) with
  | true=>
   have:=of_decide_eq_true h2
   rw [cond_true,show (a == b)=false by simp; omega]; rfl
  | false=>
   have h2:=of_decide_eq_false h2
   rw [cond_false,show (a == b)=true by simp; omega]; rfl
theorem SF:Meets Tryz.prog 119 sgFn.sp:=by
 refine aD Tryz.func119 aE1 2 (by rw [Tryz.ntmps119]; decide) (aB _) sW ?_
 rintro av H K ⟨⟨h,rfl⟩,hK⟩
 obtain ⟨a,b,rfl⟩:=gX h
 have hK:K (iS .i64 (jB a b)) []:=hK
 clear h
 unfold jB at hK
 simp (maxSteps:=1000000) -dsimp only [go_sem,SM,RW]
 refine ⟨fun h1=>?_,fun h1=>⟨fun h2=>?_,fun h2=>?_⟩⟩
 · rw [h1] at hK; exact .done hK
 · rw [h1,h2] at hK; exact .done hK
 · rw [h1,h2] at hK; exact .done hK
theorem aEL:Meets Tryz.prog 120 sgFn.sp:=by
 refine aD Tryz.func120 aEW 2 (by rw [Tryz.ntmps120]; decide) (aB _) sW ?_
 rintro av H K ⟨⟨h,rfl⟩,hK⟩
 obtain ⟨a,b,rfl⟩:=gX h
 have hK:K (iS .i64 (jB a b)) []:=hK
 clear h
 unfold jB at hK
 simp (maxSteps:=1000000) -dsimp only [go_sem,SZ,PZ]
 refine ⟨fun h1=>?_,fun h1=>⟨fun h2=>?_,fun h2=>?_⟩⟩
 · rw [h1] at hK; exact .done hK
 · rw [h1,h2] at hK; exact .done hK
 · rw [h1,h2] at hK; exact .done hK
def yA (N:Nat):W.Spec:=fun av H K=>∃ a b:Vl,av=[.va (.gs (aQ a)),.va (.gs (aQ b))]/\H=[]/\VlOk a/\VlOk b/\a.h<=N/\∀ r:Int,(r == 0)=dL a b->K (iS .i64 r) []
theorem l7 {N:Nat} {a b:Vl} {K:S->Hp->Prop} (h1:VlOk a) (h2:VlOk b) (h3:a.h<=N) (hK:∀ r:Int,(r == 0)=dL a b->K (iS .i64 r) []) :
 yA N [.va (.gs [.vl (.int .i64 a.k),.vl (.int .i64 a.n),.vl (.string a.s),.fz (a.l.map aQ),.fz (a.f.map bE)]),.va (.gs [.vl (.int .i64 b.k),.vl (.int .i64 b.n),.vl (.string b.s),.fz (b.l.map aQ),.fz (b.f.map bE)])] [] K:=
 ⟨a,b,by rw [aK,aK],rfl,h1,h2,h3,hK⟩
abbrev X1:S:=.va (.c1 (.fn 82 []))
abbrev YH:S:=.va (.c1 (.fn 124 []))
def WW (N:Nat):W.Spec:=fun av H K=>∃ a b:List Vl,av=[.va (.c1 (.fz (a.map aQ))),.va (.c1 (.fz (b.map aQ))),X1]/\H=[]/\(∀ x ∈ a,VlOk x/\x.h<=N)/\(∀ x ∈ b,VlOk x)/\a.length<=1000000000000000/\b.length<=1000000000000000/\∀ r:Int,(r == 0)=eK a b->K (iS .i64 r) []
theorem Z4 {N:Nat} {a b:List Vl} {K:S->Hp->Prop} (h1:∀ x ∈ a,VlOk x/\x.h<=N) (h2:∀ x ∈ b,VlOk x) (h3:a.length<=1000000000000000) (h4:b.length<=1000000000000000) (hK:∀ r:Int,(r == 0)=eK a b->K (iS .i64 r) []) :
 WW N [.va (.c1 (.fz (a.map aQ))),.va (.c1 (.fz (b.map aQ))),X1] [] K:=⟨a,b,rfl,rfl,h1,h2,h3,h4,hK⟩
theorem DU (x y:Vl) (a b:List Vl):eK (x :: a) (y :: b)=(dL x y && eK a b):=by rw [eK]
theorem aCX {N:Nat} (hC:Meets Tryz.prog 82 (yA N)):Meets Tryz.prog 122 (WW N):=by
 refine aD Tryz.func122 aFB 3 (by rw [Tryz.ntmps122]; decide) (aC hC (aB _)) (fun av H K h=>by obtain ⟨_,_,rfl,_⟩:=h; rfl) ?_
 rintro av H K ⟨a,b,rfl,rfl,ha,hb,hla,hlb,hK⟩
 have fin:∀ (r:Int) (R:Hp),(r == 0)=eK a b->W.Fin 0 K (iS .i64 r) R:=fun r R h=>.sel [] (by simp) (by simp) rfl (.done (by simpa [go_sem] using hK r h))
 simp (maxSteps:=1000000) -dsimp only [go_sem,QN,ON]
 refine aU (α:=Nat) (fun i=>[(0,.va (.c1 (.fz (a.map aQ)))),(1,.va (.c1 (.fz (b.map aQ)))),(2,X1),(11,.va (.c1 (.fz (a.map aQ)))),(12,iS .i64 a.length),(13,iS .i64 i)]) (fun _=>[])
  (fun i=>i<=a.length/\i<=b.length/\eK (a.drop i) (b.drop i)=eK a b) (fun i=>a.length - i) 0 0 ⟨Nat.zero_le _,Nat.zero_le _,rfl⟩ ?_ ?_ ?_
 · simp -dsimp only [go_sem]<;>simp
 · simp -dsimp only [go_sem]<;>simp
 rintro i ⟨hi,hib,ho⟩
 rcases a8 i a.length with hlt | hge
 · have hg:decide ((i:Int) < (a.length:Int))=true:=by simp; omega
   have hx:a[i]? = some a[i]:=aV hlt
   have q1:=lJ hx
   have hxo:=ha _ (List.getElem_mem hlt)
   rw [List.drop_eq_getElem_cons hlt] at ho
   generalize a[i]=x at *
   rcases a8 i b.length with hlt2 | hge2
   · have hg2:decide ((b.length:Int)<=(i:Int))=false:=by simp; omega
     have hy:b[i]? = some b[i]:=aV hlt2
     have q2:=lJ hy
     have hyo:=hb _ (List.getElem_mem hlt2)
     rw [List.drop_eq_getElem_cons hlt2,DU] at ho
     generalize b[i]=y at *
     simp (maxSteps:=1000000) -dsimp only [go_sem,hg,hg2,↓q1,↓q2]
     refine ⟨by omega,by omega,l7 hxo.1 hyo hxo.2 fun r hr=>?_⟩
     simp (maxSteps:=1000000) -dsimp only [go_sem]
     refine ⟨fun h1=>fin r _ ?_,fun h1=>?_⟩
     · have h2:(r == 0)=false:=by simpa using h1
       rw [h2] at hr ⊢
       rw [<-ho,<-hr]; rfl
     · have h2:(r == 0)=true:=by simpa using h1
       rw [h2] at hr
       rw [<-hr,Bool.true_and] at ho
       refine ⟨by omega,aE (i + 1) 0 ⟨by omega,by omega,ho⟩ (by omega) ?_ ?_⟩
       · simp -dsimp only [go_sem]<;>simp
       · simp -dsimp only [go_sem]<;>simp
   · have hg2:decide ((b.length:Int)<=(i:Int))=true:=by simp; omega
     have hd:b.drop i=[]:=List.drop_eq_nil_iff.2 hge2
     rw [hd,eK] at ho
     simp (maxSteps:=1000000) -dsimp only [go_sem,hg,hg2,↓q1]
     exact ⟨by omega,fin 1 _ ho⟩
 · have hg:decide ((i:Int) < (a.length:Int))=false:=by simp; omega
   have hd:a.drop i=[]:=List.drop_eq_nil_iff.2 hge
   rw [hd] at ho
   simp (maxSteps:=1000000) -dsimp only [go_sem,hg]
   refine ⟨fun h1=>fin (-1) _ ?_,fun h1=>fin 0 _ ?_⟩
   · have h1:=of_decide_eq_true h1
     have hlt2:i < b.length:=by omega
     rw [List.drop_eq_getElem_cons hlt2,eK] at ho
     exact ho
   · have h1:=of_decide_eq_false h1
     have hd2:b.drop i=[]:=List.drop_eq_nil_iff.2 (by omega)
     rw [hd2,eK] at ho
     exact ho
def Y9 (N:Nat):W.Spec:=fun av H K=>∃ x y:Int × Vl,av=[.va (.gs (bE x)),.va (.gs (bE y))]/\H=[]/\VlOk x.2/\VlOk y.2/\x.2.h<=N/\∀ r:Int,(r == 0)=(x.1 == y.1 && dL x.2 y.2)->K (iS .i64 r) []
theorem W3 {N:Nat} {x y:Int × Vl} {K:S->Hp->Prop} (h1:VlOk x.2) (h2:VlOk y.2) (h3:x.2.h<=N) (hK:∀ r:Int,(r == 0)=(x.1 == y.1 && dL x.2 y.2)->K (iS .i64 r) []) :
 Y9 N [.va (.gs [.vl (.int .i64 x.1),.vl (.int .i64 x.2.k),.vl (.int .i64 x.2.n),.vl (.string x.2.s),.fz (x.2.l.map aQ),.fz (x.2.f.map bE)]),.va (.gs [.vl (.int .i64 y.1),.vl (.int .i64 y.2.k),.vl (.int .i64 y.2.n),.vl (.string y.2.s),.fz (y.2.l.map aQ),.fz (y.2.f.map bE)])] [] K:=
 ⟨x,y,by rw [hM,hM],rfl,h1,h2,h3,hK⟩
theorem aCG {N:Nat} (hC:Meets Tryz.prog 82 (yA N)):Meets Tryz.prog 124 (Y9 N):=by
 refine aD Tryz.func124 aDB 2 (by rw [Tryz.ntmps124]; decide) (aH SF (aC hC (aB _))) (fun av H K h=>by obtain ⟨_,_,rfl,_⟩:=h; rfl) ?_
 rintro av H K ⟨x,y,rfl,rfl,hx,hy,hh,hK⟩
 have fin:∀ (r:Int) (R:Hp),(r == 0)=(x.1 == y.1 && dL x.2 y.2)->W.Fin 0 K (iS .i64 r) R:=fun r R h=>.sel [] (by simp) (by simp) rfl (.done (by simpa [go_sem] using hK r h))
 have hs:=kL x.1 y.1
 simp (maxSteps:=1000000) -dsimp only [go_sem,hM x,hM y,QC,RS]
 refine ⟨fun h1=>fin _ _ ?_,fun h1=>aA rfl (.done ?_)⟩
 · have h2:(jB x.1 y.1 == 0)=false:=by simpa using h1
   rw [h2] at hs ⊢
   rw [<-hs]; rfl
 · have h2:(jB x.1 y.1 == 0)=true:=by simpa using h1
   rw [h2] at hs
   simp (maxSteps:=1000000) -dsimp only [go_sem,xC,List.take_succ_cons,List.take_zero,List.length_cons,List.length_nil]
   refine l7 hx hy hh fun r hr=>?_
   simp (maxSteps:=1000000) -dsimp only [go_sem]
   exact fin r _ (by rw [hr,<-hs]; rfl)
def PI (N:Nat):W.Spec:=fun av H K=>∃ a b:List (Int × Vl),av=[.va (.c1 (.fz (a.map bE))),.va (.c1 (.fz (b.map bE))),YH]/\H=[]/\(∀ x ∈ a,VlOk x.2/\x.2.h<=N)/\(∀ x ∈ b,VlOk x.2)/\a.length<=1000000000000000/\b.length<=1000000000000000/\∀ r:Int,(r == 0)=d7 a b->K (iS .i64 r) []
theorem VL {N:Nat} {a b:List (Int × Vl)} {K:S->Hp->Prop} (h1:∀ x ∈ a,VlOk x.2/\x.2.h<=N) (h2:∀ x ∈ b,VlOk x.2) (h3:a.length<=1000000000000000) (h4:b.length<=1000000000000000) (hK:∀ r:Int,(r == 0)=d7 a b->K (iS .i64 r) []) :
 PI N [.va (.c1 (.fz (a.map bE))),.va (.c1 (.fz (b.map bE))),YH] [] K:=⟨a,b,rfl,rfl,h1,h2,h3,h4,hK⟩
theorem aCU {N:Nat} (hC:Meets Tryz.prog 82 (yA N)):Meets Tryz.prog 123 (PI N):=by
 refine aD Tryz.func123 aCW 3 (by rw [Tryz.ntmps123]; decide) (aC (aCG hC) (aB _)) (fun av H K h=>by obtain ⟨_,_,rfl,_⟩:=h; rfl) ?_
 rintro av H K ⟨a,b,rfl,rfl,ha,hb,hla,hlb,hK⟩
 have fin:∀ (r:Int) (R:Hp),(r == 0)=d7 a b->W.Fin 0 K (iS .i64 r) R:=fun r R h=>.sel [] (by simp) (by simp) rfl (.done (by simpa [go_sem] using hK r h))
 simp (maxSteps:=1000000) -dsimp only [go_sem,SH,ST]
 refine aU (α:=Nat) (fun i=>[(0,.va (.c1 (.fz (a.map bE)))),(1,.va (.c1 (.fz (b.map bE)))),(2,YH),(11,.va (.c1 (.fz (a.map bE)))),(12,iS .i64 a.length),(13,iS .i64 i)]) (fun _=>[])
  (fun i=>i<=a.length/\i<=b.length/\d7 (a.drop i) (b.drop i)=d7 a b) (fun i=>a.length - i) 0 0 ⟨Nat.zero_le _,Nat.zero_le _,rfl⟩ ?_ ?_ ?_
 · simp -dsimp only [go_sem]<;>simp
 · simp -dsimp only [go_sem]<;>simp
 rintro i ⟨hi,hib,ho⟩
 rcases a8 i a.length with hlt | hge
 · have hg:decide ((i:Int) < (a.length:Int))=true:=by simp; omega
   have hx:a[i]? = some a[i]:=aV hlt
   have q1:=gZ hx
   have hxo:=ha _ (List.getElem_mem hlt)
   rw [List.drop_eq_getElem_cons hlt] at ho
   generalize a[i]=x at *
   rcases a8 i b.length with hlt2 | hge2
   · have hg2:decide ((b.length:Int)<=(i:Int))=false:=by simp; omega
     have hy:b[i]? = some b[i]:=aV hlt2
     have q2:=gZ hy
     have hyo:=hb _ (List.getElem_mem hlt2)
     rw [List.drop_eq_getElem_cons hlt2,D5] at ho
     generalize b[i]=y at *
     simp (maxSteps:=1000000) -dsimp only [go_sem,hg,hg2,↓q1,↓q2]
     refine ⟨by omega,by omega,W3 hxo.1 hyo hxo.2 fun r hr=>?_⟩
     rw [<-Bool.and_assoc,<-hr] at ho
     simp (maxSteps:=1000000) -dsimp only [go_sem]
     refine ⟨fun h1=>fin r _ ?_,fun h1=>?_⟩
     · have h2:(r == 0)=false:=by simpa using h1
       rw [h2,Bool.false_and] at ho
       rw [h2]; exact ho
     · have h2:(r == 0)=true:=by simpa using h1
       rw [h2,Bool.true_and] at ho
       refine ⟨by omega,aE (i + 1) 0 ⟨by omega,by omega,ho⟩ (by omega) ?_ ?_⟩
       · simp -dsimp only [go_sem]<;>simp
       · simp -dsimp only [go_sem]<;>simp
   · have hg2:decide ((b.length:Int)<=(i:Int))=true:=by simp; omega
     have hd:b.drop i=[]:=List.drop_eq_nil_iff.2 hge2
     have he:d7 (x :: a.drop (i + 1)) []=false:=by obtain ⟨j,x⟩:=x; rw [d7]
     rw [hd,he] at ho
     simp (maxSteps:=1000000) -dsimp only [go_sem,hg,hg2,↓q1]
     exact ⟨by omega,fin 1 _ ho⟩
 · have hg:decide ((i:Int) < (a.length:Int))=false:=by simp; omega
   have hd:a.drop i=[]:=List.drop_eq_nil_iff.2 hge
   rw [hd] at ho
   simp (maxSteps:=1000000) -dsimp only [go_sem,hg]
   refine ⟨fun h1=>fin (-1) _ ?_,fun h1=>fin 0 _ ?_⟩
   · have h1:=of_decide_eq_true h1
     have hlt2:i < b.length:=by omega
     rw [List.drop_eq_getElem_cons hlt2] at ho
     have he:∀ y:Int × Vl,d7 [] (y :: b.drop (i + 1))=false:=fun y=>by obtain ⟨j,y⟩:=y; rw [d7]
     rw [he] at ho
     exact ho
   · have h1:=of_decide_eq_false h1
     have hd2:b.drop i=[]:=List.drop_eq_nil_iff.2 (by omega)
     rw [hd2,d7] at ho
     exact ho
theorem oN:∀ N,Meets Tryz.prog 82 (yA N)
 | 0=>⟨by kernel_rfl,by rintro xs vs E ro w K _ _ _ ⟨a,_,_,_,_,_,h,_⟩; have:=a.h_pos; omega⟩
 | N + 1=>by
  refine aD Tryz.func82 aHO 2 (by rw [Tryz.ntmps82]; decide) (aH SF (aH aEL (aH VE (aC (aCX (oN N)) (aC (aCU (oN N)) (aB _)))))) (fun av H K h=>by obtain ⟨_,_,rfl,_⟩:=h; rfl) ?_
  rintro av H K ⟨a,b,rfl,rfl,ha,hb,hh,hK⟩
  have hE:=JJ a b
  have fin:∀ (r:Int) (R:Hp),(r == 0)=dL a b->W.Fin 0 K (iS .i64 r) R:=fun r R h=>.sel [] (by simp) (by simp) rfl (.done (by simpa [go_sem] using hK r h))
  have hs1:=kL a.k b.k
  have hs2:=kL a.n b.n
  have hs3:=BZ (bl a.s) (bl b.s)
  have hla:=ha.ll
  have hlb:=hb.ll
  have hfa:=ha.lf
  have hfb:=hb.lf
  simp (maxSteps:=1000000) -dsimp only [go_sem,aK a,aK b,aCA,YS]
  refine ⟨fun h1=>fin _ _ ?_,fun h1=>aA rfl (.done ?_)⟩
  · have h2:(jB a.k b.k == 0)=false:=by simpa using h1
    rw [h2] at hs1 ⊢
    rw [hE,<-hs1]; rfl
  have h2:(jB a.k b.k == 0)=true:=by simpa using h1
  rw [h2] at hs1
  rw [<-hs1,Bool.true_and] at hE
  simp (maxSteps:=1000000) -dsimp only [go_sem,ED]
  refine ⟨fun h1=>fin _ _ ?_,fun h1=>aA rfl (.done ?_)⟩
  · have h2:(jB a.n b.n == 0)=false:=by simpa using h1
    rw [h2] at hs2 ⊢
    rw [hE,<-hs2]; rfl
  have h2:(jB a.n b.n == 0)=true:=by simpa using h1
  rw [h2] at hs2
  rw [<-hs2,Bool.true_and] at hE
  simp (maxSteps:=1000000) -dsimp only [go_sem,A6]
  refine ⟨fun h1=>fin _ _ ?_,fun h1=>aA rfl (.done ?_)⟩
  · have h2:(Lib.compareBytes (bl a.s) (bl b.s) == 0)=false:=by simpa using h1
    rw [h2] at hs3 ⊢
    rw [hE,<-hs3]; rfl
  have h2:(Lib.compareBytes (bl a.s) (bl b.s) == 0)=true:=by simpa using h1
  rw [h2] at hs3
  rw [<-hs3,Bool.true_and] at hE
  simp (maxSteps:=1000000) -dsimp only [go_sem,xN]
  refine Z4 (fun x hx=>⟨ha.l x hx,by have:=Vl.h_l hx; omega⟩) hb.l (by omega) (by omega) fun r hr=>?_
  simp (maxSteps:=1000000) -dsimp only [go_sem]
  refine ⟨fun h1=>fin _ _ ?_,fun h1=>aA rfl (.done ?_)⟩
  · have h2:(r == 0)=false:=by simpa using h1
    rw [h2] at hr ⊢
    rw [hE,<-hr]; rfl
  have h2:(r == 0)=true:=by simpa using h1
  rw [h2] at hr
  rw [<-hr,Bool.true_and] at hE
  simp (maxSteps:=1000000) -dsimp only [go_sem,vU]
  refine VL (fun x hx=>⟨ha.f x hx,by have:=Vl.h_f hx; omega⟩) hb.f (by omega) (by omega) fun r hr=>?_
  simp (maxSteps:=1000000) -dsimp only [go_sem]
  exact fin r _ (by rw [hr,hE])
def AF:List S->Prop:=fun av=>match av with
 | [.va (.gs r),.va (.gs q)]=>nF r/\nF q
 | _=>False
theorem mW {av:List S} (h:AF av):∃ a b:Vl,av=[.va (.gs (aQ a)),.va (.gs (aQ b))]/\VlOk a/\VlOk b:=by
 unfold AF at h
 split at h
 · obtain ⟨⟨a,rfl,h1⟩,⟨b,rfl,h2⟩⟩:=h; exact ⟨a,b,rfl,h1,h2⟩
 · exact h.elim
noncomputable def RC:List S->A:=fun av=>match av with
 | [.va (.gs r),.va (.gs q)]=>bA (dL (C.vv r) (C.vv q))
 | _=>.gs []
noncomputable def eqFn2:Fun:=⟨AF,RC,fun av h=>by obtain ⟨a,b,rfl,_⟩:=mW h; trivial⟩
attribute [go_sem] eqFn2 AF RC
theorem OC (N:Nat):Meets Tryz.prog 44 (fun av H K=>∃ a b:Vl,av=[.va (.gs (aQ a)),.va (.gs (aQ b))]/\H=[]/\VlOk a/\VlOk b/\a.h<=N/\K (bS (dL a b)) []):=by
 refine aD Tryz.func44 aKI 2 (by rw [Tryz.ntmps44]; decide) (aC (oN N) (aB _)) (fun av H K h=>by obtain ⟨_,_,rfl,_⟩:=h; rfl) ?_
 rintro av H K ⟨a,b,rfl,rfl,ha,hb,hh,hK⟩
 simp (maxSteps:=1000000) -dsimp only [go_sem,aK a,aK b,VX,aAP]
 refine l7 ha hb hh fun r hr=>?_
 simp (maxSteps:=1000000) -dsimp only [go_sem]
 exact .sel [] (by simp) (by simp) rfl (.done (by rw [hr]; simpa [go_sem] using hK))
theorem EX:Meets Tryz.prog 44 eqFn2.sp:=dX (0:Nat) OC fun av H K h=>by
 obtain ⟨⟨h,e⟩,hK⟩:=h
 obtain ⟨a,b,rfl,ha,hb⟩:=mW h
 have hK:K (bS (dL (C.vv (aQ a)) (C.vv (aQ b)))) []:=hK
 rw [f7,f7] at hK
 exact ⟨a.h,a,b,rfl,e,ha,hb,Nat.le_refl _,hK⟩
def SS:PC:=.seq (.reg [.e 2 (.bx 29 (.t 0)),.e 3 (.bx 29 (.t 1)),.q 4 (.mv (.k (.bool false)))]) (.seq (.reg [.l 5 (.ldn 5 (.t 2)),.l 6 (.ldn 5 (.t 3)),.a 7 (.cl 32 [(.t 5),(.t 6)] []),.q 8 (.bin .eql true (.t 7) (.i 0)),.v 4 8]) .ret)
def PQ:List RV:=[.mv (.t 4)]
theorem aDQ:aP Tryz.prog true ⟨fun r k=>if r=1/\k=2 then .own [] else .own [],fun _=>false⟩ Tryz.f14=some (SS,PQ):=by kernel_rfl
def mT:PC:=.seq (.gh (.reg [.q 136 (.fa 4 (.t 2)),.l 137 (.ld1 (.t 136)),.q 138 (.lnL (.t 137)),.q 139 (.fa 4 (.t 3)),.l 140 (.ld1 (.t 139)),.q 141 (.lnL (.t 140)),.a 142 (.cq 58 [(.t 138),(.t 141)]),.v 4 142])) .ret
@[go_sem ↓] theorem aEC:aM mT:=aO _
def sC:PC:=.seq (.seq (.gh (.reg [.q 8 (.mv (.i 0))])) (.block 2 (.loop (.seq (.seq (.reg [.v 80 8,.q 81 (.fa 4 (.t 2)),.l 82 (.ld1 (.t 81)),.q 83 (.lnL (.t 82)),.q 84 (.bin .lss true (.t 80) (.t 83)),.v 85 84,⟨some 86,(some (85,true)),.q (.mv (.t 8))⟩,⟨some 87,(some (85,true)),.q (.fa 4 (.t 3))⟩,⟨some 88,(some (85,true)),.l (.ld1 (.t 87))⟩,⟨some 89,(some (85,true)),.q (.lnL (.t 88))⟩,⟨some 90,(some (85,true)),.q (.bin .lss true (.t 86) (.t 89))⟩,.a 91 (.pick (.t 85) (.t 90) (.k (.bool false)))]) (.cond (.t 91) .skip (.exit 2))) (.seq (.block 3 (.seq (.seq (.reg [.q 94 (.fa 4 (.t 2)),.l 95 (.ld1 (.t 94)),.v 96 8,.l 97 (.ia 6 (.t 95) (.t 96)),.q 98 (.fa 0 (.t 97)),.l 99 (.ld1 (.t 98)),.q 100 (.fa 4 (.t 3)),.l 101 (.ld1 (.t 100)),.v 102 8,.l 103 (.ia 6 (.t 101) (.t 102)),.q 104 (.fa 0 (.t 103)),.l 105 (.ld1 (.t 104)),.q 106 (.bin .neq true (.t 99) (.t 105))]) (.cond (.t 106) (.seq (.reg [.q 107 (.fa 4 (.t 2)),.l 108 (.ld1 (.t 107)),.v 109 8,.l 110 (.ia 6 (.t 108) (.t 109)),.q 111 (.fa 0 (.t 110)),.l 112 (.ld1 (.t 111)),.q 113 (.fa 4 (.t 3)),.l 114 (.ld1 (.t 113)),.v 115 8,.l 116 (.ia 6 (.t 114) (.t 115)),.q 117 (.fa 0 (.t 116)),.l 118 (.ld1 (.t 117)),.a 119 (.cq 58 [(.t 112),(.t 118)]),.v 4 119]) .ret) .skip)) (.seq (.reg [.q 120 (.fa 4 (.t 2)),.l 121 (.ld1 (.t 120)),.v 122 8,.l 123 (.ia 6 (.t 121) (.t 122)),.q 124 (.fa 1 (.t 123)),.l 125 (.ldn 5 (.t 124)),.q 126 (.fa 4 (.t 3)),.l 127 (.ld1 (.t 126)),.v 128 8,.l 129 (.ia 6 (.t 127) (.t 128)),.q 130 (.fa 1 (.t 129)),.l 131 (.ldn 5 (.t 130)),.a 132 (.cl 32 [(.t 125),(.t 131)] []),.v 9 132]) (.seq (.reg [.v 133 9,.q 134 (.bin .neq true (.t 133) (.i 0))]) (.cond (.t 134) (.seq (.reg [.v 135 9,.v 4 135]) .ret) .skip))))) (.reg [.v 92 8,.q 93 (.bin .add true (.t 92) (.i 1)),.v 8 93])))))) (mT)
@[go_sem ↓] theorem aDR:aM sC:=aO _
def kP:PC:=.seq (.seq (.gh (.reg [.q 66 (.fa 3 (.t 2)),.l 67 (.ld1 (.t 66)),.q 68 (.lnL (.t 67)),.q 69 (.fa 3 (.t 3)),.l 70 (.ld1 (.t 69)),.q 71 (.lnL (.t 70)),.q 72 (.bin .neq true (.t 68) (.t 71))])) (.cond (.t 72) (.seq (.reg [.q 73 (.fa 3 (.t 2)),.l 74 (.ld1 (.t 73)),.q 75 (.lnL (.t 74)),.q 76 (.fa 3 (.t 3)),.l 77 (.ld1 (.t 76)),.q 78 (.lnL (.t 77)),.a 79 (.cq 58 [(.t 75),(.t 78)]),.v 4 79]) .ret) .skip)) (sC)
@[go_sem ↓] theorem aD7:aM kP:=aO _
def sI:PC:=.seq (.seq (.gh (.reg [.q 6 (.mv (.i 0))])) (.block 0 (.loop (.seq (.seq (.reg [.v 38 6,.q 39 (.fa 3 (.t 2)),.l 40 (.ld1 (.t 39)),.q 41 (.lnL (.t 40)),.q 42 (.bin .lss true (.t 38) (.t 41)),.v 43 42,⟨some 44,(some (43,true)),.q (.mv (.t 6))⟩,⟨some 45,(some (43,true)),.q (.fa 3 (.t 3))⟩,⟨some 46,(some (43,true)),.l (.ld1 (.t 45))⟩,⟨some 47,(some (43,true)),.q (.lnL (.t 46))⟩,⟨some 48,(some (43,true)),.q (.bin .lss true (.t 44) (.t 47))⟩,.a 49 (.pick (.t 43) (.t 48) (.k (.bool false)))]) (.cond (.t 49) .skip (.exit 0))) (.seq (.block 1 (.seq (.reg [.q 52 (.fa 3 (.t 2)),.l 53 (.ld1 (.t 52)),.v 54 6,.l 55 (.ia 5 (.t 53) (.t 54)),.l 56 (.ldn 5 (.t 55)),.q 57 (.fa 3 (.t 3)),.l 58 (.ld1 (.t 57)),.v 59 6,.l 60 (.ia 5 (.t 58) (.t 59)),.l 61 (.ldn 5 (.t 60)),.a 62 (.cl 32 [(.t 56),(.t 61)] []),.v 7 62]) (.seq (.reg [.v 63 7,.q 64 (.bin .neq true (.t 63) (.i 0))]) (.cond (.t 64) (.seq (.reg [.v 65 7,.v 4 65]) .ret) .skip)))) (.reg [.v 50 6,.q 51 (.bin .add true (.t 50) (.i 1)),.v 6 51])))))) (kP)
@[go_sem ↓] theorem aEU:aM sI:=aO _
def qK:PC:=.seq (.seq (.gh (.reg [.q 30 (.fa 2 (.t 2)),.l 31 (.ld1 (.t 30)),.q 32 (.fa 2 (.t 3)),.l 33 (.ld1 (.t 32)),.a 34 (.cq 59 [(.t 31),(.t 33)]),.v 5 34])) (.seq (.reg [.v 35 5,.q 36 (.bin .neq true (.t 35) (.i 0))]) (.cond (.t 36) (.seq (.reg [.v 37 5,.v 4 37]) .ret) .skip))) (sI)
@[go_sem ↓] theorem aGB:aM qK:=aO _
def lV:PC:=.seq (.seq (.gh (.reg [.q 20 (.fa 1 (.t 2)),.l 21 (.ld1 (.t 20)),.q 22 (.fa 1 (.t 3)),.l 23 (.ld1 (.t 22)),.q 24 (.bin .lss true (.t 21) (.t 23))])) (.cond (.t 24) (.seq (.reg [.q 4 (.mv (.i (-1)))]) .ret) .skip)) (.seq (.seq (.reg [.q 25 (.fa 1 (.t 2)),.l 26 (.ld1 (.t 25)),.q 27 (.fa 1 (.t 3)),.l 28 (.ld1 (.t 27)),.q 29 (.bin .gtr true (.t 26) (.t 28))]) (.cond (.t 29) (.seq (.reg [.q 4 (.mv (.i 1))]) .ret) .skip)) (qK))
@[go_sem ↓] theorem aFF:aM lV:=aO _
def H0:PC:=.seq (.reg [.e 2 (.bx 29 (.t 0)),.e 3 (.bx 29 (.t 1)),.q 4 (.mv (.i 0))]) (.seq (.seq (.reg [.q 10 (.fa 0 (.t 2)),.l 11 (.ld1 (.t 10)),.q 12 (.fa 0 (.t 3)),.l 13 (.ld1 (.t 12)),.q 14 (.bin .neq true (.t 11) (.t 13))]) (.cond (.t 14) (.seq (.reg [.q 15 (.fa 0 (.t 2)),.l 16 (.ld1 (.t 15)),.q 17 (.fa 0 (.t 3)),.l 18 (.ld1 (.t 17)),.a 19 (.cq 58 [(.t 16),(.t 18)]),.v 4 19]) .ret) .skip)) (lV))
def G2:List RV:=[.mv (.t 4)]
theorem aEX:aP Tryz.prog true ⟨fun r k=>if r=2/\k=4 then .q else if r=7/\k=4 then .q else if r=13/\k=10 then .own [] else if r=17/\k=6 then .q else if r=22/\k=12 then .q else if r=23/\k=12 then .own [] else if r=26/\k=6 then .q else .own [],fun r=>[3,7,10,16,18,26].contains r⟩ Tryz.f32=some (H0,G2):=by kernel_rfl
def AD:List S->Prop:=fun av=>match av with
 | [.va (.c1 (.vl (.string a))),.va (.c1 (.vl (.string b)))]=>a.size<=9223372036854775807/\b.size<=9223372036854775807
 | _=>False
theorem nM {av:List S} (h:AD av):∃ a b:List UInt8,av=[tS (mk a),tS (mk b)]/\a.length<=9223372036854775807/\b.length<=9223372036854775807:=by
 unfold AD at h
 split at h
 · rename_i a b
   rw [cN,cN] at h
   exact ⟨bl a,bl b,by rw [fR,fR],h.1,h.2⟩
 · exact h.elim
def soFn:Fun:=⟨AD,H3,fun av h=>by obtain ⟨a,b,rfl,_⟩:=nM h; trivial⟩
theorem M1:∀ av H K,soFn.sp av H K->av.length=2:=fun av H K h=>by obtain ⟨a,b,rfl,_⟩:=nM h.1.1; rfl
attribute [go_sem] soFn AD
theorem LA (x y:UInt8) (a b:List UInt8):Lib.compareBytes (x :: a) (y :: b)=if x < y then -1 else if y < x then 1 else Lib.compareBytes a b:=by rw [Lib.compareBytes]
theorem YU (x y:UInt8):decide ((x.toNat:Int) < (y.toNat:Int))=decide (x < y):=by
 rw [Bool.eq_iff_iff,decide_eq_true_iff,decide_eq_true_iff,UInt8.lt_iff_toNat_lt]; omega
theorem U1:Meets Tryz.prog 59 soFn.sp:=by
 refine aD Tryz.func59 aKZ 2 (by rw [Tryz.ntmps59]; decide) (aH QS (aB _)) M1 ?_
 rintro av H K ⟨⟨h,rfl⟩,hK⟩
 obtain ⟨a,b,rfl,ha,hb⟩:=nM h
 have hK:K (iS .i64 (Lib.compareBytes a b)) []:=hK
 clear h
 have fin:∀ (r:Int) (R:Hp),Lib.compareBytes a b=r->W.Fin 0 K (iS .i64 r) R:=fun r R h=>by
  rw [h] at hK; exact .sel [] (by simp) (by simp) rfl (.done (by simpa [go_sem] using hK))
 clear hK
 simp (maxSteps:=1000000) -dsimp only [go_sem,WQ,WO]
 refine aU (α:=Nat) (fun i=>[(0,tS (mk a)),(1,tS (mk b)),(5,iS .i64 i)]) (fun _=>[])
  (fun i=>i<=a.length/\i<=b.length/\Lib.compareBytes (a.drop i) (b.drop i)=Lib.compareBytes a b) (fun i=>a.length - i) 0 0 ⟨Nat.zero_le _,Nat.zero_le _,rfl⟩ ?_ ?_ ?_
 · simp -dsimp only [go_sem]<;>simp
 · simp -dsimp only [go_sem]<;>simp
 rintro i ⟨hi,hib,ho⟩
 rcases a8 i a.length with hlt | hge
 · have hg:decide ((i:Int) < (a.length:Int))=true:=by simp; omega
   obtain ⟨x,hx⟩:∃ c,a[i]? = some c:=⟨_,aV hlt⟩
   have hdx:a.drop i=x :: a.drop (i + 1):=by
    obtain ⟨h,rfl⟩:=bC.1 hx
    exact List.drop_eq_getElem_cons h
   rcases a8 i b.length with hlt2 | hge2
   · have hg2:decide ((i:Int) < (b.length:Int))=true:=by simp; omega
     obtain ⟨y,hy⟩:∃ c,b[i]? = some c:=⟨_,aV hlt2⟩
     have hdy:b.drop i=y :: b.drop (i + 1):=by
      obtain ⟨h,rfl⟩:=bC.1 hy
      exact List.drop_eq_getElem_cons h
     rw [hdx,hdy,LA] at ho
     simp (maxSteps:=1000000) -dsimp only [go_sem,hg,hg2,hx,hy,aF,forall_eq',YU]
     refine ⟨by omega,by omega,fun h1=>fin _ _ ?_,fun h1=>⟨by omega,by omega,fun h2=>fin _ _ ?_,fun h2=>?_⟩⟩
     · rw [<-ho,if_pos (of_decide_eq_true h1)]
     · rw [<-ho,if_neg (of_decide_eq_false h1),if_pos (of_decide_eq_true h2)]
     · rw [if_neg (of_decide_eq_false h1),if_neg (of_decide_eq_false h2)] at ho
       refine ⟨by omega,aE (i + 1) 0 ⟨by omega,by omega,ho⟩ (by omega) ?_ ?_⟩
       · simp -dsimp only [go_sem]<;>simp
       · simp -dsimp only [go_sem]<;>simp
   · have hg2:decide ((i:Int) < (b.length:Int))=false:=by simp; omega
     have hdy:b.drop i=[]:=List.drop_eq_nil_iff.2 hge2
     rw [hdx,hdy,Lib.compareBytes] at ho
     simp (maxSteps:=1000000) -dsimp only [go_sem,hg,hg2]
     exact fin _ _ (by rw [<-ho]; unfold jB; rw [decide_eq_false (by omega),decide_eq_true (by omega)]; rfl)
 · have hg:decide ((i:Int) < (a.length:Int))=false:=by simp; omega
   have hdx:a.drop i=[]:=List.drop_eq_nil_iff.2 hge
   rw [hdx] at ho
   simp (maxSteps:=1000000) -dsimp only [go_sem,hg]
   refine fin _ _ ?_
   rw [<-ho]
   unfold jB
   rcases a8 i b.length with hlt2 | hge2
   · obtain ⟨y,hy⟩:∃ c,b[i]? = some c:=⟨_,aV hlt2⟩
     have hdy:b.drop i=y :: b.drop (i + 1):=by
      obtain ⟨h,rfl⟩:=bC.1 hy
      exact List.drop_eq_getElem_cons h
     rw [hdy,Lib.compareBytes,decide_eq_true (by omega)]; rfl
   · have hdy:b.drop i=[]:=List.drop_eq_nil_iff.2 hge2
     rw [hdy,Lib.compareBytes,decide_eq_false (by omega),decide_eq_false (by omega)]; rfl
theorem zB:∀ N,Meets Tryz.prog 32 (yA N)
 | 0=>⟨by kernel_rfl,by rintro xs vs E ro w K _ _ _ ⟨a,_,_,_,_,_,h,_⟩; have:=a.h_pos; omega⟩
 | N + 1=>by
  refine aD Tryz.func32 aEX 2 (by rw [Tryz.ntmps32]; decide) (aC (zB N) (aH QS (aH U1 (aB _)))) (fun av H K h=>by obtain ⟨_,_,rfl,_⟩:=h; rfl) ?_
  rintro av H K ⟨a,b,rfl,rfl,ha,hb,hh,hK⟩
  have hE:=JJ a b
  have fin:∀ (r:Int) (R:Hp),(r == 0)=dL a b->W.Fin 0 K (iS .i64 r) R:=fun r R h=>.sel [] (by simp) (by simp) rfl (.done (by simpa [go_sem] using hK r h))
  clear hK
  have hs1:=kL a.k b.k
  have hs3:=BZ (bl a.s) (bl b.s)
  have hs5:=kL (a.l.length:Int) (b.l.length:Int)
  have hla:=ha.ll
  have hlb:=hb.ll
  have hfa:=ha.lf
  have hfb:=hb.lf
  have hsa:(a.s.size<=9223372036854775807)=True:=eq_true ha.s
  have hsb:(b.s.size<=9223372036854775807)=True:=eq_true hb.s
  cases c1:a.k == b.k with
  | false=>
   have c1':(a.k != b.k)=true:=by rw [bne,c1]; rfl
   rw [c1] at hs1 hE
   simp (maxSteps:=1000000) -dsimp only [go_sem,aK a,aK b,H0,G2,c1']
   exact fin _ _ (by rw [hs1,hE]; rfl)
  | true=>
  have c1':(a.k != b.k)=false:=by rw [bne,c1]; rfl
  rw [c1,Bool.true_and] at hE
  simp (maxSteps:=1000000) -dsimp only [go_sem,aK a,aK b,H0,G2,c1']
  refine aA rfl (.done ?_)
  cases c2:decide (a.n < b.n) with
  | true=>
   have c2':=of_decide_eq_true c2
   rw [show (a.n == b.n)=false by simp; omega] at hE
   simp (maxSteps:=1000000) -dsimp only [go_sem,lV,c2]
   exact fin _ _ (by rw [hE]; rfl)
  | false=>
  cases c3:decide (b.n < a.n) with
  | true=>
   have c3':=of_decide_eq_true c3
   rw [show (a.n == b.n)=false by simp; omega] at hE
   simp (maxSteps:=1000000) -dsimp only [go_sem,lV,c2,c3]
   exact fin _ _ (by rw [hE]; rfl)
  | false=>
  have c2':=of_decide_eq_false c2
  have c3':=of_decide_eq_false c3
  rw [show (a.n == b.n)=true by simp; omega,Bool.true_and] at hE
  simp (maxSteps:=1000000) -dsimp only [go_sem,lV,c2,c3]
  refine aA rfl (.done ?_)
  cases c4:Lib.compareBytes (bl a.s) (bl b.s) == 0 with
  | false=>
   have c4':(Lib.compareBytes (bl a.s) (bl b.s) != 0)=true:=by rw [bne,c4]; rfl
   rw [c4] at hs3
   rw [<-hs3] at hE
   simp (maxSteps:=1000000) -dsimp only [go_sem,qK,hsa,hsb,c4']
   exact fin _ _ (by rw [hE,c4]; rfl)
  | true=>
  have c4':(Lib.compareBytes (bl a.s) (bl b.s) != 0)=false:=by rw [bne,c4]; rfl
  rw [c4] at hs3
  rw [<-hs3,Bool.true_and] at hE
  simp (maxSteps:=1000000) -dsimp only [go_sem,qK,hsa,hsb,c4']
  refine aA rfl (.done ?_)
  simp (maxSteps:=1000000) -dsimp only [go_sem,sI]
  refine aU (α:=Nat) (fun i=>[(2,.va (.c1 (.pt 0 0))),(3,.va (.c1 (.pt 1 0))),(6,iS .i64 i)]) (fun _=>[.cells (bD a) 29,.cells (bD b) 29])
   (fun i=>i<=a.l.length/\i<=b.l.length/\eK (a.l.drop i) (b.l.drop i)=eK a.l b.l) (fun i=>a.l.length - i) 0 2 ⟨Nat.zero_le _,Nat.zero_le _,rfl⟩ ?_ ?_ ?_
  · simp -dsimp only [go_sem]<;>simp
  · simp -dsimp only [go_sem,bD]<;>simp
  rintro i ⟨hi,hib,ho⟩
  have more:∀ (x y:Vl),a.l[i]? = some x->b.l[i]? = some y->eK (a.l.drop i) (b.l.drop i)=(dL x y && eK (a.l.drop (i + 1)) (b.l.drop (i + 1))):=fun x y hx hy=>by
   obtain ⟨h1,rfl⟩:=bC.1 hx
   obtain ⟨h2,rfl⟩:=bC.1 hy
   rw [List.drop_eq_getElem_cons h1,List.drop_eq_getElem_cons h2,DU]
  rcases a8 i a.l.length with hlt | hge
  · rcases a8 i b.l.length with hlt2 | hge2
    · have hg:decide ((i:Int) < (a.l.length:Int))=true:=by simp; omega
      have hg2:decide ((i:Int) < (b.l.length:Int))=true:=by simp; omega
      have hx:a.l[i]? = some a.l[i]:=aV hlt
      have hy:b.l[i]? = some b.l[i]:=aV hlt2
      have q1:=lJ hx
      have q2:=lJ hy
      have hxm:=List.getElem_mem hlt
      have hym:=List.getElem_mem hlt2
      rw [more _ _ hx hy] at ho
      have hxh:=Vl.h_l hxm
      have hxo:=ha.l _ hxm
      have hyo:=hb.l _ hym
      generalize a.l[i]=x at *
      generalize b.l[i]=y at *
      simp (maxSteps:=1000000) -dsimp only [go_sem,bD,hg,hg2,↓q1,↓q2]
      refine ⟨by omega,by omega,l7 hxo hyo (by omega) fun r hr=>?_⟩
      rw [<-hr] at ho
      simp (maxSteps:=1000000) -dsimp only [go_sem]
      refine ⟨fun h1=>fin r _ ?_,fun h1=>?_⟩
      · have h2:(r == 0)=false:=by simpa using h1
        rw [h2,Bool.false_and] at ho
        rw [h2,hE,<-ho]; rfl
      · have h2:(r == 0)=true:=by simpa using h1
        rw [h2,Bool.true_and] at ho
        refine ⟨by omega,aE (i + 1) 2 ⟨by omega,by omega,ho⟩ (by omega) ?_ ?_⟩
        · simp -dsimp only [go_sem]<;>simp
        · simp -dsimp only [go_sem,bD]<;>simp [bD]
    · have hg:decide ((i:Int) < (a.l.length:Int))=true:=by simp; omega
      have hg2:decide ((i:Int) < (b.l.length:Int))=false:=by simp; omega
      have hne:((a.l.length:Int) != (b.l.length:Int))=true:=by simp; omega
      rw [List.drop_eq_nil_iff.2 hge2,List.drop_eq_getElem_cons hlt,eK] at ho
      simp (maxSteps:=1000000) -dsimp only [go_sem,bD,hg,hg2]
      refine aA rfl (.done ?_)
      simp (maxSteps:=1000000) -dsimp only [go_sem,kP,hne]
      refine fin _ _ ?_
      rw [hs5,hE,<-ho]
      simp; omega
  · have hg:decide ((i:Int) < (a.l.length:Int))=false:=by simp; omega
    obtain rfl:i=a.l.length:=by omega
    rw [List.drop_length] at ho
    simp (maxSteps:=1000000) -dsimp only [go_sem,bD,hg]
    refine aA rfl (.done ?_)
    rcases a8 a.l.length b.l.length with hlt2 | hge2
    · have hne:((a.l.length:Int) != (b.l.length:Int))=true:=by simp; omega
      rw [List.drop_eq_getElem_cons hlt2,eK] at ho
      simp (maxSteps:=1000000) -dsimp only [go_sem,kP,hne]
      refine fin _ _ ?_
      rw [hs5,hE,<-ho]
      simp; omega
    · have hle:a.l.length=b.l.length:=by omega
      have hne:((a.l.length:Int) != (b.l.length:Int))=false:=by simp; omega
      rw [List.drop_eq_nil_iff.2 hge2,eK] at ho
      rw [<-ho,Bool.true_and] at hE
      simp (maxSteps:=1000000) -dsimp only [go_sem,kP,hne]
      refine aA rfl (.done ?_)
      simp (maxSteps:=1000000) -dsimp only [go_sem,sC]
      clear ho more hi hib hge hg hs5 hne hle hge2
      have hs6:=kL (a.f.length:Int) (b.f.length:Int)
      refine aU (α:=Nat) (fun i=>[(2,.va (.c1 (.pt 0 0))),(3,.va (.c1 (.pt 1 0))),(8,iS .i64 i)]) (fun _=>[.cells (bD a) 29,.cells (bD b) 29])
       (fun i=>i<=a.f.length/\i<=b.f.length/\d7 (a.f.drop i) (b.f.drop i)=d7 a.f b.f) (fun i=>a.f.length - i) 0 2 ⟨Nat.zero_le _,Nat.zero_le _,rfl⟩ ?_ ?_ ?_
      · simp -dsimp only [go_sem]<;>simp
      · simp -dsimp only [go_sem,bD]<;>simp [bD]
      rintro i ⟨hi,hib,ho⟩
      rcases a8 i a.f.length with hlt | hge
      · rcases a8 i b.f.length with hlt2 | hge2
        · have hg:decide ((i:Int) < (a.f.length:Int))=true:=by simp; omega
          have hg2:decide ((i:Int) < (b.f.length:Int))=true:=by simp; omega
          have hx:a.f[i]? = some a.f[i]:=aV hlt
          have hy:b.f[i]? = some b.f[i]:=aV hlt2
          have q1:=gZ hx
          have q2:=gZ hy
          have hxm:=List.getElem_mem hlt
          have hym:=List.getElem_mem hlt2
          rw [List.drop_eq_getElem_cons hlt,List.drop_eq_getElem_cons hlt2,D5] at ho
          have hxh:=Vl.h_f hxm
          have hxo:=ha.f _ hxm
          have hyo:=hb.f _ hym
          generalize a.f[i]=x at *
          generalize b.f[i]=y at *
          have hs7:=kL x.1 y.1
          cases c7:x.1 == y.1 with
          | false=>
           have c7':(x.1 != y.1)=true:=by rw [bne,c7]; rfl
           rw [c7,Bool.false_and] at ho
           rw [c7] at hs7
           simp (maxSteps:=1000000) -dsimp only [go_sem,bD,hg,hg2,↓q1,↓q2,c7']
           refine ⟨by omega,by omega,by omega,by omega,fin _ _ (by rw [hs7,hE,<-ho])⟩
          | true=>
           have c7':(x.1 != y.1)=false:=by rw [bne,c7]; rfl
           rw [c7,Bool.true_and] at ho
           simp (maxSteps:=1000000) -dsimp only [go_sem,bD,hg,hg2,↓q1,↓q2,c7',List.take_succ_cons,List.take_zero,List.length_cons,List.length_nil]
           refine ⟨by omega,by omega,by omega,by omega,l7 hxo hyo (by omega) fun r hr=>?_⟩
           rw [<-hr] at ho
           simp (maxSteps:=1000000) -dsimp only [go_sem]
           refine ⟨fun h1=>fin r _ ?_,fun h1=>?_⟩
           · have h2:(r == 0)=false:=by simpa using h1
             rw [h2,Bool.false_and] at ho
             rw [h2,hE,<-ho]
           · have h2:(r == 0)=true:=by simpa using h1
             rw [h2,Bool.true_and] at ho
             refine ⟨by omega,aE (i + 1) 2 ⟨by omega,by omega,ho⟩ (by omega) ?_ ?_⟩
             · simp -dsimp only [go_sem]<;>simp
             · simp -dsimp only [go_sem,bD]<;>simp [bD]
        · have hg:decide ((i:Int) < (a.f.length:Int))=true:=by simp; omega
          have hg2:decide ((i:Int) < (b.f.length:Int))=false:=by simp; omega
          have he:∀ x:Int × Vl,d7 (x :: a.f.drop (i + 1)) []=false:=fun x=>by obtain ⟨j,x⟩:=x; rw [d7]
          rw [List.drop_eq_nil_iff.2 hge2,List.drop_eq_getElem_cons hlt,he] at ho
          simp (maxSteps:=1000000) -dsimp only [go_sem,bD,hg,hg2]
          refine aA rfl (.done ?_)
          simp (maxSteps:=1000000) -dsimp only [go_sem,mT]
          refine fin _ _ ?_
          rw [hs6,hE,<-ho]
          simp; omega
      · have hg:decide ((i:Int) < (a.f.length:Int))=false:=by simp; omega
        obtain rfl:i=a.f.length:=by omega
        rw [List.drop_length] at ho
        simp (maxSteps:=1000000) -dsimp only [go_sem,bD,hg]
        refine aA rfl (.done ?_)
        simp (maxSteps:=1000000) -dsimp only [go_sem,mT]
        refine fin _ _ ?_
        rw [hs6,hE,<-ho]
        rcases a8 a.f.length b.f.length with hlt2 | hge2
        · have he:∀ x:Int × Vl,d7 [] (x :: b.f.drop (a.f.length + 1))=false:=fun x=>by obtain ⟨j,x⟩:=x; rw [d7]
          rw [List.drop_eq_getElem_cons hlt2,he]
          simp; omega
        · rw [List.drop_eq_nil_iff.2 hge2,d7]
          simp; omega
theorem LZ (N:Nat):Meets Tryz.prog 14 (fun av H K=>∃ a b:Vl,av=[.va (.gs (aQ a)),.va (.gs (aQ b))]/\H=[]/\VlOk a/\VlOk b/\a.h<=N/\K (bS (dL a b)) []):=by
 refine aD Tryz.func14 aDQ 2 (by rw [Tryz.ntmps14]; decide) (aC (zB N) (aB _)) (fun av H K h=>by obtain ⟨_,_,rfl,_⟩:=h; rfl) ?_
 rintro av H K ⟨a,b,rfl,rfl,ha,hb,hh,hK⟩
 simp (maxSteps:=1000000) -dsimp only [go_sem,aK a,aK b,SS,PQ]
 refine l7 ha hb hh fun r hr=>?_
 simp (maxSteps:=1000000) -dsimp only [go_sem]
 exact .sel [] (by simp) (by simp) rfl (.done (by rw [hr]; simpa [go_sem] using hK))
theorem UR:Meets Tryz.prog 14 eqFn2.sp:=dX (0:Nat) LZ fun av H K h=>by
 obtain ⟨⟨h,e⟩,hK⟩:=h
 obtain ⟨a,b,rfl,ha,hb⟩:=mW h
 have hK:K (bS (dL (C.vv (aQ a)) (C.vv (aQ b)))) []:=hK
 rw [f7,f7] at hK
 exact ⟨a.h,a,b,rfl,e,ha,hb,Nat.le_refl _,hK⟩
end Go.Proofs.YthpbnmebjocbeaaGreat
