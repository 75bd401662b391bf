/- Lemmas and walks for the proof. -/
import Derived.Test.YthpbnmebjocbeaaGreatRc
import Derived.Test.YthpbnmebjocbeaaGreatProg
import Derived.Shelf.Small.Strs
set_option maxRecDepth 100000
set_option maxHeartbeats 8000000
namespace Go.Proofs.YthpbnmebjocbeaaGreat
open Go.W
theorem DH:Meets Tryz.prog 113 QF:=by
 refine aD Tryz.func113 aCN 2 (by rw [Tryz.ntmps113]; decide) (aC aI4 (aC aI9 (aB _))) (fun av H K h=>by obtain ⟨_,_,rfl,_⟩:=h; rfl) ?_
 rintro av H K ⟨s,n,rfl,rfl,hs,hK⟩
 rw [<-GJ] at hK
 have hl:=hs.ok.le
 simp -dsimp only [go_sem,aI,RN,RL]
 refine aV (α:=Nat) (fun i=>[(1,tS n),(2,.va (.c1 (.pt 0 0))),(4,.va (.c1 (.pt 1 0))),(9,.va (.c1 (.fz (s.es.map aY)))),(10,iS .i64 s.es.length),(11,iS .i64 i)]) (fun _=>[.cells (aI s) 25,.cells [.vl (.string (mk [])),.vl (.slice none 0 0),.vl (.slice none 0 0)] 118])
  (fun i=>i<=s.es.length/\eH (s.es.drop i) n=eH s.es n) (fun i=>s.es.length - i) 0 2 ⟨Nat.zero_le _,rfl⟩ ?_ ?_ ?_
 · simp [go_sem]
 · simp [go_sem,aI]
 rintro i ⟨hi,ho⟩
 rcases bD i s.es.length with hlt | hge
 · have hg:decide ((i:Int) < (s.es.length:Int))=true:=by simp; omega
   obtain ⟨t,hx⟩:∃ e,s.es[i]? = some e:=⟨_,aT hlt⟩
   have q2:=bB (row:=aY) hx
   have htm:=bX hx
   rw [eH,sU hx] at ho
   cases hc:decide (t.nm=n) with
   | true=>
    rw [hc,bL] at ho
    rw [<-ho] at hK
    simp (maxSteps:=1000000) -dsimp only [go_sem,hg,↓q2,aY,aI,fH,hc]
    refine ⟨by omega,U1 (hs.en t htm).1 ?_⟩
    simp (maxSteps:=1000000) -dsimp only [go_sem]
    refine SQ (hs.en t htm).2 ?_
    simp (maxSteps:=1000000) -dsimp only [go_sem]
    exact .sel [] (by simp) (by simp) rfl (.done (by simpa [go_sem,aY] using hK))
   | false=>
    rw [hc,aW] at ho
    simp (maxSteps:=1000000) -dsimp only [go_sem,hg,↓q2,aY,aI,fH,hc]
    refine ⟨by omega,by omega,aF (i + 1) 2 ⟨by omega,ho⟩ (by omega) ?_ ?_⟩
    · simp [go_sem]
    · simp [go_sem,aI]
 · have hg:decide ((i:Int) < (s.es.length:Int))=false:=by simp; omega
   obtain rfl:i=s.es.length:=by omega
   rw [List.drop_length] at ho
   rw [<-ho] at hK
   simp -dsimp only [go_sem,hg,aI]
   exact .sel [] (by simp) (by simp) rfl (.done (by simpa [go_sem,eH,U0] using hK))
noncomputable def eqB {α:Type} (a b:α):Bool:=@decide (a=b) (Classical.propDecidable _)
def A3 (N:Nat):List S->Prop:=fun av=>match av with
 | [.va (.gs r),.va (.gs q)]=>iV r/\o9 q/\(C.ty q).h<=N
 | _=>False
theorem jZ {N:Nat} {av:List S} (h:A3 N av):∃ s t,av=[.va (.gs (aI s)),.va (.gs (aU t))]/\s.fit/\TyOk t/\t.h<=N:=by
 unfold A3 at h
 split at h
 · obtain ⟨⟨a,rfl,ha⟩,⟨b,rfl,hb⟩,hh⟩:=h
   rw [oT] at hh
   exact ⟨a,b,rfl,ha,hb,hh⟩
 · exact h.elim
noncomputable def HX:List S->A:=fun av=>match av with
 | [.va (.gs r),.va (.gs q)]=>bA (valF (C.sc r).ss (C.sc r).es (C.ty q))
 | _=>.gs []
noncomputable def IC (N:Nat):Fun:=⟨A3 N,HX,fun av h=>by obtain ⟨a,b,rfl,_⟩:=jZ h; trivial⟩
theorem LT {N:Nat}:∀ av H K,(IC N).sp av H K->av.length=2:=fun av H K h=>by obtain ⟨a,b,rfl,_⟩:=jZ h.1.1; rfl
attribute [go_sem] IC A3 HX
def A1:List S->Prop:=fun av=>match av with
 | [.va (.gs r),.va (.gs q)]=>iV r/\o9 q
 | _=>False
theorem tX {av:List S} (h:A1 av):∃ s t,av=[.va (.gs (aI s)),.va (.gs (aU t))]/\s.fit/\TyOk t:=by
 unfold A1 at h
 split at h
 · obtain ⟨⟨a,rfl,ha⟩,⟨b,rfl,hb⟩⟩:=h
   exact ⟨a,b,rfl,ha,hb⟩
 · exact h.elim
noncomputable def r0Fn:Fun:=⟨A1,HX,fun av h=>by obtain ⟨a,b,rfl,_⟩:=tX h; trivial⟩
attribute [go_sem] r0Fn A1
mutual
def aKH:Ty->List ByteArray
 | .mk k _ n e=>bif k == 6 || k == 7 then [n] else OE e
def OE:List Ty->List ByteArray
 | []=>[]
 | t :: r=>aKH t ++ OE r
end
def jK (x:ByteArray):Bool->List ByteArray->List ByteArray
 | d,[]=>bif d then [] else [x]
 | d,y :: r=>bif !d && (Op.bytesLess (bl x) (bl y) || bl x == bl y) then (bif Op.bytesLess (bl x) (bl y) then x :: y :: jK x true r else y :: jK x true r) else y :: jK x d r
abbrev zZ (a b:ByteArray):Prop:=bl a < bl b
theorem VG (x:List UInt8):∀ y:List UInt8,Op.bytesLess x y=decide (x < y):=by
 induction x with
 | nil=>intro y; cases y<;>simp [Op.bytesLess]
 | cons a x ih=>
  intro y
  cases y with
  | nil=>simp [Op.bytesLess]
  | cons b y=>
   have:=ih y
   rw [Op.bytesLess,this,Bool.eq_iff_iff]
   simp [List.cons_lt_cons_iff]
theorem Q6 (a b:ByteArray):Op.bytesLess (bl a) (bl b)=decide (zZ a b):=VG _ _
theorem jY (a:ByteArray):¬ zZ a a:=List.lt_irrefl _
theorem zU {a b c:ByteArray} (h:zZ a b) (h2:zZ b c):zZ a c:=List.lt_trans h h2
theorem JG {a b:ByteArray} (h:¬ zZ a b) (h2:a ≠ b):zZ b a:=by
 have h3:bl b<=bl a:=List.not_lt.1 h
 exact Std.lt_of_le_of_ne h3 (fun e=>h2 (hJ e.symm))
def Asc (l:List ByteArray):Prop:=l.Pairwise zZ
theorem E7:∀ {a b:List ByteArray},Asc a->Asc b->(∀ x,x ∈ a ↔ x ∈ b)->a=b
 | [],[],_,_,_=>rfl
 | [],y :: b,_,_,h=>by have:=(h y).2 List.mem_cons_self; cases this
 | x :: a,[],_,_,h=>by have:=(h x).1 List.mem_cons_self; cases this
 | x :: a,y :: b,h1,h2,h=>by
  obtain ⟨p1,p2⟩:=List.pairwise_cons.1 h1
  obtain ⟨p3,p4⟩:=List.pairwise_cons.1 h2
  have e:x=y:=by
   rcases List.mem_cons.1 ((h x).1 List.mem_cons_self) with e | e
   · exact e
   · rcases List.mem_cons.1 ((h y).2 List.mem_cons_self) with e2 | e2
     · exact e2.symm
     · exact absurd (zU (p1 y e2) (p3 x e)) (jY x)
  subst e
  rw [E7 p2 p4 fun z=>?_]
  constructor
  · intro hz
    rcases List.mem_cons.1 ((h z).1 (List.mem_cons_of_mem _ hz)) with e | e
    · exact absurd (p1 z hz) (by rw [e]; exact jY x)
    · exact e
  · intro hz
    rcases List.mem_cons.1 ((h z).2 (List.mem_cons_of_mem _ hz)) with e | e
    · exact absurd (p3 z hz) (by rw [e]; exact jY x)
    · exact e
theorem Asc.nodup {l:List ByteArray} (h:Asc l):l.Nodup:=by
 unfold List.Nodup
 refine List.Pairwise.imp ?_ h
 intro a b h e
 subst e
 exact jY a h
theorem pD (x:ByteArray):∀ l,jK x true l=l
 | []=>rfl
 | y :: r=>by rw [jK,pD x r]; rfl
theorem kD {x z:ByteArray}:∀ {l:List ByteArray},z ∈ jK x false l ↔ z=x\/z ∈ l
 | []=>by simp [jK]
 | y :: r=>by
  rw [jK,pD]
  cases c1:Op.bytesLess (bl x) (bl y) with
  | true=>simp
  | false=>
   cases c2:bl x == bl y with
   | true=>
    have:x=y:=hJ (by simpa using c2)
    subst this
    simp
   | false=>
    have:=kD (x:=x) (z:=z) (l:=r)
    simp [this]
    constructor
    · rintro (h | h | h)
      · exact .inr (.inl h)
      · exact .inl h
      · exact .inr (.inr h)
    · rintro (h | h | h)
      · exact .inr (.inl h)
      · exact .inl h
      · exact .inr (.inr h)
theorem CY {x:ByteArray}:∀ {l:List ByteArray},Asc l->Asc (jK x false l)
 | [],_=>by simp [jK,Asc]
 | y :: r,h=>by
  obtain ⟨p1,p2⟩:=List.pairwise_cons.1 h
  rw [jK,pD]
  cases c1:Op.bytesLess (bl x) (bl y) with
  | true=>
   rw [Q6] at c1
   have c1:=of_decide_eq_true c1
   simp only [Bool.not_false,Bool.true_or,Bool.and_true,bL]
   refine List.pairwise_cons.2 ⟨fun z hz=>?_,h⟩
   rcases List.mem_cons.1 hz with rfl | hz
   · exact c1
   · exact zU c1 (p1 z hz)
  | false=>
   cases c2:bl x == bl y with
   | true=>exact h
   | false=>
    rw [Q6] at c1
    have c1:=of_decide_eq_false c1
    have c2:x ≠ y:=fun e=>by subst e; simp at c2
    simp only [Bool.not_false,Bool.true_and,Bool.or_self,aW]
    refine List.pairwise_cons.2 ⟨fun z hz=>?_,CY p2⟩
    rcases kD.1 hz with rfl | hz
    · exact JG c1 c2
    · exact p1 z hz
theorem M9 {l:List ByteArray} (h:l.Nodup):Asc (dA l):=by
 have h1:((l.map bl).mergeSort fun x y=>decide (x<=y)).Pairwise fun a b=>decide (a<=b)=true:=
  List.pairwise_mergeSort (le:=fun (x y:List UInt8)=>decide (x<=y)) (fun (a b c:List UInt8) h1 h2=>decide_eq_true (List.le_trans (of_decide_eq_true h1) (of_decide_eq_true h2))) (fun (a b:List UInt8)=>by
   rcases List.le_total a b with h | h<;>simp [h]) _
 have h2:((l.map bl).mergeSort fun x y=>decide (x<=y)).Nodup:=by
  rw [(List.mergeSort_perm _ _).nodup_iff]
  exact List.Pairwise.map bl (fun a b (hab:a ≠ b) e=>hab (hJ e)) h
 unfold dA Asc
 rw [List.pairwise_map]
 refine List.Pairwise.imp₂ (fun a b h1 h2=>?_) h1 h2
 exact Std.lt_of_le_of_ne (of_decide_eq_true h1) h2
theorem JY (ss:List St) (n:ByteArray):Asc (dS ss n):=M9 (oZ ss n)
structure UI (ss:List St) (n:ByteArray) (i:Nat) (todo o:List ByteArray):Prop where
 hd:∃ r,todo=n :: r/\r.Nodup/\∀ x,x ∈ o ↔ x ∈ r
 rc:∀ x ∈ o,Reach ss n x
 dn:∀ j a,j < i->todo[j]? = some a->∀ y,cX ss a y->y ∈ o
 asc:Asc o
theorem I3 {ss:List St} {es:List En} (g:Gd ss es) {n:ByteArray} {l:List ByteArray} (h:l.Nodup) (hr:∀ x ∈ l,Reach ss n x):l.length<=32:=Nat.le_trans (pC h fun x hx=>(fV ss n x).2 (hr x hx)) (g.vlen n)
theorem UI.len {ss:List St} {es:List En} (g:Gd ss es) {n:ByteArray} {i:Nat} {todo o:List ByteArray} (h:UI ss n i todo o):todo.length<=33/\o.length<=32:=by
 obtain ⟨r,rfl,h1,h2⟩:=h.hd
 have:=I3 g h1 fun x hx=>h.rc x ((h2 x).2 hx)
 have:=I3 g h.asc.nodup h.rc
 simp only [List.length_cons]; omega
theorem UI.add {ss:List St} {n:ByteArray} {i:Nat} {todo o:List ByteArray} (h:UI ss n i todo o) {y:ByteArray} (hr:Reach ss n y) (hy:y ∉ o) (hi:i<=todo.length):UI ss n i (todo ++ [y]) (jK y false o):=by
 obtain ⟨r,rfl,h1,h2⟩:=h.hd
 refine ⟨⟨r ++ [y],by simp,?_,fun x=>?_⟩,fun x hx=>?_,fun j a hj ha z hz=>?_,CY h.asc⟩
 · rw [List.nodup_append]
   exact ⟨h1,by simp,fun a ha b hb=>by simp at hb; subst hb; exact fun e=>hy ((h2 b).2 (e ▸ ha))⟩
 · rw [kD,h2]; simp [or_comm]
 · rcases kD.1 hx with rfl | hx
   · exact hr
   · exact h.rc x hx
 · rw [List.getElem?_append_left (by omega)] at ha
   exact kD.2 (.inr (h.dn j a hj ha z hz))
theorem UI.next {ss:List St} {n:ByteArray} {i:Nat} {todo o:List ByteArray} (h:UI ss n i todo o) {a:ByteArray} (ha:todo[i]? = some a) (hy:∀ y,cX ss a y->y ∈ o):UI ss n (i + 1) todo o:=by
 refine ⟨h.hd,h.rc,fun j b hj hb y hyb=>?_,h.asc⟩
 rcases bD j i with h4 | h4
 · exact h.dn j b h4 hb y hyb
 · obtain rfl:j=i:=by omega
   rw [ha] at hb; obtain rfl:=bT hb
   exact hy y hyb
theorem UI.fin {ss:List St} {n:ByteArray} {todo o:List ByteArray} (h:UI ss n todo.length todo o):o=dS ss n:=by
 refine E7 h.asc (JY ss n) fun x=>?_
 rw [yY]
 refine ⟨h.rc x,fun hx=>?_⟩
 obtain ⟨r,e,h1,h2⟩:=h.hd
 have hn:∀ y,cX ss n y->y ∈ o:=h.dn 0 n (by rw [e]; simp) (by rw [e]; rfl)
 induction hx with
 | one h=>exact hn _ h
 | more _ h3 ih=>
  obtain ⟨j,hj⟩:=List.mem_iff_getElem?.1 ((h2 _).1 ih)
  rename_i b c _
  have hj2:todo[j + 1]? = some b:=by rw [e]; simpa using hj
  exact h.dn (j + 1) _ (a8.1 hj2).1 hj2 _ h3
def kC:List St->List Int->ByteArray->Int
 | s :: ss,d :: ds,n=>bif decide (s.nm=n) then d else kC ss ds n
 | _,_,_=>0
theorem CI {n:ByteArray}:∀ {ss:List St} {ds:List Int},fS ss n=none->kC ss ds n=0
 | [],_,_=>by simp [kC]
 | s :: ss,[],_=>by simp [kC]
 | s :: ss,d :: ds,h=>by
  unfold fS at h
  rw [List.find?_cons] at h
  rw [kC]
  cases hc:decide (s.nm=n) with
  | true=>rw [hc] at h; simp at h
  | false=>rw [hc] at h; exact CI (ss:=ss) h
theorem D8 {n:ByteArray} {u:St}:∀ {ss:List St} {ds:List Int},ss.length=ds.length->fS ss n=some u->∃ j:Nat,ss[j]? = some u/\ds[j]? = some (kC ss ds n)
 | [],_,_,h=>by cases h
 | s :: ss,[],hl,_=>by simp at hl
 | s :: ss,d :: ds,hl,h=>by
  unfold fS at h
  rw [List.find?_cons] at h
  rw [kC]
  cases hc:decide (s.nm=n) with
  | true=>
   rw [hc] at h
   obtain rfl:s=u:=by simpa using h
   exact ⟨0,rfl,rfl⟩
  | false=>
   rw [hc] at h
   obtain ⟨j,h1,h2⟩:=D8 (ss:=ss) (ds:=ds) (by simpa using hl) h
   exact ⟨j + 1,by simpa using h1,by simpa using h2⟩
theorem NZ {s:Int} {n:ByteArray} {u:Ty} {r:List Ty}:bK (.mk 5 s n (u :: r))=((bK u).1 + 1,(bK u).2):=by simp [bK,zJ]
theorem NG {k s:Int} {n:ByteArray} {e:List Ty} (h:(k == 5 && decide (0 < (e.length:Int)))=false):bK (.mk k s n e)=(0,.mk k s n e):=by
 rw [bK]
 cases hk:k == 5 with
 | false=>rfl
 | true=>
  rw [hk,Bool.true_and] at h
  have:e=[]:=List.length_eq_zero_iff.1 (by simp at h; simp [h])
  subst this; rfl
theorem LN {dp dq:ByteArray->Int} {l:List Fl} (h:∀ f ∈ l,bY dp f.ty<=bY dq f.ty):eE dp l<=eE dq l:=F7 (iU _ _) fun f hf=>Int.le_trans (h f hf) (GO hf)
structure DI (ss:List St) (r i:Nat) (d:List Int):Prop where
 len:d.length=ss.length
 lo:∀ (j:Nat) (t:St) (v:Int),ss[j]? = some t->d[j]? = some v->0<=v/\v<=dD ss t.nm/\(nE ss t.nm < r->v=dD ss t.nm)/\(j < i->nE ss t.nm < r + 1->v=dD ss t.nm)
theorem DI.ix {ss:List St} {es:List En} (_g:Gd ss es) {r i:Nat} {d:List Int} (h:DI ss r i d) (n:ByteArray):0<=kC ss d n/\kC ss d n<=dD ss n/\((fS ss n).isSome=true->nE ss n < r->kC ss d n=dD ss n):=by
 cases hf:fS ss n with
 | none=>
  rw [CI hf]
  exact ⟨Int.le_refl _,IM ss n,fun h=>by simp at h⟩
 | some u=>
  obtain ⟨j,h1,h2⟩:=D8 h.len.symm hf
  obtain ⟨a1,a2,a3,_⟩:=h.lo j u _ h1 h2
  obtain ⟨_,rfl⟩:=fJ hf
  exact ⟨a1,a2,fun _ h=>a3 h⟩
theorem DI.all {ss:List St} {es:List En} (g:Gd ss es) {r i:Nat} {d:List Int} (h:DI ss r i d):∀ v ∈ d,0<=v/\v<=1000000000000:=fun v hv=>by
 obtain ⟨j,hj⟩:=List.mem_iff_getElem?.1 hv
 have hl:=(a8.1 hj).1
 obtain ⟨t,ht⟩:∃ t,ss[j]? = some t:=⟨_,aT (by have:=h.len; omega)⟩
 obtain ⟨h1,h2,_⟩:=h.lo j t v ht hj
 have:=OH g t.nm
 omega
theorem DI.fd {ss:List St} {es:List En} (g:Gd ss es) {r i:Nat} {d:List Int} (h:DI ss r i d) (t:Ty):bY (kC ss d) t<=bY (dD ss) t:=by
 unfold bY
 have:=h.ix g (bK t).2.n
 cases (bK t).2.k == 6<;>simp only [bL,aW]<;>omega
theorem DI.set {ss:List St} {es:List En} (g:Gd ss es) (ha:zB ss) {r i:Nat} {d:List Int} (h:DI ss r i d) {t:St} (ht:ss[i]? = some t):DI ss r (i + 1) (d.set i (1 + eE (kC ss d) t.fs)):=by
 have htm:=bX ht
 have hD:=HY g ha (g.nd t htm)
 have hle:eE (kC ss d) t.fs<=eE (dD ss) t.fs:=LN fun f _=>h.fd g f.ty
 have heq:nE ss t.nm < r + 1->eE (kC ss d) t.fs=eE (dD ss) t.fs:=fun hr=>nB fun f hf=>by
  unfold bY
  cases hk:(bK f.ty).2.k == 6 with
  | false=>rfl
  | true=>
   obtain ⟨h1,u,h2⟩:=xJ g (g.nd t htm) hf hk
   have h3:=w9 h1 h2 ha
   rw [(h.ix g _).2.2 (by rw [h2]; rfl) (by omega)]
 have hn:=iU (kC ss d) t.fs
 refine ⟨by rw [List.length_set]; exact h.len,fun j u v hu hv=>?_⟩
 rw [List.getElem?_set] at hv
 by_cases e:i=j
 · subst e
   rw [ht] at hu; obtain rfl:=bT hu
   have hlt:i < d.length:=by have:=h.len; have:=(a8.1 ht).1; omega
   simp [hlt] at hv
   subst hv
   exact ⟨by omega,by omega,fun hr=>by rw [heq (by omega)]; omega,fun _ hr=>by rw [heq hr]; omega⟩
 · rw [if_neg e] at hv
   obtain ⟨a1,a2,a3,a4⟩:=h.lo j u v hu hv
   exact ⟨a1,a2,a3,fun hj hr=>a4 (by omega) hr⟩
theorem DI.up {ss:List St} {r:Nat} {d:List Int} (h:DI ss r ss.length d):DI ss (r + 1) 0 d:=⟨h.len,fun j t v ht hv=>by
 obtain ⟨a1,a2,_,a4⟩:=h.lo j t v ht hv
 exact ⟨a1,a2,fun hr=>a4 (a8.1 ht).1 hr,fun h=>absurd h (Nat.not_lt_zero _)⟩⟩
theorem DI.fin {ss:List St} {d:List Int} (h:DI ss (ss.length + 1) 0 d):d=ss.map fun t=>dD ss t.nm:=by
 refine List.ext_getElem? fun j=>?_
 rw [List.getElem?_map]
 cases ht:ss[j]? with
 | none=>
  rw [List.getElem?_eq_none_iff] at ht
  rw [List.getElem?_eq_none (by rw [h.len]; exact ht)]; rfl
 | some t=>
  obtain ⟨v,hv⟩:∃ v,d[j]? = some v:=⟨_,aT (by rw [h.len]; exact (a8.1 ht).1)⟩
  obtain ⟨_,_,a3,_⟩:=h.lo j t v ht hv
  rw [hv,a3 (Nat.lt_succ_of_le (G3 _ _))]; rfl
def gX:Nat->Ty->Nat
 | 0,_=>0
 | N + 1,t=>t.e.foldl (fun m u=>max m (1 + gX N u)) 0
abbrev lF (N:Nat):Nat->Ty->Nat:=fun m u=>max m (1 + gX N u)
theorem OG (N:Nat):∀ (l:List Ty) (m:Nat),m<=l.foldl (lF N) m
 | [],_=>Nat.le_refl _
 | u :: l,m=>Nat.le_trans (Nat.le_max_left _ _) (OG N l (max m (1 + gX N u)))
theorem YE {N:Nat} {l:List Ty} {u:Ty} (h:u ∈ l):∀ m,1 + gX N u<=l.foldl (lF N) m:=by
 induction l with
 | nil=>cases h
 | cons v l ih=>
  intro m
  rcases List.mem_cons.1 h with rfl | h
  · exact Nat.le_trans (Nat.le_max_right m _) (OG N l _)
  · exact ih h _
theorem RD:∀ (N:Nat) (t:Ty),gX N t < N->t.h<=gX N t + 1
 | 0,_,h=>absurd h (Nat.not_lt_zero _)
 | N + 1,.mk k s n e,h=>by
  have hu:∀ u ∈ e,u.h<=gX (N + 1) (.mk k s n e):=fun u hu=>by
   have h1:1 + gX N u<=gX (N + 1) (.mk k s n e):=YE (N:=N) (l:=e) hu 0
   have:=RD N u (by omega)
   omega
  rw [Ty.h]
  have:∀ (l:List Ty),(∀ u ∈ l,u.h<=gX (N + 1) (.mk k s n e))->Ty.hs l<=gX (N + 1) (.mk k s n e):=by
   intro l
   induction l with
   | nil=>exact fun _=>Nat.zero_le _
   | cons v l ih=>
    intro h
    rw [Ty.hs]
    exact Nat.max_le.2 ⟨h v List.mem_cons_self,ih fun u hu=>h u (List.mem_cons_of_mem _ hu)⟩
  have:=this e hu
  omega
mutual
def nY:Ty->Bool
 | .mk k s n e=>bif decide (40 < (bl n).length) || decide (3 < e.length) || decide (8 < gX 20 (.mk k s n e)) then false else AP e
def AP:List Ty->Bool
 | []=>true
 | t :: r=>nY t && AP r
end
theorem yW:∀ l:List Ty,AP l=l.all nY
 | []=>rfl
 | t :: r=>by rw [AP,yW r]; rfl
theorem O6 {k s:Int} {n:ByteArray} {e:List Ty} (h:nY (.mk k s n e)=true):((bl n).length<=40/\e.length<=3/\gX 20 (.mk k s n e)<=8)/\∀ u ∈ e,nY u=true:=by
 rw [nY] at h
 cases c:decide (40 < (bl n).length) || decide (3 < e.length) || decide (8 < gX 20 (.mk k s n e)) with
 | true=>rw [c] at h; cases h
 | false=>
  rw [c] at h
  simp only [Bool.or_eq_false_iff,decide_eq_false_iff_not] at c
  refine ⟨by omega,fun u hu=>?_⟩
  simp only [aW,yW,List.all_eq_true] at h
  exact h u hu
theorem aEN {t:Ty} (h:nY t=true):t.h<=9:=by
 obtain ⟨k,s,n,e⟩:=t
 have h1:=(O6 h).1.2.2
 have:=RD 20 (.mk k s n e) (by omega)
 omega
theorem JL:∀ (N:Nat) (t:Ty),t.h<=N->nY t=true->TySm t
 | 0,t,h,_=>absurd h (by have:=t.h_pos; omega)
 | N + 1,.mk k s n e,h,hf=>by
  obtain ⟨⟨_,h2,_⟩,h3⟩:=O6 hf
  refine .mk (by omega) fun u hu=>JL N u ?_ (h3 u hu)
  have:=Ty.hs_mem hu; rw [Ty.h] at h; omega
theorem ZV:∀ (N:Nat) (t:Ty),t.h<=N->(bK t).1<=t.h
 | 0,t,h=>absurd h (by have:=t.h_pos; omega)
 | N + 1,.mk k s n e,h=>by
  cases c:(k == 5 && decide (0 < (e.length:Int))) with
  | false=>rw [NG c]; exact Nat.zero_le _
  | true=>
   simp only [Bool.and_eq_true,beq_iff_eq,decide_eq_true_eq] at c
   obtain ⟨rfl,c⟩:=c
   cases e with
   | nil=>simp at c
   | cons u r=>
    rw [NZ]
    have h2:=ZV N u (by rw [Ty.h,Ty.hs] at h; omega)
    rw [Ty.h,Ty.hs]; simp only; omega
def aAW (e:En):Bool:=!(decide (40 < (bl e.nm).length) || decide (18 < e.ns.length) || decide (18 < e.vs.length)) && e.ns.all fun n=>!(decide (40 < (bl n).length))
def OV (f:Fl):Bool:=!(decide (40 < (bl f.nm).length) || !(nY f.ty))
def P1 (t:St):Bool:=!(decide (40 < (bl t.nm).length) || decide (18 < t.fs.length)) && t.fs.all OV
def M6 (s:Sc):Bool:=!(decide (18 < s.es.length) || decide (18 < s.ss.length)) && (s.es.all aAW && s.ss.all P1)
theorem TP {s:Sc} (h:s.ok) (hf:M6 s=true):s.fit:=by
 unfold M6 at hf
 simp only [Bool.and_eq_true,List.all_eq_true,Bool.not_eq_true',Bool.or_eq_false_iff,decide_eq_false_iff_not] at hf
 obtain ⟨_,he,hs⟩:=hf
 have hfl:∀ t ∈ s.ss,t.fs.length<=18/\∀ f ∈ t.fs,nY f.ty=true:=fun t ht=>by
  have:=hs t ht
  unfold P1 at this
  simp only [Bool.and_eq_true,List.all_eq_true,Bool.not_eq_true',Bool.or_eq_false_iff,decide_eq_false_iff_not] at this
  refine ⟨by omega,fun f hf=>?_⟩
  have:=this.2 f hf
  unfold OV at this
  simp only [Bool.not_eq_true',Bool.or_eq_false_iff,Bool.not_eq_false'] at this
  exact this.2
 refine ⟨h,fun t ht f hf=>?_,fun t ht=>⟨by have:=(hfl t ht).1; omega,fun f hf=>JL _ _ (Nat.le_refl _) ((hfl t ht).2 f hf)⟩,fun e hm=>?_⟩
 · have h1:=aEN ((hfl t ht).2 f hf)
   have h2:=ZV _ f.ty (Nat.le_refl _)
   omega
 · have:=he e hm
   unfold aAW at this
   simp only [Bool.and_eq_true,List.all_eq_true,Bool.not_eq_true',Bool.or_eq_false_iff,decide_eq_false_iff_not] at this
   omega
theorem MR {α:Type} {l:List α} {i:Nat} {x:α} (hx:l[i]? = some x) (p:α->Bool):(l.drop i).all p=(p x && (l.drop (i + 1)).all p):=by
 obtain ⟨h,rfl⟩:=a8.1 hx
 rw [List.drop_eq_getElem_cons h,List.all_cons]
theorem SS {α:Type} {l:List α} (p:α->Bool):(l.drop l.length).all p=true:=by rw [List.drop_length]; rfl
def NX:PC:=.seq (.reg [.e 3 (.bx 25 (.t 0)),.e 4 (.bx 42 (.t 1)),.e 5 (.bx 29 (.t 2)),.q 6 (.mv (.i 0))]) (.seq (.seq (.reg [.l 7 (.ldn 5 (.t 5)),.a 8 (.cq 41 [(.t 7),(.i 6)]),.q 9 (.bin .gtr true (.t 8) (.i 6))]) (.cond (.t 9) (.seq (.reg [.q 6 (.mv (.i 9))]) .ret) .skip)) (.seq (.reg [.l 10 (.ldn 3 (.t 3)),.q 11 (.bd [(.int .i64 0),(.slice none 0 0),(.slice none 0 0)] [(0,3,(.t 10))]),.l 12 (.ldn 4 (.t 4)),.l 13 (.ldn 5 (.t 5)),.a 14 (.cq 42 [(.t 11),(.t 12),(.t 13)]),.v 6 14]) .ret))
def NL:List RV:=[.mv (.t 6)]
theorem aHF:aS Tryz.prog true ⟨fun r k=>if r=1/\k=1 then .q else if r=3/\k=4 then .q else .own [],fun _=>false⟩ Tryz.f24=some (NX,NL):=by kernel_rfl
def MG:PC:=.seq (.reg [.e 2 (.bx 29 (.t 0)),.q 4 (.mv (.i 0))]) (.seq (.seq (.reg [.q 10 (.fa 0 (.t 2)),.l 11 (.ld1 (.t 10)),.q 12 (.bin .neq true (.t 11) (.i 5)),.v 13 12,⟨some 14,(some (13,true)),.q (.fa 0 (.t 2))⟩,⟨some 15,(some (13,true)),.l (.ld1 (.t 14))⟩,⟨some 16,(some (13,true)),.q (.bin .neq true (.t 15) (.i 6))⟩,.a 17 (.pick (.t 13) (.t 16) (.k (.bool false))),.v 18 17,⟨some 19,(some (18,true)),.q (.fa 3 (.t 2))⟩,⟨some 20,(some (18,true)),.l (.ld1 (.t 19))⟩,⟨some 21,(some (18,true)),.q (.lnL (.t 20))⟩,⟨some 22,(some (18,true)),.q (.bin .eql true (.t 21) (.i 0))⟩,.a 23 (.pick (.t 18) (.t 22) (.k (.bool false))),.v 24 23,⟨some 25,(some (24,true)),.q (.fa 4 (.t 2))⟩,⟨some 26,(some (24,true)),.l (.ld1 (.t 25))⟩,⟨some 27,(some (24,true)),.q (.lnL (.t 26))⟩,⟨some 28,(some (24,true)),.q (.bin .eql true (.t 27) (.i 0))⟩,.a 29 (.pick (.t 24) (.t 28) (.k (.bool false)))]) (.cond (.t 29) (.seq (.reg [.q 4 (.mv (.i 0))]) .ret) .skip)) (.seq (.reg [.q 5 (.mv (.i 0))]) (.seq (.seq (.reg [.q 30 (.fa 3 (.t 2)),.l 31 (.ld1 (.t 30)),.q 32 (.lnL (.t 31)),.q 33 (.mv (.i 0))]) (.block 0 (.loop (.seq (.reg [.q 34 (.bin .lss true (.t 33) (.t 32))]) (.seq (.cond (.t 34) .skip (.exit 0)) (.seq (.block 1 (.seq (.reg [.l 35 (.ia 5 (.t 31) (.t 33)),.l 36 (.ldn 5 (.t 35)),.e 7 (.al (.agg #[(.int .i64 0),(.int .i64 0),(.string (mk [])),(.slice none 0 0),(.slice none 0 0)]) 29),.s (.st 5 (.t 7) (.t 36))]) (.seq (.reg [.v 37 5,.v 38 1,.q 39 (.bin .leq true (.t 37) (.t 38))]) (.cond (.t 39) (.reg [.v 40 5,.l 41 (.ldn 5 (.t 7)),.v 42 1,.q 43 (.bin .sub true (.t 42) (.i 1)),.a 44 (.cq 41 [(.t 41),(.t 43)]),.q 45 (.mx true (.t 40) (.t 44)),.v 5 45]) .skip)))) (.reg [.q 46 (.bin .add true (.t 33) (.i 1)),.v 33 46]))))))) (.seq (.seq (.reg [.q 47 (.fa 4 (.t 2)),.l 48 (.ld1 (.t 47)),.q 49 (.lnL (.t 48)),.q 50 (.mv (.i 0))]) (.block 2 (.loop (.seq (.reg [.q 51 (.bin .lss true (.t 50) (.t 49))]) (.seq (.cond (.t 51) .skip (.exit 2)) (.seq (.block 3 (.seq (.reg [.l 52 (.ia 6 (.t 48) (.t 50)),.l 53 (.ldn 6 (.t 52)),.e 9 (.al (.agg #[(.int .i64 0),(.int .i64 0),(.int .i64 0),(.string (mk [])),(.slice none 0 0),(.slice none 0 0)]) 76),.s (.st 6 (.t 9) (.t 53))]) (.seq (.reg [.v 54 5,.v 55 1,.q 56 (.bin .leq true (.t 54) (.t 55))]) (.cond (.t 56) (.reg [.v 57 5,.q 58 (.fa 1 (.t 9)),.l 59 (.ldn 5 (.t 58)),.v 60 1,.q 61 (.bin .sub true (.t 60) (.i 1)),.a 62 (.cq 41 [(.t 59),(.t 61)]),.q 63 (.mx true (.t 57) (.t 62)),.v 5 63]) .skip)))) (.reg [.q 64 (.bin .add true (.t 50) (.i 1)),.v 50 64]))))))) (.seq (.reg [.v 65 5,.q 66 (.bin .add true (.i 1) (.t 65)),.v 4 66]) .ret)))))
def NC:List RV:=[.mv (.t 4)]
theorem aG3:aS Tryz.prog true ⟨fun r k=>if r=8/\k=4 then .q else if r=14/\k=5 then .q else .own [],fun _=>false⟩ Tryz.f41=some (MG,NC):=by kernel_rfl
def s9:PC:=.seq (.reg [.e 3 (.bx 93 (.t 0)),.e 4 (.bx 42 (.t 1)),.e 5 (.bx 29 (.t 2)),.q 6 (.mv (.i 0))]) (.seq (.seq (.reg [.l 8 (.ldn 3 (.t 3)),.l 9 (.ldn 4 (.t 4)),.a 10 (.cq 75 [(.t 8),(.t 9)]),.q 11 (.not (.t 10)),.v 12 11,⟨some 13,(some (12,false)),.q (.fa 0 (.t 5))⟩,⟨some 14,(some (12,false)),.l (.ld1 (.t 13))⟩,⟨some 15,(some (12,false)),.q (.fa 0 (.t 4))⟩,⟨some 16,(some (12,false)),.l (.ld1 (.t 15))⟩,⟨some 17,(some (12,false)),.q (.bin .neq true (.t 14) (.t 16))⟩,.a 18 (.pick (.t 12) (.k (.bool true)) (.t 17))]) (.cond (.t 18) (.seq (.reg [.q 6 (.mv (.i 13))]) .ret) .skip)) (.seq (.reg [.l 19 (.ldn 3 (.t 3)),.q 20 (.mh 76 [(.t 19)]),.v 7 20]) (.seq (.seq (.reg [.q 21 (.fa 0 (.t 4)),.l 22 (.ld1 (.t 21))]) (.block 0 (.seq (.reg [.q 24 (.bin .eql true (.t 22) (.i 4)),.v 23 24]) (.cond (.t 23) (.reg [.l 25 (.ldn 3 (.t 3)),.q 26 (.mh 77 [(.t 25)]),.v 7 26]) (.seq (.reg [.q 28 (.bin .eql true (.t 22) (.i 5)),.v 27 28]) (.cond (.t 27) (.reg [.l 29 (.ldn 3 (.t 3)),.q 30 (.mh 78 [(.t 29)]),.v 7 30]) (.seq (.reg [.q 32 (.bin .eql true (.t 22) (.i 6)),.v 31 32]) (.cond (.t 31) (.reg [.l 33 (.ldn 3 (.t 3)),.q 34 (.mh 79 [(.t 33)]),.v 7 34]) .skip)))))))) (.seq (.reg [.v 35 7,.l 36 (.ldn 4 (.t 4)),.l 37 (.ldn 5 (.t 5)),.a 38 (.ca (.t 35) [(.t 36),(.t 37)] []),.v 6 38]) .ret))))
def rY:List RV:=[.mv (.t 6)]
theorem aJG:aS Tryz.prog true ⟨fun r k=>if r=1/\k=2 then .q else .own [],fun _=>false⟩ Tryz.f42=some (s9,rY):=by kernel_rfl
def ZY:PC:=.seq (.reg [.e 2 (.bx 25 (.t 0)),.e 3 (.bx 42 (.t 1)),.e 4 (.al (.agg #[(.int .i64 0),(.int .i64 0),(.string (mk [])),(.slice none 0 0),(.slice none 0 0)]) 29)]) (.seq (.reg [.l 5 (.ldn 3 (.t 2)),.q 6 (.bd [(.int .i64 0),(.slice none 0 0),(.slice none 0 0)] [(0,3,(.t 5))]),.l 7 (.ldn 4 (.t 3)),.a 8 (.cl 83 [(.t 6),(.t 7),(.i 22)] []),.s (.st 5 (.t 4) (.t 8))]) .ret)
def XX:List RV:=[.ld (.ldn 5 (.t 4))]
theorem aGI:aS Tryz.prog true ⟨fun _ _=>.own [],fun _=>false⟩ Tryz.f45=some (ZY,XX):=by kernel_rfl
def kG:PC:=.seq (.gh (.reg [.v 31 5,.v 32 31,⟨some 33,(some (32,true)),.q (.fa 1 (.t 3))⟩,⟨some 34,(some (32,true)),.l (.ld1 (.t 33))⟩,⟨some 35,(some (32,true)),.q (.bin .eql true (.t 34) (.i 8))⟩,⟨some 36,(some (32,true)),.q (.mv (.t 35))⟩,⟨some 37,(some (36,false)),.q (.fa 1 (.t 3))⟩,⟨some 38,(some (36,false)),.l (.ld1 (.t 37))⟩,⟨some 39,(some (36,false)),.q (.bin .eql true (.t 38) (.i 16))⟩,⟨some 40,(some (32,true)),.pick (.t 36) (.k (.bool true)) (.t 39)⟩,⟨some 41,(some (32,true)),.q (.mv (.t 40))⟩,⟨some 42,(some (41,false)),.q (.fa 1 (.t 3))⟩,⟨some 43,(some (41,false)),.l (.ld1 (.t 42))⟩,⟨some 44,(some (41,false)),.q (.bin .eql true (.t 43) (.i 32))⟩,⟨some 45,(some (32,true)),.pick (.t 41) (.k (.bool true)) (.t 44)⟩,⟨some 46,(some (32,true)),.q (.mv (.t 45))⟩,⟨some 47,(some (46,false)),.q (.fa 1 (.t 3))⟩,⟨some 48,(some (46,false)),.l (.ld1 (.t 47))⟩,⟨some 49,(some (46,false)),.q (.bin .eql true (.t 48) (.i 64))⟩,⟨some 50,(some (32,true)),.pick (.t 46) (.k (.bool true)) (.t 49)⟩,.a 51 (.pick (.t 32) (.t 50) (.k (.bool false))),.v 4 51])) .ret
@[go_sem ↓] theorem aJB:aO kG:=aQ _
def mK:PC:=.seq (.gh (.reg [.v 54 5,.v 55 54,⟨some 56,(some (55,true)),.q (.fa 1 (.t 3))⟩,⟨some 57,(some (55,true)),.l (.ld1 (.t 56))⟩,⟨some 58,(some (55,true)),.q (.bin .eql true (.t 57) (.i 8))⟩,⟨some 59,(some (55,true)),.q (.mv (.t 58))⟩,⟨some 60,(some (59,false)),.q (.fa 1 (.t 3))⟩,⟨some 61,(some (59,false)),.l (.ld1 (.t 60))⟩,⟨some 62,(some (59,false)),.q (.bin .eql true (.t 61) (.i 16))⟩,⟨some 63,(some (55,true)),.pick (.t 59) (.k (.bool true)) (.t 62)⟩,⟨some 64,(some (55,true)),.q (.mv (.t 63))⟩,⟨some 65,(some (64,false)),.q (.fa 1 (.t 3))⟩,⟨some 66,(some (64,false)),.l (.ld1 (.t 65))⟩,⟨some 67,(some (64,false)),.q (.bin .eql true (.t 66) (.i 32))⟩,⟨some 68,(some (55,true)),.pick (.t 64) (.k (.bool true)) (.t 67)⟩,.a 69 (.pick (.t 55) (.t 68) (.k (.bool false))),.v 4 69])) .ret
@[go_sem ↓] theorem aKN:aO mK:=aQ _
def iC:PC:=.seq (.gh (.reg [.q 85 (.fa 2 (.t 3)),.l 86 (.ld1 (.t 85)),.q 87 (.bin .eql true (.t 86) (.k (.string (mk [])))),.v 88 87,⟨some 89,(some (88,true)),.q (.fa 1 (.t 3))⟩,⟨some 90,(some (88,true)),.l (.ld1 (.t 89))⟩,⟨some 91,(some (88,true)),.q (.bin .geq true (.t 90) (.i 1))⟩,.a 92 (.pick (.t 88) (.t 91) (.k (.bool false))),.v 93 92,⟨some 94,(some (93,true)),.q (.fa 1 (.t 3))⟩,⟨some 95,(some (93,true)),.l (.ld1 (.t 94))⟩,⟨some 96,(some (93,true)),.q (.bin .leq true (.t 95) (.i 32))⟩,.a 97 (.pick (.t 93) (.t 96) (.k (.bool false))),.v 98 97,⟨some 99,(some (98,true)),.q (.fa 3 (.t 3))⟩,⟨some 100,(some (98,true)),.l (.ld1 (.t 99))⟩,⟨some 101,(some (98,true)),.q (.lnL (.t 100))⟩,⟨some 102,(some (98,true)),.q (.bin .eql true (.t 101) (.i 1))⟩,.a 103 (.pick (.t 98) (.t 102) (.k (.bool false))),.v 104 103,⟨some 105,(some (104,true)),.l (.ldn 3 (.t 2))⟩,⟨some 106,(some (104,true)),.q (.fa 3 (.t 3))⟩,⟨some 107,(some (104,true)),.l (.ld1 (.t 106))⟩,⟨some 108,(some (104,true)),.l (.ia 4 (.t 107) (.i 0))⟩,⟨some 109,(some (104,true)),.l (.ldn 4 (.t 108))⟩,⟨some 110,(some (104,true)),.cq 75 [(.t 105),(.t 109)]⟩,.a 111 (.pick (.t 104) (.t 110) (.k (.bool false))),.v 4 111])) .ret
@[go_sem ↓] theorem aFM:aO iC:=aQ _
def x5:PC:=.seq (.gh (.reg [.v 122 7,.v 123 122,⟨some 124,(some (123,true)),.q (.fa 1 (.t 3))⟩,⟨some 125,(some (123,true)),.l (.ld1 (.t 124))⟩,⟨some 126,(some (123,true)),.q (.bin .eql true (.t 125) (.i 0))⟩,.a 127 (.pick (.t 123) (.t 126) (.k (.bool false))),.v 128 127,⟨some 129,(some (128,true)),.q (.fa 3 (.t 3))⟩,⟨some 130,(some (128,true)),.l (.ld1 (.t 129))⟩,⟨some 131,(some (128,true)),.q (.lnL (.t 130))⟩,⟨some 132,(some (128,true)),.q (.bin .eql true (.t 131) (.i 0))⟩,.a 133 (.pick (.t 128) (.t 132) (.k (.bool false))),.v 4 133])) .ret
@[go_sem ↓] theorem aGC:aO x5:=aQ _
def xY:PC:=.seq (.gh (.reg [.q 115 (.fa 0 (.t 2)),.l 116 (.ldn 3 (.t 115)),.q 117 (.fa 2 (.t 3)),.l 118 (.ld1 (.t 117)),.a 119 (.cl 40 [(.t 116),(.t 118)] []),.v 114 119,.q 120 (.ex (.t 114) 0),.q 121 (.ex (.t 114) 1),.e 6 (.al (.agg #[(.string (mk [])),(.slice none 0 0)]) 48),.s (.st 2 (.t 6) (.t 120)),.v 7 121])) (x5)
@[go_sem ↓] theorem aF8:aO xY:=aQ _
def vV:PC:=.seq (.gh (.reg [.v 144 9,.v 145 144,⟨some 146,(some (145,true)),.q (.fa 1 (.t 3))⟩,⟨some 147,(some (145,true)),.l (.ld1 (.t 146))⟩,⟨some 148,(some (145,true)),.q (.bin .eql true (.t 147) (.i 0))⟩,.a 149 (.pick (.t 145) (.t 148) (.k (.bool false))),.v 150 149,⟨some 151,(some (150,true)),.q (.fa 3 (.t 3))⟩,⟨some 152,(some (150,true)),.l (.ld1 (.t 151))⟩,⟨some 153,(some (150,true)),.q (.lnL (.t 152))⟩,⟨some 154,(some (150,true)),.q (.bin .eql true (.t 153) (.i 0))⟩,.a 155 (.pick (.t 150) (.t 154) (.k (.bool false))),.v 4 155])) .ret
@[go_sem ↓] theorem aF0:aO vV:=aQ _
def yI:PC:=.seq (.gh (.reg [.q 137 (.fa 0 (.t 2)),.l 138 (.ldn 3 (.t 137)),.q 139 (.fa 2 (.t 3)),.l 140 (.ld1 (.t 139)),.a 141 (.cl 113 [(.t 138),(.t 140)] []),.v 136 141,.q 142 (.ex (.t 136) 0),.q 143 (.ex (.t 136) 1),.e 8 (.al (.agg #[(.string (mk [])),(.slice none 0 0),(.slice none 0 0)]) 118),.s (.st 3 (.t 8) (.t 142)),.v 9 143])) (vV)
@[go_sem ↓] theorem aFV:aO yI:=aQ _
def w3:PC:=.seq (.gh (.reg [.q 135 (.bin .eql true (.t 20) (.i 7)),.v 134 135])) (.cond (.t 134) (yI) .skip)
@[go_sem ↓] theorem aE4:aO w3:=aQ _
def wD:PC:=.seq (.gh (.reg [.q 113 (.bin .eql true (.t 20) (.i 6)),.v 112 113])) (.cond (.t 112) (xY) (w3))
@[go_sem ↓] theorem aFP:aO wD:=aQ _
def xN:PC:=.seq (.gh (.reg [.q 84 (.bin .eql true (.t 20) (.i 5)),.v 83 84])) (.cond (.t 83) (iC) (wD))
@[go_sem ↓] theorem aEV:aO xN:=aQ _
def CX:PC:=.seq (.gh (.reg [.q 71 (.bin .eql true (.t 20) (.i 4)),.v 70 71])) (.cond (.t 70) (.seq (.reg [.v 72 5,.v 73 72,⟨some 74,(some (73,true)),.q (.fa 1 (.t 3))⟩,⟨some 75,(some (73,true)),.l (.ld1 (.t 74))⟩,⟨some 76,(some (73,true)),.q (.bin .geq true (.t 75) (.i 1))⟩,.a 77 (.pick (.t 73) (.t 76) (.k (.bool false))),.v 78 77,⟨some 79,(some (78,true)),.q (.fa 1 (.t 3))⟩,⟨some 80,(some (78,true)),.l (.ld1 (.t 79))⟩,⟨some 81,(some (78,true)),.q (.bin .leq true (.t 80) (.i 2000))⟩,.a 82 (.pick (.t 78) (.t 81) (.k (.bool false))),.v 4 82]) .ret) (xN))
@[go_sem ↓] theorem aGR:aO CX:=aQ _
def BC:PC:=.seq (.gh (.reg [.q 53 (.bin .eql true (.t 20) (.i 3)),.v 52 53])) (.cond (.t 52) (mK) (CX))
@[go_sem ↓] theorem aHG:aO BC:=aQ _
def DJ:PC:=.seq (.gh (.reg [.q 30 (.bin .eql true (.t 20) (.i 2)),.v 29 30])) (.cond (.t 29) (kG) (BC))
@[go_sem ↓] theorem aIA:aO DJ:=aQ _
def YA:PC:=.seq (.reg [.e 2 (.bx 93 (.t 0)),.e 3 (.bx 42 (.t 1)),.q 4 (.mv (.k (.bool false)))]) (.seq (.reg [.q 10 (.fa 2 (.t 3)),.l 11 (.ld1 (.t 10)),.q 12 (.bin .eql true (.t 11) (.k (.string (mk [])))),.v 13 12,⟨some 14,(some (13,true)),.q (.fa 3 (.t 3))⟩,⟨some 15,(some (13,true)),.l (.ld1 (.t 14))⟩,⟨some 16,(some (13,true)),.q (.lnL (.t 15))⟩,⟨some 17,(some (13,true)),.q (.bin .eql true (.t 16) (.i 0))⟩,.a 18 (.pick (.t 13) (.t 17) (.k (.bool false))),.v 5 18]) (.seq (.seq (.reg [.q 19 (.fa 0 (.t 3)),.l 20 (.ld1 (.t 19))]) (.block 0 (.seq (.reg [.q 22 (.bin .eql true (.t 20) (.i 1)),.v 21 22]) (.cond (.t 21) (.seq (.reg [.v 23 5,.v 24 23,⟨some 25,(some (24,true)),.q (.fa 1 (.t 3))⟩,⟨some 26,(some (24,true)),.l (.ld1 (.t 25))⟩,⟨some 27,(some (24,true)),.q (.bin .eql true (.t 26) (.i 0))⟩,.a 28 (.pick (.t 24) (.t 27) (.k (.bool false))),.v 4 28]) .ret) (DJ))))) (.seq (.reg [.q 4 (.mv (.k (.bool false)))]) .ret)))
def XY:List RV:=[.mv (.t 4)]
theorem aIV:aS Tryz.prog true ⟨fun r k=>if r=12/\k=25 then .q else .own [],fun r=>[5,6,7,8,9,11,12,13,14,15,16,17,18].contains r⟩ Tryz.f75=some (YA,XY):=by kernel_rfl
def D7:PC:=.gh (.reg [.q 29 (.fa 1 (.t 5)),.l 30 (.ld1 (.t 29)),.q 31 (.bin .eql true (.t 30) (.i 0)),.v 32 31,⟨some 33,(some (32,false)),.q (.fa 1 (.t 5))⟩,⟨some 34,(some (32,false)),.l (.ld1 (.t 33))⟩,⟨some 35,(some (32,false)),.q (.bin .eql true (.t 34) (.i 1))⟩,.a 36 (.pick (.t 32) (.k (.bool true)) (.t 35)),.v 7 36])
@[go_sem ↓] theorem aIT:aO D7:=aQ _
def uQ:PC:=.gh (.reg [.q 39 (.fa 1 (.t 4)),.l 40 (.ld1 (.t 39)),.q 41 (.bin .eql true (.t 40) (.i 64)),.v 42 41,⟨some 43,(some (42,false)),.q (.fa 1 (.t 5))⟩,⟨some 44,(some (42,false)),.l (.ld1 (.t 43))⟩,⟨some 45,(some (42,false)),.q (.fa 1 (.t 4))⟩,⟨some 46,(some (42,false)),.l (.ld1 (.t 45))⟩,⟨some 47,(some (42,false)),.q (.bin .sub true (.t 46) (.i 1))⟩,⟨some 48,(some (42,false)),.q (.bin .shl true (.i (-1)) (.t 47))⟩,⟨some 49,(some (42,false)),.q (.bin .geq true (.t 44) (.t 48))⟩,⟨some 50,(some (42,false)),.q (.mv (.t 49))⟩,⟨some 51,(some (50,true)),.q (.fa 1 (.t 5))⟩,⟨some 52,(some (50,true)),.l (.ld1 (.t 51))⟩,⟨some 53,(some (50,true)),.q (.fa 1 (.t 4))⟩,⟨some 54,(some (50,true)),.l (.ld1 (.t 53))⟩,⟨some 55,(some (50,true)),.q (.bin .sub true (.t 54) (.i 1))⟩,⟨some 56,(some (50,true)),.q (.bin .shl true (.i 1) (.t 55))⟩,⟨some 57,(some (50,true)),.q (.bin .lss true (.t 52) (.t 56))⟩,⟨some 58,(some (42,false)),.pick (.t 50) (.t 57) (.k (.bool false))⟩,.a 59 (.pick (.t 42) (.k (.bool true)) (.t 58)),.v 7 59])
@[go_sem ↓] theorem aJS:aO uQ:=aQ _
def v7:PC:=.gh (.reg [.q 62 (.fa 1 (.t 5)),.l 63 (.ld1 (.t 62)),.q 64 (.bin .geq true (.t 63) (.i 0)),.v 65 64,⟨some 66,(some (65,true)),.q (.fa 1 (.t 5))⟩,⟨some 67,(some (65,true)),.l (.ld1 (.t 66))⟩,⟨some 68,(some (65,true)),.q (.fa 1 (.t 4))⟩,⟨some 69,(some (65,true)),.l (.ld1 (.t 68))⟩,⟨some 70,(some (65,true)),.q (.bin .shl true (.i 1) (.t 69))⟩,⟨some 71,(some (65,true)),.q (.bin .lss true (.t 67) (.t 70))⟩,.a 72 (.pick (.t 65) (.t 71) (.k (.bool false))),.v 7 72])
@[go_sem ↓] theorem aF6:aO v7:=aQ _
def x9:PC:=.gh (.reg [.q 83 (.fa 2 (.t 8)),.l 84 (.ld1 (.t 83)),.q 85 (.mf 115 [(.t 5)]),.a 86 (.cl 114 [(.t 84),(.t 85)] [2]),.v 7 86])
@[go_sem ↓] theorem aFE:aO x9:=aQ _
def x6:PC:=.seq (.gh (.reg [.q 76 (.fa 0 (.t 3)),.l 77 (.ldn 3 (.t 76)),.q 78 (.fa 2 (.t 4)),.l 79 (.ld1 (.t 78)),.a 80 (.cl 113 [(.t 77),(.t 79)] []),.v 75 80,.q 81 (.ex (.t 75) 0),.q 82 (.ex (.t 75) 1),.e 8 (.al (.agg #[(.string (mk [])),(.slice none 0 0),(.slice none 0 0)]) 118),.s (.st 3 (.t 8) (.t 81)),.v 9 82])) (x9)
@[go_sem ↓] theorem aEX:aO x6:=aQ _
def xP:PC:=.seq (.gh (.reg [.q 74 (.bin .eql true (.t 26) (.i 7)),.v 73 74])) (.cond (.t 73) (x6) .skip)
@[go_sem ↓] theorem aF4:aO xP:=aQ _
def DK:PC:=.seq (.gh (.reg [.q 61 (.bin .eql true (.t 26) (.i 3)),.v 60 61])) (.cond (.t 60) (v7) (xP))
@[go_sem ↓] theorem aHW:aO DK:=aQ _
def BT:PC:=.seq (.gh (.reg [.q 38 (.bin .eql true (.t 26) (.i 2)),.v 37 38])) (.cond (.t 37) (uQ) (DK))
@[go_sem ↓] theorem aG0:aO BT:=aQ _
def gQ:PC:=.seq (.seq (.gh (.reg [.v 87 7,.q 88 (.not (.t 87))])) (.cond (.t 88) (.seq (.reg [.q 6 (.mv (.i 4))]) .ret) .skip)) (.seq (.reg [.q 6 (.mv (.i 0))]) .ret)
@[go_sem ↓] theorem aFB:aO gQ:=aQ _
def DB:PC:=.seq (.reg [.e 3 (.bx 93 (.t 0)),.e 4 (.bx 42 (.t 1)),.e 5 (.bx 29 (.t 2)),.q 6 (.mv (.i 0))]) (.seq (.seq (.reg [.q 10 (.fa 2 (.t 5)),.l 11 (.ld1 (.t 10)),.q 12 (.bin .neq true (.t 11) (.k (.string (mk [])))),.v 13 12,⟨some 14,(some (13,false)),.q (.fa 3 (.t 5))⟩,⟨some 15,(some (13,false)),.l (.ld1 (.t 14))⟩,⟨some 16,(some (13,false)),.q (.lnL (.t 15))⟩,⟨some 17,(some (13,false)),.q (.bin .gtr true (.t 16) (.i 0))⟩,.a 18 (.pick (.t 13) (.k (.bool true)) (.t 17)),.v 19 18,⟨some 20,(some (19,false)),.q (.fa 4 (.t 5))⟩,⟨some 21,(some (19,false)),.l (.ld1 (.t 20))⟩,⟨some 22,(some (19,false)),.q (.lnL (.t 21))⟩,⟨some 23,(some (19,false)),.q (.bin .gtr true (.t 22) (.i 0))⟩,.a 24 (.pick (.t 19) (.k (.bool true)) (.t 23))]) (.cond (.t 24) (.seq (.reg [.q 6 (.mv (.i 13))]) .ret) .skip)) (.seq (.reg [.q 7 (.mv (.k (.bool false)))]) (.seq (.seq (.reg [.q 25 (.fa 0 (.t 4)),.l 26 (.ld1 (.t 25))]) (.block 0 (.seq (.reg [.q 28 (.bin .eql true (.t 26) (.i 1)),.v 27 28]) (.cond (.t 27) (D7) (BT))))) (gQ))))
def DA:List RV:=[.mv (.t 6)]
theorem aIR:aS Tryz.prog true ⟨fun r k=>if r=13/\k=3 then .own [2] else .own [],fun r=>[7,9,11,12,14,6,8,10,13].contains r⟩ Tryz.f76=some (DB,DA):=by kernel_rfl
def XW:PC:=.seq (.reg [.e 3 (.bx 93 (.t 0)),.e 4 (.bx 42 (.t 1)),.e 5 (.bx 29 (.t 2)),.q 6 (.mv (.i 0))]) (.seq (.block 0 (.seq (.reg [.q 8 (.fa 1 (.t 5)),.l 9 (.ld1 (.t 8)),.q 10 (.bin .neq true (.t 9) (.i 0)),.v 11 10,⟨some 12,(some (11,false)),.q (.fa 3 (.t 5))⟩,⟨some 13,(some (11,false)),.l (.ld1 (.t 12))⟩,⟨some 14,(some (11,false)),.q (.lnL (.t 13))⟩,⟨some 15,(some (11,false)),.q (.bin .gtr true (.t 14) (.i 0))⟩,.a 16 (.pick (.t 11) (.k (.bool true)) (.t 15)),.v 17 16,⟨some 18,(some (17,false)),.q (.fa 4 (.t 5))⟩,⟨some 19,(some (17,false)),.l (.ld1 (.t 18))⟩,⟨some 20,(some (17,false)),.q (.lnL (.t 19))⟩,⟨some 21,(some (17,false)),.q (.bin .gtr true (.t 20) (.i 0))⟩,.a 22 (.pick (.t 17) (.k (.bool true)) (.t 21)),.v 7 22]) (.cond (.t 7) (.seq (.reg [.q 6 (.mv (.i 13))]) .ret) (.seq (.reg [.q 24 (.fa 2 (.t 5)),.l 25 (.ld1 (.t 24)),.q 26 (.lnS (.t 25)),.q 27 (.fa 1 (.t 4)),.l 28 (.ld1 (.t 27)),.q 29 (.bin .gtr true (.t 26) (.t 28)),.v 23 29]) (.cond (.t 23) (.seq (.reg [.q 6 (.mv (.i 3))]) .ret) .skip))))) (.seq (.reg [.q 6 (.mv (.i 0))]) .ret))
def WW:List RV:=[.mv (.t 6)]
theorem aGW:aS Tryz.prog true ⟨fun _ _=>.own [],fun _=>false⟩ Tryz.f77=some (XW,WW):=by kernel_rfl
def IH:PC:=.seq (.reg [.e 3 (.bx 93 (.t 0)),.e 4 (.bx 42 (.t 1)),.e 5 (.bx 29 (.t 2)),.q 6 (.mv (.i 0))]) (.seq (.block 0 (.seq (.reg [.q 11 (.fa 1 (.t 5)),.l 12 (.ld1 (.t 11)),.q 13 (.bin .neq true (.t 12) (.i 0)),.v 14 13,⟨some 15,(some (14,false)),.q (.fa 2 (.t 5))⟩,⟨some 16,(some (14,false)),.l (.ld1 (.t 15))⟩,⟨some 17,(some (14,false)),.q (.bin .neq true (.t 16) (.k (.string (mk []))))⟩,.a 18 (.pick (.t 14) (.k (.bool true)) (.t 17)),.v 19 18,⟨some 20,(some (19,false)),.q (.fa 4 (.t 5))⟩,⟨some 21,(some (19,false)),.l (.ld1 (.t 20))⟩,⟨some 22,(some (19,false)),.q (.lnL (.t 21))⟩,⟨some 23,(some (19,false)),.q (.bin .gtr true (.t 22) (.i 0))⟩,.a 24 (.pick (.t 19) (.k (.bool true)) (.t 23)),.v 10 24]) (.cond (.t 10) (.seq (.reg [.q 6 (.mv (.i 13))]) .ret) (.seq (.reg [.q 26 (.fa 3 (.t 5)),.l 27 (.ld1 (.t 26)),.q 28 (.lnL (.t 27)),.q 29 (.fa 1 (.t 4)),.l 30 (.ld1 (.t 29)),.q 31 (.bin .gtr true (.t 28) (.t 30)),.v 25 31]) (.cond (.t 25) (.seq (.reg [.q 6 (.mv (.i 3))]) .ret) .skip))))) (.seq (.seq (.reg [.q 32 (.fa 3 (.t 5)),.l 33 (.ld1 (.t 32)),.q 34 (.lnL (.t 33)),.q 35 (.mv (.i 0))]) (.block 1 (.loop (.seq (.reg [.q 36 (.bin .lss true (.t 35) (.t 34))]) (.seq (.cond (.t 36) .skip (.exit 1)) (.seq (.block 2 (.seq (.reg [.l 37 (.ia 5 (.t 33) (.t 35)),.l 38 (.ldn 5 (.t 37)),.e 8 (.al (.agg #[(.int .i64 0),(.int .i64 0),(.string (mk [])),(.slice none 0 0),(.slice none 0 0)]) 29),.s (.st 5 (.t 8) (.t 38))]) (.seq (.reg [.l 39 (.ldn 3 (.t 3)),.q 40 (.fa 3 (.t 4)),.l 41 (.ld1 (.t 40)),.l 42 (.ia 4 (.t 41) (.i 0)),.l 43 (.ldn 4 (.t 42)),.l 44 (.ldn 5 (.t 8)),.a 45 (.cq 42 [(.t 39),(.t 43),(.t 44)]),.v 9 45]) (.seq (.reg [.v 46 9,.q 47 (.bin .neq true (.t 46) (.i 0))]) (.cond (.t 47) (.seq (.reg [.v 48 9,.v 6 48]) .ret) .skip))))) (.reg [.q 49 (.bin .add true (.t 35) (.i 1)),.v 35 49]))))))) (.seq (.reg [.q 6 (.mv (.i 0))]) .ret)))
def HE:List RV:=[.mv (.t 6)]
theorem aHI:aS Tryz.prog true ⟨fun r k=>if r=8/\k=6 then .q else .own [],fun _=>false⟩ Tryz.f78=some (IH,HE):=by kernel_rfl
def vQ:PC:=.seq (.gh (.reg [.v 63 13,.q 64 (.bin .neq true (.t 63) (.i 0))])) (.cond (.t 64) (.seq (.reg [.v 65 13,.v 6 65]) .ret) .skip)
@[go_sem ↓] theorem aHY:aO vQ:=aQ _
def BQ:PC:=.seq (.gh (.reg [.l 57 (.ldn 3 (.t 3)),.q 58 (.fa 2 (.t 11)),.l 59 (.ldn 4 (.t 58)),.q 60 (.fa 1 (.t 10)),.l 61 (.ldn 5 (.t 60)),.a 62 (.cq 42 [(.t 57),(.t 59),(.t 61)]),.v 13 62])) (vQ)
@[go_sem ↓] theorem aI0:aO BQ:=aQ _
def DR:PC:=.seq (.gh (.reg [.l 51 (.ldn 2 (.t 7)),.q 52 (.fa 0 (.t 10)),.l 53 (.ld1 (.t 52)),.a 54 (.cl 54 [(.t 51),(.t 53)] []),.v 50 54,.q 55 (.ex (.t 50) 0),.q 56 (.ex (.t 50) 1),.e 11 (.al (.agg #[(.int .i64 0),(.string (mk [])),(.int .i64 0),(.int .i64 0),(.string (mk [])),(.slice none 0 0),(.bool false)]) 52),.s (.st 7 (.t 11) (.t 55)),.v 12 56])) (BQ)
@[go_sem ↓] theorem aGP:aO DR:=aQ _
def vN:PC:=.seq (.seq (.gh (.reg [.q 22 (.fa 1 (.t 5)),.l 23 (.ld1 (.t 22)),.q 24 (.bin .neq true (.t 23) (.i 0)),.v 25 24,⟨some 26,(some (25,false)),.q (.fa 2 (.t 5))⟩,⟨some 27,(some (25,false)),.l (.ld1 (.t 26))⟩,⟨some 28,(some (25,false)),.q (.bin .neq true (.t 27) (.k (.string (mk []))))⟩,.a 29 (.pick (.t 25) (.k (.bool true)) (.t 28)),.v 30 29,⟨some 31,(some (30,false)),.q (.fa 3 (.t 5))⟩,⟨some 32,(some (30,false)),.l (.ld1 (.t 31))⟩,⟨some 33,(some (30,false)),.q (.lnL (.t 32))⟩,⟨some 34,(some (30,false)),.q (.bin .gtr true (.t 33) (.i 0))⟩,.a 35 (.pick (.t 30) (.k (.bool true)) (.t 34)),.v 36 35,⟨some 37,(some (36,false)),.l (.ldn 2 (.t 7))⟩,⟨some 38,(some (36,false)),.q (.fa 4 (.t 5))⟩,⟨some 39,(some (36,false)),.l (.ld1 (.t 38))⟩,⟨some 40,(some (36,false)),.cq 116 [(.t 37),(.t 39)]⟩,⟨some 41,(some (36,false)),.q (.not (.t 40))⟩,.a 42 (.pick (.t 36) (.k (.bool true)) (.t 41))])) (.cond (.t 42) (.seq (.reg [.q 6 (.mv (.i 13))]) .ret) .skip)) (.seq (.seq (.reg [.q 43 (.fa 4 (.t 5)),.l 44 (.ld1 (.t 43)),.q 45 (.lnL (.t 44)),.q 46 (.mv (.i 0))]) (.block 0 (.loop (.seq (.reg [.q 47 (.bin .lss true (.t 46) (.t 45))]) (.seq (.cond (.t 47) .skip (.exit 0)) (.seq (.block 1 (.seq (.reg [.l 48 (.ia 6 (.t 44) (.t 46)),.l 49 (.ldn 6 (.t 48)),.e 10 (.al (.agg #[(.int .i64 0),(.int .i64 0),(.int .i64 0),(.string (mk [])),(.slice none 0 0),(.slice none 0 0)]) 76),.s (.st 6 (.t 10) (.t 49))]) (DR))) (.reg [.q 66 (.bin .add true (.t 46) (.i 1)),.v 46 66]))))))) (.seq (.reg [.q 6 (.mv (.i 0))]) .ret))
@[go_sem ↓] theorem aHK:aO vN:=aQ _
def XM:PC:=.seq (.reg [.e 3 (.bx 93 (.t 0)),.e 4 (.bx 42 (.t 1)),.e 5 (.bx 29 (.t 2)),.q 6 (.mv (.i 0))]) (.seq (.reg [.q 15 (.fa 0 (.t 3)),.l 16 (.ldn 3 (.t 15)),.q 17 (.fa 2 (.t 4)),.l 18 (.ld1 (.t 17)),.a 19 (.cl 40 [(.t 16),(.t 18)] []),.v 14 19,.q 20 (.ex (.t 14) 0),.q 21 (.ex (.t 14) 1),.e 7 (.al (.agg #[(.string (mk [])),(.slice none 0 0)]) 48),.s (.st 2 (.t 7) (.t 20)),.v 8 21]) (vN))
def Y5:List RV:=[.mv (.t 6)]
theorem aII:aS Tryz.prog true ⟨fun r k=>if r=2/\k=18 then .q else if r=8/\k=5 then .q else .own [],fun r=>[2,7,8,9].contains r⟩ Tryz.f79=some (XM,Y5):=by kernel_rfl
def B3:PC:=.seq (.reg [.e 3 (.bx 93 (.t 0)),.e 4 (.bx 42 (.t 1)),.e 6 (.al (.agg #[(.int .i64 0),(.int .i64 0),(.string (mk [])),(.slice none 0 0),(.slice none 0 0)]) 29)]) (.seq (.seq (.reg [.v 12 2,.q 13 (.bin .lss true (.t 12) (.i 0)),.v 14 13,⟨some 15,(some (14,false)),.l (.ldn 3 (.t 3))⟩,⟨some 16,(some (14,false)),.l (.ldn 4 (.t 4))⟩,⟨some 17,(some (14,false)),.cq 75 [(.t 15),(.t 16)]⟩,⟨some 18,(some (14,false)),.q (.not (.t 17))⟩,.a 19 (.pick (.t 14) (.k (.bool true)) (.t 18))]) (.cond (.t 19) (.seq (.reg [.q 20 (.bd [(.int .i64 0),(.int .i64 0),(.string (mk [])),(.slice none 0 0),(.slice none 0 0)] []),.s (.st 5 (.t 6) (.t 20))]) .ret) .skip)) (.seq (.reg [.q 21 (.fa 0 (.t 4)),.l 22 (.ld1 (.t 21)),.q 23 (.bd [(.int .i64 0),(.int .i64 0),(.string (mk [])),(.slice none 0 0),(.slice none 0 0)] [(0,1,(.t 22))]),.e 7 (.al (.agg #[(.int .i64 0),(.int .i64 0),(.string (mk [])),(.slice none 0 0),(.slice none 0 0)]) 29),.s (.st 5 (.t 7) (.t 23))]) (.seq (.seq (.reg [.q 24 (.fa 0 (.t 4)),.l 25 (.ld1 (.t 24)),.q 26 (.bin .neq true (.t 25) (.i 6))]) (.cond (.t 26) (.seq (.reg [.l 27 (.ldn 5 (.t 7)),.s (.st 5 (.t 6) (.t 27))]) .ret) .skip)) (.seq (.reg [.q 29 (.fa 0 (.t 3)),.l 30 (.ldn 3 (.t 29)),.q 31 (.fa 2 (.t 4)),.l 32 (.ld1 (.t 31)),.a 33 (.cl 40 [(.t 30),(.t 32)] []),.v 28 33,.q 34 (.ex (.t 28) 0),.q 35 (.ex (.t 28) 1),.e 8 (.al (.agg #[(.string (mk [])),(.slice none 0 0)]) 48),.s (.st 2 (.t 8) (.t 34)),.v 9 35]) (.seq (.seq (.reg [.q 36 (.fa 1 (.t 8)),.l 37 (.ld1 (.t 36)),.q 38 (.lnL (.t 37)),.q 39 (.mv (.i 0))]) (.block 0 (.loop (.seq (.reg [.q 40 (.bin .lss true (.t 39) (.t 38))]) (.seq (.cond (.t 40) .skip (.exit 0)) (.seq (.block 1 (.seq (.reg [.l 41 (.ia 7 (.t 37) (.t 39)),.l 42 (.ldn 7 (.t 41)),.e 11 (.al (.agg #[(.int .i64 0),(.string (mk [])),(.int .i64 0),(.int .i64 0),(.string (mk [])),(.slice none 0 0),(.bool false)]) 52),.s (.st 7 (.t 11) (.t 42))]) (.seq (.reg [.q 43 (.fa 6 (.t 11)),.l 44 (.ld1 (.t 43)),.q 45 (.not (.t 44))]) (.cond (.t 45) (.ord  [.q (.q 46 (.fa 4 (.t 7))),.q (.l 47 (.ld1 (.t 46))),.q (.q 48 (.fa 0 (.t 11))),.q (.l 49 (.ld1 (.t 48))),.q (.l 50 (.ldn 3 (.t 3))),.q (.q 51 (.fa 2 (.t 11))),.q (.l 52 (.ldn 4 (.t 51))),.q (.v 53 2),.q (.q 54 (.bin .sub true (.t 53) (.i 1))),.m (.a 55 (.cl 83 [(.t 50),(.t 52),(.t 54)] [])),.rc (.q 46 (.fa 4 (.t 7))),.rc (.l 47 (.ld1 (.t 46))),.rc (.q 48 (.fa 0 (.t 11))),.rc (.l 49 (.ld1 (.t 48))),.q (.q 56 (.bd [(.int .i64 0),(.int .i64 0),(.int .i64 0),(.string (mk [])),(.slice none 0 0),(.slice none 0 0)] [(0,1,(.t 49)),(1,5,(.t 55))])),.m (.e 57 (.bsl 76 6 [(.t 56)])),.rc (.q 46 (.fa 4 (.t 7))),.rc (.l 47 (.ld1 (.t 46))),.m (.e 58 (.ap 76 6 88 (.t 47) (.t 57))),.q (.q 59 (.fa 4 (.t 7))),.m (.s (.st 1 (.t 59) (.t 58)))]) .skip)))) (.reg [.q 60 (.bin .add true (.t 39) (.i 1)),.v 39 60]))))))) (.seq (.reg [.l 61 (.ldn 5 (.t 7)),.s (.st 5 (.t 6) (.t 61))]) .ret))))))
def EG:List RV:=[.ld (.ldn 5 (.t 6))]
theorem aJ0:aS Tryz.prog true ⟨fun r k=>if r=1/\k=5 then .q else .own [],fun _=>false⟩ Tryz.f83=some (B3,EG):=by kernel_rfl
def QM:PC:=.seq (.reg [.q 3 (.mv (.k (.bool false)))]) (.seq (.reg [.v 4 0,.q 5 (.fa 1 (.t 1)),.l 6 (.ld1 (.t 5)),.q 7 (.bin .eql true (.t 4) (.t 6)),.v 3 7]) .ret)
def RW:List RV:=[.mv (.t 3)]
theorem aCM:aS Tryz.prog true ⟨fun _ _=>.own [],fun _=>false⟩ Tryz.f115=some (QM,RW):=by kernel_rfl
def kA:PC:=.seq (.gh (.reg [.v 25 8,.q 26 (.not (.t 25)),.v 27 26,⟨some 28,(some (27,false)),.q (.mv (.t 5))⟩,⟨some 29,(some (27,false)),.q (.bin .gtr true (.t 28) (.i 0))⟩,⟨some 30,(some (27,false)),.q (.mv (.t 29))⟩,⟨some 31,(some (30,true)),.q (.mv (.t 1))⟩,⟨some 32,(some (30,true)),.q (.mv (.t 5))⟩,⟨some 33,(some (30,true)),.q (.bin .sub true (.t 32) (.i 1))⟩,⟨some 34,(some (30,true)),.l (.ia 6 (.t 31) (.t 33))⟩,⟨some 35,(some (30,true)),.q (.fa 0 (.t 34))⟩,⟨some 36,(some (30,true)),.l (.ld1 (.t 35))⟩,⟨some 37,(some (30,true)),.q (.fa 0 (.t 6))⟩,⟨some 38,(some (30,true)),.l (.ld1 (.t 37))⟩,⟨some 39,(some (30,true)),.q (.bin .geq true (.t 36) (.t 38))⟩,⟨some 40,(some (27,false)),.pick (.t 30) (.t 39) (.k (.bool false))⟩,.a 41 (.pick (.t 27) (.k (.bool true)) (.t 40))])) (.cond (.t 41) (.seq (.reg [.q 4 (.mv (.k (.bool false)))]) .ret) .skip)
@[go_sem ↓] theorem aFN:aO kA:=aQ _
def wA:PC:=.seq (.gh (.reg [.l 19 (.ldn 2 (.t 2)),.q 20 (.fa 0 (.t 6)),.l 21 (.ld1 (.t 20)),.a 22 (.cl 54 [(.t 19),(.t 21)] []),.v 18 22,.q 23 (.ex (.t 18) 0),.q 24 (.ex (.t 18) 1),.e 7 (.al (.agg #[(.int .i64 0),(.string (mk [])),(.int .i64 0),(.int .i64 0),(.string (mk [])),(.slice none 0 0),(.bool false)]) 52),.s (.st 7 (.t 7) (.t 23)),.v 8 24])) (kA)
@[go_sem ↓] theorem aE8:aO wA:=aQ _
def nG:PC:=.seq (.gh (.reg [.q 50 (.fa 6 (.t 10)),.l 51 (.ld1 (.t 50)),.q 52 (.not (.t 51)),.v 53 52,⟨some 54,(some (53,true)),.q (.mv (.t 1))⟩,⟨some 55,(some (53,true)),.q (.mf 151 [(.t 10)])⟩,⟨some 56,(some (53,true)),.cl 150 [(.t 54),(.t 55)] [1]⟩,⟨some 57,(some (53,true)),.q (.not (.t 56))⟩,.a 58 (.pick (.t 53) (.t 57) (.k (.bool false)))])) (.cond (.t 58) (.seq (.reg [.q 4 (.mv (.k (.bool false)))]) .ret) .skip)
@[go_sem ↓] theorem aB1:aO nG:=aQ _
def xQ:PC:=.seq (.seq (.gh (.reg [.q 43 (.fa 1 (.t 2)),.l 44 (.ld1 (.t 43)),.q 45 (.lnL (.t 44)),.q 46 (.mv (.i 0))])) (.block 2 (.loop (.seq (.reg [.q 47 (.bin .lss true (.t 46) (.t 45))]) (.seq (.cond (.t 47) .skip (.exit 2)) (.seq (.block 3 (.seq (.reg [.l 48 (.ia 7 (.t 44) (.t 46)),.l 49 (.ldn 7 (.t 48)),.e 10 (.al (.agg #[(.int .i64 0),(.string (mk [])),(.int .i64 0),(.int .i64 0),(.string (mk [])),(.slice none 0 0),(.bool false)]) 52),.s (.st 7 (.t 10) (.t 49))]) (nG))) (.reg [.q 59 (.bin .add true (.t 46) (.i 1)),.v 46 59]))))))) (.seq (.reg [.q 4 (.mv (.k (.bool true)))]) .ret)
@[go_sem ↓] theorem aE0:aO xQ:=aQ _
def PZ:PC:=.seq (.reg [.e 2 (.bx 48 (.t 0)),.q 4 (.mv (.k (.bool false)))]) (.seq (.seq (.reg [.v 11 1,.q 12 (.lnL (.t 11)),.q 13 (.mv (.i 0))]) (.block 0 (.loop (.seq (.reg [.q 14 (.bin .lss true (.t 13) (.t 12))]) (.seq (.cond (.t 14) .skip (.exit 0)) (.seq (.block 1 (.seq (.reg [.v 15 13,.l 16 (.ia 6 (.t 11) (.t 13)),.l 17 (.ldn 6 (.t 16)),.e 6 (.al (.agg #[(.int .i64 0),(.int .i64 0),(.int .i64 0),(.string (mk [])),(.slice none 0 0),(.slice none 0 0)]) 76),.v 5 15,.s (.st 6 (.t 6) (.t 17))]) (wA))) (.reg [.q 42 (.bin .add true (.t 13) (.i 1)),.v 13 42]))))))) (xQ))
def Q0:List RV:=[.mv (.t 4)]
theorem aCB:aS Tryz.prog true ⟨fun r k=>if r=11/\k=6 then .own [1] else .own [],fun r=>[4,5,8,11].contains r⟩ Tryz.f116=some (PZ,Q0):=by kernel_rfl
def RA:PC:=.seq (.reg [.e 2 (.bx 76 (.t 0)),.q 3 (.mv (.k (.bool false)))]) (.seq (.reg [.q 4 (.fa 0 (.t 2)),.l 5 (.ld1 (.t 4)),.q 6 (.fa 0 (.t 1)),.l 7 (.ld1 (.t 6)),.q 8 (.bin .eql true (.t 5) (.t 7)),.v 3 8]) .ret)
def QN:List RV:=[.mv (.t 3)]
theorem aBX:aS Tryz.prog true ⟨fun _ _=>.own [],fun _=>false⟩ Tryz.f151=some (RA,QN):=by kernel_rfl
def l8 (v:Vl):Bool:=(v.k != 5) && (v.k != 6) && ((v.l.length:Int) == 0) && ((v.f.length:Int) == 0)
def jI (g:Vl->Int) (most:Int) (d:Int) (x:Vl):Int:=bif decide (d<=most) then max d (g x) else d
def mE (g:Vl->Int) (most:Int) (d:Int) (x:Int × Vl):Int:=bif decide (d<=most) then max d (g x.2) else d
def D2 (g:Vl->Int) (most:Int) (v:Vl):Int:=bif l8 v then 0 else 1 + v.f.foldl (mE g most) (v.l.foldl (jI g most) 0)
def oO:Nat->Vl->Int
 | 0=>D2 (fun _=>0) (-1)
 | n + 1=>D2 (oO n) n
def fI:Nat->Vl->Int
 | 0=>fun _=>0
 | n + 1=>oO n
theorem uW (n:Nat):oO n=D2 (fI n) ((n:Int) - 1):=by
 cases n with
 | zero=>rfl
 | succ n=>rw [oO,fI]; congr 1; omega
theorem C1 {g:Vl->Int} {most B:Int} (hg:∀ x,0<=g x/\g x<=B) {d:Int} (h:0<=d/\d<=B) (x:Vl):0<=jI g most d x/\jI g most d x<=B:=by
 unfold jI
 cases decide (d<=most)
 · exact h
 · have:=hg x; show 0<=max d (g x)/\max d (g x)<=B; omega
theorem KI {g:Vl->Int} {most B:Int} (hg:∀ x,0<=g x/\g x<=B) {d:Int} (h:0<=d/\d<=B) (x:Int × Vl):0<=mE g most d x/\mE g most d x<=B:=C1 hg h x.2
theorem mL {α:Type} {f:Int->α->Int} {B:Int} (h:∀ d x,0<=d/\d<=B->0<=f d x/\f d x<=B):∀ (l:List α) (d:Int),0<=d/\d<=B->0<=l.foldl f d/\l.foldl f d<=B
 | [],_,hd=>hd
 | x :: l,d,hd=>mL h l (f d x) (h d x hd)
theorem mN:∀ (n:Nat) (x:Vl),0<=fI n x/\fI n x<=n
 | 0,_=>⟨Int.le_refl _,Int.le_refl _⟩
 | n + 1,x=>by
  rw [fI,uW]
  unfold D2
  have h1:=mL (f:=jI (fI n) ((n:Int) - 1)) (fun d x h=>C1 (mN n) h x) x.l 0 ⟨Int.le_refl _,by omega⟩
  have h2:=mL (f:=mE (fI n) ((n:Int) - 1)) (fun d x h=>KI (mN n) h x) x.f _ h1
  cases l8 x
  · show 0<=1 + _/\1 + _<=_; omega
  · show (0:Int)<=0/\(0:Int)<=_; omega
theorem zQ {α β:Type} {f:β->α->β} {l:List α} {i:Nat} {x:α} (h:l[i]? = some x) (d:β):(l.take (i + 1)).foldl f d=f ((l.take i).foldl f d) x:=by rw [eJ h,List.foldl_append]; rfl
def uV (n:Nat):List S->Prop:=fun av=>match av with
 | [.va (.gs r),.va (.c1 (.vl (.int .i64 k)))]=>0 < n/\kV r/\k=(n:Int) - 2/\n<=100
 | _=>False
theorem iX {n:Nat} {av:List S} (h:uV n av):∃ m v,n=m + 1/\av=[.va (.gs (aN v)),iS .i64 ((m:Int) - 1)]/\VlOk v/\m<=99:=by
 unfold uV at h
 split at h
 · obtain ⟨h0,⟨v,rfl,hv⟩,rfl,hn⟩:=h
   refine ⟨n - 1,v,by omega,?_,hv,by omega⟩
   rw [show (n:Int) - 2=((n - 1:Nat):Int) - 1 by omega]
 · exact h.elim
noncomputable def JH (n:Nat):List S->A:=fun av=>match av with
 | [.va (.gs r),.va (.c1 (.vl (.int .i64 _)))]=>iA .i64 (fI n (C.vv r))
 | _=>.gs []
noncomputable def AY (n:Nat):Fun:=⟨uV n,JH n,fun av h=>by obtain ⟨m,v,_,rfl,_⟩:=iX h; trivial⟩
theorem J9 {n:Nat}:∀ av H K,(AY n).sp av H K->av.length=2:=fun av H K h=>by obtain ⟨m,v,_,rfl,_⟩:=iX h.1.1; rfl
attribute [go_sem] AY uV JH
theorem GQ:∀ n,Meets Tryz.prog 41 (AY n).sp
 | 0=>⟨by kernel_rfl,by rintro xs vs E ro w K _ _ _ ⟨⟨h,_⟩,_⟩; obtain ⟨m,_,h,_⟩:=iX h; omega⟩
 | n + 1=>by
  refine aD Tryz.func41 aG3 2 (by rw [Tryz.ntmps41]; decide) (aH (GQ n) (aB _)) J9 ?_
  rintro av H K ⟨⟨h,rfl⟩,hK⟩
  obtain ⟨m,v,hm,rfl,hv,hm99⟩:=iX h
  obtain rfl:m=n:=by omega
  have hK:K (iS .i64 (oO m v)) []:=by
   have:(AY (m + 1)).val [.va (.gs (aN v)),iS .i64 ((m:Int) - 1)]=iA .i64 (oO m v):=by simp -dsimp only [go_sem,fI]
   rw [this] at hK; exact hK
  clear h hm
  rw [uW] at hK
  unfold D2 at hK
  have hll:=hv.ll
  have hlf:=hv.lf
  have bd1:=fun i=>mL (f:=jI (fI m) ((m:Int) - 1)) (fun d x h=>C1 (mN m) h x) (v.l.take i) 0 ⟨Int.le_refl _,by omega⟩
  have fin:∀ (z:Int) (R:Hp),(bif l8 v then 0 else 1 + v.f.foldl (mE (fI m) ((m:Int) - 1)) (v.l.foldl (jI (fI m) ((m:Int) - 1)) 0))=z->W.Fin 0 K (iS .i64 z) R:=fun z R h=>by
   rw [h] at hK; exact .sel [] (by simp) (by simp) rfl (.done (by simpa [go_sem] using hK))
  clear hK
  cases hsc:l8 v with
  | true=>
   have hs':=hsc
   unfold l8 at hs'
   simp (maxSteps:=1000000) -dsimp only [go_sem,aK v,MG,NC,hs']
   exact fin _ _ (by rw [hsc]; rfl)
  | false=>
   have hs':=hsc
   unfold l8 at hs'
   rw [hsc] at fin
   simp (maxSteps:=1000000) -dsimp only [go_sem,aK v,MG,NC,hs']
   refine aV (α:=Nat) (fun i=>[(1,iS .i64 ((m:Int) - 1)),(2,.va (.c1 (.pt 0 0))),(5,iS .i64 ((v.l.take i).foldl (jI (fI m) ((m:Int) - 1)) 0)),(31,.va (.c1 (.fz (v.l.map aN)))),(32,iS .i64 v.l.length),(33,iS .i64 i)]) (fun _=>[.cells (bE v) 29])
    (fun i=>i<=v.l.length) (fun i=>v.l.length - i) 0 1 (Nat.zero_le _) ?_ ?_ ?_
   · simp -dsimp only [go_sem]<;>simp
   · simp -dsimp only [go_sem,bE]<;>simp
   intro i hi
   rcases bD i v.l.length with hlt | hge
   · have hg:decide ((i:Int) < (v.l.length:Int))=true:=by simp; omega
     obtain ⟨x,hx⟩:∃ t,v.l[i]? = some t:=⟨_,aT hlt⟩
     have q1:=lP hx
     have hxm:=bX hx
     have k1:=c9 (hv.l x hxm)
     have k2:=f7 x
     have ft:=zQ (f:=jI (fI m) ((m:Int) - 1)) hx 0
     have hbd:=bd1 i
     generalize hd:(v.l.take i).foldl (jI (fI m) ((m:Int) - 1)) 0=d at *
     have hgb:=mN m x
     cases hc:decide (d<=(m:Int) - 1) with
     | true=>
      have hm0:0 < m:=by have:=of_decide_eq_true hc; omega
      have he:(m:Int) - 1 - 1=(m:Int) - 2:=by omega
      have hn:m<=100:=by omega
      simp (maxSteps:=1000000) -dsimp only [go_sem,hg,↓q1,bE,k1,k2,hc,he,hm0,hn]
      refine ⟨by omega,by omega,by omega,aF (i + 1) 1 (by omega) (by omega) ?_ ?_⟩
      · simp -dsimp only [go_sem,ft,jI,hc]<;>simp
      · simp -dsimp only [go_sem,bE]<;>simp [bE]
     | false=>
      simp (maxSteps:=1000000) -dsimp only [go_sem,hg,↓q1,bE,hc]
      refine ⟨by omega,by omega,aF (i + 1) 1 (by omega) (by omega) ?_ ?_⟩
      · simp -dsimp only [go_sem,ft,jI,hc]<;>simp
      · simp -dsimp only [go_sem,bE]<;>simp [bE]
   · have hg:decide ((i:Int) < (v.l.length:Int))=false:=by simp; omega
     obtain rfl:i=v.l.length:=by omega
     have hbd:=bd1 v.l.length
     rw [List.take_length] at hbd ⊢
     simp (maxSteps:=1000000) -dsimp only [go_sem,hg,bE]
     generalize v.l.foldl (jI (fI m) ((m:Int) - 1)) 0=D at *
     have bd2:=fun i=>mL (f:=mE (fI m) ((m:Int) - 1)) (fun d x h=>KI (mN m) h x) (v.f.take i) D hbd
     clear hi hge hg bd1
     refine aV (α:=Nat) (fun i=>[(1,iS .i64 ((m:Int) - 1)),(2,.va (.c1 (.pt 0 0))),(5,iS .i64 ((v.f.take i).foldl (mE (fI m) ((m:Int) - 1)) D)),(48,.va (.c1 (.fz (v.f.map bC)))),(49,iS .i64 v.f.length),(50,iS .i64 i)]) (fun _=>[.cells (bE v) 29])
      (fun i=>i<=v.f.length) (fun i=>v.f.length - i) 0 1 (Nat.zero_le _) ?_ ?_ ?_
     · simp -dsimp only [go_sem]<;>simp
     · simp -dsimp only [go_sem,bE]<;>simp
     intro i hi
     rcases bD i v.f.length with hlt | hge
     · have hg:decide ((i:Int) < (v.f.length:Int))=true:=by simp; omega
       obtain ⟨x,hx⟩:∃ t,v.f[i]? = some t:=⟨_,aT hlt⟩
       have q1:=g4 hx
       have hxm:=bX hx
       have k1:=c9 (hv.f x hxm)
       have k2:=f7 x.2
       have ft:=zQ (f:=mE (fI m) ((m:Int) - 1)) hx D
       have hbd2:=bd2 i
       generalize hd:(v.f.take i).foldl (mE (fI m) ((m:Int) - 1)) D=d at *
       have hgb:=mN m x.2
       cases hc:decide (d<=(m:Int) - 1) with
       | true=>
        have hm0:0 < m:=by have:=of_decide_eq_true hc; omega
        have he:(m:Int) - 1 - 1=(m:Int) - 2:=by omega
        have hn:m<=100:=by omega
        simp (maxSteps:=1000000) -dsimp only [go_sem,hg,↓q1,bE,k1,k2,hc,he,hm0,hn]
        refine ⟨by omega,by omega,by omega,aF (i + 1) 1 (by omega) (by omega) ?_ ?_⟩
        · simp -dsimp only [go_sem,ft,mE,hc]<;>simp
        · simp -dsimp only [go_sem,bE]<;>simp [bE]
       | false=>
        simp (maxSteps:=1000000) -dsimp only [go_sem,hg,↓q1,bE,hc]
        refine ⟨by omega,by omega,aF (i + 1) 1 (by omega) (by omega) ?_ ?_⟩
        · simp -dsimp only [go_sem,ft,mE,hc]<;>simp
        · simp -dsimp only [go_sem,bE]<;>simp [bE]
     · have hg:decide ((i:Int) < (v.f.length:Int))=false:=by simp; omega
       obtain rfl:i=v.f.length:=by omega
       have hbd2:=bd2 v.f.length
       rw [List.take_length] at hbd2 ⊢
       simp (maxSteps:=1000000) -dsimp only [go_sem,hg,bE]
       exact ⟨by omega,fin _ _ rfl⟩
theorem tO:∀ N,Meets Tryz.prog 75 (IC N).sp
 | 0=>⟨by kernel_rfl,by rintro xs vs E ro w K _ _ _ ⟨⟨h,_⟩,_⟩; obtain ⟨_,a,_,_,_,h⟩:=jZ h; have:=a.h_pos; omega⟩
 | N + 1=>by
  refine aD Tryz.func75 aIV 2 (by rw [Tryz.ntmps75]; decide) (aH (tO N) (aC iH (aC DH (aB _)))) LT ?_
  rintro av H K ⟨⟨h,rfl⟩,hK⟩
  obtain ⟨sc,t,rfl,hs,ht,hh⟩:=jZ h
  have hK:K (bS (valF sc.ss sc.es t)) []:=by
   have:(IC (N + 1)).val [.va (.gs (aI sc)),.va (.gs (aU t))]=bA (valF sc.ss sc.es t):=by simp -dsimp only [go_sem]
   rw [this] at hK; exact hK
  clear h
  have fin:∀ (b:Bool) (R:Hp),valF sc.ss sc.es t=b->W.Fin 0 K (bS b) R:=fun b R h=>by
   rw [h] at hK
   exact .sel [] (by simp) (by simp) rfl (.done (by simp -dsimp only [go_sem]; simpa using hK))
  clear hK
  cases t with
  | mk k s n e=>
  have hF:=valF.eq_1 sc.ss sc.es k s n e
  simp (maxSteps:=1000000) -dsimp only [go_sem,aI,aU,bH,YA,XY]
  refine ⟨fun k1=>fin _ _ (by rw [hF,k1]; simp only [bL]; ac_rfl),fun k1=>aA rfl (.done ?_)⟩
  rw [k1,aW] at hF
  simp (maxSteps:=1000000) -dsimp only [go_sem,DJ]
  refine ⟨fun k2=>aA rfl (.done ?_),fun k2=>aA rfl (.done ?_)⟩
  · rw [k2,bL] at hF
    have hF':valF sc.ss sc.es (.mk k s n e)=((bl n == [] && (e.length:Int) == 0) && (s == 8 || s == 16 || s == 32 || s == 64)):=by rw [hF]; ac_rfl
    clear hF
    cases hp:(bl n == [] && (e.length:Int) == 0) with
    | false=>
     simp (maxSteps:=1000000) -dsimp only [go_sem,kG]
     exact fin _ _ (by rw [hF',hp]; rfl)
    | true=>
     rw [hp,Bool.true_and] at hF'
     cases h8:s == 8 with
     | true=>
      simp (maxSteps:=1000000) -dsimp only [go_sem,kG,h8]
      exact fin _ _ (by rw [hF',h8]; rfl)
     | false=>
     cases h16:s == 16 with
     | true=>
      simp (maxSteps:=1000000) -dsimp only [go_sem,kG,h8,h16]
      exact fin _ _ (by rw [hF',h8,h16]; rfl)
     | false=>
     cases h32:s == 32 with
     | true=>
      simp (maxSteps:=1000000) -dsimp only [go_sem,kG,h8,h16,h32]
      exact fin _ _ (by rw [hF',h8,h16,h32]; rfl)
     | false=>
      simp (maxSteps:=1000000) -dsimp only [go_sem,kG,h8,h16,h32]
      exact fin _ _ (by rw [hF',h8,h16,h32]; rfl)
  rw [k2,aW] at hF
  simp (maxSteps:=1000000) -dsimp only [go_sem,BC]
  refine ⟨fun k3=>aA rfl (.done ?_),fun k3=>aA rfl (.done ?_)⟩
  · rw [k3] at hF
    simp only [bL,Bool.and_false,Bool.or_false] at hF
    have hF':valF sc.ss sc.es (.mk k s n e)=((bl n == [] && (e.length:Int) == 0) && (s == 8 || s == 16 || s == 32)):=by rw [hF]; ac_rfl
    clear hF
    cases hp:(bl n == [] && (e.length:Int) == 0) with
    | false=>
     simp (maxSteps:=1000000) -dsimp only [go_sem,mK]
     exact fin _ _ (by rw [hF',hp]; rfl)
    | true=>
     rw [hp,Bool.true_and] at hF'
     cases h8:s == 8 with
     | true=>
      simp (maxSteps:=1000000) -dsimp only [go_sem,mK,h8]
      exact fin _ _ (by rw [hF',h8]; rfl)
     | false=>
     cases h16:s == 16 with
     | true=>
      simp (maxSteps:=1000000) -dsimp only [go_sem,mK,h8,h16]
      exact fin _ _ (by rw [hF',h8,h16]; rfl)
     | false=>
      simp (maxSteps:=1000000) -dsimp only [go_sem,mK,h8,h16]
      exact fin _ _ (by rw [hF',h8,h16]; rfl)
  rw [k3,aW] at hF
  simp (maxSteps:=1000000) -dsimp only [go_sem,CX]
  refine ⟨fun k4=>fin _ _ (by rw [hF,k4]; simp only [bL]; ac_rfl),fun k4=>aA rfl (.done ?_)⟩
  rw [k4,aW] at hF
  simp (maxSteps:=1000000) -dsimp only [go_sem,xN]
  refine ⟨fun k5=>aA rfl (.done ?_),fun k5=>aA rfl (.done ?_)⟩
  · rw [k5,bL] at hF
    have no:∀ {R:Hp},(bl n == [])=false\/decide (1<=s)=false\/decide (s<=32)=false\/((e.length:Int) == 1)=false->W.Fin 0 K (bS false) R:=fun h=>fin _ _ (by
     rw [hF]
     rcases h with h | h | h | h
     · rw [h,Bool.and_false,Bool.false_and]
     · rw [h,Bool.false_and,Bool.false_and,Bool.false_and]
     · rw [h,Bool.and_false,Bool.false_and,Bool.false_and]
     · match e,h with
       | [],_=>simp [jX]
       | [u],h=>simp at h
       | u :: v :: r,_=>simp [jX])
    cases h1:bl n == [] with
    | false=>
     simp (maxSteps:=1000000) -dsimp only [go_sem,iC,h1]
     exact no (.inl h1)
    | true=>
    cases h2:decide (1<=s) with
    | false=>
     simp (maxSteps:=1000000) -dsimp only [go_sem,iC,h1,h2]
     exact no (.inr (.inl h2))
    | true=>
    cases h3:decide (s<=32) with
    | false=>
     simp (maxSteps:=1000000) -dsimp only [go_sem,iC,h1,h2,h3]
     exact no (.inr (.inr (.inl h3)))
    | true=>
    cases h4:(e.length:Int) == 1 with
    | false=>
     simp (maxSteps:=1000000) -dsimp only [go_sem,iC,h1,h2,h3,h4]
     exact no (.inr (.inr (.inr h4)))
    | true=>
     have hl1:(e.length:Int)=1:=by simpa using h4
     obtain ⟨u,rfl⟩:∃ u,e=[u]:=List.length_eq_one_iff.1 (by omega)
     have hF':valF sc.ss sc.es (.mk k s n [u])=valF sc.ss sc.es u:=by rw [hF,h1,h2,h3]; simp [jX]
     have hu2:u.h<=N:=by rw [Ty.h,Ty.hs,Ty.hs] at hh; omega
     have hu:o9 (aU u):=mB (ht.e u (by simp [Ty.e]))
     have hsf:=nO hs
     rw [aI] at hsf
     have hsd:=jD sc
     rw [aI] at hsd
     have h4':(((1:Nat):Int) == 1)=true:=rfl
     simp (maxSteps:=1000000) -dsimp only [go_sem,iC,h1,h2,h3,h4']
     refine ⟨⟨by omega,fun r hr=>by subst hr; exact dJ u⟩,fun r hr=>?_⟩
     subst hr
     simp (maxSteps:=1000000) -dsimp only [go_sem,hsf,hsd,hu,dJ]
     exact ⟨hu2,fin _ _ hF'⟩
  rw [k5,aW] at hF
  simp (maxSteps:=1000000) -dsimp only [go_sem,wD]
  refine ⟨fun k6=>aA rfl (.done ?_),fun k6=>aA rfl (.done ?_)⟩
  · rw [k6,bL] at hF
    simp (maxSteps:=1000000) -dsimp only [go_sem,xY]
    refine j8 hs ?_
    simp (maxSteps:=1000000) -dsimp only [go_sem,aJ]
    refine aA rfl (.done ?_)
    cases h1:cB sc.ss n<;>cases h2:s == 0 <;>
    · simp (maxSteps:=1000000) -dsimp only [go_sem,x5,h2]
      exact fin _ _ (by rw [hF,h1,h2]; rfl)
  rw [k6,aW] at hF
  simp (maxSteps:=1000000) -dsimp only [go_sem,w3]
  refine ⟨fun k7=>aA rfl (.done ?_),fun k7=>fin _ _ (by rw [hF,k7]; rfl)⟩
  rw [k7,bL] at hF
  simp (maxSteps:=1000000) -dsimp only [go_sem,yI]
  refine xI hs ?_
  simp (maxSteps:=1000000) -dsimp only [go_sem,aY]
  refine aA rfl (.done ?_)
  cases h1:dC sc.es n<;>cases h2:s == 0 <;>
  · simp (maxSteps:=1000000) -dsimp only [go_sem,vV,h2]
    exact fin _ _ (by rw [hF,h1,h2]; rfl)
theorem rU:Meets Tryz.prog 75 r0Fn.sp:=dH 0 tO fun av H K ⟨⟨h,e⟩,hK⟩=>by
 obtain ⟨a,b,rfl,ha,hb⟩:=tX h
 exact ⟨b.h,⟨⟨⟨nO ha,mB hb,by rw [oT]; exact Nat.le_refl _⟩,e⟩,hK⟩⟩
def fX (s:Sc) (t:Ty) (n:Int):Bool:=
 bif t.k == 1 then n == 0 || n == 1
 else bif t.k == 2 then t.s == 64 || (decide (-(2 ^ (t.s.toNat - 1):Int)<=n) && decide (n < (2 ^ (t.s.toNat - 1):Int)))
 else bif t.k == 3 then decide (0<=n) && decide (n < (2 ^ t.s.toNat:Int))
 else bif t.k == 7 then ((eH s.es t.n).getD default).vs.any fun x=>x == n else false
def n5 (s:Sc) (t:Ty) (n:Int) (str:ByteArray) (ll lf:Int):Int:=bif !(bl str == []) || decide (0 < ll) || decide (0 < lf) then 13 else bif fX s t n then 0 else 4
def m2 (t:Ty) (n:Int) (str:ByteArray) (ll lf:Int):Int:=bif n != 0 || decide (0 < ll) || decide (0 < lf) then 13 else bif decide (t.s < ((bl str).length:Int)) then 3 else 0
def YV:Option Int->Int->Bool
 | none,_=>true
 | some q,n=>decide (q < n)
def ftA (fs:List Fl):Option Int->List (Int × Vl)->Bool
 | _,[]=>true
 | p,x :: r=>(fF fs x.1).isSome && YV p x.1 && ftA fs (some x.1) r
theorem sB (fs:List Fl) (p:Option Int) (x:Int × Vl) (r:List (Int × Vl)):ftA fs p (x :: r)=((fF fs x.1).isSome && YV p x.1 && ftA fs (some x.1) r):=by rw [ftA.eq_def]
theorem TD (fs:List Fl) (p:Option Int):ftA fs p []=true:=by rw [ftA.eq_def]
def m0 (l:List (Int × Vl)) (n:Int):Bool:=l.any fun y=>y.1 == n
def dT (fs:List Fl) (l:List (Int × Vl)):Bool:=ftA fs none l && fs.all fun f=>f.opt || m0 l f.num
mutual
def cT (s:Sc) (t:Ty):Vl->Int
 | .mk k n str l f=>
  bif !(valF s.ss s.es t) || k != t.k then 13
  else bif t.k == 4 then m2 t n str l.length f.length
  else bif t.k == 5 then (bif n != 0 || !(bl str == []) || decide (0 < (f.length:Int)) then 13 else bif decide (t.s < (l.length:Int)) then 3 else hZ s (t.e.headD default) l)
  else bif t.k == 6 then (bif n != 0 || !(bl str == []) || decide (0 < (l.length:Int)) || !(dT ((fS s.ss t.n).getD default).fs f) then 13 else hY s ((fS s.ss t.n).getD default).fs f)
  else n5 s t n str l.length f.length
def hZ (s:Sc) (t:Ty):List Vl->Int
 | []=>0
 | v :: r=>bif cT s t v != 0 then cT s t v else hZ s t r
def hY (s:Sc) (fs:List Fl):List (Int × Vl)->Int
 | []=>0
 | (i,v) :: r=>bif cT s ((fF fs i).getD default).ty v != 0 then cT s ((fF fs i).getD default).ty v else hY s fs r
end
theorem IR (s:Sc) (t:Ty) (v:Vl):cT s t v=bif !(valF s.ss s.es t) || v.k != t.k then 13
 else bif t.k == 4 then m2 t v.n v.s v.l.length v.f.length
 else bif t.k == 5 then (bif v.n != 0 || !(bl v.s == []) || decide (0 < (v.f.length:Int)) then 13 else bif decide (t.s < (v.l.length:Int)) then 3 else hZ s (t.e.headD default) v.l)
 else bif t.k == 6 then (bif v.n != 0 || !(bl v.s == []) || decide (0 < (v.l.length:Int)) || !(dT ((fS s.ss t.n).getD default).fs v.f) then 13 else hY s ((fS s.ss t.n).getD default).fs v.f)
 else n5 s t v.n v.s v.l.length v.f.length:=by cases v; rw [cT]; rfl
theorem BL (s:Sc) (fs:List Fl) (x:Int × Vl) (r:List (Int × Vl)):hY s fs (x :: r)=bif cT s ((fF fs x.1).getD default).ty x.2 != 0 then cT s ((fF fs x.1).getD default).ty x.2 else hY s fs r:=by cases x; rw [hY]
abbrev JU:S:=.va (.c1 (.fn 115 [(false,[.pt 0 0])]))
def X8:W.Spec:=fun av H K=>∃ (x:Int) (v:Vl),av=[iS .i64 x,.va (.c1 (.pt 0 0))]/\H=[.cells (bE v) 29]/\K (bS (x == v.n)) [.cells (bE v) 29]
theorem XK {x:Int} {v:Vl} {K:S->Hp->Prop} (hK:K (bS (x == v.n)) [.cells (bE v) 29]):X8 [iS .i64 x,.va (.c1 (.pt 0 0))] [.cells (bE v) 29] K:=⟨x,v,rfl,rfl,hK⟩
theorem NJ:Meets Tryz.prog 115 X8:=by
 refine aD Tryz.func115 aCM 2 (by rw [Tryz.ntmps115]; decide) (aB _) (fun av H K h=>by obtain ⟨_,_,rfl,_⟩:=h; rfl) ?_
 rintro av H K ⟨x,v,rfl,rfl,hK⟩
 simp -dsimp only [go_sem,bE,QM,RW]
 exact .sel [0] (by simp) (by simp) rfl (.done (by simpa [go_sem,bE] using hK))
def uD (p:Int->Bool):List Int->Nat->Int
 | [],_=>-1
 | x :: l,i=>bif p x then (i:Int) else uD p l (i + 1)
theorem FI (p:Int->Bool):∀ (l:List Int) (i:Nat),decide (0<=uD p l i)=l.any p
 | [],_=>rfl
 | x :: l,i=>by
  rw [List.any_cons,uD]
  cases h:p x
  · rw [aW,FI p l (i + 1),Bool.false_or]
  · simp
def WY:W.Spec:=fun av H K=>∃ (l:List Int) (v:Vl),av=[.va (.c1 (.fz (l.map eC))),JU]/\H=[.cells (bE v) 29]/\l.length<=9223372036854775807/\K (iS .i64 (uD (fun x=>x == v.n) l 0)) [.cells (bE v) 29]
theorem XF {l:List Int} {v:Vl} {K:S->Hp->Prop} (h:l.length<=9223372036854775807) (hK:K (iS .i64 (uD (fun x=>x == v.n) l 0)) [.cells (bE v) 29]):WY [.va (.c1 (.fz (l.map eC))),JU] [.cells (bE v) 29] K:=⟨l,v,rfl,rfl,h,hK⟩
theorem UD:Meets Tryz.prog 149 WY:=by
 refine aD Tryz.func149 aCF 2 (by rw [Tryz.ntmps149]; decide) (aC NJ (aB _)) (fun av H K h=>by obtain ⟨_,_,rfl,_⟩:=h; rfl) ?_
 rintro av H K ⟨l,v,rfl,rfl,hl,hK⟩
 simp -dsimp only [go_sem,P2,Q7]
 refine aV (α:=Nat) (fun i=>[(0,.va (.c1 (.fz (l.map eC)))),(1,JU),(7,iS .i64 l.length),(8,iS .i64 i)]) (fun _=>[.cells (bE v) 29])
  (fun i=>i<=l.length/\uD (fun x=>x == v.n) (l.drop i) i=uD (fun x=>x == v.n) l 0) (fun i=>l.length - i) 0 1 ⟨Nat.zero_le _,rfl⟩ ?_ ?_ ?_
 · simp -dsimp only [go_sem]<;>simp
 · simp -dsimp only [go_sem,bE]<;>simp
 rintro i ⟨hi,ho⟩
 rcases bD i l.length with hlt | hge
 · have hg:decide ((i:Int) < (l.length:Int))=true:=by simp; omega
   have hx:l[i]? = some l[i]:=aT hlt
   have q2:=bB (row:=eC) hx
   rw [List.drop_eq_getElem_cons hlt,uD] at ho
   generalize l[i]=y at *
   simp -dsimp only [go_sem,hg,↓q2]
   refine ⟨by omega,XK ?_⟩
   cases hc:y == v.n with
   | true=>
    rw [hc,bL] at ho
    simp -dsimp only [go_sem]
    exact .sel [0] (by simp) (by simp) rfl (.done (by simpa [go_sem,bE,ho] using hK))
   | false=>
    rw [hc,aW] at ho
    simp -dsimp only [go_sem]
    refine ⟨by omega,aF (i + 1) 1 ⟨by omega,ho⟩ (by omega) ?_ ?_⟩
    · simp -dsimp only [go_sem]<;>simp
    · simp -dsimp only [go_sem,bE]<;>simp [bE]
 · have hg:decide ((i:Int) < (l.length:Int))=false:=by simp; omega
   have:l.drop i=[]:=List.drop_eq_nil_iff.2 (by omega)
   rw [this] at ho
   simp -dsimp only [go_sem,hg]
   exact .sel [0] (by simp) (by simp) rfl (.done (by rw [show uD (fun x=>x == v.n) l 0=-1 from ho.symm] at hK; simpa [go_sem,bE] using hK))
def WR:W.Spec:=fun av H K=>∃ (l:List Int) (v:Vl),av=[.va (.c1 (.fz (l.map eC))),JU]/\H=[.cells (bE v) 29]/\l.length<=9223372036854775807/\K (bS (l.any fun x=>x == v.n)) [.cells (bE v) 29]
theorem W7 {l:List Int} {v:Vl} {K:S->Hp->Prop} (h:l.length<=9223372036854775807) (hK:K (bS (l.any fun x=>x == v.n)) [.cells (bE v) 29]):WR [.va (.c1 (.fz (l.map eC))),JU] [.cells (bE v) 29] K:=⟨l,v,rfl,rfl,h,hK⟩
theorem IG:Meets Tryz.prog 114 WR:=by
 refine aD Tryz.func114 aD2 2 (by rw [Tryz.ntmps114]; decide) (aC UD (aB _)) (fun av H K h=>by obtain ⟨_,_,rfl,_⟩:=h; rfl) ?_
 rintro av H K ⟨l,v,rfl,rfl,hl,hK⟩
 simp -dsimp only [go_sem,bE,PI,P0]
 refine XF hl ?_
 simp -dsimp only [go_sem,bE,FI]
 exact .sel [0] (by simp) (by simp) rfl (.done (by simpa [go_sem,bE] using hK))
abbrev I7:S:=.va (.c1 (.fn 151 [(false,[.pt 0 0])]))
def GS (x:Int × Vl):List C:=[.vl (.int .i64 x.1),.vl (.int .i64 x.2.k),.vl (.int .i64 x.2.n),.vl (.string x.2.s),.fz (x.2.l.map aN),.fz (x.2.f.map bC)]
def Q9:W.Spec:=fun av H K=>∃ (x:Int × Vl) (f:Fl),av=[.va (.gs (GS x)),.va (.c1 (.pt 0 0))]/\H=[.cells (aR f) 52]/\K (bS (x.1 == f.num)) [.cells (aR f) 52]
theorem T6 {x:Int × Vl} {f:Fl} {K:S->Hp->Prop} (hK:K (bS (x.1 == f.num)) [.cells (aR f) 52]):Q9 [.va (.gs (GS x)),.va (.c1 (.pt 0 0))] [.cells (aR f) 52] K:=⟨x,f,rfl,rfl,hK⟩
theorem aAP:Meets Tryz.prog 151 Q9:=by
 refine aD Tryz.func151 aBX 2 (by rw [Tryz.ntmps151]; decide) (aB _) (fun av H K h=>by obtain ⟨_,_,rfl,_⟩:=h; rfl) ?_
 rintro av H K ⟨x,f,rfl,rfl,hK⟩
 simp -dsimp only [go_sem,GS,aR,RA,QN]
 exact .sel [0] (by simp) (by simp) rfl (.done (by simpa [go_sem,aR] using hK))
def gS (n:Int):List (Int × Vl)->Nat->Int
 | [],_=>-1
 | x :: l,i=>bif x.1 == n then (i:Int) else gS n l (i + 1)
theorem EX (n:Int):∀ (l:List (Int × Vl)) (i:Nat),decide (0<=gS n l i)=m0 l n
 | [],_=>rfl
 | x :: l,i=>by
  rw [m0,List.any_cons,gS]
  cases h:x.1 == n
  · rw [aW,EX n l (i + 1),Bool.false_or]; rfl
  · simp
def Z9:W.Spec:=fun av H K=>∃ (l:List (Int × Vl)) (f:Fl),av=[.va (.c1 (.fz (l.map bC))),I7]/\H=[.cells (aR f) 52]/\l.length<=9223372036854775807/\K (iS .i64 (gS f.num l 0)) [.cells (aR f) 52]
theorem V5 {l:List (Int × Vl)} {f:Fl} {K:S->Hp->Prop} (h:l.length<=9223372036854775807) (hK:K (iS .i64 (gS f.num l 0)) [.cells (aR f) 52]):Z9 [.va (.c1 (.fz (l.map bC))),I7] [.cells (aR f) 52] K:=⟨l,f,rfl,rfl,h,hK⟩
theorem UT:Meets Tryz.prog 117 Z9:=by
 refine aD Tryz.func117 QL 2 (by rw [Tryz.ntmps117]; decide) (aC aAP (aB _)) (fun av H K h=>by obtain ⟨_,_,rfl,_⟩:=h; rfl) ?_
 rintro av H K ⟨l,f,rfl,rfl,hl,hK⟩
 simp -dsimp only [go_sem,H4,HJ]
 refine aV (α:=Nat) (fun i=>[(0,.va (.c1 (.fz (l.map bC)))),(1,I7),(7,iS .i64 l.length),(8,iS .i64 i)]) (fun _=>[.cells (aR f) 52])
  (fun i=>i<=l.length/\gS f.num (l.drop i) i=gS f.num l 0) (fun i=>l.length - i) 0 1 ⟨Nat.zero_le _,rfl⟩ ?_ ?_ ?_
 · simp -dsimp only [go_sem]<;>simp
 · simp -dsimp only [go_sem,aR]<;>simp
 rintro i ⟨hi,ho⟩
 rcases bD i l.length with hlt | hge
 · have hg:decide ((i:Int) < (l.length:Int))=true:=by simp; omega
   have hx:l[i]? = some l[i]:=aT hlt
   have q2:=g4 hx
   rw [List.drop_eq_getElem_cons hlt,gS] at ho
   generalize l[i]=y at *
   simp -dsimp only [go_sem,hg,↓q2]
   refine ⟨by omega,T6 ?_⟩
   cases hc:y.1 == f.num with
   | true=>
    rw [hc,bL] at ho
    simp -dsimp only [go_sem]
    exact .sel [0] (by simp) (by simp) rfl (.done (by simpa [go_sem,aR,ho] using hK))
   | false=>
    rw [hc,aW] at ho
    simp -dsimp only [go_sem]
    refine ⟨by omega,aF (i + 1) 1 ⟨by omega,ho⟩ (by omega) ?_ ?_⟩
    · simp -dsimp only [go_sem]<;>simp
    · simp -dsimp only [go_sem,aR]<;>simp [aR]
 · have hg:decide ((i:Int) < (l.length:Int))=false:=by simp; omega
   have:l.drop i=[]:=List.drop_eq_nil_iff.2 (by omega)
   rw [this] at ho
   simp -dsimp only [go_sem,hg]
   exact .sel [0] (by simp) (by simp) rfl (.done (by rw [show gS f.num l 0=-1 from ho.symm] at hK; simpa [go_sem,aR] using hK))
def WL:W.Spec:=fun av H K=>∃ (l:List (Int × Vl)) (f:Fl),av=[.va (.c1 (.fz (l.map bC))),I7]/\H=[.cells (aR f) 52]/\l.length<=9223372036854775807/\K (bS (m0 l f.num)) [.cells (aR f) 52]
theorem Y2 {l:List (Int × Vl)} {f:Fl} {K:S->Hp->Prop} (h:l.length<=9223372036854775807) (hK:K (bS (m0 l f.num)) [.cells (aR f) 52]):WL [.va (.c1 (.fz (l.map bC))),I7] [.cells (aR f) 52] K:=⟨l,f,rfl,rfl,h,hK⟩
theorem IK:Meets Tryz.prog 150 WL:=by
 refine aD Tryz.func150 aEH 2 (by rw [Tryz.ntmps150]; decide) (aC UT (aB _)) (fun av H K h=>by obtain ⟨_,_,rfl,_⟩:=h; rfl) ?_
 rintro av H K ⟨l,f,rfl,rfl,hl,hK⟩
 simp -dsimp only [go_sem,aR,SH,SE]
 refine V5 hl ?_
 simp -dsimp only [go_sem,aR,EX]
 exact .sel [0] (by simp) (by simp) rfl (.done (by simpa [go_sem,aR] using hK))
def AM (P:Sc->Ty->Vl->Prop):List S->Prop:=fun av=>match av with
 | [.va (.gs r),.va (.gs q),.va (.gs p)]=>iV r/\o9 q/\kV p/\P (C.sc r) (C.ty q) (C.vv p)
 | _=>False
theorem n3 {P:Sc->Ty->Vl->Prop} {av:List S} (h:AM P av):∃ s t v,av=[.va (.gs (aI s)),.va (.gs (aU t)),.va (.gs (aN v))]/\s.fit/\TyOk t/\VlOk v/\P s t v:=by
 unfold AM at h
 split at h
 · obtain ⟨⟨s,rfl,hs⟩,⟨t,rfl,ht⟩,⟨v,rfl,hv⟩,h⟩:=h
   rw [jD,oT,fK] at h
   exact ⟨s,t,v,rfl,hs,ht,hv,h⟩
 · exact h.elim
noncomputable def QW (f:Sc->Ty->Vl->Value):List S->A:=fun av=>match av with
 | [.va (.gs r),.va (.gs q),.va (.gs p)]=>.c1 (.vl (f (C.sc r) (C.ty q) (C.vv p)))
 | _=>.gs []
noncomputable def gZ (P:Sc->Ty->Vl->Prop) (f:Sc->Ty->Vl->Value):Fun:=⟨AM P,QW f,fun av h=>by obtain ⟨_,_,_,rfl,_⟩:=n3 h; trivial⟩
theorem gL {P:Sc->Ty->Vl->Prop} {f:Sc->Ty->Vl->Value}:∀ av H K,(gZ P f).sp av H K->av.length=3:=fun av H K h=>by obtain ⟨_,_,_,rfl,_⟩:=n3 h.1.1; rfl
attribute [go_sem] gZ AM QW
theorem eV {P:Sc->Ty->Vl->Prop} {f:Sc->Ty->Vl->Value} {av:List S} {H:Hp} {K:S->Hp->Prop} (h:(gZ P f).sp av H K) :
 ∃ s t v,av=[.va (.gs (aI s)),.va (.gs (aU t)),.va (.gs (aN v))]/\H=[]/\s.fit/\TyOk t/\VlOk v/\P s t v/\K (.va (.c1 (.vl (f s t v)))) []:=by
 obtain ⟨⟨h,rfl⟩,hK⟩:=h
 obtain ⟨s,t,v,rfl,hs,ht,hv,hp⟩:=n3 h
 have:(gZ P f).val [.va (.gs (aI s)),.va (.gs (aU t)),.va (.gs (aN v))]=.c1 (.vl (f s t v)):=by simp -dsimp only [go_sem]
 rw [this] at hK
 exact ⟨s,t,v,rfl,rfl,hs,ht,hv,hp,hK⟩
theorem aA1:Meets Tryz.prog 77 (gZ (fun _ _ _=>True) fun _ t v=>.int .i64 (m2 t v.n v.s v.l.length v.f.length)).sp:=by
 refine aD Tryz.func77 aGW 3 (by rw [Tryz.ntmps77]; decide) (aB _) gL ?_
 intro av H K h
 obtain ⟨s,t,v,rfl,rfl,hs,ht,hv,_,hK⟩:=eV h
 clear h
 have fin:∀ (z:Int) (R:Hp),m2 t v.n v.s v.l.length v.f.length=z->W.Fin 0 K (iS .i64 z) R:=fun z R h=>by
  rw [h] at hK; exact .sel [] (by simp) (by simp) rfl (.done (by simpa [go_sem] using hK))
 clear hK
 unfold m2 at fin
 cases h1:v.n != 0<;>cases h2:decide (0 < (v.l.length:Int))<;>cases h3:decide (0 < (v.f.length:Int))<;>cases h4:decide (t.s < ((bl v.s).length:Int)) <;>
 · rw [h1,h2,h3,h4] at fin
   simp (maxSteps:=1000000) -dsimp only [go_sem,aI,aP t,aK v,XW,WW,h1,h2,h3,h4]
   exact fin _ _ rfl
theorem X7 {ss:List St} {es:List En} {t:Ty} (h:valF ss es t=true) (k:(t.k == 2)=true):t.s=8\/t.s=16\/t.s=32\/t.s=64:=by
 cases t with
 | mk k0 s n e=>
  obtain rfl:k0=2:=by have k:(k0 == 2)=true:=k; simpa using k
  rw [valF] at h
  have:(s == 8 || s == 16 || s == 32 || s == 64)=true:=by
   simp only [show ((2:Int) == 1)=false from rfl,show ((2:Int) == 2)=true from rfl,bL,aW,Bool.and_eq_true] at h
   exact h.1.1
  show s=8\/s=16\/s=32\/s=64
  simp only [Bool.or_eq_true,beq_iff_eq] at this
  omega
theorem L7 {ss:List St} {es:List En} {t:Ty} (h:valF ss es t=true) (k:(t.k == 3)=true):t.s=8\/t.s=16\/t.s=32:=by
 cases t with
 | mk k0 s n e=>
  obtain rfl:k0=3:=by have k:(k0 == 3)=true:=k; simpa using k
  rw [valF] at h
  have:(s == 8 || s == 16 || s == 32)=true:=by
   simp only [show ((3:Int) == 1)=false from rfl,show ((3:Int) == 2)=false from rfl,show ((3:Int) == 3)=true from rfl,bL,aW,Bool.and_eq_true,Bool.and_false,Bool.or_false] at h
   exact h.1.1
  show s=8\/s=16\/s=32
  simp only [Bool.or_eq_true,beq_iff_eq] at this
  omega
theorem ND:Meets Tryz.prog 76 (gZ (fun s t _=>valF s.ss s.es t=true) fun s t v=>.int .i64 (n5 s t v.n v.s v.l.length v.f.length)).sp:=by
 refine aD Tryz.func76 aIR 3 (by rw [Tryz.ntmps76]; decide) (aC DH (aC IG (aB _))) gL ?_
 intro av H K h
 obtain ⟨s,t,v,rfl,rfl,hs,ht,hv,hp,hK⟩:=eV h
 clear h
 have fin:∀ (z:Int) (R:Hp),n5 s t v.n v.s v.l.length v.f.length=z->W.Fin 0 K (iS .i64 z) R:=fun z R h=>by
  rw [h] at hK; exact .sel [] (by simp) (by simp) rfl (.done (by simpa [go_sem] using hK))
 clear hK
 unfold n5 at fin
 cases h1:bl v.s == [] with
 | false=>
  rw [h1] at fin
  simp (maxSteps:=1000000) -dsimp only [go_sem,aI,aP t,aK v,DB,DA,h1]
  exact fin _ _ rfl
 | true=>
 cases h2:decide (0 < (v.l.length:Int)) with
 | true=>
  rw [h1,h2] at fin
  simp (maxSteps:=1000000) -dsimp only [go_sem,aI,aP t,aK v,DB,DA,h1,h2]
  exact fin _ _ rfl
 | false=>
 cases h3:decide (0 < (v.f.length:Int)) with
 | true=>
  rw [h1,h2,h3] at fin
  simp (maxSteps:=1000000) -dsimp only [go_sem,aI,aP t,aK v,DB,DA,h1,h2,h3]
  exact fin _ _ rfl
 | false=>
 rw [h1,h2,h3] at fin
 simp only [Bool.not_true,Bool.or_self,aW] at fin
 unfold fX at fin
 simp (maxSteps:=1000000) -dsimp only [go_sem,aI,aP t,aK v,DB,DA,h1,h2,h3]
 refine ⟨fun k1=>aA rfl (.done ?_),fun k1=>aA rfl (.done ?_)⟩
 · rw [k1,bL] at fin
   simp (maxSteps:=1000000) -dsimp only [go_sem,D7]
   refine aA rfl (.done ?_)
   cases h4:(v.n == 0 || v.n == 1) <;>
   · rw [h4] at fin
     simp (maxSteps:=1000000) -dsimp only [go_sem,gQ]
     exact fin _ _ rfl
 rw [k1,aW] at fin
 simp (maxSteps:=1000000) -dsimp only [go_sem,BT]
 refine ⟨fun k2=>aA rfl (.done ?_),fun k2=>aA rfl (.done ?_)⟩
 · rw [k2,bL] at fin
   cases h64:t.s == 64 with
   | true=>
    rw [h64] at fin
    simp (maxSteps:=1000000) -dsimp only [go_sem,uQ,h64,Bool.false_and]
    refine aA rfl (.done ?_)
    simp (maxSteps:=1000000) -dsimp only [go_sem,gQ]
    exact fin _ _ rfl
   | false=>
    rw [h64,Bool.false_or] at fin
    obtain ⟨b1,b2,e1,e2⟩:8<=t.s/\t.s<=32/\IntKind.i64.wrap (-1 * 2 ^ min (t.s - 1).toNat 64)=-(2 ^ (t.s.toNat - 1):Int)/\IntKind.i64.wrap (1 * 2 ^ min (t.s - 1).toNat 64)=(2 ^ (t.s.toNat - 1):Int):=by
     rcases X7 hp k2 with hz | hz | hz | hz
     · rw [hz]; decide
     · rw [hz]; decide
     · rw [hz]; decide
     · rw [hz] at h64; simp at h64
    have f1:(0<=t.s - 1)=True:=eq_true (by omega)
    have f2:(-9223372036854775808<=t.s - 1)=True:=eq_true (by omega)
    have f3:(t.s - 1<=9223372036854775807)=True:=eq_true (by omega)
    generalize (2 ^ (t.s.toNat - 1):Int)=hi at *
    cases h4:decide (-hi<=v.n)<;>cases h5:decide (v.n < hi) <;>
    · rw [h4,h5] at fin
      simp (maxSteps:=1000000) -dsimp only [go_sem,uQ,h64,e1,e2,h4,h5,f1,f2,f3]
      refine aA rfl (.done ?_)
      simp (maxSteps:=1000000) -dsimp only [go_sem,gQ]
      exact fin _ _ rfl
 rw [k2,aW] at fin
 simp (maxSteps:=1000000) -dsimp only [go_sem,DK]
 refine ⟨fun k3=>aA rfl (.done ?_),fun k3=>aA rfl (.done ?_)⟩
 · rw [k3,bL] at fin
   obtain ⟨b1,e1⟩:0<=t.s/\IntKind.i64.wrap (1 * 2 ^ min t.s.toNat 64)=(2 ^ t.s.toNat:Int):=by
    rcases L7 hp k3 with hz | hz | hz
    · rw [hz]; decide
    · rw [hz]; decide
    · rw [hz]; decide
   generalize (2 ^ t.s.toNat:Int)=hi at *
   cases h4:decide (0<=v.n)<;>cases h5:decide (v.n < hi) <;>
   · rw [h4,h5] at fin
     simp (maxSteps:=1000000) -dsimp only [go_sem,v7,e1,h4,h5,b1]
     refine aA rfl (.done ?_)
     simp (maxSteps:=1000000) -dsimp only [go_sem,gQ]
     exact fin _ _ rfl
 rw [k3,aW] at fin
 simp (maxSteps:=1000000) -dsimp only [go_sem,xP]
 refine ⟨fun k7=>aA rfl (.done ?_),fun k7=>aA rfl (.done ?_)⟩
 · rw [k7,bL] at fin
   simp (maxSteps:=1000000) -dsimp only [go_sem,x6]
   refine xI (s:=s) hs ?_
   generalize hu:(eH s.es t.n).getD default=u at *
   have hul:u.vs.length<=9223372036854775807:=by
    rw [<-hu]
    cases hf:eH s.es t.n with
    | none=>exact Nat.zero_le _
    | some w=>exact (hs.ok.es w (G1 hf).1).lv
   simp (maxSteps:=1000000) -dsimp only [go_sem,aY]
   refine aA rfl (.done ?_)
   simp (maxSteps:=1000000) -dsimp only [go_sem,x9]
   refine W7 hul ?_
   simp (maxSteps:=1000000) -dsimp only [go_sem,bE]
   refine aA rfl (.done ?_)
   cases h4:u.vs.any fun x=>x == v.n <;>
   · rw [h4] at fin
     simp (maxSteps:=1000000) -dsimp only [go_sem,gQ]
     exact fin _ _ rfl
 rw [k7] at fin
 simp (maxSteps:=1000000) -dsimp only [go_sem,gQ]
 exact fin _ _ rfl
theorem E6 {a b:Int × Vl} (h:bC a=bC b):a=b:=by
 obtain ⟨i,x⟩:=a
 obtain ⟨j,y⟩:=b
 obtain ⟨h1,h2⟩:=List.cons.inj h
 have e:i=j:=by simpa using h1
 have e2:x=y:=p8 h2
 rw [e,e2]
instance:Inhabited (Int × Vl):=⟨(0,default)⟩
noncomputable def C.ve:=oB bC
@[go_sem] theorem aN4 (v:Int × Vl):C.ve (bC v)=v:=gD E6 v
@[go_sem] theorem YS (l:List (Int × Vl)):(l.map bC).map C.ve=l:=iK E6 l
def RU (r:List C):Prop:=∃ u:St,r=aJ u/\u.ok/\∀ f ∈ u.fs,TySm f.ty
def VY (rs:List (List C)):Prop:=∃ l:List (Int × Vl),rs=l.map bC/\l.length * 88<=140737488355328/\∀ x ∈ l,bM x.1/\VlOk x.2
theorem S5 {v:Vl} (h:VlOk v):VY (v.f.map bC):=⟨v.f,rfl,h.lf,fun x hx=>⟨h.fn x hx,h.f x hx⟩⟩
theorem MS {s:Sc} (hs:s.fit) (n:ByteArray):RU (aJ ((fS s.ss n).getD default)):=by
 refine ⟨_,rfl,?_⟩
 cases hf:fS s.ss n with
 | none=>exact ⟨St.ok_default,fun f hf=>(List.not_mem_nil hf).elim⟩
 | some w=>exact ⟨hs.ok.ss w (fJ hf).1,(hs.sm w (fJ hf).1).2⟩
def tU:List S->Prop:=fun av=>match av with
 | [.va (.gs r),.va (.c1 (.fz rs))]=>RU r/\VY rs
 | _=>False
theorem lY {av:List S} (h:tU av):∃ (u:St) (l:List (Int × Vl)),av=[.va (.gs (aJ u)),.va (.c1 (.fz (l.map bC)))]/\u.ok/\(∀ f ∈ u.fs,TySm f.ty)/\l.length * 88<=140737488355328/\∀ x ∈ l,bM x.1/\VlOk x.2:=by
 unfold tU at h
 split at h
 · obtain ⟨⟨u,rfl,h1,h2⟩,⟨l,rfl,h3,h4⟩⟩:=h; exact ⟨u,l,rfl,h1,h2,h3,h4⟩
 · exact h.elim
noncomputable def LD:List S->A:=fun av=>match av with
 | [.va (.gs r),.va (.c1 (.fz rs))]=>bA (dT (C.st r).fs (rs.map C.ve))
 | _=>.gs []
noncomputable def ftFn1:Fun:=⟨tU,LD,fun av h=>by obtain ⟨_,_,rfl,_⟩:=lY h; trivial⟩
theorem IV:∀ av H K,ftFn1.sp av H K->av.length=2:=fun av H K h=>by obtain ⟨_,_,rfl,_⟩:=lY h.1.1; rfl
attribute [go_sem] ftFn1 tU LD
def KG (l:List (Int × Vl)):Nat->Option Int
 | 0=>none
 | j + 1=>(l[j]?).map (·.1)
theorem ZK {l:List (Int × Vl)} {n:Int} {x:Int × Vl} (h:l[n.toNat]? = some x) (p:List C->Prop):(∀ r,(l.map bC)[n.toNat]? = some r->p r)=p [.vl (.int .i64 x.1),.vl (.int .i64 x.2.k),.vl (.int .i64 x.2.n),.vl (.string x.2.s),.fz (x.2.l.map aN),.fz (x.2.f.map bC)]:=by
 rw [<-hO]; exact I6 (row:=bC) h p
theorem XN:Meets Tryz.prog 116 ftFn1.sp:=by
 refine aD Tryz.func116 aCB 2 (by rw [Tryz.ntmps116]; decide) (aC oR (aC IK (aB _))) IV ?_
 rintro av H K ⟨⟨h,rfl⟩,hK⟩
 obtain ⟨u,l,rfl,hu,hus,hl,hlo⟩:=lY h
 replace hK:K (bS (dT u.fs l)) []:=by
  have:ftFn1.val [.va (.gs (aJ u)),.va (.c1 (.fz (l.map bC)))]=bA (dT u.fs l):=by simp -dsimp only [go_sem]
  rw [this] at hK; exact hK
 clear h
 have fin:∀ (b:Bool) (R:Hp),dT u.fs l=b->W.Fin 0 K (bS b) R:=fun b R h=>by
  rw [h] at hK; exact .sel [] (by simp) (by simp) rfl (.done (by simpa [go_sem] using hK))
 clear hK
 have hfl:=hu.len
 generalize hR:u.fs.all (fun f=>f.opt || m0 l f.num)=R2
 have hF:dT u.fs l=(ftA u.fs none l && R2):=by rw [<-hR]; rfl
 rw [hF] at fin
 generalize hR0:(ftA u.fs none l && R2)=R0 at fin
 clear hF
 simp (maxSteps:=1000000) -dsimp only [go_sem,aJ,PZ,Q0]
 refine aV (α:=Nat) (fun i=>[(1,.va (.c1 (.fz (l.map bC)))),(2,.va (.c1 (.pt 0 0))),(11,.va (.c1 (.fz (l.map bC)))),(12,iS .i64 l.length),(13,iS .i64 i)]) (fun _=>[.cells (aJ u) 48])
  (fun i=>i<=l.length/\(ftA u.fs (KG l i) (l.drop i) && R2)=R0) (fun i=>l.length - i) 0 1 ⟨Nat.zero_le _,hR0⟩ ?_ ?_ ?_
 · simp -dsimp only [go_sem]<;>simp
 · simp -dsimp only [go_sem,aJ]<;>simp
 rintro i ⟨hi,ho⟩
 rcases bD i l.length with hlt | hge
 · have hg:decide ((i:Int) < (l.length:Int))=true:=by simp; omega
   obtain ⟨x,hx⟩:∃ t,l[i]? = some t:=⟨_,aT hlt⟩
   have q1:=g4 hx
   have hdr:l.drop i=x :: l.drop (i + 1):=by
    obtain ⟨h,rfl⟩:=a8.1 hx
    exact List.drop_eq_getElem_cons h
   have hpv:KG l (i + 1)=some x.1:=by rw [KG,hx]; rfl
   rw [hdr,sB,<-hpv] at ho
   simp (maxSteps:=1000000) -dsimp only [go_sem,hg,↓q1,aJ]
   refine ⟨by omega,aA rfl (.done ?_)⟩
   simp (maxSteps:=1000000) -dsimp only [go_sem,wA]
   refine wV (t:=u) hu hus ?_
   cases hf:fF u.fs x.1 with
   | none=>
    rw [hf] at ho
    simp (maxSteps:=1000000) -dsimp only [go_sem,wJ,Option.getD_none,Option.isSome_none]
    refine aA rfl (.done ?_)
    simp (maxSteps:=1000000) -dsimp only [go_sem,kA,Bool.false_and]
    exact fin _ _ ho.symm
   | some g=>
    rw [hf,Option.isSome_some,Bool.true_and] at ho
    simp (maxSteps:=1000000) -dsimp only [go_sem,aR,Option.getD_some,Option.isSome_some]
    refine aA rfl (.done ?_)
    cases hz:decide ((0:Int) < (i:Int)) with
    | false=>
     obtain rfl:i=0:=by have:=of_decide_eq_false hz; omega
     simp (maxSteps:=1000000) -dsimp only [go_sem,kA,hz]
     refine ⟨by omega,aF (0 + 1) 1 ⟨by omega,ho⟩ (by omega) ?_ ?_⟩
     · simp -dsimp only [go_sem]<;>simp
     · simp -dsimp only [go_sem,aJ]<;>simp [aJ]
    | true=>
     have hz':=of_decide_eq_true hz
     obtain ⟨y,hy⟩:∃ t,l[i - 1]? = some t:=⟨_,aT (by omega)⟩
     have hti:((i:Int) - 1).toNat=i - 1:=by omega
     have q2:=fun p=>ZK (n:=(i:Int) - 1) (x:=y) (by rw [hti]; exact hy) p
     have hpi:KG l i=some y.1:=by
      match i,hz',hy with
      | j + 1,_,hy=>rw [KG]; rw [show j + 1 - 1=j by omega] at hy; rw [hy]; rfl
     rw [hpi,YV] at ho
     have f1:(0<=(i:Int) - 1)=True:=eq_true (by omega)
     have f2:((i:Int) - 1 < (l.length:Int))=True:=eq_true (by omega)
     cases hc:decide (x.1<=y.1) with
     | true=>
      have:decide (y.1 < x.1)=false:=by have:=of_decide_eq_true hc; simp; omega
      rw [this] at ho
      simp (maxSteps:=1000000) -dsimp only [go_sem,kA,hz,↓q2,hc,f1,f2]
      exact ⟨by omega,fin _ _ ho.symm⟩
     | false=>
      have:decide (y.1 < x.1)=true:=by have:=of_decide_eq_false hc; simp; omega
      rw [this,Bool.true_and] at ho
      simp (maxSteps:=1000000) -dsimp only [go_sem,kA,hz,↓q2,hc,f1,f2]
      refine ⟨by omega,by omega,aF (i + 1) 1 ⟨by omega,ho⟩ (by omega) ?_ ?_⟩
      · simp -dsimp only [go_sem]<;>simp
      · simp -dsimp only [go_sem,aJ]<;>simp [aJ]
 · have hg:decide ((i:Int) < (l.length:Int))=false:=by simp; omega
   obtain rfl:i=l.length:=by omega
   rw [List.drop_length,TD,Bool.true_and] at ho
   simp (maxSteps:=1000000) -dsimp only [go_sem,hg,aJ]
   refine aA rfl (.done ?_)
   simp (maxSteps:=1000000) -dsimp only [go_sem,xQ]
   clear hi hge hg hR0
   rw [<-hR] at ho
   clear hR
   refine aV (α:=Nat) (fun i=>[(1,.va (.c1 (.fz (l.map bC)))),(2,.va (.c1 (.pt 0 0))),(44,.va (.c1 (.fz (u.fs.map aR)))),(45,iS .i64 u.fs.length),(46,iS .i64 i)]) (fun _=>[.cells (aJ u) 48])
    (fun i=>i<=u.fs.length/\(u.fs.drop i).all (fun f=>f.opt || m0 l f.num)=R0) (fun i=>u.fs.length - i) 0 1 ⟨Nat.zero_le _,ho⟩ ?_ ?_ ?_
   · simp -dsimp only [go_sem]<;>simp
   · simp -dsimp only [go_sem,aJ]<;>simp
   clear ho
   rintro i ⟨hi,ho⟩
   rcases bD i u.fs.length with hlt | hge
   · have hg:decide ((i:Int) < (u.fs.length:Int))=true:=by simp; omega
     obtain ⟨f,hx⟩:∃ t,u.fs[i]? = some t:=⟨_,aT hlt⟩
     have q1:=bB (row:=aR) hx
     rw [MR hx] at ho
     simp (maxSteps:=1000000) -dsimp only [go_sem,hg,↓q1,aJ,aR]
     refine ⟨by omega,aA rfl (.done ?_)⟩
     cases hop:f.opt with
     | true=>
      rw [hop,Bool.true_or,Bool.true_and] at ho
      simp (maxSteps:=1000000) -dsimp only [go_sem,nG]
      refine ⟨by omega,aF (i + 1) 1 ⟨by omega,ho⟩ (by omega) ?_ ?_⟩
      · simp -dsimp only [go_sem]<;>simp
      · simp -dsimp only [go_sem,aJ]<;>simp [aJ]
     | false=>
      rw [hop,Bool.false_or] at ho
      have cu:=fun K h=>Y2 (l:=l) (f:=f) (K:=K) (by omega) h
      rw [aR,hop] at cu
      simp (maxSteps:=1000000) -dsimp only [go_sem,nG]
      refine cu _ ?_
      cases hc:m0 l f.num with
      | false=>
       rw [hc,Bool.false_and] at ho
       simp (maxSteps:=1000000) -dsimp only [go_sem]
       exact fin _ _ ho.symm
      | true=>
       rw [hc,Bool.true_and] at ho
       simp (maxSteps:=1000000) -dsimp only [go_sem]
       refine ⟨by omega,aF (i + 1) 1 ⟨by omega,ho⟩ (by omega) ?_ ?_⟩
       · simp -dsimp only [go_sem]<;>simp
       · simp -dsimp only [go_sem,aJ]<;>simp [aJ]
   · have hg:decide ((i:Int) < (u.fs.length:Int))=false:=by simp; omega
     obtain rfl:i=u.fs.length:=by omega
     rw [SS] at ho
     simp (maxSteps:=1000000) -dsimp only [go_sem,hg,aJ]
     exact fin _ _ ho.symm
abbrev RM (s:Sc) (t:Ty) (v:Vl):Value:=.int .i64 (cT s t v)
abbrev ckH (N:Nat):Sc->Ty->Vl->Prop:=fun _ _ v=>v.h<=N
def G9 (s:Sc) (t:Ty) (v:Vl):Int:=bif v.n != 0 || !(bl v.s == []) || decide (0 < (v.f.length:Int)) then 13 else bif decide (t.s < (v.l.length:Int)) then 3 else hZ s (t.e.headD default) v.l
def HR (s:Sc) (t:Ty) (v:Vl):Int:=bif v.n != 0 || !(bl v.s == []) || decide (0 < (v.l.length:Int)) || !(dT ((fS s.ss t.n).getD default).fs v.f) then 13 else hY s ((fS s.ss t.n).getD default).fs v.f
theorem iY {t:Ty} (h:TyOk t):o9 [.vl (.int .i64 t.k),.vl (.int .i64 t.s),.vl (.string t.n),.fz (t.e.map aU)]:=by rw [<-aP]; exact mB h
theorem pF (t:Ty):C.ty [.vl (.int .i64 t.k),.vl (.int .i64 t.s),.vl (.string t.n),.fz (t.e.map aU)]=t:=by rw [<-aP,oT]
theorem eT {s:Sc} (h:s.fit):iV [.vl (.int .i64 s.ver),.fz (s.es.map aY),.fz (s.ss.map aJ)]:=nO h
theorem jL (s:Sc):C.sc [.vl (.int .i64 s.ver),.fz (s.es.map aY),.fz (s.ss.map aJ)]=s:=jD s
theorem DG {ss:List St} {es:List En} {t:Ty} (h:valF ss es t=true) (k:(t.k == 5)=true):∃ u,t.e=[u]/\valF ss es u=true:=by
 cases t with
 | mk k0 s n e=>
  obtain rfl:k0=5:=by have k:(k0 == 5)=true:=k; simpa using k
  exact DW h
theorem Y8 (N:Nat) (hc:Meets Tryz.prog 42 (gZ (ckH N) RM).sp):Meets Tryz.prog 78 (gZ (fun s t v=>valF s.ss s.es t=true/\(t.k == 5)=true/\v.h<=N + 1) fun s t v=>.int .i64 (G9 s t v)).sp:=by
 refine aD Tryz.func78 aHI 3 (by rw [Tryz.ntmps78]; decide) (aH hc (aB _)) gL ?_
 intro av H K h
 obtain ⟨s,t,v,rfl,rfl,hs,ht,hv,⟨hp,hk,hh⟩,hK⟩:=eV h
 clear h
 have fin:∀ (z:Int) (R:Hp),G9 s t v=z->W.Fin 0 K (iS .i64 z) R:=fun z R h=>by
  rw [h] at hK; exact .sel [] (by simp) (by simp) rfl (.done (by simpa [go_sem] using hK))
 clear hK
 unfold G9 at fin
 obtain ⟨u,he,hu⟩:=DG hp hk
 have huo:TyOk u:=ht.e u (by rw [he]; simp)
 have hll:=hv.ll
 rw [he] at fin
 simp only [List.headD_cons] at fin
 cases h0:(v.n != 0 || !(bl v.s == []) || decide (0 < (v.f.length:Int))) with
 | true=>
  rw [h0] at fin
  cases h1:v.n != 0<;>cases h2:bl v.s == []<;>cases h3:decide (0 < (v.f.length:Int)) <;>
  first
   | (exfalso; rw [h1,h2,h3] at h0; exact absurd h0 (by decide))
   | (simp (maxSteps:=1000000) -dsimp only [go_sem,aI,aP t,aK v,IH,HE,h1,h2,h3]
      exact fin _ _ rfl)
 | false=>
 rw [h0] at fin
 obtain ⟨h1,h2,h3⟩:(v.n != 0)=false/\(bl v.s == [])=true/\decide (0 < (v.f.length:Int))=false:=by
  simp only [Bool.or_eq_false_iff,Bool.not_eq_false'] at h0; exact ⟨h0.1.1,h0.1.2,h0.2⟩
 cases h4:decide (t.s < (v.l.length:Int)) with
 | true=>
  rw [h4] at fin
  simp (maxSteps:=1000000) -dsimp only [go_sem,aI,aP t,aK v,IH,HE,h1,h2,h3,h4]
  exact fin _ _ rfl
 | false=>
 rw [h4] at fin
 simp only [aW] at fin
 simp (maxSteps:=1000000) -dsimp only [go_sem,aI,aP t,aK v,IH,HE,h1,h2,h3,h4]
 refine aV (α:=Nat) (fun i=>[(3,.va (.c1 (.pt 0 0))),(4,.va (.c1 (.pt 1 0))),(5,.va (.c1 (.pt 2 0))),(33,.va (.c1 (.fz (v.l.map aN)))),(34,iS .i64 v.l.length),(35,iS .i64 i)]) (fun _=>[.cells (aI s) 93,.cells [.vl (.int .i64 t.k),.vl (.int .i64 t.s),.vl (.string t.n),.fz (t.e.map aU)] 42,.cells (bE v) 29])
  (fun i=>i<=v.l.length/\hZ s u (v.l.drop i)=hZ s u v.l) (fun i=>v.l.length - i) 0 3 ⟨Nat.zero_le _,rfl⟩ ?_ ?_ ?_
 · simp -dsimp only [go_sem]<;>simp
 · simp -dsimp only [go_sem,bE,aI]<;>simp
 rintro i ⟨hi,ho⟩
 rcases bD i v.l.length with hlt | hge
 · have hg:decide ((i:Int) < (v.l.length:Int))=true:=by simp; omega
   obtain ⟨x,hx⟩:∃ t,v.l[i]? = some t:=⟨_,aT hlt⟩
   have q1:=lP hx
   have hxm:=bX hx
   have k1:=c9 (hv.l x hxm)
   have k2:=f7 x
   have k3:x.h<=N:=by have:=Vl.h_l hxm; omega
   have hdr:v.l.drop i=x :: v.l.drop (i + 1):=by
    obtain ⟨h,rfl⟩:=a8.1 hx
    exact List.drop_eq_getElem_cons h
   have k4:=iY huo
   have k5:=pF u
   have k6:=eT hs
   have k7:=jL s
   rw [hdr,hZ] at ho
   rw [he]
   cases h5:cT s u x != 0 with
   | true=>
    rw [h5,bL] at ho
    simp (maxSteps:=1000000) -dsimp only [go_sem,hg,↓q1,bE,aI,aP u,k1,k2,k3,k4,k5,k6,k7,h5,List.getElem?_cons_zero,aE,forall_eq']
    exact ⟨by omega,by omega,fin _ _ ho.symm⟩
   | false=>
    rw [h5,aW] at ho
    simp (maxSteps:=1000000) -dsimp only [go_sem,hg,↓q1,bE,aI,aP u,k1,k2,k3,k4,k5,k6,k7,h5,List.getElem?_cons_zero,aE,forall_eq']
    refine ⟨by omega,by omega,by omega,aF (i + 1) 3 ⟨by omega,ho⟩ (by omega) ?_ ?_⟩
    · simp -dsimp only [go_sem]<;>simp
    · simp -dsimp only [go_sem,bE,aI]<;>simp [aP u]
 · have hg:decide ((i:Int) < (v.l.length:Int))=false:=by simp; omega
   obtain rfl:i=v.l.length:=by omega
   rw [List.drop_length,hZ] at ho
   simp (maxSteps:=1000000) -dsimp only [go_sem,hg,bE,aI]
   exact fin _ _ ho.symm
theorem BX:TyOk default:=.mk (by unfold bM; decide) (by unfold bM; decide) (by decide) (by decide) (fun _ h=>by cases h)
theorem Z5 {fs:List Fl} {u:St} (hu:u.ok) (e:fs=u.fs) (k:Int):TyOk ((fF fs k).getD default).ty:=by
 subst e
 cases hf:fF u.fs k with
 | none=>exact BX
 | some g=>exact (hu.fs g (List.mem_of_find?_eq_some hf)).ty
theorem KC (N:Nat) (hc:Meets Tryz.prog 42 (gZ (ckH N) RM).sp):Meets Tryz.prog 79 (gZ (fun _ _ v=>v.h<=N + 1) fun s t v=>.int .i64 (HR s t v)).sp:=by
 refine aD Tryz.func79 aII 3 (by rw [Tryz.ntmps79]; decide) (aH hc (aC iH (aH XN (aC oR (aB _))))) gL ?_
 intro av H K h
 obtain ⟨s,t,v,rfl,rfl,hs,ht,hv,hh,hK⟩:=eV h
 clear h
 have fin:∀ (z:Int) (R:Hp),HR s t v=z->W.Fin 0 K (iS .i64 z) R:=fun z R h=>by
  rw [h] at hK; exact .sel [] (by simp) (by simp) rfl (.done (by simpa [go_sem] using hK))
 clear hK
 unfold HR at fin
 have hlf:=hv.lf
 have kS:=MS hs t.n
 have kE:=S5 hv
 simp (maxSteps:=1000000) -dsimp only [go_sem,aI,aP t,aK v,XM,Y5]
 refine j8 (s:=s) hs ?_
 generalize (fS s.ss t.n).getD default=u at *
 obtain ⟨huo,hus⟩:u.ok/\∀ f ∈ u.fs,TySm f.ty:=by
  obtain ⟨w,hw,h1,h2⟩:=kS
  obtain rfl:=qL hw
  exact ⟨h1,h2⟩
 have kd:=B8 u
 have kv:=YS v.f
 rw [aJ] at kS kd
 simp (maxSteps:=1000000) -dsimp only [go_sem,aJ]
 refine aA rfl (.done ?_)
 cases h0:(v.n != 0 || !(bl v.s == []) || decide (0 < (v.l.length:Int)) || !(dT u.fs v.f)) with
 | true=>
  rw [h0] at fin
  cases h1:v.n != 0<;>cases h2:bl v.s == []<;>cases h3:decide (0 < (v.l.length:Int))<;>cases h4:dT u.fs v.f <;>
  first
   | (exfalso; rw [h1,h2,h3,h4] at h0; exact absurd h0 (by decide))
   | (simp (maxSteps:=1000000) -dsimp only [go_sem,vN,h1,h2,h3,h4,kS,kE,kd]
      exact fin _ _ rfl)
 | false=>
 rw [h0] at fin
 simp only [aW] at fin
 obtain ⟨h1,h2,h3,h4⟩:(v.n != 0)=false/\(bl v.s == [])=true/\decide (0 < (v.l.length:Int))=false/\dT u.fs v.f=true:=by
  simp only [Bool.or_eq_false_iff,Bool.not_eq_false'] at h0; exact ⟨h0.1.1.1,h0.1.1.2,h0.1.2,h0.2⟩
 simp (maxSteps:=1000000) -dsimp only [go_sem,vN,h1,h2,h3,h4,kS,kE,kd]
 refine aV (α:=Nat) (fun i=>[(3,.va (.c1 (.pt 0 0))),(4,.va (.c1 (.pt 1 0))),(5,.va (.c1 (.pt 2 0))),(7,.va (.c1 (.pt 3 0))),(44,.va (.c1 (.fz (v.f.map bC)))),(45,iS .i64 v.f.length),(46,iS .i64 i)]) (fun _=>[.cells (aI s) 93,.cells [.vl (.int .i64 t.k),.vl (.int .i64 t.s),.vl (.string t.n),.fz (t.e.map aU)] 42,.cells (bE v) 29,.cells (aJ u) 48])
  (fun i=>i<=v.f.length/\hY s u.fs (v.f.drop i)=hY s u.fs v.f) (fun i=>v.f.length - i) 0 4 ⟨Nat.zero_le _,rfl⟩ ?_ ?_ ?_
 · simp -dsimp only [go_sem]<;>simp
 · simp -dsimp only [go_sem,bE,aI,aJ]<;>simp
 rintro i ⟨hi,ho⟩
 rcases bD i v.f.length with hlt | hge
 · have hg:decide ((i:Int) < (v.f.length:Int))=true:=by simp; omega
   obtain ⟨x,hx⟩:∃ t,v.f[i]? = some t:=⟨_,aT hlt⟩
   have q1:=g4 hx
   have hxm:=bX hx
   have k1:=c9 (hv.f x hxm)
   have k2:=f7 x.2
   have k3:x.2.h<=N:=by have:=Vl.h_f hxm; omega
   have hdr:v.f.drop i=x :: v.f.drop (i + 1):=by
    obtain ⟨h,rfl⟩:=a8.1 hx
    exact List.drop_eq_getElem_cons h
   have k6:=eT hs
   have k7:=jL s
   rw [hdr,BL] at ho
   have hgo:=Z5 huo rfl x.1
   simp (maxSteps:=1000000) -dsimp only [go_sem,hg,↓q1,bE,aI,aJ]
   refine ⟨by omega,aA rfl (.done ?_)⟩
   simp (maxSteps:=1000000) -dsimp only [go_sem,DR]
   refine wV (t:=u) huo hus ?_
   generalize (fF u.fs x.1).getD default=g at *
   have k4:=iY hgo
   have k5:=pF g.ty
   simp (maxSteps:=1000000) -dsimp only [go_sem,aR]
   refine aA rfl (.done ?_)
   simp (maxSteps:=1000000) -dsimp only [go_sem,BQ,k1,k2,k3,k4,k5,k6,k7]
   refine aA rfl (.done ?_)
   cases h5:cT s g.ty x.2 != 0 with
   | true=>
    rw [h5,bL] at ho
    simp (maxSteps:=1000000) -dsimp only [go_sem,vQ,h5]
    exact fin _ _ ho.symm
   | false=>
    rw [h5,aW] at ho
    simp (maxSteps:=1000000) -dsimp only [go_sem,vQ,h5]
    refine ⟨by omega,aF (i + 1) 4 ⟨by omega,ho⟩ (by omega) ?_ ?_⟩
    · simp -dsimp only [go_sem]<;>simp
    · simp -dsimp only [go_sem,bE,aI,aJ]<;>simp [bE,aI,aJ]
 · have hg:decide ((i:Int) < (v.f.length:Int))=false:=by simp; omega
   obtain rfl:i=v.f.length:=by omega
   rw [List.drop_length,hY] at ho
   simp (maxSteps:=1000000) -dsimp only [go_sem,hg,bE,aI,aJ]
   exact fin _ _ ho.symm
theorem yG:∀ N,Meets Tryz.prog 42 (gZ (ckH N) RM).sp
 | 0=>⟨by kernel_rfl,by rintro xs vs E ro w K _ _ _ h; obtain ⟨_,_,v,_,_,_,_,_,h,_⟩:=eV h; have:=v.h_pos; have h:v.h<=0:=h; omega⟩
 | N + 1=>by
  refine aD Tryz.func42 aJG 3 (by rw [Tryz.ntmps42]; decide) (aH rU (aH ND (aH aA1 (aH (Y8 N (yG N)) (aH (KC N (yG N)) (aB _)))))) gL ?_
  intro av H K h
  obtain ⟨s,t,v,rfl,rfl,hs,ht,hv,hh,hK⟩:=eV h
  clear h
  have hh:v.h<=N + 1:=hh
  have fin:∀ (z:Int) (R:Hp),cT s t v=z->W.Fin 0 K (iS .i64 z) R:=fun z R h=>by
   have hK:K (iS .i64 (cT s t v)) []:=hK
   rw [h] at hK; exact .sel [] (by simp) (by simp) rfl (.done (by simpa [go_sem] using hK))
  clear hK
  rw [IR] at fin
  have k1:=c9 hv
  have k2:=f7 v
  have k4:=iY ht
  have k5:=pF t
  have k6:=eT hs
  have k7:=jL s
  cases h1:valF s.ss s.es t with
  | false=>
   rw [h1] at fin
   simp (maxSteps:=1000000) -dsimp only [go_sem,aI,aP t,aK v,s9,rY,k4,k5,k6,k7,h1]
   exact fin _ _ rfl
  | true=>
  cases h2:v.k != t.k with
  | true=>
   rw [h1,h2] at fin
   simp (maxSteps:=1000000) -dsimp only [go_sem,aI,aP t,aK v,s9,rY,k4,k5,k6,k7,h1,h2]
   exact fin _ _ rfl
  | false=>
  rw [h1,h2] at fin
  simp only [Bool.not_true,Bool.or_self,aW] at fin
  cases h4:t.k == 4 with
  | true=>
   rw [h4,bL] at fin
   simp (maxSteps:=1000000) -dsimp only [go_sem,aI,aP t,aK v,s9,rY,k1,k2,k4,k5,k6,k7,h1,h2,h4,List.all_cons,List.all_nil]
   exact fin _ _ rfl
  | false=>
  rw [h4,aW] at fin
  cases h5:t.k == 5 with
  | true=>
   rw [h5,bL] at fin
   simp (maxSteps:=1000000) -dsimp only [go_sem,aI,aP t,aK v,s9,rY,k1,k2,k4,k5,k6,k7,h1,h2,h4,h5,hh,List.all_cons,List.all_nil]
   exact fin _ _ rfl
  | false=>
  rw [h5,aW] at fin
  cases h6:t.k == 6 with
  | true=>
   rw [h6,bL] at fin
   simp (maxSteps:=1000000) -dsimp only [go_sem,aI,aP t,aK v,s9,rY,k1,k2,k4,k5,k6,k7,h1,h2,h4,h5,h6,hh,List.all_cons,List.all_nil]
   exact fin _ _ rfl
  | false=>
  rw [h6,aW] at fin
  simp (maxSteps:=1000000) -dsimp only [go_sem,aI,aP t,aK v,s9,rY,k1,k2,k4,k5,k6,k7,h1,h2,h4,h5,h6,List.all_cons,List.all_nil]
  exact fin _ _ rfl
def jR (s:Sc) (t:Ty) (v:Vl):Int:=bif decide (6 < oO 7 v) then 9 else cT s t v
theorem TJ:Meets Tryz.prog 42 (gZ (fun _ _ _=>True) RM).sp:=dH 0 yG fun av H K h=>by
 obtain ⟨s,t,v,rfl,rfl,hs,ht,hv,_,hK⟩:=eV h
 refine ⟨v.h,⟨⟨nO hs,mB ht,FF hv,?_⟩,rfl⟩,?_⟩
 · show (C.vv (aN v)).h<=v.h; rw [fK]; exact Nat.le_refl _
 · simpa -dsimp only [go_sem] using hK
theorem TN:Meets Tryz.prog 24 (gZ (fun _ _ _=>True) fun s t v=>.int .i64 (jR s t v)).sp:=by
 refine aD Tryz.func24 aHF 3 (by rw [Tryz.ntmps24]; decide) (aH (GQ 8) (aH TJ (aB _))) gL ?_
 intro av H K h
 obtain ⟨s,t,v,rfl,rfl,hs,ht,hv,_,hK⟩:=eV h
 clear h
 have fin:∀ (z:Int) (R:Hp),jR s t v=z->W.Fin 0 K (iS .i64 z) R:=fun z R h=>by
  rw [h] at hK; exact .sel [] (by simp) (by simp) rfl (.done (by simpa [go_sem] using hK))
 clear hK
 unfold jR at fin
 have k1:=c9 hv
 have k2:=f7 v
 have k4:=iY ht
 have k5:=pF t
 have k6:=eT hs
 have k7:=jL s
 have e8:((6:Int)=((8:Nat):Int) - 2)=True:=by decide
 have e9:fI 8 v=oO 7 v:=rfl
 cases h1:decide (6 < oO 7 v) with
 | true=>
  rw [h1] at fin
  simp (maxSteps:=1000000) -dsimp only [go_sem,aI,aP t,aK v,NX,NL,k1,k2,e8,e9,h1]
  exact fin _ _ rfl
 | false=>
  rw [h1] at fin
  simp (maxSteps:=1000000) -dsimp only [go_sem,aI,aP t,aK v,NX,NL,k1,k2,k4,k5,k6,k7,e8,e9,h1]
  exact fin _ _ rfl
structure Told (l:List UInt8) (p:Nat) (k:Int) (x:List UInt8) (n:Int) (z:Nat):Prop where
 zero:k=0->p=l.length/\x=[]/\n=0
 one:k ≠ 0->∃ c,l[p]? = some c/\p < z/\z<=l.length/\0 < k/\k<=4/\32 < c.toNat/\c.toNat ≠ 35/\(c == 34)=(k == 3)/\(k == 1)=g7 c.toNat
def Got:R->ByteArray->Int->Int->Int->Int->Prop
 | .ok _ x n z,x',n',z',e',t'=>x'=mk x/\n'=n/\z'=z/\e'=0/\t'=0
 | .bad e t,_,_,_,e',t'=>e'=e/\t'=t
theorem Got.bad {r:R} {e t:Int} (h:r=.bad e t) {x:ByteArray} {n z:Int}:Got r x n z e t:=by subst h; exact ⟨rfl,rfl⟩
theorem Got.ok {r:R} {k:Int} {x:List UInt8} {n:Int} {z:Nat} (h:r=.ok k x n z):Got r (mk x) n z 0 0:=by subst h; exact ⟨rfl,rfl,rfl,rfl,rfl⟩
structure Ends (ts:List Tk):Prop where
 pos:0 < ts.length
 le:ts.length<=4001
 last:∀ (i:Nat) (t:Tk),ts[i]? = some t->(t.k=0 ↔ i + 1=ts.length)
def fW (ts:List Tk) (n:Nat):Nat:=if n + 1 < ts.length then n + 1 else n
def sL (k:Int) (w:List UInt8) (t:Tk):Bool:=t.k == k && t.x == w
def MF (n:Nat):List UInt8:=(if h:n < 10 then [] else MF (n / 10)) ++ [(48 + n % 10).toUInt8]
 termination_by n
 decreasing_by omega
def aHB (n:Int):List UInt8:=bif decide (n < 0) then 45 :: MF n.natAbs else MF n.natAbs
def aH6 (c:UInt8):List UInt8:=bif c == 34 || c == 92 then [92,c] else [c]
def aGY (l:List UInt8):List UInt8:=34 :: l.flatMap aH6 ++ [34]
def VB (c:UInt8):Bool:=decide (32<=c) && decide (c<=126)
def Z2 (k:Int) (x:List UInt8) (n:Int):Bool:=
 bif k == 1 then n == 0 && cO x else bif k == 2 then x == [] else bif k == 3 then n == 0 && (decide (x.length<=200) && x.all VB) else bif k == 4 then n == 0 && (match x with | [c]=>tH c.toNat | _=>false) else false
structure Tx where
 k:Int
 x:List UInt8
 n:Int
 a:Int
structure TkFit (t:Tx):Prop where
 lo:-9223372036854775808<=t.n
 hi:t.n<=9223372036854775807
 len:t.x.length<=100000
structure Fs where
 bad:Bool
 off:Int
 n:Nat
instance:Inhabited Tk:=⟨⟨0,[],0,0⟩⟩
def eW (ts:List Tk) (n:Nat):Tk:=ts.getD n default
structure Tks (ts:List Tk):Prop where
 e:Ends ts
 n:∀ t ∈ ts,bM t.n
 x:∀ t ∈ ts,t.x.length<=4000
 a:∀ t ∈ ts,t.a<=4000
def gH (ts:List Tk) (z:Fs):Fs:=bif z.bad then z else ⟨true,(eW ts z.n).a,z.n⟩
def g5 (w:List UInt8) (ts:List Tk) (z:Fs):Bool:=!z.bad && sL 4 w (eW ts z.n)
def qW (w:List UInt8) (ts:List Tk) (z:Fs):Fs:=bif g5 w ts z then ⟨false,z.off,fW ts z.n⟩ else z
def dX (w:List UInt8) (ts:List Tk) (z:Fs):Fs:=bif g5 w ts z then ⟨false,z.off,fW ts z.n⟩ else gH ts z
def j0 (k:Int) (ts:List Tk) (z:Fs):Bool:=!z.bad && (eW ts z.n).k == k
def OI (k:Int) (ts:List Tk) (z:Fs):Tk:=bif j0 k ts z then eW ts z.n else default
def P8 (k:Int) (ts:List Tk) (z:Fs):Fs:=bif j0 k ts z then ⟨false,z.off,fW ts z.n⟩ else gH ts z
theorem CD {ts:List Tk} {n:Nat} (h:n < ts.length):ts[n]? = some (eW ts n):=by simp [eW,List.getD_eq_getElem?_getD,aT h]
def P6:List UInt8:=[116,114,117,101]
def I0:List UInt8:=[102,97,108,115,101]
def aDE (ts:List Tk) (z:Fs):Vl × Fs:=
 bif !z.bad && sL 1 P6 (eW ts z.n) then (.mk 1 1 (mk []) [] [],⟨false,z.off,fW ts z.n⟩)
 else bif !z.bad && sL 1 I0 (eW ts z.n) then (.mk 1 0 (mk []) [] [],⟨false,z.off,fW ts z.n⟩)
 else (.mk 1 0 (mk []) [] [],gH ts z)
def aIN (k:Int) (ts:List Tk) (z:Fs):Vl × Fs:=(.mk k (OI 2 ts z).n (mk []) [] [],P8 2 ts z)
def aB0 (ts:List Tk) (z:Fs):Vl × Fs:=(.mk 4 0 (mk (OI 3 ts z).x) [] [],P8 3 ts z)
def MM (e:En) (ts:List Tk) (z:Fs):Int:=bif !z.bad && (eW ts z.n).k == 1 then mM e.ns (mk (eW ts z.n).x) 0 else -1
def aCS (e:En) (ts:List Tk) (z:Fs):Vl × Fs:=
 bif decide (MM e ts z < 0) || decide ((e.vs.length:Int)<=MM e ts z) then (.mk 7 0 (mk []) [] [],gH ts z)
 else (.mk 7 (e.vs.getD (MM e ts z).toNat 0) (mk []) [] [],⟨false,z.off,fW ts z.n⟩)
abbrev E0:Type:=Sc->List Tk->Ty->Fs->Vl × Fs
def v6 {α:Type} (one:α->Fs->α × Fs) (ts:List Tk):Nat->α->Fs->α × Fs
 | 0,a,z=>(a,z)
 | f + 1,a,z=>bif z.bad then (a,z) else bif g5 [44] ts (one a z).2 then v6 one ts f (one a z).1 (qW [44] ts (one a z).2) else one a z
theorem J4 {α:Type} (one:α->Fs->α × Fs) (ts:List Tk) (f:Nat) (a:α) (z:Fs):v6 one ts (f + 1) a z=bif z.bad then (a,z) else bif g5 [44] ts (one a z).2 then v6 one ts f (one a z).1 (qW [44] ts (one a z).2) else one a z:=rfl
def HO {α:Type} (one:α->Fs->α × Fs) (op sh:List UInt8) (ts:List Tk) (a:α) (z:Fs):α × Fs:=
 bif g5 sh ts (dX op ts z) then (a,qW sh ts (dX op ts z))
 else ((v6 one ts (ts.length + 1) a (dX op ts z)).1,dX sh ts (v6 one ts (ts.length + 1) a (dX op ts z)).2)
theorem ZO {ts:List Tk} {n:Nat} (h:n < ts.length):n<=fW ts n/\fW ts n < ts.length:=by
 unfold fW; split<;>omega
theorem UK (ts:List Tk) (z:Fs):(gH ts z).n=z.n:=by unfold gH; cases z.bad<;>rfl
theorem E5 {w:List UInt8} {ts:List Tk} {z:Fs} (h:z.n < ts.length):z.n<=(dX w ts z).n/\(dX w ts z).n < ts.length:=by
 unfold dX
 cases g5 w ts z
 · rw [aW,UK]; exact ⟨Nat.le_refl _,h⟩
 · exact ZO h
def Onw {α:Type} (one:α->Fs->α × Fs) (ts:List Tk):Prop:=∀ a z,z.n < ts.length->z.n<=(one a z).2.n/\(one a z).2.n < ts.length
def YC (P:E0) (s:Sc) (ts:List Tk) (u:Ty):List Vl->Fs->List Vl × Fs:=fun l z=>(l ++ [(P s ts u z).1],(P s ts u z).2)
def aDG (P:E0) (s:Sc) (ts:List Tk) (u:Ty) (z:Fs):Vl × Fs:=(.mk 5 0 (mk []) (HO (YC P s ts u) [91] [93] ts [] z).1 [],(HO (YC P s ts u) [91] [93] ts [] z).2)
def YJ (n:List UInt8):List Fl->Nat->Int
 | [],_=>-1
 | x :: l,i=>bif bl x.nm == n then (i:Int) else YJ n l (i + 1)
abbrev Fst:Type:=Int × List (Int × Vl)
def qG (ts:List Tk) (u:St) (z:Fs):Int:=YJ (eW ts z.n).x u.fs 0
def XQ (ts:List Tk) (u:St) (last:Int) (z:Fs):Bool:=(eW ts z.n).k != 1 || decide (qG ts u z < 0) || decide ((u.fs.getD (qG ts u z).toNat default).num<=last)
def aAC (ts:List Tk) (z:Fs):Fs:=dX [61] ts ⟨z.bad,z.off,fW ts z.n⟩
def ZI (P:E0) (s:Sc) (ts:List Tk) (u:St):Fst->Fs->Fst × Fs:=fun a z=>
 bif XQ ts u a.1 z then (a,gH ts z)
 else (((u.fs.getD (qG ts u z).toNat default).num,a.2 ++ [((u.fs.getD (qG ts u z).toNat default).num,(P s ts (u.fs.getD (qG ts u z).toNat default).ty (aAC ts z)).1)]),(P s ts (u.fs.getD (qG ts u z).toNat default).ty (aAC ts z)).2)
def stOf (s:Sc) (t:Ty):St:=(fS s.ss t.n).getD default
def UR (P:E0) (s:Sc) (ts:List Tk) (u:St) (z:Fs):Vl × Fs:=(.mk 6 0 (mk []) [] (HO (ZI P s ts u) [123] [125] ts (0,[]) z).1.2,(HO (ZI P s ts u) [123] [125] ts (0,[]) z).2)
theorem fR {s:Sc} (hs:s.fit) (t:Ty):(stOf s t).ok:=by
 unfold stOf
 cases h:fS s.ss t.n with
 | none=>exact ⟨by decide,by decide,fun _ h=>(by cases h)⟩
 | some u=>exact hs.ok.ss u (List.mem_of_find?_eq_some h)
def pP:Nat->E0
 | 0=>fun _ _ _ z=>(default,z)
 | N + 1=>fun s ts t z=>bif t.k == 1 then aDE ts z else bif t.k == 4 then aB0 ts z else bif t.k == 7 then aCS ((eH s.es t.n).getD default) ts z
  else bif t.k == 5 then aDG (pP N) s ts (t.e.headD default) z else bif t.k == 6 then UR (pP N) s ts (stOf s t) z else aIN t.k ts z
def zF (s:Sc):Nat->Ty->Vl
 | 0,_=>.mk 0 0 (mk []) [] []
 | n + 1,t=>bif valF s.ss s.es t then (bif t.k == 6 then .mk 6 0 (mk []) [] (((stOf s t).fs.filter fun f=>!f.opt).map fun f=>(f.num,zF s n f.ty)) else .mk t.k 0 (mk []) [] []) else .mk 0 0 (mk []) [] []
def zE (s:Sc) (n:Nat) (l:List Fl):List (Int × Vl):=(l.filter fun f=>!f.opt).map fun f=>(f.num,zF s n f.ty)
theorem wM (s:Sc) (n:Nat) (t:Ty):zF s (n + 1) t=bif valF s.ss s.es t then (bif t.k == 6 then .mk 6 0 (mk []) [] (zE s n (stOf s t).fs) else .mk t.k 0 (mk []) [] []) else .mk 0 0 (mk []) [] []:=rfl
theorem UH {s:Sc} {n i:Nat} {l:List Fl} {f:Fl} (h:l[i]? = some f):zE s n (l.take (i + 1))=bif f.opt then zE s n (l.take i) else zE s n (l.take i) ++ [(f.num,zF s n f.ty)]:=by
 unfold zE
 rw [List.take_add_one,h,List.filter_append,List.map_append]
 cases hf:f.opt<;>simp [hf]
theorem K6 (s:Sc) (n:Nat) (l:List Fl):(zE s n l).length<=l.length:=by
 unfold zE; rw [List.length_map]; exact List.length_filter_le _ _
theorem FL {s:Sc} (hs:s.fit) (t:Ty):(stOf s t).fs.length<=1000000000:=by
 unfold stOf
 cases h:fS s.ss t.n with
 | none=>exact Nat.zero_le _
 | some u=>exact (hs.sm u (List.mem_of_find?_eq_some h)).1
def ZQ (N:Nat):W.Spec:=fun av H K=>∃ (s:Sc) (t:Ty) (n:Nat),av=[.va (.gs (aI s)),.va (.gs (aU t)),iS .i64 ((n:Int) - 1)]/\H=[]/\s.fit/\TyOk t/\n < N/\N<=100/\K (.va (.gs (aN (zF s n t)))) []
theorem JW {N:Nat} {s:Sc} {t:Ty} {n:Nat} {K:S->Hp->Prop} (h1:s.fit) (h2:TyOk t) (h3:n < N) (h4:N<=100) (hK:K (.va (.gs (aN (zF s n t)))) []):ZQ N [.va (.gs [.vl (.int .i64 s.ver),.fz (s.es.map aY),.fz (s.ss.map aJ)]),.va (.gs [.vl (.int .i64 t.k),.vl (.int .i64 t.s),.vl (.string t.n),.fz (t.e.map aU)]),iS .i64 ((n:Int) - 1)] [] K:=⟨s,t,n,by rw [aP]; rfl,rfl,h1,h2,h3,h4,hK⟩
theorem JJ:∀ N,Meets Tryz.prog 83 (ZQ N)
 | 0=>⟨by kernel_rfl,by rintro xs vs E ro w K _ _ _ ⟨_,_,n,_,_,_,_,h,_⟩; exact absurd h (Nat.not_lt_zero n)⟩
 | N + 1=>by
  refine aD Tryz.func83 aJ0 3 (by rw [Tryz.ntmps83]; decide) (aH rU (aC iH (aC (JJ N) (aB _)))) (fun av H K h=>by obtain ⟨_,_,_,rfl,_⟩:=h; rfl) ?_
  rintro av H K ⟨s,t,n,rfl,rfl,hs,ht,hn,hN,hK⟩
  have k4:=iY ht
  have k5:=pF t
  have k6:=eT hs
  have k7:=jL s
  have fin:∀ {v:Vl} (R:Hp),zF s n t=v->W.Fin 0 K (.va (.gs (aN v))) R:=fun {v} R h=>by
   rw [h] at hK; refine .sel [] (by simp) (by simp) rfl (.done ?_)
   rw [aK] at hK ⊢
   simpa [go_sem] using hK
  cases n with
  | zero=>
   have g:decide (((0:Nat):Int) - 1 < 0)=true:=rfl
   simp (maxSteps:=1000000) -dsimp only [go_sem,aI,aP t,B3,EG,g,k4,k5,k6,k7]
   exact fin (v:=.mk 0 0 (mk []) [] []) _ rfl
  | succ n=>
   have g:decide (((n + 1:Nat):Int) - 1 < 0)=false:=by rw [decide_eq_false_iff_not]; omega
   have g':((n + 1:Nat):Int) - 1=n:=by omega
   rw [g'] at g ⊢
   rw [wM] at fin
   cases h1:valF s.ss s.es t with
   | false=>
    rw [h1,aW] at fin
    simp (maxSteps:=1000000) -dsimp only [go_sem,aI,aP t,B3,EG,g,k4,k5,k6,k7,h1]
    exact fin _ rfl
   | true=>
   rw [h1,bL] at fin
   cases h2:t.k == 6 with
   | false=>
    have h2':(t.k != 6)=true:=by rw [bne,h2]; rfl
    rw [h2,aW] at fin
    simp (maxSteps:=1000000) -dsimp only [go_sem,aI,aP t,B3,EG,g,k4,k5,k6,k7,h1,h2']
    exact fin _ rfl
   | true=>
   have h2':(t.k != 6)=false:=by rw [bne,h2]; rfl
   rw [h2,bL] at fin
   simp (maxSteps:=1000000) -dsimp only [go_sem,aI,aP t,B3,EG,g,k4,k5,k6,k7,h1,h2']
   refine j8 hs ?_
   rw [show (fS s.ss t.n).getD default=stOf s t from rfl]
   have hok:=fR hs t
   have hsm:=FL hs t
   have hz6:zF s (n + 1) t=.mk 6 0 (mk []) [] (zE s n (stOf s t).fs):=by rw [wM,h1,h2]; rfl
   rw [hz6,aK] at hK
   clear hz6 fin
   generalize stOf s t=u at *
   simp (maxSteps:=1000000) -dsimp only [go_sem,aJ]
   have hlen:=fun i=>Nat.le_trans (K6 s n (u.fs.take i)) (Nat.le_trans (List.length_take_le' i u.fs) hsm)
   refine dW (α:=Nat) (fun i=>[(2,iS .i64 n),(3,.va (.c1 (.pt 0 0))),(4,.va (.c1 (.pt 1 0))),(6,.va (.c1 (.pt 2 0))),(7,.va (.c1 (.pt 3 0))),(37,.va (.c1 (.fz (u.fs.map aR)))),(38,iS .i64 u.fs.length),(39,iS .i64 i)])
    (fun i=>[.cells [.vl (.int .i64 s.ver),.fz (s.es.map aY),.fz (s.ss.map aJ)] 93,.cells [.vl (.int .i64 t.k),.vl (.int .i64 t.s),.vl (.string t.n),.fz (t.e.map aU)] 42,.cells [.vl (.int .i64 0),.vl (.int .i64 0),.vl (.string (mk [])),.vl (.slice none 0 0),.vl (.slice none 0 0)] 29,
      .cells [.vl (.int .i64 t.k),.vl (.int .i64 0),.vl (.string (mk [])),.vl (.slice none 0 0),.sl 5 (zE s n (u.fs.take i)).length] 29,.cells [.vl (.string u.nm),.fz (u.fs.map aR)] 48,.row ((zE s n (u.fs.take i)).map bC) 76 6])
    (fun i=>i<=u.fs.length) (fun i=>u.fs.length - i) (.nilc 3 4 76 6 _ _ rfl rfl (nQ 0 6 (Nat.zero_le _) ?_ ?_)) ?_
   · simp -dsimp only [go_sem]<;>simp
   · simp -dsimp only [go_sem]<;>simp [zE]
   intro i hi
   have hli:=hlen i
   rcases bD i u.fs.length with hlt | hge
   · have hg:decide ((i:Int) < (u.fs.length:Int))=true:=by simp; omega
     have hx:u.fs[i]? = some u.fs[i]:=aT hlt
     have q2:=bB (row:=aR) hx
     have hfo:=(hok.fs _ (List.getElem_mem hlt)).ty
     generalize u.fs[i]=f at *
     have hz:=UH (s:=s) (n:=n) hx
     cases ho:f.opt with
     | true=>
      rw [ho,bL] at hz
      simp (maxSteps:=1000000) -dsimp only [go_sem,hg,↓q2,aR,ho,List.take_succ_cons,List.take_zero,List.length_cons]
      refine ⟨by omega,by omega,aF (i + 1) 6 (by omega) (by omega) ?_ ?_⟩
      · simp -dsimp only [go_sem]<;>simp
      · simp -dsimp only [go_sem,hz]<;>simp
     | false=>
      rw [ho,aW] at hz
      simp (maxSteps:=1000000) -dsimp only [go_sem,hg,↓q2,aR,ho,List.take_succ_cons,List.take_zero,List.length_cons]
      refine ⟨⟨by omega,by omega⟩,⟨by omega,by omega⟩,JW hs hfo (by omega) (by omega) ?_⟩
      generalize zF s n f.ty=v at *
      simp (maxSteps:=1000000) -dsimp only [go_sem,aK v]
      refine ⟨by omega,by omega,aF (i + 1) 6 (by omega) (by omega) ?_ ?_⟩
      · simp -dsimp only [go_sem]<;>simp
      · simp -dsimp only [go_sem,hz]<;>simp [bC,aK v]
   · have hg:decide ((i:Int) < (u.fs.length:Int))=false:=by simp; omega
     rw [List.take_of_length_le hge] at *
     have h6:t.k=6:=eq_of_beq h2
     simp (maxSteps:=1000000) -dsimp only [go_sem,hg,h6]
     refine .pub 5 _ _ _ rfl (.sel [] (by simp) (by simp [cQ]) rfl (.done ?_))
     simp -dsimp only [go_sem,cQ]
     exact hK
def C6:W.Spec:=fun av H K=>∃ (s:Sc) (t:Ty),av=[.va (.gs (aI s)),.va (.gs (aU t))]/\H=[]/\s.fit/\TyOk t/\K (.va (.gs (aN (zF s 23 t)))) []
theorem wB {s:Sc} {t:Ty} {K:S->Hp->Prop} (h1:s.fit) (h2:TyOk t) (hK:K (.va (.gs (aN (zF s 23 t)))) []):C6 [.va (.gs [.vl (.int .i64 s.ver),.fz (s.es.map aY),.fz (s.ss.map aJ)]),.va (.gs [.vl (.int .i64 t.k),.vl (.int .i64 t.s),.vl (.string t.n),.fz (t.e.map aU)])] [] K:=⟨s,t,by rw [aP]; rfl,rfl,h1,h2,hK⟩
theorem QK:Meets Tryz.prog 45 C6:=by
 refine aD Tryz.func45 aGI 2 (by rw [Tryz.ntmps45]; decide) (aC (JJ 24) (aB _)) (fun av H K h=>by obtain ⟨_,_,rfl,_⟩:=h; rfl) ?_
 rintro av H K ⟨s,t,rfl,rfl,hs,ht,hK⟩
 simp (maxSteps:=1000000) -dsimp only [go_sem,aI,aP t,ZY,XX]
 refine JW (n:=23) hs ht (by decide) (by decide) ?_
 rw [aK] at hK ⊢
 simp (maxSteps:=1000000) -dsimp only [go_sem]
 refine .sel [] (by simp) (by simp) rfl (.done ?_)
 simp -dsimp only [go_sem]
 exact hK
theorem AJ {s:Sc} (hs:s.fit):∀ (n:Nat) (t:Ty),TyOk t->VlOk (zF s n t)
 | 0,t,ht=>.mk ⟨by decide,by decide⟩ ⟨by decide,by decide⟩ (by decide) (by simp) (by simp) (by simp) (by simp) (by simp)
 | n + 1,t,ht=>by
  have hok:=fR hs t
  have hsm:=FL hs t
  rw [wM]
  cases valF s.ss s.es t with
  | false=>exact .mk ⟨by decide,by decide⟩ ⟨by decide,by decide⟩ (by decide) (by simp) (by simp) (by simp) (by simp) (by simp)
  | true=>
   cases t.k == 6 with
   | false=>exact .mk ht.k ⟨by decide,by decide⟩ (by decide) (by simp) (by simp) (by simp) (by simp) (by simp)
   | true=>
    have hl:=K6 s n (stOf s t).fs
    have hm:∀ x ∈ zE s n (stOf s t).fs,∃ f ∈ (stOf s t).fs,x=(f.num,zF s n f.ty):=fun x hx=>by
     unfold zE at hx
     obtain ⟨f,hf,rfl⟩:=List.mem_map.1 hx
     exact ⟨f,(List.mem_filter.1 hf).1,rfl⟩
    refine .mk ⟨by decide,by decide⟩ ⟨by decide,by decide⟩ (by decide) (by simp) (by omega) (by simp) (fun x hx=>?_) (fun x hx=>?_)
    · obtain ⟨f,hf,rfl⟩:=hm x hx; exact (hok.fs f hf).num
    · obtain ⟨f,hf,rfl⟩:=hm x hx; exact AJ hs n f.ty (hok.fs f hf).ty
def pmF (s:Sc) (t:Ty):Bool:=jR s t (zF s 23 t) == 0
theorem CR {k n:Int} {s:ByteArray} (hk:bM k) (hn:bM n) (hs:s.size<=9223372036854775807):VlOk (.mk k n s [] []):=.mk hk hn hs (by simp) (by simp) (by simp) (by simp) (by simp)
def v0:Vl:=.mk 0 0 (mk []) [] []
def WN (ts:List Tk) (z:Fs):Fs:=bif (eW ts z.n).k != 0 then gH ts z else z
def aIH (s:Sc) (t:Ty) (ts:List Tk) (r:Vl × Fs):Vl × Int × Int:=
 bif (WN ts r.2).bad then (v0,2,(WN ts r.2).off) else bif jR s t r.1 != 0 then (v0,jR s t r.1,0) else (r.1,0,0)
def HV (P:E0) (s:Sc) (t:Ty) (x:List UInt8):Vl × Int × Int:=
 bif !pmF s t then (v0,13,0) else bif (vS x).err != 0 then (v0,(vS x).err,(vS x).off) else aIH s t (vS x).toks (P s (vS x).toks t ⟨false,0,0⟩)
abbrev KS:Type:=Sc->Ty->Vl->List UInt8 × Bool
def tvB (n:Int):List UInt8:=bif n == 1 then P6 else I0
def tvT (x:List UInt8):List UInt8:=bif decide (x.length<=200) && x.all VB then aGY x else []
def nmF (ns:List ByteArray) (n:Int):List Int->Nat->ByteArray
 | [],_=>mk []
 | m :: l,i=>bif m == n && decide ((i:Int) < (ns.length:Int)) then ns.getD i (mk []) else nmF ns n l (i + 1)
def enOf (s:Sc) (t:Ty):En:=(eH s.es t.n).getD default
def MU:Bool->List (List UInt8)->List UInt8
 | _,[]=>[]
 | c,x :: r=>(bif c then [44,32] else []) ++ x ++ MU true r
def aD6 (F:KS) (s:Sc) (u:Ty) (l:List Vl):List UInt8 × Bool:=([91] ++ MU false (l.map fun x=>(F s u x).1) ++ [93],l.any fun x=>(F s u x).2)
def kW (u:St) (n:Int):Fl:=(fF u.fs n).getD default
def itF (F:KS) (s:Sc) (u:St) (x:Int × Vl):List UInt8:=bl (kW u x.1).nm ++ [32,61,32] ++ (F s (kW u x.1).ty x.2).1
def TV (F:KS) (s:Sc) (u:St) (l:List (Int × Vl)):List UInt8 × Bool:=([123] ++ MU false (l.map (itF F s u)) ++ [125],l.any fun x=>(F s (kW u x.1).ty x.2).2)
def fP:Nat->KS
 | 0=>fun _ _ _=>([],false)
 | N + 1=>fun s t v=>bif t.k == 1 then (tvB v.n,false) else bif t.k == 4 then (tvT (bl v.s),tvT (bl v.s) == []) else bif t.k == 7 then (bl (nmF (enOf s t).ns v.n (enOf s t).vs 0),false)
  else bif t.k == 5 then aD6 (fP N) s (t.e.headD default) v.l else bif t.k == 6 then TV (fP N) s (stOf s t) v.f else (aHB v.n,false)
def aIX (F:KS) (s:Sc) (t:Ty) (v:Vl):List UInt8:=bif jR s t v != 0 then [] else bif (F s t v).2 || decide (4000 < ((F s t v).1.length:Int)) then [] else (F s t v).1
def cH (l:List (Int × Vl)) (k:Int):Option (Int × Vl):=l.find? fun x=>decide (x.1=k)
def VO:W.Spec:=fun av H K=>∃ (v:Vl) (k:Int),av=[.va (.gs (aN v)),iS .i64 k]/\H=[]/\VlOk v/\v.k=6/\K (.tu [.gs (aN (((cH v.f k).map (·.2)).getD default)),bA (cH v.f k).isSome]) []
theorem WF {v:Vl} {k:Int} {K:S->Hp->Prop} (h:VlOk v) (h6:v.k=6) (hK:K (.tu [.gs (aN (((cH v.f k).map (·.2)).getD default)),bA (cH v.f k).isSome]) []):VO [.va (.gs [.vl (.int .i64 v.k),.vl (.int .i64 v.n),.vl (.string v.s),.fz (v.l.map aN),.fz (v.f.map bC)]),iS .i64 k] [] K:=⟨v,k,by rw [aK],rfl,h,h6,hK⟩
theorem GB:aN default=[.vl (.int .i64 0),.vl (.int .i64 0),.vl (.string (mk [])),.fz [],.fz []]:=rfl
def LP (v:Vl):Bool:=(v.k != 4 && !(bl v.s == [])) || (v.k != 5 && decide (0 < (v.l.length:Int))) || (v.k != 6 && decide (0 < (v.f.length:Int)))
def N3 (v:Vl):Bool:=(v.k == 4 || v.k == 5 || v.k == 6) && v.n != 0
def KP (s:Sc) (t:Ty) (v:Vl):Bool:=bif !(valF s.ss s.es t) || v.k != t.k || LP v then false else bif N3 v then false else bif v.k != 6 then true else dT (stOf s t).fs v.f
def vD (s:Sc) (t:Ty) (n:Int):Bool:=
 bif t.k == 1 then n == 0 || n == 1
 else bif t.k == 2 then t.s == 64 || (decide (-(2 ^ (t.s.toNat - 1):Int)<=n) && decide (n < (2 ^ (t.s.toNat - 1):Int)))
 else bif t.k == 3 then decide (0<=n) && decide (n < (2 ^ t.s.toNat:Int))
 else bif t.k == 7 then (enOf s t).vs.any fun x=>x == n else true
def aA2 (t:Ty) (a b:Int):Bool:=(t.k == 4 && decide (t.s < a)) || (t.k == 5 && decide (t.s < b))
mutual
def FP (s:Sc) (t:Ty):Vl->Int
 | .mk k n str l f=>bif !(KP s t (.mk k n str l f)) then 13 else bif !(vD s t n) then 4 else bif aA2 t (bl str).length l.length then 3
  else bif BG s (t.e.headD default) l != 0 then BG s (t.e.headD default) l else GY s (stOf s t) f
def BG (s:Sc) (t:Ty):List Vl->Int
 | []=>0
 | v :: r=>bif FP s t v != 0 then FP s t v else BG s t r
def GY (s:Sc) (u:St):List (Int × Vl)->Int
 | []=>0
 | (i,v) :: r=>bif FP s (kW u i).ty v != 0 then FP s (kW u i).ty v else GY s u r
end
theorem mC {α:Type} {l:List α} (h:decide (0 < (l.length:Int))=false):l=[]:=by
 have:=of_decide_eq_false h
 exact List.length_eq_zero_iff.1 (by omega)
theorem VU {s:Sc} {t:Ty} {n:Int} (hp:valF s.ss s.es t=true) (h4:(t.k == 4)=false) (h5:(t.k == 5)=false) (h6:(t.k == 6)=false):vD s t n=fX s t n:=by
 unfold vD fX
 cases h1:t.k == 1 with
 | true=>rfl
 | false=>
 cases h2:t.k == 2 with
 | true=>rfl
 | false=>
 cases h3:t.k == 3 with
 | true=>rfl
 | false=>
 cases h7:t.k == 7 with
 | true=>rfl
 | false=>
  exfalso
  obtain ⟨k,sz,nm,e⟩:=t
  have h1:(k == 1)=false:=h1
  have h2:(k == 2)=false:=h2
  have h3:(k == 3)=false:=h3
  have h4:(k == 4)=false:=h4
  have h5:(k == 5)=false:=h5
  have h6:(k == 6)=false:=h6
  have h7:(k == 7)=false:=h7
  rw [valF,h1,h2,h3,h4,h5,h6,h7] at hp
  cases hp
mutual
theorem JR (s:Sc) (t:Ty):∀ v:Vl,FP s t v=cT s t v
 | .mk k n str l f=>by
  have hL:∀ u,BG s u l=hZ s u l:=fun u=>IX s u l
  have hE:GY s (stOf s t) f=hY s ((fS s.ss t.n).getD default).fs f:=J2 s (stOf s t) f
  rw [FP,cT,hL,hE]
  unfold KP
  cases hp:valF s.ss s.es t with
  | false=>rfl
  | true=>
  show (bif !(bif !true || k != t.k || LP (.mk k n str l f) then false else bif N3 (.mk k n str l f) then false else bif k != 6 then true else dT (stOf s t).fs f) then 13 else _)=_
  cases hk:k != t.k with
  | true=>rfl
  | false=>
  have hk':k=t.k:=by simpa using hk
  subst hk'
  have eA:LP (.mk t.k n str l f)=((t.k != 4 && !(bl str == [])) || (t.k != 5 && decide (0 < (l.length:Int))) || (t.k != 6 && decide (0 < (f.length:Int)))):=rfl
  have eB:N3 (.mk t.k n str l f)=((t.k == 4 || t.k == 5 || t.k == 6) && n != 0):=rfl
  rw [eA,eB]
  unfold aA2
  cases h4:t.k == 4 with
  | true=>
   have e4:t.k=4:=eq_of_beq h4
   have er:vD s t n=true:=by unfold vD; rw [e4]; rfl
   rw [er,e4]
   unfold m2
   cases hn:n != 0<;>cases hl:decide (0 < (l.length:Int))<;>cases hf:decide (0 < (f.length:Int))<;>cases hs:decide (t.s < ((bl str).length:Int))<;>(try rw [mC hl])<;>(try rw [mC hf])<;>simp [hZ,hY]
  | false=>
  cases h5:t.k == 5 with
  | true=>
   have e5:t.k=5:=eq_of_beq h5
   have er:vD s t n=true:=by unfold vD; rw [e5]; rfl
   rw [er,e5]
   generalize hZ s (t.e.headD default) l=q
   have hq:(bif q != 0 then q else 0)=q:=by
    cases hz:q != 0 with
    | true=>rfl
    | false=>
     have hq0:q=0:=by simpa using hz
     rw [hq0]; rfl
   cases hn:n != 0<;>cases hb:bl str == []<;>cases hf:decide (0 < (f.length:Int))<;>cases hs:decide (t.s < (l.length:Int))<;>(try rw [mC hf])<;>simp [hY,hq]
  | false=>
  cases h6:t.k == 6 with
  | true=>
   have e6:t.k=6:=eq_of_beq h6
   have er:vD s t n=true:=by unfold vD; rw [e6]; rfl
   have ef:(stOf s t).fs=((fS s.ss t.n).getD default).fs:=rfl
   rw [er,e6,ef]
   cases hn:n != 0<;>cases hb:bl str == []<;>cases hl:decide (0 < (l.length:Int))<;>cases hs:dT ((fS s.ss t.n).getD default).fs f<;>(try rw [mC hl])<;>simp [hZ]
  | false=>
   rw [VU hp h4 h5 h6]
   have c4:(t.k != 4)=true:=by rw [bne,h4]; rfl
   have c5:(t.k != 5)=true:=by rw [bne,h5]; rfl
   have c6:(t.k != 6)=true:=by rw [bne,h6]; rfl
   rw [c4,c5,c6]
   unfold n5
   cases hb:bl str == []<;>cases hl:decide (0 < (l.length:Int))<;>cases hf:decide (0 < (f.length:Int))<;>cases hr:fX s t n<;>(try rw [mC hl])<;>(try rw [mC hf])<;>simp [hZ,hY]
theorem IX (s:Sc) (t:Ty):∀ l:List Vl,BG s t l=hZ s t l
 | []=>by rw [BG,hZ]
 | v :: r=>by rw [BG,hZ,JR s t v,IX s t r]
theorem J2 (s:Sc) (u:St):∀ l:List (Int × Vl),GY s u l=hY s u.fs l
 | []=>by rw [GY,hY]
 | (i,v) :: r=>by
  rw [GY,hY,JR s (kW u i).ty v,J2 s u r]; rfl
end
mutual
def dQ:Vl->Int
 | .mk k n s l f=>bif l8 (.mk k n s l f) then 0 else 1 + kP (gW 0 l) f
def gW (d:Int):List Vl->Int
 | []=>d
 | v :: r=>gW (max d (dQ v)) r
def kP (d:Int):List (Int × Vl)->Int
 | []=>d
 | (_,v) :: r=>kP (max d (dQ v)) r
end
theorem XU (v:Vl):dQ v=bif l8 v then 0 else 1 + kP (gW 0 v.l) v.f:=by cases v; rw [dQ]; rfl
theorem BP {g:Vl->Int} {n:Nat} (hg:∀ x,g x=min (dQ x) n) (D:Int) (x:Vl):jI g ((n:Int) - 1) (min D n) x=min (max D (dQ x)) n:=by
 unfold jI
 rw [hg x]
 cases h:decide (min D (n:Int)<=(n:Int) - 1) with
 | true=>have:=of_decide_eq_true h; rw [bL]; omega
 | false=>have:=of_decide_eq_false h; rw [aW]; omega
theorem OQ {g:Vl->Int} {n:Nat} (hg:∀ x,g x=min (dQ x) n):∀ (l:List Vl) (D:Int),l.foldl (jI g ((n:Int) - 1)) (min D n)=min (gW D l) n
 | [],D=>by rw [gW]; rfl
 | x :: l,D=>by rw [List.foldl_cons,BP hg,OQ hg l,gW]
theorem P9 {g:Vl->Int} {n:Nat} (hg:∀ x,g x=min (dQ x) n):∀ (l:List (Int × Vl)) (D:Int),l.foldl (mE g ((n:Int) - 1)) (min D n)=min (kP D l) n
 | [],D=>by rw [kP]; rfl
 | (i,x) :: l,D=>by
  rw [List.foldl_cons,show mE g ((n:Int) - 1) (min D n) (i,x)=jI g ((n:Int) - 1) (min D n) x from rfl,BP hg,P9 hg l,kP]
theorem Q8 {g:Vl->Int} {n:Nat} (hg:∀ x,g x=min (dQ x) n) (v:Vl):D2 g ((n:Int) - 1) v=min (dQ v) ((n:Int) + 1):=by
 unfold D2
 rw [XU]
 cases l8 v with
 | true=>rw [bL,bL]; omega
 | false=>
  rw [aW,aW]
  have h1:=OQ hg v.l 0
  rw [show min (0:Int) (n:Int)=0 by omega] at h1
  rw [h1,P9 hg v.f]
  omega
mutual
theorem SY:∀ v:Vl,0<=dQ v
 | .mk k n s l f=>by
  rw [dQ]
  have h1:=qE l 0
  have h2:=pW f (gW 0 l)
  cases l8 (.mk k n s l f) with
  | true=>exact Int.le_refl _
  | false=>rw [aW]; omega
theorem qE:∀ (l:List Vl) (d:Int),d<=gW d l
 | [],d=>by rw [gW]; exact Int.le_refl _
 | v :: r,d=>by
  rw [gW]
  have:=qE r (max d (dQ v))
  omega
theorem pW:∀ (l:List (Int × Vl)) (d:Int),d<=kP d l
 | [],d=>by rw [kP]; exact Int.le_refl _
 | (_,v) :: r,d=>by
  rw [kP]
  have:=pW r (max d (dQ v))
  omega
end
theorem GL:∀ (n:Nat) (x:Vl),fI n x=min (dQ x) n
 | 0,x=>by have:=SY x; show (0:Int)=min (dQ x) 0; omega
 | n + 1,x=>by
  rw [fI,uW,Q8 (GL n) x]
  omega
theorem S7 (n:Nat) (v:Vl):oO n v=min (dQ v) ((n:Int) + 1):=by rw [uW,Q8 (GL n) v]
theorem TR (v:Vl):decide (6 < oO 7 v)=decide (6 < dQ v):=by
 rw [S7]
 rw [Bool.eq_iff_iff,decide_eq_true_iff,decide_eq_true_iff]
 omega
mutual
theorem RI:∀ v:Vl,dQ v<=v.h
 | .mk k n s l f=>by
  rw [dQ,Vl.h]
  have h1:=QV l 0
  have h2:=QD f (gW 0 l)
  cases l8 (.mk k n s l f) with
  | true=>rw [bL]; omega
  | false=>rw [aW]; omega
theorem QV:∀ (l:List Vl) (d:Int),gW d l<=max d (Vl.hl l)
 | [],d=>by rw [gW,Vl.hl]; omega
 | v :: r,d=>by
  rw [gW,Vl.hl]
  have h1:=RI v
  have h2:=QV r (max d (dQ v))
  omega
theorem QD:∀ (l:List (Int × Vl)) (d:Int),kP d l<=max d (Vl.hf l)
 | [],d=>by rw [kP,Vl.hf]; omega
 | (i,v) :: r,d=>by
  rw [kP,Vl.hf]
  have h1:=RI v
  have h2:=QD r (max d (dQ v))
  omega
end
mutual
def prV:Vl->Bool
 | .mk _ _ s l f=>(decide ((bl s).length<=200) && (bl s).all VB) && (prL l && prG f)
def prL:List Vl->Bool
 | []=>true
 | v :: r=>prV v && prL r
def prG:List (Int × Vl)->Bool
 | []=>true
 | (_,v) :: r=>prV v && prG r
end
def aIO (s:Sc):Prop:=∀ e ∈ s.es,e.ns.length=e.vs.length
structure NSt (ss:List St) (es:List En) (u:St):Prop where
 l:u.fs.length<=16
 n:∀ f ∈ u.fs,1<=f.num/\f.num<=127
 m:∀ f ∈ u.fs,cO (bl f.nm)=true
 v:∀ f ∈ u.fs,valF ss es f.ty=true
 a:∀ k f g,0 < k->u.fs[k - 1]? = some g->u.fs[k]? = some f->g.num < f.num
 d:∀ k f,u.fs[k]? = some f->(u.fs.take k).any (fun g=>decide (g.nm=f.nm))=false
structure NEn (e:En):Prop where
 l:e.ns.length=e.vs.length
 s:e.ns.length<=16
 m:∀ n ∈ e.ns,cO (bl n)=true
 d:∀ k x,e.ns[k]? = some x->bU (e.ns.take k) x=false
 a:∀ k x y,0 < k->e.vs[k - 1]? = some x->e.vs[k]? = some y->x < y
 n:∀ x ∈ e.vs,0<=x/\x<=127
structure Nice (s:Sc):Prop where
 st:∀ u ∈ s.ss,NSt s.ss s.es u
 en:∀ e ∈ s.es,NEn e
theorem dZ {b:Bool} {x y:Int} (h:(bif b then x else y)=0) (hx:x ≠ 0):b=false/\y=0:=by
 cases b with
 | true=>exact absurd h hx
 | false=>exact ⟨rfl,h⟩
theorem KM {x y:Int} (h:(bif x != 0 then x else y)=0):x=0/\y=0:=by
 by_cases c:x=0
 · subst c; exact ⟨rfl,h⟩
 · rw [show (x != 0)=true by simpa using c] at h; exact absurd h c
theorem JV {ss:List St} {es:List En} {t:St} {k:Nat} {f:Fl} (hx:t.fs[k]? = some f) (h:lU ss es t k=0) :
 (1<=f.num/\f.num<=127)/\(∀ g,0 < k->t.fs[k - 1]? = some g->g.num < f.num)/\cO (bl f.nm)=true/\(t.fs.take k).any (fun g=>decide (g.nm=f.nm))=false/\valF ss es f.ty=true:=by
 unfold lU at h
 rw [hx] at h
 simp only at h
 obtain ⟨c1,h⟩:=dZ h (by decide)
 obtain ⟨c2,h⟩:=dZ h (by decide)
 obtain ⟨c3,h⟩:=dZ h (by decide)
 obtain ⟨c4,h⟩:=dZ h (by decide)
 obtain ⟨c5,h⟩:=dZ h (by decide)
 simp only [Bool.or_eq_false_iff,decide_eq_false_iff_not] at c1
 refine ⟨⟨by omega,by omega⟩,fun g hk hg=>?_,by simpa using c3,c4,by simpa using c5⟩
 rw [hg] at c2
 simp only at c2
 rw [show decide (0 < (k:Int))=true by simp; omega,Bool.true_and] at c2
 have:=of_decide_eq_false c2
 omega
theorem yP {e:En} {k:Nat} {x:ByteArray} {n:Int} (hx:e.ns[k]? = some x) (hn:e.vs[k]? = some n) (h:iI e k=0) :
 cO (bl x)=true/\bU (e.ns.take k) x=false/\(0<=n/\n<=127)/\(k=0->n=0)/\∀ m,0 < k->e.vs[k - 1]? = some m->m < n:=by
 unfold iI at h
 rw [hx,hn] at h
 simp only at h
 obtain ⟨c3,h⟩:=dZ h (by decide)
 obtain ⟨c4,h⟩:=dZ h (by decide)
 obtain ⟨c1,h⟩:=dZ h (by decide)
 obtain ⟨c2,h⟩:=dZ h (by decide)
 rw [Bool.or_eq_false_iff] at c1 c2
 have a1:=of_decide_eq_false c1.1
 have a2:=of_decide_eq_false c1.2
 refine ⟨by simpa using c3,c4,⟨by omega,by omega⟩,fun hk=>?_,fun m hk hm=>?_⟩
 · have c2:=c2.1
   rw [show decide ((k:Int)=0)=true by simp; omega,Bool.true_and] at c2
   exact Decidable.of_not_not (of_decide_eq_false c2)
 · have c2:=c2.2
   rw [hm] at c2
   simp only at c2
   rw [show decide (0 < (k:Int))=true by simp; omega,Bool.true_and] at c2
   have:=of_decide_eq_false c2
   omega
theorem F8 {e:En} (h:mA e=0):0 < e.ns.length/\e.ns.length=e.vs.length/\∀ k < e.ns.length,iI e k=0:=by
 unfold mA at h
 obtain ⟨c1,h⟩:=dZ h (by decide)
 simp only [Bool.or_eq_false_iff,decide_eq_false_iff_not] at c1
 exact ⟨by omega,by omega,fun k hk=>iO (m:=e.ns.length) (by rw [Nat.sub_zero]; exact h) k hk⟩
theorem nU {s:Sc} (h:bP s=0):dP s=false/\ED s=0/\AA s=0/\iQ s.ss=0:=by
 unfold bP at h
 obtain ⟨_,h⟩:=dZ h (by decide)
 obtain ⟨c2,h⟩:=dZ h (by decide)
 obtain ⟨c3,h⟩:=KM h
 obtain ⟨c4,h⟩:=KM h
 exact ⟨c2,c3,c4,h⟩
theorem TQ {s:Sc} (h:bP s=0):Nice s:=by
 obtain ⟨c2,c3,c4,_⟩:=nU h
 obtain ⟨l1,l2,l3,l4⟩:=rM c2
 refine ⟨fun u hu=>?_,fun e he=>?_⟩
 · obtain ⟨i,hi⟩:=List.mem_iff_getElem?.1 hu
   have hc:=(EU hi (iO c4 i (a8.1 hi).1)).2
   have key:=fun k f (hx:u.fs[k]? = some f)=>JV hx (iO hc k (a8.1 hx).1)
   have mem:∀ f ∈ u.fs,∃ k,u.fs[k]? = some f:=fun f hf=>List.mem_iff_getElem?.1 hf
   exact ⟨l4 u hu,fun f hf=>(mem f hf).elim fun k hx=>(key k f hx).1,fun f hf=>(mem f hf).elim fun k hx=>(key k f hx).2.2.1,fun f hf=>(mem f hf).elim fun k hx=>(key k f hx).2.2.2.2,
    fun k f g hk hg hf=>(key k f hf).2.1 g hk hg,fun k f hf=>(key k f hf).2.2.2.1⟩
 · obtain ⟨i,hi⟩:=List.mem_iff_getElem?.1 he
   obtain ⟨hp,hl,hc⟩:=F8 (F1 hi (iO c3 i (a8.1 hi).1)).2.2
   have key:=fun k x n (hx:e.ns[k]? = some x) (hn:e.vs[k]? = some n)=>yP hx hn (hc k (a8.1 hx).1)
   have oth:∀ k x,e.ns[k]? = some x->∃ n,e.vs[k]? = some n:=fun k x hx=>⟨_,aT (hl ▸ (a8.1 hx).1)⟩
   have oth2:∀ k n,e.vs[k]? = some n->∃ x,e.ns[k]? = some x:=fun k x hx=>⟨_,aT (hl ▸ (a8.1 hx).1)⟩
   refine ⟨hl,l3 e he,fun x hx=>?_,fun k x hx=>?_,fun k x y hk hx hy=>?_,fun n hn=>?_⟩
   · obtain ⟨k,hk⟩:=List.mem_iff_getElem?.1 hx
     obtain ⟨n,hn⟩:=oth k x hk
     exact (key k x n hk hn).1
   · obtain ⟨n,hn⟩:=oth k x hx
     exact (key k x n hx hn).2.1
   · obtain ⟨z,hz⟩:=oth2 k y hy
     exact (key k z y hz hy).2.2.2.2 x hk hx
   · obtain ⟨k,hk⟩:=List.mem_iff_getElem?.1 hn
     obtain ⟨z,hz⟩:=oth2 k n hk
     exact (key k z n hz hk).2.2.1
theorem L0 {s:Sc} (h:bP s=0) {e:En} (he:e ∈ s.es):e.vs[0]? = some 0:=by
 obtain ⟨c2,c3,c4,_⟩:=nU h
 obtain ⟨i,hi⟩:=List.mem_iff_getElem?.1 he
 obtain ⟨hp,hl,hc⟩:=F8 (F1 hi (iO c3 i (a8.1 hi).1)).2.2
 have h1:e.ns[0]? = some e.ns[0]:=aT hp
 have h2:e.vs[0]? = some (e.vs[0]'(hl ▸ hp)):=aT (hl ▸ hp)
 rw [h2,(yP h1 h2 (hc 0 hp)).2.2.2.1 rfl]
theorem Nice.stOf {s:Sc} (h:Nice s) (t:Ty):NSt s.ss s.es (stOf s t):=by
 unfold Proofs.YthpbnmebjocbeaaGreat.stOf
 cases h1:fS s.ss t.n with
 | none=>exact ⟨by decide,fun _ h=>(by cases h),fun _ h=>(by cases h),fun _ h=>(by cases h),fun _ _ _ _ h=>(by cases h),fun _ _ h=>(by cases h)⟩
 | some u=>exact h.st u (List.mem_of_find?_eq_some h1)
theorem Nice.enOf {s:Sc} (h:Nice s) (t:Ty):NEn (enOf s t):=by
 unfold Proofs.YthpbnmebjocbeaaGreat.enOf
 cases h1:eH s.es t.n with
 | none=>exact ⟨rfl,by decide,fun _ h=>(by cases h),fun _ _ h=>(by cases h),fun _ _ _ _ h=>(by cases h),fun _ h=>(by cases h)⟩
 | some u=>exact h.en u (List.mem_of_find?_eq_some h1)
theorem Nice.eq {s:Sc} (h:Nice s):aIO s:=fun e he=>(h.en e he).l
theorem L5 {x:List UInt8} (h:cO x=true):x.length<=16:=by
 rcases bD 16 x.length with h1 | h1
 · rw [zI h1] at h; cases h
 · exact h1
structure Ck (s:Sc) (t:Ty) (v:Vl):Prop where
 va:valF s.ss s.es t=true
 kk:v.k=t.k
 tx:(t.k == 4)=true->v.n=0/\v.l=[]/\v.f=[]/\((bl v.s).length:Int)<=t.s
 ls:(t.k == 5)=true->v.n=0/\bl v.s=[]/\v.f=[]/\(v.l.length:Int)<=t.s/\∀ x ∈ v.l,cT s (t.e.headD default) x=0
 st:(t.k == 6)=true->v.n=0/\bl v.s=[]/\v.l=[]/\dT (stOf s t).fs v.f=true/\∀ x ∈ v.f,cT s (kW (stOf s t) x.1).ty x.2=0
 nu:(t.k == 4)=false->(t.k == 5)=false->(t.k == 6)=false->bl v.s=[]/\v.l=[]/\v.f=[]/\fX s t v.n=true
theorem CT {s:Sc} {t:Ty}:∀ {l:List Vl},hZ s t l=0->∀ x ∈ l,cT s t x=0
 | [],_,_,h=>by cases h
 | y :: l,h,x,hx=>by
  rw [hZ] at h
  by_cases c:cT s t y=0
  · rw [c] at h
    rcases List.mem_cons.1 hx with rfl | hx
    · exact c
    · exact CT h x hx
  · rw [show (cT s t y != 0)=true by simpa using c] at h; exact absurd h c
theorem CS {s:Sc} {fs:List Fl}:∀ {l:List (Int × Vl)},hY s fs l=0->∀ x ∈ l,cT s ((fF fs x.1).getD default).ty x.2=0
 | [],_,_,h=>by cases h
 | y :: l,h,x,hx=>by
  rw [BL] at h
  by_cases c:cT s ((fF fs y.1).getD default).ty y.2=0
  · rw [c] at h
    rcases List.mem_cons.1 hx with rfl | hx
    · exact c
    · exact CS h x hx
  · rw [show (cT s ((fF fs y.1).getD default).ty y.2 != 0)=true by simpa using c] at h; exact absurd h c
theorem j1 {α:Type} {l:List α} (h:¬ 0 < (l.length:Int)):l=[]:=List.eq_nil_of_length_eq_zero (by omega)
theorem cM {k a b:Int} (h:(k == a)=true) (hab:a ≠ b):(k == b)=false:=by
 have:=eq_of_beq h; simp; omega
theorem j6 {s:Sc} {t:Ty} {v:Vl} (h:cT s t v=0):Ck s t v:=by
 rw [IR] at h
 cases c1:!(valF s.ss s.es t) || v.k != t.k with
 | true=>rw [c1] at h; simp at h
 | false=>
 rw [c1,aW] at h
 rw [Bool.or_eq_false_iff] at c1
 have va:valF s.ss s.es t=true:=by simpa using c1.1
 have kk:v.k=t.k:=by simpa using c1.2
 cases c4:t.k == 4 with
 | true=>
  rw [c4,bL] at h
  unfold m2 at h
  cases d1:v.n != 0 || decide (0 < (v.l.length:Int)) || decide (0 < (v.f.length:Int)) with
  | true=>rw [d1] at h; simp at h
  | false=>
   rw [d1,aW] at h
   cases d2:decide (t.s < ((bl v.s).length:Int)) with
   | true=>rw [d2] at h; simp at h
   | false=>
    simp only [Bool.or_eq_false_iff,decide_eq_false_iff_not,bne_eq_false_iff_eq] at d1 d2
    refine ⟨va,kk,fun _=>⟨d1.1.1,j1 d1.1.2,j1 d1.2,by omega⟩,fun h=>?_,fun h=>?_,fun h _ _=>?_⟩
    · rw [cM c4 (by decide)] at h; cases h
    · rw [cM c4 (by decide)] at h; cases h
    · rw [c4] at h; cases h
 | false=>
 rw [c4,aW] at h
 cases c5:t.k == 5 with
 | true=>
  rw [c5,bL] at h
  cases d1:v.n != 0 || !(bl v.s == []) || decide (0 < (v.f.length:Int)) with
  | true=>rw [d1] at h; simp at h
  | false=>
   rw [d1,aW] at h
   cases d2:decide (t.s < (v.l.length:Int)) with
   | true=>rw [d2] at h; simp at h
   | false=>
    rw [d2,aW] at h
    simp only [Bool.or_eq_false_iff,decide_eq_false_iff_not,bne_eq_false_iff_eq,Bool.not_eq_false'] at d1 d2
    refine ⟨va,kk,fun h=>?_,fun _=>⟨d1.1.1,eq_of_beq d1.1.2,j1 d1.2,by omega,CT h⟩,fun h=>?_,fun _ h _=>?_⟩
    · rw [c4] at h; cases h
    · rw [cM c5 (by decide)] at h; cases h
    · rw [c5] at h; cases h
 | false=>
 rw [c5,aW] at h
 cases c6:t.k == 6 with
 | true=>
  rw [c6,bL] at h
  cases d1:v.n != 0 || !(bl v.s == []) || decide (0 < (v.l.length:Int)) || !(dT ((fS s.ss t.n).getD default).fs v.f) with
  | true=>rw [d1] at h; simp at h
  | false=>
   rw [d1,aW] at h
   simp only [Bool.or_eq_false_iff,decide_eq_false_iff_not,bne_eq_false_iff_eq,Bool.not_eq_false'] at d1
   refine ⟨va,kk,fun h=>?_,fun h=>?_,fun _=>⟨d1.1.1.1,eq_of_beq d1.1.1.2,j1 d1.1.2,d1.2,CS h⟩,fun _ _ h=>?_⟩
   · rw [c4] at h; cases h
   · rw [c5] at h; cases h
   · rw [c6] at h; cases h
 | false=>
 rw [c6,aW] at h
 unfold n5 at h
 cases d1:!(bl v.s == []) || decide (0 < (v.l.length:Int)) || decide (0 < (v.f.length:Int)) with
 | true=>rw [d1] at h; simp at h
 | false=>
  rw [d1,aW] at h
  cases d2:fX s t v.n with
  | false=>rw [d2] at h; simp at h
  | true=>
   simp only [Bool.or_eq_false_iff,decide_eq_false_iff_not,Bool.not_eq_false'] at d1
   refine ⟨va,kk,fun h=>?_,fun h=>?_,fun h=>?_,fun _ _ _=>⟨eq_of_beq d1.1.1,j1 d1.1.2,j1 d1.2,d2⟩⟩
   · rw [c4] at h; cases h
   · rw [c5] at h; cases h
   · rw [c6] at h; cases h
def eS:Nat->Nat
 | 0=>500
 | m + 1=>40 * eS m
theorem sG {s:Sc} {t:Ty} {v:Vl} (h:jR s t v=0):cT s t v=0/\dQ v<=6:=by
 unfold jR at h
 rw [TR] at h
 cases c:decide (6 < dQ v) with
 | true=>rw [c] at h; simp at h
 | false=>rw [c] at h; exact ⟨h,by have:=of_decide_eq_false c; omega⟩
def oJ (a b:Int × Int):Int × Int:=(IntKind.i64.wrap (a.1 + b.1),max a.2 b.2)
mutual
def lH:Vl->Int->Int × Int
 | .mk _ _ _ l f,lev=>bif decide (20 < lev) then (1,lev) else DZ f (lev + 1) (rO l (lev + 1) (1,lev))
def rO:List Vl->Int->Int × Int->Int × Int
 | [],_,a=>a
 | v :: r,lev,a=>rO r lev (oJ a (lH v lev))
def DZ:List (Int × Vl)->Int->Int × Int->Int × Int
 | [],_,a=>a
 | (_,v) :: r,lev,a=>DZ r lev (oJ a (lH v lev))
end
mutual
theorem T7:∀ (v:Vl) (lev:Int),lev<=(lH v lev).2
 | .mk k n s l f,lev=>by
  rw [lH]
  cases decide (20 < lev) with
  | true=>exact Int.le_refl _
  | false=>
   have h1:=p5 l (lev + 1) (1,lev)
   have h2:=qQ f (lev + 1) (rO l (lev + 1) (1,lev))
   rw [aW]
   simp only at h1
   omega
theorem p5:∀ (l:List Vl) (lev:Int) (a:Int × Int),a.2<=(rO l lev a).2
 | [],_,_=>by rw [rO]; exact Int.le_refl _
 | v :: r,lev,a=>by
  have h:=p5 r lev (oJ a (lH v lev))
  rw [rO]
  unfold oJ at h ⊢
  simp only at h
  omega
theorem qQ:∀ (l:List (Int × Vl)) (lev:Int) (a:Int × Int),a.2<=(DZ l lev a).2
 | [],_,_=>by rw [DZ]; exact Int.le_refl _
 | (i,v) :: r,lev,a=>by
  have h:=qQ r lev (oJ a (lH v lev))
  rw [DZ]
  unfold oJ at h ⊢
  simp only at h
  omega
end
mutual
theorem OZ:∀ (v:Vl) (lev:Int),(lH v lev).2<=12->lev + v.h<=13
 | .mk k n s l f,lev,h=>by
  have h0:=T7 (.mk k n s l f) lev
  rw [lH] at h h0
  cases c:decide (20 < lev) with
  | true=>have:=of_decide_eq_true c; rw [c,bL] at h; simp only at h; omega
  | false=>
   rw [c,aW] at h h0
   have h1:=p5 l (lev + 1) (1,lev)
   have h2:=qQ f (lev + 1) (rO l (lev + 1) (1,lev))
   have h3:=Q1 f (lev + 1) (rO l (lev + 1) (1,lev)) h
   have h4:=Q4 l (lev + 1) (1,lev) (by omega)
   rw [Vl.h]
   simp only at h1
   omega
theorem Q4:∀ (l:List Vl) (lev:Int) (a:Int × Int),(rO l lev a).2<=12->Vl.hl l=0\/lev + Vl.hl l<=13
 | [],_,_,_=>.inl (by rw [Vl.hl])
 | v :: r,lev,a,h=>by
  rw [rO] at h
  have h1:=p5 r lev (oJ a (lH v lev))
  have h2:(lH v lev).2<=(oJ a (lH v lev)).2:=by unfold oJ; simp only; omega
  have h3:=OZ v lev (by omega)
  have h4:=Q4 r lev _ h
  rw [Vl.hl]
  omega
theorem Q1:∀ (l:List (Int × Vl)) (lev:Int) (a:Int × Int),(DZ l lev a).2<=12->Vl.hf l=0\/lev + Vl.hf l<=13
 | [],_,_,_=>.inl (by rw [Vl.hf])
 | (i,v) :: r,lev,a,h=>by
  rw [DZ] at h
  have h1:=qQ r lev (oJ a (lH v lev))
  have h2:(lH v lev).2<=(oJ a (lH v lev)).2:=by unfold oJ; simp only; omega
  have h3:=OZ v lev (by omega)
  have h4:=Q1 r lev _ h
  rw [Vl.hf]
  omega
end
theorem YI {ts:List Tk} {n:Nat} (he:Ends ts) (hn:n < ts.length) (hk:(eW ts n).k ≠ 0):fW ts n=n + 1:=by
 have h:=he.last n _ (CD hn)
 unfold fW
 rw [if_pos]
 by_cases e:n + 1=ts.length
 · exact absurd (h.2 e) hk
 · omega
abbrev f5 (n:Nat):Fs:=⟨false,0,n⟩
def ZU (w:List UInt8) (ts:List Tk) (n:Nat):Fs:=bif g5 [44] ts (f5 n) then qW [44] ts (f5 n) else dX w ts (f5 n)
theorem JX {ts:List Tk} {z:Fs} (h:z.bad=true):gH ts z=z:=by unfold gH; rw [h]; rfl
theorem DO {w:List UInt8} {ts:List Tk} {z:Fs} (h:z.bad=true):g5 w ts z=false:=by unfold g5; rw [h]; rfl
theorem yU {w:List UInt8} {ts:List Tk} {z:Fs} (h:z.bad=true):dX w ts z=z:=by unfold dX; rw [DO h]; exact JX h
structure Vr {α:Type} (ts:List Tk) (r:α × Fs) (v:α) (n:Nat) (b:Bool):Prop where
 hb:r.2.bad=b
 hn:n < ts.length
 ok:b=false->v=r.1/\r.2=f5 n
 er:b=true->r.2.off=((eW ts n).a:Int)
theorem S9 {ts:List Tk} {n:Nat} (he:Ends ts) (hn:n < ts.length) (hk:(eW ts n).k ≠ 0):n + 1 < ts.length:=by
 have h:=he.last n _ (CD hn)
 by_cases e:n + 1=ts.length
 · exact absurd (h.2 e) hk
 · omega
theorem K7 {k:Int} {w:List UInt8} {t:Tk} (h:sL k w t=true):t.k=k:=by unfold sL at h; rw [Bool.and_eq_true] at h; exact eq_of_beq h.1
end Go.Proofs.YthpbnmebjocbeaaGreat
namespace Go.W
section
variable {P:Program} {f:FuncId} {s t:Spec}
def C.pl:C->C->Prop
 | .vl v,c'=>c'=.vl v
 | c,c'=>∃ u,c'=.vl u/\(c.one->u.oneCell'=true)
def A.pl:A->A->Prop
 | .c1 c,.c1 c'=>C.pl c c'
 | .gs cs,.gs cs'=>All2 C.pl cs cs'
 | _,_=>False
def S.pl:S->S->Prop
 | .va a,s=>∃ b,s=.va b/\A.pl a b
 | .tu l,s=>∃ m,s=.tu m/\All2 A.pl l m
 | _,s=>s=.un
end
end Go.W
namespace Go.Proofs.YthpbnmebjocbeaaGreat
open Go.W
theorem aDZ {α:Type} {ts:List Tk} {n:Nat} {v:α} {z:Fs} (h:z=f5 z.n\/z=gH ts (f5 n)) (hn:n < ts.length) (hz:z.n < ts.length):Vr ts (v,z) v z.n z.bad:=by
 rcases h with h | h
 · rw [h]; exact ⟨rfl,hz,fun _=>⟨rfl,rfl⟩,fun h=>(by cases h)⟩
 · rw [h]; exact ⟨rfl,hn,fun h=>(by cases h),fun _=>rfl⟩
theorem LX (w:List UInt8) (ts:List Tk) (n:Nat):dX w ts (f5 n)=f5 (dX w ts (f5 n)).n\/dX w ts (f5 n)=gH ts (f5 n):=by
 unfold dX
 cases g5 w ts (f5 n) with
 | true=>exact .inl rfl
 | false=>exact .inr rfl
abbrev zO:List (Nat × S):=[(0,.va (.c1 (.pt 0 0))),(4,.va (.c1 (.pt 1 0))),(5,.va (.c1 (.pt 2 0))),(6,.va (.c1 (.pt 3 0))),(7,.va (.c1 (.pt 4 0)))]
theorem FN {ss:List St} {es:List En} {t:Ty} (h:valF ss es t=true):(t.k == 1)=true\/(t.k == 2)=true\/(t.k == 3)=true\/(t.k == 4)=true\/(t.k == 5)=true\/(t.k == 6)=true\/(t.k == 7)=true:=by
 obtain ⟨k,s,n,e⟩:=t
 show (k == 1)=true\/_
 rw [valF.eq_def] at h
 simp only at h
 cases h1:k == 1<;>cases h2:k == 2<;>cases h3:k == 3<;>cases h4:k == 4<;>cases h5:k == 5<;>cases h6:k == 6<;>cases h7:k == 7 <;>
 first
  | (simp [Ty.k,h1,h2,h3,h4,h5,h6,h7]; done)
  | (rw [h1,h2,h3,h4,h5,h6,h7] at h; cases h)
theorem JT {w:List UInt8} {ts:List Tk} {n:Nat}:g5 w ts (f5 n)=sL 4 w (eW ts n):=by unfold g5; rw [Bool.not_false,Bool.true_and]
theorem BJ {w:List UInt8} {ts:List Tk} {n:Nat} (he:Ends ts) (hn:n < ts.length) (h:sL 4 w (eW ts n)=true):qW w ts (f5 n)=f5 (n + 1):=by
 unfold qW; rw [JT,h,YI he hn (by rw [K7 h]; decide)]; rfl
structure Ser {α:Type} (one:α->Fs->α × Fs) (sh:List UInt8) (ts:List Tk) (Q:α × Fs) (f:Nat) (m:Bool) (a:α) (n:Nat) (b:Bool):Prop where
 hn:n < ts.length
 go:m=true->b=false/\ts.length < n + f/\v6 one ts f a (f5 n)=Q
 no:m=false->Vr ts (Q.1,dX sh ts Q.2) a n b
theorem Ser.next {α:Type} {one:α->Fs->α × Fs} {sh:List UInt8} {ts:List Tk} {Q:α × Fs} {f:Nat} {a a':α} {n n':Nat} {b':Bool} (he:Ends ts) (ho:Onw one ts) (h:Ser one sh ts Q (f + 1) true a n false) (hr:Vr ts (one a (f5 n)) a' n' b') :
 (b'=true->Ser one sh ts Q f false a' n' true)/\(b'=false->Ser one sh ts Q f (g5 [44] ts (f5 n')) a' (ZU sh ts n').n (ZU sh ts n').bad):=by
 obtain ⟨_,h2,h3⟩:=h.go rfl
 rw [J4] at h3
 simp only [aW] at h3
 refine ⟨fun hb=>?_,fun hb=>?_⟩
 · have hbad:(one a (f5 n)).2.bad=true:=by rw [hr.hb,hb]
   rw [DO hbad,aW] at h3
   refine ⟨hr.hn,fun h=>(by cases h),fun _=>?_⟩
   rw [<-h3]
   exact ⟨by rw [yU hbad,hbad],hr.hn,fun h=>(by cases h),fun _=>by rw [yU hbad]; exact hr.er hb⟩
 · obtain ⟨e1,e2⟩:=hr.ok hb
   have hn':=hr.hn
   rw [e2] at h3
   unfold ZU
   cases hc:g5 [44] ts (f5 n') with
   | true=>
    have hc':=hc
    rw [JT] at hc'
    have hm:=S9 he hn' (by rw [K7 hc']; decide)
    rw [hc,bL,BJ he hn' hc'] at h3
    rw [bL,BJ he hn' hc']
    refine ⟨hm,fun _=>⟨rfl,?_,by rw [e1]; exact h3⟩,fun h=>(by cases h)⟩
    have h5:=(ho a (f5 n) h.hn).1
    rw [e2] at h5
    show ts.length < n' + 1 + f
    have h5:n<=n':=h5
    omega
   | false=>
    rw [hc,aW] at h3
    rw [aW]
    have hq:Q=(a',f5 n'):=by rw [<-h3,e1,<-e2]
    refine ⟨(E5 (w:=sh) hn').2,fun h=>(by cases h),fun _=>?_⟩
    rw [hq]
    exact aDZ (LX sh ts n') hn' (E5 (w:=sh) hn').2
structure Gtk (k:Int) (x:List UInt8) (n:Int):Prop where
 e:k=0->x=[]/\n=0
 o:k ≠ 0->Z2 k x n=true
 i:bM n
theorem TM {k:Int} {x:List UInt8} {n:Int} (h:Z2 k x n=true):x.length<=200:=by
 unfold Z2 at h
 cases c1:k == 1 with
 | true=>rw [c1,bL,Bool.and_eq_true] at h; have:=L5 h.2; omega
 | false=>
 rw [c1,aW] at h
 cases c2:k == 2 with
 | true=>rw [c2,bL] at h; rw [eq_of_beq h]; exact Nat.zero_le _
 | false=>
 rw [c2,aW] at h
 cases c3:k == 3 with
 | true=>rw [c3,bL,Bool.and_eq_true,Bool.and_eq_true] at h; exact of_decide_eq_true h.2.1
 | false=>
 rw [c3,aW] at h
 cases c4:k == 4 with
 | false=>rw [c4] at h; cases h
 | true=>
  rw [c4,bL,Bool.and_eq_true] at h
  match x,h with
  | [],_=>exact Nat.zero_le _
  | [_],_=>exact (by decide:1<=200)
  | _ :: _ :: _,h=>exact absurd h.2 (by simp)
theorem Gtk.len {k:Int} {x:List UInt8} {n:Int} (h:Gtk k x n):x.length<=200:=by
 by_cases hk:k=0
 · rw [(h.e hk).1]; exact Nat.zero_le _
 · exact TM (h.o hk)
structure Dg (s:Sc):Prop where
 ni:Nice s
 g:Gd s.ss s.es
 ac:zB s.ss
 d6:∀ u ∈ s.ss,dD s.ss u.nm<=6
 z:∀ e ∈ s.es,e.vs[0]? = some 0
theorem HG {s:Sc} (hf:s.fit) (h:bP s=0):Dg s:=by
 obtain ⟨c2,c3,c4,c5⟩:=nU h
 unfold iQ at c5
 obtain ⟨d1,c5⟩:=dZ c5 (by decide)
 obtain ⟨d2,c5⟩:=dZ c5 (by decide)
 exact ⟨TQ h,FW hf c2 c4,fun t ht=>gU d1 t ht,fun u hu=>by have:=of_decide_eq_false (gU d2 u hu); omega,fun e he=>L0 h he⟩
abbrev jS (s:Sc) (t:Ty):Int:=bY (dD s.ss) t
theorem yK (s:Sc) (t:Ty):0<=jS s t:=by
 unfold jS bY
 have:=IM s.ss (bK t).2.n
 cases (bK t).2.k == 6 with
 | true=>rw [bL]; omega
 | false=>rw [aW]; omega
theorem GC {s:Sc} {t u:Ty} (h5:(t.k == 5)=true) (he:t.e=[u]):jS s t=jS s u + 1:=by
 obtain ⟨k,z,n,e⟩:=t
 have hk:k=5:=eq_of_beq h5
 have he:e=[u]:=he
 subst hk he
 unfold jS bY
 rw [bK,show ((5:Int) == 5)=true from rfl,bL,zJ]
 simp only
 omega
theorem CL {s:Sc} {t:Ty} (h6:(t.k == 6)=true):jS s t=dD s.ss t.n:=by
 obtain ⟨k,z,n,e⟩:=t
 have hk:k=6:=eq_of_beq h6
 subst hk
 unfold jS bY
 rw [bK,show ((6:Int) == 5)=false from rfl,aW]
 show ((0:Nat):Int) + (bif (6:Int) == 6 then dD s.ss n else 0)=dD s.ss n
 simp
theorem va6 {s:Sc} {t:Ty} (h:valF s.ss s.es t=true) (h6:(t.k == 6)=true):∃ u,fS s.ss t.n=some u/\stOf s t=u/\u ∈ s.ss/\u.nm=t.n:=by
 have hh:cB s.ss t.n=true:=by
  obtain ⟨k,z,n,e⟩:=t
  have hk:k=6:=eq_of_beq h6
  subst hk
  rw [valF] at h; simp at h; exact h.1.1
 rw [<-tY] at hh
 obtain ⟨u,hu⟩:=Option.isSome_iff_exists.1 hh
 exact ⟨u,hu,by unfold stOf; rw [hu]; rfl,(fJ hu).1,(fJ hu).2⟩
theorem tZ {s:Sc} (hd:Dg s) {t:Ty} (h:valF s.ss s.es t=true) (h6:(t.k == 6)=true):1<=dD s.ss t.n/\dD s.ss t.n<=6/\∀ f ∈ (stOf s t).fs,jS s f.ty + 1<=dD s.ss t.n:=by
 obtain ⟨u,h1,h2,h3,h4⟩:=va6 h h6
 have e:=HY hd.g hd.ac h1
 have h0:=iU (dD s.ss) u.fs
 refine ⟨by omega,by rw [<-h4]; exact hd.d6 u h3,fun f hf=>?_⟩
 rw [h2] at hf
 have:=GO (dp:=dD s.ss) hf
 show bY (dD s.ss) f.ty + 1<=_
 omega
theorem OP {ss:List St} {es:List En} {u:St} (hu:NSt ss es u):u.fs.Pairwise fun f g=>f.num < g.num:=by
 have key:∀ (l:List Fl),(∀ k f g,0 < k->l[k - 1]? = some g->l[k]? = some f->g.num < f.num)->l.Pairwise fun f g=>f.num < g.num:=by
  intro l
  induction l with
  | nil=>intro _; exact .nil
  | cons y l ih=>
   intro h
   have hl:=ih fun k f g hk h1 h2=>h (k + 1) f g (by omega) (by rw [show k + 1 - 1=k - 1 + 1 by omega]; simpa using h1) (by simpa using h2)
   refine List.pairwise_cons.2 ⟨fun f hf=>?_,hl⟩
   cases l with
   | nil=>cases hf
   | cons z l=>
    have h1:=h 1 z y (by omega) rfl rfl
    rcases List.mem_cons.1 hf with rfl | hf
    · exact h1
    · exact Int.lt_trans h1 ((List.pairwise_cons.1 hl).1 f hf)
 exact key u.fs hu.a
theorem HS:∀ {fs:List Fl} {f:Fl},fs.Pairwise (fun f g=>f.num < g.num)->f ∈ fs->fF fs f.num=some f
 | y :: l,f,hp,hf=>by
  obtain ⟨h1,h2⟩:=List.pairwise_cons.1 hp
  show List.find? _ _=_
  rw [List.find?_cons]
  rcases List.mem_cons.1 hf with rfl | hf
  · simp
  · have:=h1 f hf
    have e:decide (y.num=f.num)=false:=by simp; omega
    rw [e]
    exact HS h2 hf
theorem aHQ {s:Sc} {t:Ty} (h:valF s.ss s.es t=true) (hk:(t.k == 4)=true\/(t.k == 5)=true):1<=t.s:=by
 obtain ⟨k,z,n,e⟩:=t
 show 1<=z
 rcases hk with hk | hk
 · have hk:k=4:=eq_of_beq hk
   subst hk
   rw [valF.eq_def] at h
   simp at h
   omega
 · have hk:k=5:=eq_of_beq hk
   subst hk
   rw [valF.eq_def] at h
   simp at h
   omega
mutual
def cU:Vl->Vl->Bool
 | .mk k n s l f,.mk k' n' s' l' f'=>k == k' && (n == n' && (bl s == bl s' && (eL l l' && d7 f f')))
def eL:List Vl->List Vl->Bool
 | [],[]=>true
 | x :: a,y :: b=>cU x y && eL a b
 | [],_ :: _=>false
 | _ :: _,[]=>false
def d7:List (Int × Vl)->List (Int × Vl)->Bool
 | [],[]=>true
 | (i,x) :: a,(j,y) :: b=>i == j && (cU x y && d7 a b)
 | [],_ :: _=>false
 | _ :: _,[]=>false
end
mutual
theorem qN:∀ {a b:Vl},cU a b=true ↔ a=b
 | .mk k n s l f,.mk k' n' s' l' f'=>by
  rw [cU]
  simp only [Bool.and_eq_true,beq_iff_eq,GK,FM,Vl.mk.injEq]
  exact ⟨fun ⟨h1,h2,h3,h4,h5⟩=>⟨h1,h2,hJ h3,h4,h5⟩,fun ⟨h1,h2,h3,h4,h5⟩=>⟨h1,h2,by rw [h3],h4,h5⟩⟩
theorem GK:∀ {a b:List Vl},eL a b=true ↔ a=b
 | [],[]=>by rw [eL]; simp
 | [],_ :: _=>by rw [eL]; simp
 | _ :: _,[]=>by rw [eL]; simp
 | x :: a,y :: b=>by rw [eL,Bool.and_eq_true,qN,GK]; simp
theorem FM:∀ {a b:List (Int × Vl)},d7 a b=true ↔ a=b
 | [],[]=>by rw [d7]; simp
 | [],_ :: _=>by rw [d7]; simp
 | (_,_) :: _,[]=>by rw [d7]; simp
 | (i,x) :: a,(j,y) :: b=>by rw [d7,Bool.and_eq_true,Bool.and_eq_true,qN,FM]; simp [and_assoc]
end
theorem BS (a:Vl):cU a a=true:=qN.2 rfl
theorem JK (a b:Vl):cU a b=(a.k == b.k && (a.n == b.n && (bl a.s == bl b.s && (eL a.l b.l && d7 a.f b.f)))):=by
 cases a; cases b; rw [cU]; rfl
theorem D4 (x y:Int × Vl) (a b:List (Int × Vl)):d7 (x :: a) (y :: b)=(x.1 == y.1 && (cU x.2 y.2 && d7 a b)):=by
 obtain ⟨i,x⟩:=x; obtain ⟨j,y⟩:=y; rw [d7]
def oX (R:Ty->Vl->List UInt8) (s:Sc) (f:List (Int × Vl)) (g:Fl):List UInt8:=
 bif !(cH f g.num).isSome || (!g.opt && cU (((cH f g.num).map (·.2)).getD default) (zF s 23 g.ty)) then [] else gO g.num ++ lK (R g.ty (((cH f g.num).map (·.2)).getD default))
def eD (R:Ty->Vl->List UInt8) (s:Sc) (fs:List Fl) (f:List (Int × Vl)):List UInt8:=fs.flatMap (oX R s f)
def i6 (R:Ty->Vl->List UInt8) (t:Ty) (l:List Vl):List UInt8:=l.flatMap fun x=>lK (R t x)
def cG (s:Sc):Nat->Ty->Vl->List UInt8
 | 0,_,_=>[]
 | N + 1,t,v=>bif t.k == 1 || (t.k == 3 || t.k == 7) then gO v.n else bif t.k == 2 then vi (oM v.n) else bif t.k == 4 then bl v.s else bif t.k == 5 then gO v.l.length ++ i6 (cG s N) (t.e.headD default) v.l else eD (cG s N) s (stOf s t).fs v.f
theorem r8 (s:Sc) (N:Nat) (t:Ty) (v:Vl):cG s (N + 1) t v=bif t.k == 1 || (t.k == 3 || t.k == 7) then gO v.n else bif t.k == 2 then vi (oM v.n) else bif t.k == 4 then bl v.s else bif t.k == 5 then gO v.l.length ++ i6 (cG s N) (t.e.headD default) v.l else eD (cG s N) s (stOf s t).fs v.f:=rfl
theorem mQ {α:Type} {f:α->List UInt8} {B:Nat}:∀ {l:List α},(∀ x ∈ l,(f x).length<=B)->(l.flatMap f).length<=l.length * B
 | [],_=>Nat.zero_le _
 | x :: l,h=>by
  have h1:=h x (List.mem_cons_self ..)
  have h2:=mQ fun y hy=>h y (List.mem_cons_of_mem _ hy)
  rw [List.flatMap_cons,List.length_append,List.length_cons,Nat.add_mul,Nat.one_mul]; omega
theorem mJ (l:List UInt8):(lK l).length<=10 + l.length:=by
 unfold lK; have:=iN l.length; rw [List.length_append]; omega
def eB (N:Nat):Nat:=4000 * 40 ^ N
theorem UO (N:Nat):eB (N + 1)=40 * eB N:=by unfold eB; rw [Nat.pow_succ]; omega
theorem WH (N:Nat):4000<=eB N:=by unfold eB; have:0 < 40 ^ N:=Nat.pow_pos (by decide); omega
theorem l7 {N:Nat} (h:N<=8):eB N<=27000000000000000:=by
 have:40 ^ N<=40 ^ 8:=Nat.pow_le_pow_right (by decide) h
 have h2:(40:Nat) ^ 8=6553600000000:=by decide
 unfold eB; omega
theorem qT {l:List (Int × Vl)} {k:Int} {x:Int × Vl} (h:cH l k=some x):x ∈ l/\x.1=k:=by
 unfold cH at h
 exact ⟨List.mem_of_find?_eq_some h,by have:=List.find?_some h; simpa using this⟩
theorem qM {s:Sc} (hd:Dg s) {t:Ty} {g:Fl} (hg:g ∈ (stOf s t).fs):kW (stOf s t) g.num=g:=by
 unfold kW
 rw [HS (OP (hd.ni.stOf t)) hg]; rfl
theorem GP {s:Sc} (hd:Dg s) {R:Ty->Vl->List UInt8} {t:Ty} {f:List (Int × Vl)} {g:Fl} {B:Nat} (hg:g ∈ (stOf s t).fs) (hR:∀ x ∈ f,(R (kW (stOf s t) x.1).ty x.2).length<=B):(oX R s f g).length<=20 + B:=by
 unfold oX
 cases hv:cH f g.num with
 | none=>exact Nat.zero_le _
 | some x=>
  obtain ⟨hm,he⟩:=qT hv
  have h1:=hR x hm
  rw [he,qM hd hg] at h1
  have h2:=iN g.num
  have h3:=mJ (R g.ty x.2)
  show (bif !true || (!g.opt && cU x.2 (zF s 23 g.ty)) then [] else gO g.num ++ lK (R g.ty x.2)).length<=_
  cases !true || (!g.opt && cU x.2 (zF s 23 g.ty)) with
  | true=>exact Nat.zero_le _
  | false=>rw [cond_false,List.length_append]; omega
theorem mV {s:Sc} {t:Ty} (h:valF s.ss s.es t=true):((t.k == 4)=true->t.s<=2000)/\((t.k == 5)=true->t.s<=32):=by
 obtain ⟨k,z,n,e⟩:=t
 refine ⟨fun hk=>?_,fun hk=>?_⟩
 · have hk:k=4:=eq_of_beq hk
   subst hk
   rw [valF.eq_def] at h
   simp at h
   show z<=2000
   omega
 · have hk:k=5:=eq_of_beq hk
   subst hk
   rw [valF.eq_def] at h
   simp at h
   show z<=32
   omega
theorem gR {s:Sc} (hd:Dg s):∀ (N:Nat) (t:Ty) (v:Vl),v.h<=N->cT s t v=0->(cG s N t v).length<=eB N
 | 0,_,v,h,_=>by have:=v.h_pos; omega
 | N + 1,t,v,hh,h0=>by
  have hc:=j6 h0
  have hB:=UO N
  have hp:=WH N
  have hvz:=mV hc.va
  rw [r8]
  cases c1:t.k == 1 || (t.k == 3 || t.k == 7) with
  | true=>rw [cond_true]; have:=iN v.n; omega
  | false=>
  rw [cond_false]
  cases c2:t.k == 2 with
  | true=>rw [cond_true]; have:=I9 (oM v.n); omega
  | false=>
  rw [cond_false]
  cases c4:t.k == 4 with
  | true=>
   rw [cond_true]
   obtain ⟨_,_,_,h1⟩:=hc.tx c4
   have:=hvz.1 c4
   omega
  | false=>
  rw [cond_false]
  cases c5:t.k == 5 with
  | true=>
   rw [cond_true,List.length_append]
   obtain ⟨_,_,_,h1,h2⟩:=hc.ls c5
   have h3:=hvz.2 c5
   have h4:=iN v.l.length
   have h5:(i6 (cG s N) (t.e.headD default) v.l).length<=v.l.length * (10 + eB N):=mQ fun x hx=>by
    have:=gR hd N _ x (by have:=Vl.h_l hx; omega) (h2 x hx)
    have:=mJ (cG s N (t.e.headD default) x)
    omega
   have h6:v.l.length * (10 + eB N)<=32 * (10 + eB N):=Nat.mul_le_mul_right _ (by omega)
   omega
  | false=>
   rw [cond_false]
   have c6:(t.k == 6)=true:=by
    rcases FN hc.va with h | h | h | h | h | h | h
    · rw [h] at c1; cases c1
    · rw [h] at c2; cases c2
    · rw [h,Bool.true_or,Bool.or_true] at c1; cases c1
    · rw [h] at c4; cases c4
    · rw [h] at c5; cases c5
    · exact h
    · rw [h,Bool.or_true,Bool.or_true] at c1; cases c1
   obtain ⟨_,_,_,_,h2⟩:=hc.st c6
   have hl:=(hd.ni.stOf t).l
   have h5:(eD (cG s N) s (stOf s t).fs v.f).length<=(stOf s t).fs.length * (20 + eB N):=mQ fun g hg=>GP hd hg fun x hx=>gR hd N _ x.2 (by have:=Vl.h_f hx; omega) (h2 x hx)
   have h6:(stOf s t).fs.length * (20 + eB N)<=16 * (20 + eB N):=Nat.mul_le_mul_right _ hl
   omega
def gB (s:Sc) (nm:ByteArray) (v:Vl):List UInt8 × Int:=
 bif bP s != 0 then ([],bP s) else bif !(cB s.ss nm) then ([],6) else bif jR s (.mk 6 0 nm []) v != 0 then ([],jR s (.mk 6 0 nm []) v) else bif decide (2000 < ((eD (cG s 8) s (stOf s (.mk 6 0 nm [])).fs v.f).length:Int)) then ([],3) else (eD (cG s 8) s (stOf s (.mk 6 0 nm [])).fs v.f,0)
mutual
theorem N4:∀ v:Vl,(v.h:Int)<=dQ v + 1
 | .mk k n s l f=>by
  have h1:=QH l 0 (Int.le_refl _)
  have h0:=qE l 0
  have h2:=RT f (gW 0 l) h0
  have h3:=pW f (gW 0 l)
  rw [dQ,Vl.h]
  cases hs:l8 (.mk k n s l f) with
  | true=>
   rw [cond_true]
   unfold l8 at hs
   simp only [Bool.and_eq_true] at hs
   have e1:l=[]:=by have:=hs.1.2; simpa [Vl.l] using this
   have e2:f=[]:=by have:=hs.2; simpa [Vl.f] using this
   rw [e1,e2,Vl.hl,Vl.hf]; decide
  | false=>rw [cond_false]; omega
theorem QH:∀ (l:List Vl) (d:Int),0<=d->(Vl.hl l:Int)<=gW d l + 1
 | [],d,hd=>by rw [Vl.hl,gW]; omega
 | v :: r,d,hd=>by
  have h1:=N4 v
  have h2:=QH r (max d (dQ v)) (by omega)
  have h3:=qE r (max d (dQ v))
  rw [Vl.hl,gW]; omega
theorem RT:∀ (l:List (Int × Vl)) (d:Int),0<=d->(Vl.hf l:Int)<=kP d l + 1
 | [],d,hd=>by rw [Vl.hf,kP]; omega
 | (_,v) :: r,d,hd=>by
  have h1:=N4 v
  have h2:=RT r (max d (dQ v)) (by omega)
  have h3:=pW r (max d (dQ v))
  rw [Vl.hf,kP]; omega
end
theorem XI {s:Sc} {t:Ty} {v:Vl} (h:jR s t v=0):v.h<=7:=by
 have h1:=(sG h).2
 have h2:=N4 v
 omega
def uP:PC:=.seq (.seq (.gh (.reg [.v 10 6,.q 11 (.bin .lss true (.t 10) (.i 0))])) (.cond (.t 11) (.seq (.reg [.q 12 (.bd [(.int .i64 0),(.int .i64 0),(.string (mk [])),(.slice none 0 0),(.slice none 0 0)] []),.s (.st 5 (.t 4) (.t 12)),.q 5 (.mv (.k (.bool false)))]) .ret) .skip)) (.seq (.reg [.q 13 (.fa 4 (.t 2)),.l 14 (.ld1 (.t 13)),.v 15 6,.l 16 (.ia 6 (.t 14) (.t 15)),.q 17 (.fa 1 (.t 16)),.l 18 (.ldn 5 (.t 17)),.a 19 (.cl 81 [(.t 18)] []),.s (.st 5 (.t 4) (.t 19)),.q 5 (.mv (.k (.bool true)))]) .ret)
@[go_sem ↓] theorem aI1:aO uP:=aQ _
def MT:PC:=.seq (.reg [.e 2 (.bx 29 (.t 0)),.e 4 (.al (.agg #[(.int .i64 0),(.int .i64 0),(.string (mk [])),(.slice none 0 0),(.slice none 0 0)]) 29),.q 5 (.mv (.k (.bool false)))]) (.seq (.reg [.l 7 (.ldn 5 (.t 2)),.v 8 1,.a 9 (.cq 80 [(.t 7),(.t 8)]),.v 6 9]) (uP))
def MW:List RV:=[.ld (.ldn 5 (.t 4)),.mv (.t 5)]
theorem aJ7:aS Tryz.prog true ⟨fun r k=>if r=1/\k=2 then .q else .own [],fun r=>[2].contains r⟩ Tryz.f43=some (MT,MW):=by kernel_rfl
def VA:PC:=.seq (.reg [.e 2 (.bx 29 (.t 0)),.e 3 (.bx 29 (.t 1)),.q 4 (.mv (.k (.bool false)))]) (.seq (.reg [.l 5 (.ldn 5 (.t 2)),.l 6 (.ldn 5 (.t 3)),.a 7 (.cl 82 [(.t 5),(.t 6)] []),.q 8 (.bin .eql true (.t 7) (.i 0)),.v 4 8]) .ret)
def Z3:List RV:=[.mv (.t 4)]
theorem aI6:aS Tryz.prog true ⟨fun r k=>if r=1/\k=2 then .own [] else .own [],fun _=>false⟩ Tryz.f44=some (VA,Z3):=by kernel_rfl
def X6:PC:=.seq (.reg [.e 2 (.bx 29 (.t 0)),.e 3 (.bx 3 (.t 1)),.q 4 (.mv (.i 0))]) (.seq (.seq (.reg [.q 5 (.fa 0 (.t 2)),.l 6 (.ld1 (.t 5)),.q 7 (.bin .neq true (.t 6) (.i 6))]) (.cond (.t 7) (.seq (.reg [.q 4 (.mv (.i (-1)))]) .ret) .skip)) (.seq (.reg [.q 8 (.fa 4 (.t 2)),.l 9 (.ld1 (.t 8)),.q 10 (.mf 118 [(.t 3)]),.a 11 (.cl 117 [(.t 9),(.t 10)] [1]),.v 4 11]) .ret))
def W4:List RV:=[.mv (.t 4)]
theorem aHS:aS Tryz.prog true ⟨fun r k=>if r=3/\k=3 then .own [1] else .own [],fun _=>false⟩ Tryz.f80=some (X6,W4):=by kernel_rfl
def aAB:PC:=.seq (.reg [.e 1 (.bx 29 (.t 0)),.e 2 (.al (.agg #[(.int .i64 0),(.int .i64 0),(.string (mk [])),(.slice none 0 0),(.slice none 0 0)]) 29)]) (.seq (.reg [.q 9 (.fa 3 (.t 1)),.l 10 (.ld1 (.t 9)),.q 11 (.fa 4 (.t 1)),.l 12 (.ld1 (.t 11)),.v 3 10,.v 4 12]) (.seq (.reg [.q 13 (.fa 3 (.t 1)),.s (.st 1 (.t 13) (.k (.slice none 0 0))),.q 14 (.fa 4 (.t 1)),.s (.st 1 (.t 14) (.k (.slice none 0 0)))]) (.seq (.seq (.reg [.v 15 3,.q 16 (.lnL (.t 15)),.q 17 (.mv (.i 0))]) (.block 0 (.loop (.seq (.reg [.q 18 (.bin .lss true (.t 17) (.t 16))]) (.seq (.cond (.t 18) .skip (.exit 0)) (.seq (.block 1 (.seq (.reg [.l 19 (.ia 5 (.t 15) (.t 17)),.l 20 (.ldn 5 (.t 19)),.e 6 (.al (.agg #[(.int .i64 0),(.int .i64 0),(.string (mk [])),(.slice none 0 0),(.slice none 0 0)]) 29),.s (.st 5 (.t 6) (.t 20))]) (.ord  [.q (.q 21 (.fa 3 (.t 1))),.q (.l 22 (.ld1 (.t 21))),.q (.l 23 (.ldn 5 (.t 6))),.m (.a 24 (.cl 81 [(.t 23)] [])),.rc (.q 21 (.fa 3 (.t 1))),.rc (.l 22 (.ld1 (.t 21))),.m (.e 25 (.bsl 29 5 [(.t 24)])),.rc (.q 21 (.fa 3 (.t 1))),.rc (.l 22 (.ld1 (.t 21))),.m (.e 26 (.ap 29 5 80 (.t 22) (.t 25))),.q (.q 27 (.fa 3 (.t 1))),.m (.s (.st 1 (.t 27) (.t 26)))]))) (.reg [.q 28 (.bin .add true (.t 17) (.i 1)),.v 17 28]))))))) (.seq (.seq (.reg [.v 29 4,.q 30 (.lnL (.t 29)),.q 31 (.mv (.i 0))]) (.block 2 (.loop (.seq (.reg [.q 32 (.bin .lss true (.t 31) (.t 30))]) (.seq (.cond (.t 32) .skip (.exit 2)) (.seq (.block 3 (.seq (.reg [.l 33 (.ia 6 (.t 29) (.t 31)),.l 34 (.ldn 6 (.t 33)),.e 8 (.al (.agg #[(.int .i64 0),(.int .i64 0),(.int .i64 0),(.string (mk [])),(.slice none 0 0),(.slice none 0 0)]) 76),.s (.st 6 (.t 8) (.t 34))]) (.ord  [.q (.q 35 (.fa 4 (.t 1))),.q (.l 36 (.ld1 (.t 35))),.q (.q 37 (.fa 0 (.t 8))),.q (.l 38 (.ld1 (.t 37))),.q (.q 39 (.fa 1 (.t 8))),.q (.l 40 (.ldn 5 (.t 39))),.m (.a 41 (.cl 81 [(.t 40)] [])),.rc (.q 35 (.fa 4 (.t 1))),.rc (.l 36 (.ld1 (.t 35))),.rc (.q 37 (.fa 0 (.t 8))),.rc (.l 38 (.ld1 (.t 37))),.q (.q 42 (.bd [(.int .i64 0),(.int .i64 0),(.int .i64 0),(.string (mk [])),(.slice none 0 0),(.slice none 0 0)] [(0,1,(.t 38)),(1,5,(.t 41))])),.m (.e 43 (.bsl 76 6 [(.t 42)])),.rc (.q 35 (.fa 4 (.t 1))),.rc (.l 36 (.ld1 (.t 35))),.m (.e 44 (.ap 76 6 88 (.t 36) (.t 43))),.q (.q 45 (.fa 4 (.t 1))),.m (.s (.st 1 (.t 45) (.t 44)))]))) (.reg [.q 46 (.bin .add true (.t 31) (.i 1)),.v 31 46]))))))) (.seq (.reg [.l 47 (.ldn 5 (.t 1)),.s (.st 5 (.t 2) (.t 47))]) .ret)))))
def ZM:List RV:=[.ld (.ldn 5 (.t 2))]
theorem aHE:aS Tryz.prog true ⟨fun _ _=>.own [],fun _=>false⟩ Tryz.f81=some (aAB,ZM):=by kernel_rfl
def vW:PC:=.seq (.gh (.reg [.q 41 (.fa 4 (.t 2)),.l 42 (.ld1 (.t 41)),.q 43 (.fa 4 (.t 3)),.l 44 (.ld1 (.t 43)),.a 45 (.cl 123 [(.t 42),(.t 44),(.f 124)] []),.v 4 45])) .ret
@[go_sem ↓] theorem aET:aO vW:=aQ _
def xO:PC:=.seq (.seq (.gh (.reg [.q 33 (.fa 3 (.t 2)),.l 34 (.ld1 (.t 33)),.q 35 (.fa 3 (.t 3)),.l 36 (.ld1 (.t 35)),.a 37 (.cl 122 [(.t 34),(.t 36),(.f 82)] []),.v 8 37])) (.seq (.reg [.v 38 8,.q 39 (.bin .neq true (.t 38) (.i 0))]) (.cond (.t 39) (.seq (.reg [.v 40 8,.v 4 40]) .ret) .skip))) (vW)
@[go_sem ↓] theorem aE3:aO xO:=aQ _
def BA:PC:=.seq (.seq (.gh (.reg [.q 25 (.fa 2 (.t 2)),.l 26 (.ld1 (.t 25)),.q 27 (.fa 2 (.t 3)),.l 28 (.ld1 (.t 27)),.a 29 (.cq 121 [(.t 26),(.t 28)]),.v 7 29])) (.seq (.reg [.v 30 7,.q 31 (.bin .neq true (.t 30) (.i 0))]) (.cond (.t 31) (.seq (.reg [.v 32 7,.v 4 32]) .ret) .skip))) (xO)
@[go_sem ↓] theorem aJV:aO BA:=aQ _
def EC:PC:=.seq (.seq (.gh (.reg [.q 17 (.fa 1 (.t 2)),.l 18 (.ld1 (.t 17)),.q 19 (.fa 1 (.t 3)),.l 20 (.ld1 (.t 19)),.a 21 (.cq 120 [(.t 18),(.t 20)]),.v 6 21])) (.seq (.reg [.v 22 6,.q 23 (.bin .neq true (.t 22) (.i 0))]) (.cond (.t 23) (.seq (.reg [.v 24 6,.v 4 24]) .ret) .skip))) (BA)
@[go_sem ↓] theorem aIE:aO EC:=aQ _
def aBN:PC:=.seq (.reg [.e 2 (.bx 29 (.t 0)),.e 3 (.bx 29 (.t 1)),.q 4 (.mv (.i 0))]) (.seq (.seq (.reg [.q 9 (.fa 0 (.t 2)),.l 10 (.ld1 (.t 9)),.q 11 (.fa 0 (.t 3)),.l 12 (.ld1 (.t 11)),.a 13 (.cq 119 [(.t 10),(.t 12)]),.v 5 13]) (.seq (.reg [.v 14 5,.q 15 (.bin .neq true (.t 14) (.i 0))]) (.cond (.t 15) (.seq (.reg [.v 16 5,.v 4 16]) .ret) .skip))) (EC))
def X2:List RV:=[.mv (.t 4)]
theorem aGK:aS Tryz.prog true ⟨fun r k=>if r=1/\k=4 then .q else if r=4/\k=4 then .q else if r=7/\k=4 then .q else .own [],fun r=>[4,7,10,13].contains r⟩ Tryz.f82=some (aBN,X2):=by kernel_rfl
def O7:PC:=.seq (.reg [.e 2 (.bx 76 (.t 0)),.q 3 (.mv (.k (.bool false)))]) (.seq (.reg [.q 4 (.fa 0 (.t 2)),.l 5 (.ld1 (.t 4)),.l 6 (.ld1 (.t 1)),.q 7 (.bin .eql true (.t 5) (.t 6)),.v 3 7]) .ret)
def RB:List RV:=[.mv (.t 3)]
theorem aC6:aS Tryz.prog true ⟨fun _ _=>.own [],fun _=>false⟩ Tryz.f118=some (O7,RB):=by kernel_rfl
def R7:PC:=.seq (.reg [.q 4 (.mv (.i 0))]) (.seq (.block 0 (.seq (.reg [.v 6 0,.v 7 1,.q 8 (.bin .lss true (.t 6) (.t 7)),.v 5 8]) (.cond (.t 5) (.seq (.reg [.q 4 (.mv (.i (-1)))]) .ret) (.seq (.reg [.v 10 0,.v 11 1,.q 12 (.bin .gtr true (.t 10) (.t 11)),.v 9 12]) (.cond (.t 9) (.seq (.reg [.q 4 (.mv (.i 1))]) .ret) .skip))))) (.seq (.reg [.q 4 (.mv (.i 0))]) .ret))
def RK:List RV:=[.mv (.t 4)]
theorem aEC:aS Tryz.prog true ⟨fun _ _=>.own [],fun _=>false⟩ Tryz.f119=some (R7,RK):=by kernel_rfl
def SJ:PC:=.seq (.reg [.q 4 (.mv (.i 0))]) (.seq (.block 0 (.seq (.reg [.v 6 0,.v 7 1,.q 8 (.bin .lss true (.t 6) (.t 7)),.v 5 8]) (.cond (.t 5) (.seq (.reg [.q 4 (.mv (.i (-1)))]) .ret) (.seq (.reg [.v 10 0,.v 11 1,.q 12 (.bin .gtr true (.t 10) (.t 11)),.v 9 12]) (.cond (.t 9) (.seq (.reg [.q 4 (.mv (.i 1))]) .ret) .skip))))) (.seq (.reg [.q 4 (.mv (.i 0))]) .ret))
def PU:List RV:=[.mv (.t 4)]
theorem aD7:aS Tryz.prog true ⟨fun _ _=>.own [],fun _=>false⟩ Tryz.f120=some (SJ,PU):=by kernel_rfl
def QB:PC:=.seq (.reg [.q 6 (.mv (.i 0))]) (.seq (.seq (.reg [.v 11 0,.q 12 (.lnL (.t 11)),.q 13 (.mv (.i 0))]) (.block 0 (.loop (.seq (.reg [.q 14 (.bin .lss true (.t 13) (.t 12))]) (.seq (.cond (.t 14) .skip (.exit 0)) (.seq (.block 1 (.seq (.reg [.v 15 13,.l 16 (.ia 5 (.t 11) (.t 13)),.l 17 (.ldn 5 (.t 16)),.e 8 (.al (.agg #[(.int .i64 0),(.int .i64 0),(.string (mk [])),(.slice none 0 0),(.slice none 0 0)]) 29),.v 7 15,.s (.st 5 (.t 8) (.t 17))]) (.seq (.seq (.reg [.v 18 7,.v 19 1,.q 20 (.lnL (.t 19)),.q 21 (.bin .geq true (.t 18) (.t 20))]) (.cond (.t 21) (.seq (.reg [.q 6 (.mv (.i 1))]) .ret) .skip)) (.seq (.reg [.v 22 1,.v 23 7,.l 24 (.ia 5 (.t 22) (.t 23)),.l 25 (.ldn 5 (.t 24)),.e 9 (.al (.agg #[(.int .i64 0),(.int .i64 0),(.string (mk [])),(.slice none 0 0),(.slice none 0 0)]) 29),.s (.st 5 (.t 9) (.t 25))]) (.seq (.reg [.v 26 2,.l 27 (.ldn 5 (.t 8)),.l 28 (.ldn 5 (.t 9)),.a 29 (.ca (.t 26) [(.t 27),(.t 28)] []),.v 10 29]) (.seq (.reg [.v 30 10,.q 31 (.bin .neq true (.t 30) (.i 0))]) (.cond (.t 31) (.seq (.reg [.v 32 10,.v 6 32]) .ret) .skip))))))) (.reg [.q 33 (.bin .add true (.t 13) (.i 1)),.v 13 33]))))))) (.seq (.seq (.reg [.v 34 0,.q 35 (.lnL (.t 34)),.v 36 1,.q 37 (.lnL (.t 36)),.q 38 (.bin .lss true (.t 35) (.t 37))]) (.cond (.t 38) (.seq (.reg [.q 6 (.mv (.i (-1)))]) .ret) .skip)) (.seq (.reg [.q 6 (.mv (.i 0))]) .ret)))
def OL:List RV:=[.mv (.t 6)]
theorem aEL:aS Tryz.prog true ⟨fun _ _=>.own [],fun _=>false⟩ Tryz.f122=some (QB,OL):=by kernel_rfl
def R3:PC:=.seq (.reg [.q 6 (.mv (.i 0))]) (.seq (.seq (.reg [.v 11 0,.q 12 (.lnL (.t 11)),.q 13 (.mv (.i 0))]) (.block 0 (.loop (.seq (.reg [.q 14 (.bin .lss true (.t 13) (.t 12))]) (.seq (.cond (.t 14) .skip (.exit 0)) (.seq (.block 1 (.seq (.reg [.v 15 13,.l 16 (.ia 6 (.t 11) (.t 13)),.l 17 (.ldn 6 (.t 16)),.e 8 (.al (.agg #[(.int .i64 0),(.int .i64 0),(.int .i64 0),(.string (mk [])),(.slice none 0 0),(.slice none 0 0)]) 76),.v 7 15,.s (.st 6 (.t 8) (.t 17))]) (.seq (.seq (.reg [.v 18 7,.v 19 1,.q 20 (.lnL (.t 19)),.q 21 (.bin .geq true (.t 18) (.t 20))]) (.cond (.t 21) (.seq (.reg [.q 6 (.mv (.i 1))]) .ret) .skip)) (.seq (.reg [.v 22 1,.v 23 7,.l 24 (.ia 6 (.t 22) (.t 23)),.l 25 (.ldn 6 (.t 24)),.e 9 (.al (.agg #[(.int .i64 0),(.int .i64 0),(.int .i64 0),(.string (mk [])),(.slice none 0 0),(.slice none 0 0)]) 76),.s (.st 6 (.t 9) (.t 25))]) (.seq (.reg [.v 26 2,.l 27 (.ldn 6 (.t 8)),.l 28 (.ldn 6 (.t 9)),.a 29 (.ca (.t 26) [(.t 27),(.t 28)] []),.v 10 29]) (.seq (.reg [.v 30 10,.q 31 (.bin .neq true (.t 30) (.i 0))]) (.cond (.t 31) (.seq (.reg [.v 32 10,.v 6 32]) .ret) .skip))))))) (.reg [.q 33 (.bin .add true (.t 13) (.i 1)),.v 13 33]))))))) (.seq (.seq (.reg [.v 34 0,.q 35 (.lnL (.t 34)),.v 36 1,.q 37 (.lnL (.t 36)),.q 38 (.bin .lss true (.t 35) (.t 37))]) (.cond (.t 38) (.seq (.reg [.q 6 (.mv (.i (-1)))]) .ret) .skip)) (.seq (.reg [.q 6 (.mv (.i 0))]) .ret)))
def SD:List RV:=[.mv (.t 6)]
theorem aB9:aS Tryz.prog true ⟨fun _ _=>.own [],fun _=>false⟩ Tryz.f123=some (R3,SD):=by kernel_rfl
def xE:PC:=.seq (.gh (.reg [.q 14 (.fa 1 (.t 2)),.l 15 (.ldn 5 (.t 14)),.q 16 (.fa 1 (.t 3)),.l 17 (.ldn 5 (.t 16)),.a 18 (.cl 82 [(.t 15),(.t 17)] []),.v 4 18])) .ret
@[go_sem ↓] theorem aFS:aO xE:=aQ _
def P3:PC:=.seq (.reg [.e 2 (.bx 76 (.t 0)),.e 3 (.bx 76 (.t 1)),.q 4 (.mv (.i 0))]) (.seq (.seq (.reg [.q 6 (.fa 0 (.t 2)),.l 7 (.ld1 (.t 6)),.q 8 (.fa 0 (.t 3)),.l 9 (.ld1 (.t 8)),.a 10 (.cq 119 [(.t 7),(.t 9)]),.v 5 10]) (.seq (.reg [.v 11 5,.q 12 (.bin .neq true (.t 11) (.i 0))]) (.cond (.t 12) (.seq (.reg [.v 13 5,.v 4 13]) .ret) .skip))) (xE))
def RG:List RV:=[.mv (.t 4)]
theorem aCO:aS Tryz.prog true ⟨fun r k=>if r=1/\k=4 then .q else if r=4/\k=4 then .own [] else .own [],fun r=>[4].contains r⟩ Tryz.f124=some (P3,RG):=by kernel_rfl
end Go.Proofs.YthpbnmebjocbeaaGreat
namespace Go.Proofs
open Go.Shelf
def Tryz.lays106_ren:Go.Shelf.Ren:=⟨fun | 106=>121 | 213=>152 | 265=>160 | n=>n,fun | 9=>9 | 3=>3 | n=>n,fun | n=>n⟩
theorem Tryz.lays106:Go.Proofs.Lays.n106 Tryz.prog Tryz.lays106_ren:={
 mixed:=by kernel_rfl
 f106:=Tryz.func121.trans (congrArg some (by kernel_rfl))
 f213:=Tryz.func152.trans (congrArg some (by kernel_rfl))
 f265:=Tryz.func160.trans (congrArg some (by kernel_rfl))
 t3:=Tryz.underlying3
 a3:=Tryz.isAgg3
 z3:=Tryz.sizeOf3
 v3:=Tryz.zeroValue3
 t9:=Tryz.underlying9
 a9:=Tryz.isAgg9
 z9:=Tryz.sizeOf9
 v9:=Tryz.zeroValue9 }
end Go.Proofs
namespace Go.Proofs.YthpbnmebjocbeaaGreat
open Go.W
theorem SO (a b:ByteArray) (w:World):Calls Tryz.prog 121 #[.string a,.string b] w fun e w'=>e=.returned (.int .i64 (Lib.compareBytes a.data.toList b.data.toList))/\w'=w:=Any.strings_Compare Tryz.lays106 a b w
def AQ:List S->Prop:=fun av=>match av with
 | [.va (.c1 (.vl (.string _))),.va (.c1 (.vl (.string _)))]=>True
 | _=>False
theorem uK {av:List S} (h:AQ av):∃ a b:ByteArray,av=[tS a,tS b]:=by
 unfold AQ at h
 split at h
 · exact ⟨_,_,rfl⟩
 · exact h.elim
def H7:List S->A:=fun av=>match av with
 | [.va (.c1 (.vl (.string a))),.va (.c1 (.vl (.string b)))]=>iA .i64 (Lib.compareBytes (bl a) (bl b))
 | _=>.gs []
def scFn:Fun:=⟨AQ,H7,fun av h=>by obtain ⟨a,b,rfl⟩:=uK h; trivial⟩
attribute [go_sem] scFn AQ H7
theorem US:Meets Tryz.prog 121 scFn.sp:=by
 refine ⟨by kernel_rfl,?_⟩
 rintro av vs E ro w K hlen hrel hR ⟨⟨h,hE⟩,hK⟩ _
 obtain ⟨a,b,rfl⟩:=uK h
 obtain ⟨v0,v1,rfl⟩:∃ v0 v1,vs=[v0,v1]:=by
  match vs,hlen with
  | [v0,v1],_=>exact ⟨v0,v1,rfl⟩
 have h0:v0=.string a:=hrel 0 _ _ rfl rfl
 have h1:v1=.string b:=hrel 1 _ _ rfl rfl
 subst h0 h1
 refine (SO a b w).mono ?_
 rintro e w' ⟨rfl,rfl⟩
 exact ⟨iS .i64 (Lib.compareBytes (bl a) (bl b)),_,E,ro,rfl,rfl,by rw [hE]; exact hK,hR⟩
theorem BZ:∀ (a b:List UInt8),(Lib.compareBytes a b == 0)=(a == b)
 | [],[]=>rfl
 | [],_ :: _=>rfl
 | _ :: _,[]=>rfl
 | x :: a,y :: b=>by
  rw [Lib.compareBytes]
  split
  · rename_i h
    have:(x :: a == y :: b)=false:=by
     rw [beq_eq_false_iff_ne]; intro e; cases e; exact UInt8.lt_irrefl _ h
    rw [this]; rfl
  · split
    · rename_i h
      have:(x :: a == y :: b)=false:=by
       rw [beq_eq_false_iff_ne]; intro e; cases e; exact UInt8.lt_irrefl _ h
      rw [this]; rfl
    · rename_i h1 h2
      have e:x=y:=UInt8.le_antisymm (UInt8.not_lt.1 h2) (UInt8.not_lt.1 h1)
      rw [e,BZ a b]
      simp
theorem kT (a b:Int):(jH a b == 0)=(a == b):=by
 unfold jH
 cases h1:decide (a < b) with
 | true=>
  have:=of_decide_eq_true h1
  rw [cond_true,show (a == b)=false by simp; omega]; rfl
 | false=>
  have h1:=of_decide_eq_false h1
  rw [cond_false]
  cases h2:decide (b < a) with
  | true=>
   have:=of_decide_eq_true h2
   rw [cond_true,show (a == b)=false by simp; omega]; rfl
  | false=>
   have h2:=of_decide_eq_false h2
   rw [cond_false,show (a == b)=true by simp; omega]; rfl
theorem RY:Meets Tryz.prog 119 sgFn.sp:=by
 refine aD Tryz.func119 aEC 2 (by rw [Tryz.ntmps119]; decide) (aB _) s6 ?_
 rintro av H K ⟨⟨h,rfl⟩,hK⟩
 obtain ⟨a,b,rfl⟩:=gY h
 have hK:K (iS .i64 (jH a b)) []:=hK
 clear h
 unfold jH at hK
 simp (maxSteps:=1000000) -dsimp only [go_sem,R7,RK]
 refine ⟨fun h1=>?_,fun h1=>⟨fun h2=>?_,fun h2=>?_⟩⟩
 · rw [h1] at hK; exact .done hK
 · rw [h1,h2] at hK; exact .done hK
 · rw [h1,h2] at hK; exact .done hK
theorem aDV:Meets Tryz.prog 120 sgFn.sp:=by
 refine aD Tryz.func120 aD7 2 (by rw [Tryz.ntmps120]; decide) (aB _) s6 ?_
 rintro av H K ⟨⟨h,rfl⟩,hK⟩
 obtain ⟨a,b,rfl⟩:=gY h
 have hK:K (iS .i64 (jH a b)) []:=hK
 clear h
 unfold jH at hK
 simp (maxSteps:=1000000) -dsimp only [go_sem,SJ,PU]
 refine ⟨fun h1=>?_,fun h1=>⟨fun h2=>?_,fun h2=>?_⟩⟩
 · rw [h1] at hK; exact .done hK
 · rw [h1,h2] at hK; exact .done hK
 · rw [h1,h2] at hK; exact .done hK
def yD (N:Nat):W.Spec:=fun av H K=>∃ a b:Vl,av=[.va (.gs (aN a)),.va (.gs (aN b))]/\H=[]/\VlOk a/\VlOk b/\a.h<=N/\∀ r:Int,(r == 0)=cU a b->K (iS .i64 r) []
theorem mD {N:Nat} {a b:Vl} {K:S->Hp->Prop} (h1:VlOk a) (h2:VlOk b) (h3:a.h<=N) (hK:∀ r:Int,(r == 0)=cU a b->K (iS .i64 r) []) :
 yD N [.va (.gs [.vl (.int .i64 a.k),.vl (.int .i64 a.n),.vl (.string a.s),.fz (a.l.map aN),.fz (a.f.map bC)]),.va (.gs [.vl (.int .i64 b.k),.vl (.int .i64 b.n),.vl (.string b.s),.fz (b.l.map aN),.fz (b.f.map bC)])] [] K:=
 ⟨a,b,by rw [aK,aK],rfl,h1,h2,h3,hK⟩
abbrev XA:S:=.va (.c1 (.fn 82 []))
abbrev XR:S:=.va (.c1 (.fn 124 []))
def V9 (N:Nat):W.Spec:=fun av H K=>∃ a b:List Vl,av=[.va (.c1 (.fz (a.map aN))),.va (.c1 (.fz (b.map aN))),XA]/\H=[]/\(∀ x ∈ a,VlOk x/\x.h<=N)/\(∀ x ∈ b,VlOk x)/\a.length<=1000000000000000/\b.length<=1000000000000000/\∀ r:Int,(r == 0)=eL a b->K (iS .i64 r) []
theorem ZH {N:Nat} {a b:List Vl} {K:S->Hp->Prop} (h1:∀ x ∈ a,VlOk x/\x.h<=N) (h2:∀ x ∈ b,VlOk x) (h3:a.length<=1000000000000000) (h4:b.length<=1000000000000000) (hK:∀ r:Int,(r == 0)=eL a b->K (iS .i64 r) []) :
 V9 N [.va (.c1 (.fz (a.map aN))),.va (.c1 (.fz (b.map aN))),XA] [] K:=⟨a,b,rfl,rfl,h1,h2,h3,h4,hK⟩
theorem DS (x y:Vl) (a b:List Vl):eL (x :: a) (y :: b)=(cU x y && eL a b):=by rw [eL]
theorem aCA {N:Nat} (hC:Meets Tryz.prog 82 (yD N)):Meets Tryz.prog 122 (V9 N):=by
 refine aD Tryz.func122 aEL 3 (by rw [Tryz.ntmps122]; decide) (aC hC (aB _)) (fun av H K h=>by obtain ⟨_,_,rfl,_⟩:=h; rfl) ?_
 rintro av H K ⟨a,b,rfl,rfl,ha,hb,hla,hlb,hK⟩
 have fin:∀ (r:Int) (R:Hp),(r == 0)=eL a b->W.Fin 0 K (iS .i64 r) R:=fun r R h=>.sel [] (by simp) (by simp) rfl (.done (by simpa [go_sem] using hK r h))
 simp (maxSteps:=1000000) -dsimp only [go_sem,QB,OL]
 refine aV (α:=Nat) (fun i=>[(0,.va (.c1 (.fz (a.map aN)))),(1,.va (.c1 (.fz (b.map aN)))),(2,XA),(11,.va (.c1 (.fz (a.map aN)))),(12,iS .i64 a.length),(13,iS .i64 i)]) (fun _=>[])
  (fun i=>i<=a.length/\i<=b.length/\eL (a.drop i) (b.drop i)=eL a b) (fun i=>a.length - i) 0 0 ⟨Nat.zero_le _,Nat.zero_le _,rfl⟩ ?_ ?_ ?_
 · simp -dsimp only [go_sem]<;>simp
 · simp -dsimp only [go_sem]<;>simp
 rintro i ⟨hi,hib,ho⟩
 rcases bD i a.length with hlt | hge
 · have hg:decide ((i:Int) < (a.length:Int))=true:=by simp; omega
   have hx:a[i]? = some a[i]:=aT hlt
   have q1:=lP hx
   have hxo:=ha _ (List.getElem_mem hlt)
   rw [List.drop_eq_getElem_cons hlt] at ho
   generalize a[i]=x at *
   rcases bD i b.length with hlt2 | hge2
   · have hg2:decide ((b.length:Int)<=(i:Int))=false:=by simp; omega
     have hy:b[i]? = some b[i]:=aT hlt2
     have q2:=lP hy
     have hyo:=hb _ (List.getElem_mem hlt2)
     rw [List.drop_eq_getElem_cons hlt2,DS] at ho
     generalize b[i]=y at *
     simp (maxSteps:=1000000) -dsimp only [go_sem,hg,hg2,↓q1,↓q2]
     refine ⟨by omega,by omega,mD hxo.1 hyo hxo.2 fun r hr=>?_⟩
     simp (maxSteps:=1000000) -dsimp only [go_sem]
     refine ⟨fun h1=>fin r _ ?_,fun h1=>?_⟩
     · have h2:(r == 0)=false:=by simpa using h1
       rw [h2] at hr ⊢
       rw [<-ho,<-hr]; rfl
     · have h2:(r == 0)=true:=by simpa using h1
       rw [h2] at hr
       rw [<-hr,Bool.true_and] at ho
       refine ⟨by omega,aF (i + 1) 0 ⟨by omega,by omega,ho⟩ (by omega) ?_ ?_⟩
       · simp -dsimp only [go_sem]<;>simp
       · simp -dsimp only [go_sem]<;>simp
   · have hg2:decide ((b.length:Int)<=(i:Int))=true:=by simp; omega
     have hd:b.drop i=[]:=List.drop_eq_nil_iff.2 hge2
     rw [hd,eL] at ho
     simp (maxSteps:=1000000) -dsimp only [go_sem,hg,hg2,↓q1]
     exact ⟨by omega,fin 1 _ ho⟩
 · have hg:decide ((i:Int) < (a.length:Int))=false:=by simp; omega
   have hd:a.drop i=[]:=List.drop_eq_nil_iff.2 hge
   rw [hd] at ho
   simp (maxSteps:=1000000) -dsimp only [go_sem,hg]
   refine ⟨fun h1=>fin (-1) _ ?_,fun h1=>fin 0 _ ?_⟩
   · have h1:=of_decide_eq_true h1
     have hlt2:i < b.length:=by omega
     rw [List.drop_eq_getElem_cons hlt2,eL] at ho
     exact ho
   · have h1:=of_decide_eq_false h1
     have hd2:b.drop i=[]:=List.drop_eq_nil_iff.2 (by omega)
     rw [hd2,eL] at ho
     exact ho
def YK (N:Nat):W.Spec:=fun av H K=>∃ x y:Int × Vl,av=[.va (.gs (bC x)),.va (.gs (bC y))]/\H=[]/\VlOk x.2/\VlOk y.2/\x.2.h<=N/\∀ r:Int,(r == 0)=(x.1 == y.1 && cU x.2 y.2)->K (iS .i64 r) []
theorem WG {N:Nat} {x y:Int × Vl} {K:S->Hp->Prop} (h1:VlOk x.2) (h2:VlOk y.2) (h3:x.2.h<=N) (hK:∀ r:Int,(r == 0)=(x.1 == y.1 && cU x.2 y.2)->K (iS .i64 r) []) :
 YK N [.va (.gs [.vl (.int .i64 x.1),.vl (.int .i64 x.2.k),.vl (.int .i64 x.2.n),.vl (.string x.2.s),.fz (x.2.l.map aN),.fz (x.2.f.map bC)]),.va (.gs [.vl (.int .i64 y.1),.vl (.int .i64 y.2.k),.vl (.int .i64 y.2.n),.vl (.string y.2.s),.fz (y.2.l.map aN),.fz (y.2.f.map bC)])] [] K:=
 ⟨x,y,by rw [hO,hO],rfl,h1,h2,h3,hK⟩
theorem aBT {N:Nat} (hC:Meets Tryz.prog 82 (yD N)):Meets Tryz.prog 124 (YK N):=by
 refine aD Tryz.func124 aCO 2 (by rw [Tryz.ntmps124]; decide) (aH RY (aC hC (aB _))) (fun av H K h=>by obtain ⟨_,_,rfl,_⟩:=h; rfl) ?_
 rintro av H K ⟨x,y,rfl,rfl,hx,hy,hh,hK⟩
 have fin:∀ (r:Int) (R:Hp),(r == 0)=(x.1 == y.1 && cU x.2 y.2)->W.Fin 0 K (iS .i64 r) R:=fun r R h=>.sel [] (by simp) (by simp) rfl (.done (by simpa [go_sem] using hK r h))
 have hs:=kT x.1 y.1
 simp (maxSteps:=1000000) -dsimp only [go_sem,hO x,hO y,P3,RG]
 refine ⟨fun h1=>fin _ _ ?_,fun h1=>aA rfl (.done ?_)⟩
 · have h2:(jH x.1 y.1 == 0)=false:=by simpa using h1
   rw [h2] at hs ⊢
   rw [<-hs]; rfl
 · have h2:(jH x.1 y.1 == 0)=true:=by simpa using h1
   rw [h2] at hs
   simp (maxSteps:=1000000) -dsimp only [go_sem,xE,List.take_succ_cons,List.take_zero,List.length_cons,List.length_nil]
   refine mD hx hy hh fun r hr=>?_
   simp (maxSteps:=1000000) -dsimp only [go_sem]
   exact fin r _ (by rw [hr,<-hs]; rfl)
def PG (N:Nat):W.Spec:=fun av H K=>∃ a b:List (Int × Vl),av=[.va (.c1 (.fz (a.map bC))),.va (.c1 (.fz (b.map bC))),XR]/\H=[]/\(∀ x ∈ a,VlOk x.2/\x.2.h<=N)/\(∀ x ∈ b,VlOk x.2)/\a.length<=1000000000000000/\b.length<=1000000000000000/\∀ r:Int,(r == 0)=d7 a b->K (iS .i64 r) []
theorem UY {N:Nat} {a b:List (Int × Vl)} {K:S->Hp->Prop} (h1:∀ x ∈ a,VlOk x.2/\x.2.h<=N) (h2:∀ x ∈ b,VlOk x.2) (h3:a.length<=1000000000000000) (h4:b.length<=1000000000000000) (hK:∀ r:Int,(r == 0)=d7 a b->K (iS .i64 r) []) :
 PG N [.va (.c1 (.fz (a.map bC))),.va (.c1 (.fz (b.map bC))),XR] [] K:=⟨a,b,rfl,rfl,h1,h2,h3,h4,hK⟩
theorem aB7 {N:Nat} (hC:Meets Tryz.prog 82 (yD N)):Meets Tryz.prog 123 (PG N):=by
 refine aD Tryz.func123 aB9 3 (by rw [Tryz.ntmps123]; decide) (aC (aBT hC) (aB _)) (fun av H K h=>by obtain ⟨_,_,rfl,_⟩:=h; rfl) ?_
 rintro av H K ⟨a,b,rfl,rfl,ha,hb,hla,hlb,hK⟩
 have fin:∀ (r:Int) (R:Hp),(r == 0)=d7 a b->W.Fin 0 K (iS .i64 r) R:=fun r R h=>.sel [] (by simp) (by simp) rfl (.done (by simpa [go_sem] using hK r h))
 simp (maxSteps:=1000000) -dsimp only [go_sem,R3,SD]
 refine aV (α:=Nat) (fun i=>[(0,.va (.c1 (.fz (a.map bC)))),(1,.va (.c1 (.fz (b.map bC)))),(2,XR),(11,.va (.c1 (.fz (a.map bC)))),(12,iS .i64 a.length),(13,iS .i64 i)]) (fun _=>[])
  (fun i=>i<=a.length/\i<=b.length/\d7 (a.drop i) (b.drop i)=d7 a b) (fun i=>a.length - i) 0 0 ⟨Nat.zero_le _,Nat.zero_le _,rfl⟩ ?_ ?_ ?_
 · simp -dsimp only [go_sem]<;>simp
 · simp -dsimp only [go_sem]<;>simp
 rintro i ⟨hi,hib,ho⟩
 rcases bD i a.length with hlt | hge
 · have hg:decide ((i:Int) < (a.length:Int))=true:=by simp; omega
   have hx:a[i]? = some a[i]:=aT hlt
   have q1:=g4 hx
   have hxo:=ha _ (List.getElem_mem hlt)
   rw [List.drop_eq_getElem_cons hlt] at ho
   generalize a[i]=x at *
   rcases bD i b.length with hlt2 | hge2
   · have hg2:decide ((b.length:Int)<=(i:Int))=false:=by simp; omega
     have hy:b[i]? = some b[i]:=aT hlt2
     have q2:=g4 hy
     have hyo:=hb _ (List.getElem_mem hlt2)
     rw [List.drop_eq_getElem_cons hlt2,D4] at ho
     generalize b[i]=y at *
     simp (maxSteps:=1000000) -dsimp only [go_sem,hg,hg2,↓q1,↓q2]
     refine ⟨by omega,by omega,WG hxo.1 hyo hxo.2 fun r hr=>?_⟩
     rw [<-Bool.and_assoc,<-hr] at ho
     simp (maxSteps:=1000000) -dsimp only [go_sem]
     refine ⟨fun h1=>fin r _ ?_,fun h1=>?_⟩
     · have h2:(r == 0)=false:=by simpa using h1
       rw [h2,Bool.false_and] at ho
       rw [h2]; exact ho
     · have h2:(r == 0)=true:=by simpa using h1
       rw [h2,Bool.true_and] at ho
       refine ⟨by omega,aF (i + 1) 0 ⟨by omega,by omega,ho⟩ (by omega) ?_ ?_⟩
       · simp -dsimp only [go_sem]<;>simp
       · simp -dsimp only [go_sem]<;>simp
   · have hg2:decide ((b.length:Int)<=(i:Int))=true:=by simp; omega
     have hd:b.drop i=[]:=List.drop_eq_nil_iff.2 hge2
     have he:d7 (x :: a.drop (i + 1)) []=false:=by obtain ⟨j,x⟩:=x; rw [d7]
     rw [hd,he] at ho
     simp (maxSteps:=1000000) -dsimp only [go_sem,hg,hg2,↓q1]
     exact ⟨by omega,fin 1 _ ho⟩
 · have hg:decide ((i:Int) < (a.length:Int))=false:=by simp; omega
   have hd:a.drop i=[]:=List.drop_eq_nil_iff.2 hge
   rw [hd] at ho
   simp (maxSteps:=1000000) -dsimp only [go_sem,hg]
   refine ⟨fun h1=>fin (-1) _ ?_,fun h1=>fin 0 _ ?_⟩
   · have h1:=of_decide_eq_true h1
     have hlt2:i < b.length:=by omega
     rw [List.drop_eq_getElem_cons hlt2] at ho
     have he:∀ y:Int × Vl,d7 [] (y :: b.drop (i + 1))=false:=fun y=>by obtain ⟨j,y⟩:=y; rw [d7]
     rw [he] at ho
     exact ho
   · have h1:=of_decide_eq_false h1
     have hd2:b.drop i=[]:=List.drop_eq_nil_iff.2 (by omega)
     rw [hd2,d7] at ho
     exact ho
theorem pE:∀ N,Meets Tryz.prog 82 (yD N)
 | 0=>⟨by kernel_rfl,by rintro xs vs E ro w K _ _ _ ⟨a,_,_,_,_,_,h,_⟩; have:=a.h_pos; omega⟩
 | N + 1=>by
  refine aD Tryz.func82 aGK 2 (by rw [Tryz.ntmps82]; decide) (aH RY (aH aDV (aH US (aC (aCA (pE N)) (aC (aB7 (pE N)) (aB _)))))) (fun av H K h=>by obtain ⟨_,_,rfl,_⟩:=h; rfl) ?_
  rintro av H K ⟨a,b,rfl,rfl,ha,hb,hh,hK⟩
  have hE:=JK a b
  have fin:∀ (r:Int) (R:Hp),(r == 0)=cU a b->W.Fin 0 K (iS .i64 r) R:=fun r R h=>.sel [] (by simp) (by simp) rfl (.done (by simpa [go_sem] using hK r h))
  have hs1:=kT a.k b.k
  have hs2:=kT a.n b.n
  have hs3:=BZ (bl a.s) (bl b.s)
  have hla:=ha.ll
  have hlb:=hb.ll
  have hfa:=ha.lf
  have hfb:=hb.lf
  simp (maxSteps:=1000000) -dsimp only [go_sem,aK a,aK b,aBN,X2]
  refine ⟨fun h1=>fin _ _ ?_,fun h1=>aA rfl (.done ?_)⟩
  · have h2:(jH a.k b.k == 0)=false:=by simpa using h1
    rw [h2] at hs1 ⊢
    rw [hE,<-hs1]; rfl
  have h2:(jH a.k b.k == 0)=true:=by simpa using h1
  rw [h2] at hs1
  rw [<-hs1,Bool.true_and] at hE
  simp (maxSteps:=1000000) -dsimp only [go_sem,EC]
  refine ⟨fun h1=>fin _ _ ?_,fun h1=>aA rfl (.done ?_)⟩
  · have h2:(jH a.n b.n == 0)=false:=by simpa using h1
    rw [h2] at hs2 ⊢
    rw [hE,<-hs2]; rfl
  have h2:(jH a.n b.n == 0)=true:=by simpa using h1
  rw [h2] at hs2
  rw [<-hs2,Bool.true_and] at hE
  simp (maxSteps:=1000000) -dsimp only [go_sem,BA]
  refine ⟨fun h1=>fin _ _ ?_,fun h1=>aA rfl (.done ?_)⟩
  · have h2:(Lib.compareBytes (bl a.s) (bl b.s) == 0)=false:=by simpa using h1
    rw [h2] at hs3 ⊢
    rw [hE,<-hs3]; rfl
  have h2:(Lib.compareBytes (bl a.s) (bl b.s) == 0)=true:=by simpa using h1
  rw [h2] at hs3
  rw [<-hs3,Bool.true_and] at hE
  simp (maxSteps:=1000000) -dsimp only [go_sem,xO]
  refine ZH (fun x hx=>⟨ha.l x hx,by have:=Vl.h_l hx; omega⟩) hb.l (by omega) (by omega) fun r hr=>?_
  simp (maxSteps:=1000000) -dsimp only [go_sem]
  refine ⟨fun h1=>fin _ _ ?_,fun h1=>aA rfl (.done ?_)⟩
  · have h2:(r == 0)=false:=by simpa using h1
    rw [h2] at hr ⊢
    rw [hE,<-hr]; rfl
  have h2:(r == 0)=true:=by simpa using h1
  rw [h2] at hr
  rw [<-hr,Bool.true_and] at hE
  simp (maxSteps:=1000000) -dsimp only [go_sem,vW]
  refine UY (fun x hx=>⟨ha.f x hx,by have:=Vl.h_f hx; omega⟩) hb.f (by omega) (by omega) fun r hr=>?_
  simp (maxSteps:=1000000) -dsimp only [go_sem]
  exact fin r _ (by rw [hr,hE])
def AK:List S->Prop:=fun av=>match av with
 | [.va (.gs r),.va (.gs q)]=>kV r/\kV q
 | _=>False
theorem m6 {av:List S} (h:AK av):∃ a b:Vl,av=[.va (.gs (aN a)),.va (.gs (aN b))]/\VlOk a/\VlOk b:=by
 unfold AK at h
 split at h
 · obtain ⟨⟨a,rfl,h1⟩,⟨b,rfl,h2⟩⟩:=h; exact ⟨a,b,rfl,h1,h2⟩
 · exact h.elim
noncomputable def Q2:List S->A:=fun av=>match av with
 | [.va (.gs r),.va (.gs q)]=>bA (cU (C.vv r) (C.vv q))
 | _=>.gs []
noncomputable def eqFn2:Fun:=⟨AK,Q2,fun av h=>by obtain ⟨a,b,rfl,_⟩:=m6 h; trivial⟩
attribute [go_sem] eqFn2 AK Q2
theorem OB (N:Nat):Meets Tryz.prog 44 (fun av H K=>∃ a b:Vl,av=[.va (.gs (aN a)),.va (.gs (aN b))]/\H=[]/\VlOk a/\VlOk b/\a.h<=N/\K (bS (cU a b)) []):=by
 refine aD Tryz.func44 aI6 2 (by rw [Tryz.ntmps44]; decide) (aC (pE N) (aB _)) (fun av H K h=>by obtain ⟨_,_,rfl,_⟩:=h; rfl) ?_
 rintro av H K ⟨a,b,rfl,rfl,ha,hb,hh,hK⟩
 simp (maxSteps:=1000000) -dsimp only [go_sem,aK a,aK b,VA,Z3]
 refine mD ha hb hh fun r hr=>?_
 simp (maxSteps:=1000000) -dsimp only [go_sem]
 exact .sel [] (by simp) (by simp) rfl (.done (by rw [hr]; simpa [go_sem] using hK))
theorem EW:Meets Tryz.prog 44 eqFn2.sp:=dH (0:Nat) OB fun av H K h=>by
 obtain ⟨⟨h,e⟩,hK⟩:=h
 obtain ⟨a,b,rfl,ha,hb⟩:=m6 h
 have hK:K (bS (cU (C.vv (aN a)) (C.vv (aN b)))) []:=hK
 rw [fK,fK] at hK
 exact ⟨a.h,a,b,rfl,e,ha,hb,Nat.le_refl _,hK⟩
def SC:PC:=.seq (.reg [.e 2 (.bx 29 (.t 0)),.e 3 (.bx 29 (.t 1)),.q 4 (.mv (.k (.bool false)))]) (.seq (.reg [.l 5 (.ldn 5 (.t 2)),.l 6 (.ldn 5 (.t 3)),.a 7 (.cl 32 [(.t 5),(.t 6)] []),.q 8 (.bin .eql true (.t 7) (.i 0)),.v 4 8]) .ret)
def PM:List RV:=[.mv (.t 4)]
theorem aC3:aS Tryz.prog true ⟨fun r k=>if r=1/\k=2 then .own [] else .own [],fun _=>false⟩ Tryz.f14=some (SC,PM):=by kernel_rfl
def m3:PC:=.seq (.gh (.reg [.q 136 (.fa 4 (.t 2)),.l 137 (.ld1 (.t 136)),.q 138 (.lnL (.t 137)),.q 139 (.fa 4 (.t 3)),.l 140 (.ld1 (.t 139)),.q 141 (.lnL (.t 140)),.a 142 (.cq 58 [(.t 138),(.t 141)]),.v 4 142])) .ret
@[go_sem ↓] theorem aDM:aO m3:=aQ _
def sH:PC:=.seq (.seq (.gh (.reg [.q 8 (.mv (.i 0))])) (.block 2 (.loop (.seq (.seq (.reg [.v 80 8,.q 81 (.fa 4 (.t 2)),.l 82 (.ld1 (.t 81)),.q 83 (.lnL (.t 82)),.q 84 (.bin .lss true (.t 80) (.t 83)),.v 85 84,⟨some 86,(some (85,true)),.q (.mv (.t 8))⟩,⟨some 87,(some (85,true)),.q (.fa 4 (.t 3))⟩,⟨some 88,(some (85,true)),.l (.ld1 (.t 87))⟩,⟨some 89,(some (85,true)),.q (.lnL (.t 88))⟩,⟨some 90,(some (85,true)),.q (.bin .lss true (.t 86) (.t 89))⟩,.a 91 (.pick (.t 85) (.t 90) (.k (.bool false)))]) (.cond (.t 91) .skip (.exit 2))) (.seq (.block 3 (.seq (.seq (.reg [.q 94 (.fa 4 (.t 2)),.l 95 (.ld1 (.t 94)),.v 96 8,.l 97 (.ia 6 (.t 95) (.t 96)),.q 98 (.fa 0 (.t 97)),.l 99 (.ld1 (.t 98)),.q 100 (.fa 4 (.t 3)),.l 101 (.ld1 (.t 100)),.v 102 8,.l 103 (.ia 6 (.t 101) (.t 102)),.q 104 (.fa 0 (.t 103)),.l 105 (.ld1 (.t 104)),.q 106 (.bin .neq true (.t 99) (.t 105))]) (.cond (.t 106) (.seq (.reg [.q 107 (.fa 4 (.t 2)),.l 108 (.ld1 (.t 107)),.v 109 8,.l 110 (.ia 6 (.t 108) (.t 109)),.q 111 (.fa 0 (.t 110)),.l 112 (.ld1 (.t 111)),.q 113 (.fa 4 (.t 3)),.l 114 (.ld1 (.t 113)),.v 115 8,.l 116 (.ia 6 (.t 114) (.t 115)),.q 117 (.fa 0 (.t 116)),.l 118 (.ld1 (.t 117)),.a 119 (.cq 58 [(.t 112),(.t 118)]),.v 4 119]) .ret) .skip)) (.seq (.reg [.q 120 (.fa 4 (.t 2)),.l 121 (.ld1 (.t 120)),.v 122 8,.l 123 (.ia 6 (.t 121) (.t 122)),.q 124 (.fa 1 (.t 123)),.l 125 (.ldn 5 (.t 124)),.q 126 (.fa 4 (.t 3)),.l 127 (.ld1 (.t 126)),.v 128 8,.l 129 (.ia 6 (.t 127) (.t 128)),.q 130 (.fa 1 (.t 129)),.l 131 (.ldn 5 (.t 130)),.a 132 (.cl 32 [(.t 125),(.t 131)] []),.v 9 132]) (.seq (.reg [.v 133 9,.q 134 (.bin .neq true (.t 133) (.i 0))]) (.cond (.t 134) (.seq (.reg [.v 135 9,.v 4 135]) .ret) .skip))))) (.reg [.v 92 8,.q 93 (.bin .add true (.t 92) (.i 1)),.v 8 93])))))) (m3)
@[go_sem ↓] theorem aC4:aO sH:=aQ _
def kZ:PC:=.seq (.seq (.gh (.reg [.q 66 (.fa 3 (.t 2)),.l 67 (.ld1 (.t 66)),.q 68 (.lnL (.t 67)),.q 69 (.fa 3 (.t 3)),.l 70 (.ld1 (.t 69)),.q 71 (.lnL (.t 70)),.q 72 (.bin .neq true (.t 68) (.t 71))])) (.cond (.t 72) (.seq (.reg [.q 73 (.fa 3 (.t 2)),.l 74 (.ld1 (.t 73)),.q 75 (.lnL (.t 74)),.q 76 (.fa 3 (.t 3)),.l 77 (.ld1 (.t 76)),.q 78 (.lnL (.t 77)),.a 79 (.cq 58 [(.t 75),(.t 78)]),.v 4 79]) .ret) .skip)) (sH)
@[go_sem ↓] theorem aDH:aO kZ:=aQ _
def sP:PC:=.seq (.seq (.gh (.reg [.q 6 (.mv (.i 0))])) (.block 0 (.loop (.seq (.seq (.reg [.v 38 6,.q 39 (.fa 3 (.t 2)),.l 40 (.ld1 (.t 39)),.q 41 (.lnL (.t 40)),.q 42 (.bin .lss true (.t 38) (.t 41)),.v 43 42,⟨some 44,(some (43,true)),.q (.mv (.t 6))⟩,⟨some 45,(some (43,true)),.q (.fa 3 (.t 3))⟩,⟨some 46,(some (43,true)),.l (.ld1 (.t 45))⟩,⟨some 47,(some (43,true)),.q (.lnL (.t 46))⟩,⟨some 48,(some (43,true)),.q (.bin .lss true (.t 44) (.t 47))⟩,.a 49 (.pick (.t 43) (.t 48) (.k (.bool false)))]) (.cond (.t 49) .skip (.exit 0))) (.seq (.block 1 (.seq (.reg [.q 52 (.fa 3 (.t 2)),.l 53 (.ld1 (.t 52)),.v 54 6,.l 55 (.ia 5 (.t 53) (.t 54)),.l 56 (.ldn 5 (.t 55)),.q 57 (.fa 3 (.t 3)),.l 58 (.ld1 (.t 57)),.v 59 6,.l 60 (.ia 5 (.t 58) (.t 59)),.l 61 (.ldn 5 (.t 60)),.a 62 (.cl 32 [(.t 56),(.t 61)] []),.v 7 62]) (.seq (.reg [.v 63 7,.q 64 (.bin .neq true (.t 63) (.i 0))]) (.cond (.t 64) (.seq (.reg [.v 65 7,.v 4 65]) .ret) .skip)))) (.reg [.v 50 6,.q 51 (.bin .add true (.t 50) (.i 1)),.v 6 51])))))) (kZ)
@[go_sem ↓] theorem aD5:aO sP:=aQ _
def qS:PC:=.seq (.seq (.gh (.reg [.q 30 (.fa 2 (.t 2)),.l 31 (.ld1 (.t 30)),.q 32 (.fa 2 (.t 3)),.l 33 (.ld1 (.t 32)),.a 34 (.cq 59 [(.t 31),(.t 33)]),.v 5 34])) (.seq (.reg [.v 35 5,.q 36 (.bin .neq true (.t 35) (.i 0))]) (.cond (.t 36) (.seq (.reg [.v 37 5,.v 4 37]) .ret) .skip))) (sP)
@[go_sem ↓] theorem aFF:aO qS:=aQ _
def l5:PC:=.seq (.seq (.gh (.reg [.q 20 (.fa 1 (.t 2)),.l 21 (.ld1 (.t 20)),.q 22 (.fa 1 (.t 3)),.l 23 (.ld1 (.t 22)),.q 24 (.bin .lss true (.t 21) (.t 23))])) (.cond (.t 24) (.seq (.reg [.q 4 (.mv (.i (-1)))]) .ret) .skip)) (.seq (.seq (.reg [.q 25 (.fa 1 (.t 2)),.l 26 (.ld1 (.t 25)),.q 27 (.fa 1 (.t 3)),.l 28 (.ld1 (.t 27)),.q 29 (.bin .gtr true (.t 26) (.t 28))]) (.cond (.t 29) (.seq (.reg [.q 4 (.mv (.i 1))]) .ret) .skip)) (qS))
@[go_sem ↓] theorem aEP:aO l5:=aQ _
def H6:PC:=.seq (.reg [.e 2 (.bx 29 (.t 0)),.e 3 (.bx 29 (.t 1)),.q 4 (.mv (.i 0))]) (.seq (.seq (.reg [.q 10 (.fa 0 (.t 2)),.l 11 (.ld1 (.t 10)),.q 12 (.fa 0 (.t 3)),.l 13 (.ld1 (.t 12)),.q 14 (.bin .neq true (.t 11) (.t 13))]) (.cond (.t 14) (.seq (.reg [.q 15 (.fa 0 (.t 2)),.l 16 (.ld1 (.t 15)),.q 17 (.fa 0 (.t 3)),.l 18 (.ld1 (.t 17)),.a 19 (.cq 58 [(.t 16),(.t 18)]),.v 4 19]) .ret) .skip)) (l5))
def G4:List RV:=[.mv (.t 4)]
theorem aD8:aS Tryz.prog true ⟨fun r k=>if r=2/\k=4 then .q else if r=7/\k=4 then .q else if r=13/\k=10 then .own [] else if r=17/\k=6 then .q else if r=22/\k=12 then .q else if r=23/\k=12 then .own [] else if r=26/\k=6 then .q else .own [],fun r=>[3,7,10,16,18,26].contains r⟩ Tryz.f32=some (H6,G4):=by kernel_rfl
def AI:List S->Prop:=fun av=>match av with
 | [.va (.c1 (.vl (.string a))),.va (.c1 (.vl (.string b)))]=>a.size<=9223372036854775807/\b.size<=9223372036854775807
 | _=>False
theorem nZ {av:List S} (h:AI av):∃ a b:List UInt8,av=[tS (mk a),tS (mk b)]/\a.length<=9223372036854775807/\b.length<=9223372036854775807:=by
 unfold AI at h
 split at h
 · rename_i a b
   rw [cV,cV] at h
   exact ⟨bl a,bl b,by rw [fQ,fQ],h.1,h.2⟩
 · exact h.elim
def soFn:Fun:=⟨AI,H7,fun av h=>by obtain ⟨a,b,rfl,_⟩:=nZ h; trivial⟩
theorem M3:∀ av H K,soFn.sp av H K->av.length=2:=fun av H K h=>by obtain ⟨a,b,rfl,_⟩:=nZ h.1.1; rfl
attribute [go_sem] soFn AI
theorem LK (x y:UInt8) (a b:List UInt8):Lib.compareBytes (x :: a) (y :: b)=if x < y then -1 else if y < x then 1 else Lib.compareBytes a b:=by rw [Lib.compareBytes]
theorem X4 (x y:UInt8):decide ((x.toNat:Int) < (y.toNat:Int))=decide (x < y):=by
 rw [Bool.eq_iff_iff,decide_eq_true_iff,decide_eq_true_iff,UInt8.lt_iff_toNat_lt]; omega
theorem UF:Meets Tryz.prog 59 soFn.sp:=by
 refine aD Tryz.func59 aJK 2 (by rw [Tryz.ntmps59]; decide) (aH QG (aB _)) M3 ?_
 rintro av H K ⟨⟨h,rfl⟩,hK⟩
 obtain ⟨a,b,rfl,ha,hb⟩:=nZ h
 have hK:K (iS .i64 (Lib.compareBytes a b)) []:=hK
 clear h
 have fin:∀ (r:Int) (R:Hp),Lib.compareBytes a b=r->W.Fin 0 K (iS .i64 r) R:=fun r R h=>by
  rw [h] at hK; exact .sel [] (by simp) (by simp) rfl (.done (by simpa [go_sem] using hK))
 clear hK
 simp (maxSteps:=1000000) -dsimp only [go_sem,V4,V2]
 refine aV (α:=Nat) (fun i=>[(0,tS (mk a)),(1,tS (mk b)),(5,iS .i64 i)]) (fun _=>[])
  (fun i=>i<=a.length/\i<=b.length/\Lib.compareBytes (a.drop i) (b.drop i)=Lib.compareBytes a b) (fun i=>a.length - i) 0 0 ⟨Nat.zero_le _,Nat.zero_le _,rfl⟩ ?_ ?_ ?_
 · simp -dsimp only [go_sem]<;>simp
 · simp -dsimp only [go_sem]<;>simp
 rintro i ⟨hi,hib,ho⟩
 rcases bD i a.length with hlt | hge
 · have hg:decide ((i:Int) < (a.length:Int))=true:=by simp; omega
   obtain ⟨x,hx⟩:∃ c,a[i]? = some c:=⟨_,aT hlt⟩
   have hdx:a.drop i=x :: a.drop (i + 1):=by
    obtain ⟨h,rfl⟩:=a8.1 hx
    exact List.drop_eq_getElem_cons h
   rcases bD i b.length with hlt2 | hge2
   · have hg2:decide ((i:Int) < (b.length:Int))=true:=by simp; omega
     obtain ⟨y,hy⟩:∃ c,b[i]? = some c:=⟨_,aT hlt2⟩
     have hdy:b.drop i=y :: b.drop (i + 1):=by
      obtain ⟨h,rfl⟩:=a8.1 hy
      exact List.drop_eq_getElem_cons h
     rw [hdx,hdy,LK] at ho
     simp (maxSteps:=1000000) -dsimp only [go_sem,hg,hg2,hx,hy,aE,forall_eq',X4]
     refine ⟨by omega,by omega,fun h1=>fin _ _ ?_,fun h1=>⟨by omega,by omega,fun h2=>fin _ _ ?_,fun h2=>?_⟩⟩
     · rw [<-ho,if_pos (of_decide_eq_true h1)]
     · rw [<-ho,if_neg (of_decide_eq_false h1),if_pos (of_decide_eq_true h2)]
     · rw [if_neg (of_decide_eq_false h1),if_neg (of_decide_eq_false h2)] at ho
       refine ⟨by omega,aF (i + 1) 0 ⟨by omega,by omega,ho⟩ (by omega) ?_ ?_⟩
       · simp -dsimp only [go_sem]<;>simp
       · simp -dsimp only [go_sem]<;>simp
   · have hg2:decide ((i:Int) < (b.length:Int))=false:=by simp; omega
     have hdy:b.drop i=[]:=List.drop_eq_nil_iff.2 hge2
     rw [hdx,hdy,Lib.compareBytes] at ho
     simp (maxSteps:=1000000) -dsimp only [go_sem,hg,hg2]
     exact fin _ _ (by rw [<-ho]; unfold jH; rw [decide_eq_false (by omega),decide_eq_true (by omega)]; rfl)
 · have hg:decide ((i:Int) < (a.length:Int))=false:=by simp; omega
   have hdx:a.drop i=[]:=List.drop_eq_nil_iff.2 hge
   rw [hdx] at ho
   simp (maxSteps:=1000000) -dsimp only [go_sem,hg]
   refine fin _ _ ?_
   rw [<-ho]
   unfold jH
   rcases bD i b.length with hlt2 | hge2
   · obtain ⟨y,hy⟩:∃ c,b[i]? = some c:=⟨_,aT hlt2⟩
     have hdy:b.drop i=y :: b.drop (i + 1):=by
      obtain ⟨h,rfl⟩:=a8.1 hy
      exact List.drop_eq_getElem_cons h
     rw [hdy,Lib.compareBytes,decide_eq_true (by omega)]; rfl
   · have hdy:b.drop i=[]:=List.drop_eq_nil_iff.2 hge2
     rw [hdy,Lib.compareBytes,decide_eq_false (by omega),decide_eq_false (by omega)]; rfl
theorem zD:∀ N,Meets Tryz.prog 32 (yD N)
 | 0=>⟨by kernel_rfl,by rintro xs vs E ro w K _ _ _ ⟨a,_,_,_,_,_,h,_⟩; have:=a.h_pos; omega⟩
 | N + 1=>by
  refine aD Tryz.func32 aD8 2 (by rw [Tryz.ntmps32]; decide) (aC (zD N) (aH QG (aH UF (aB _)))) (fun av H K h=>by obtain ⟨_,_,rfl,_⟩:=h; rfl) ?_
  rintro av H K ⟨a,b,rfl,rfl,ha,hb,hh,hK⟩
  have hE:=JK a b
  have fin:∀ (r:Int) (R:Hp),(r == 0)=cU a b->W.Fin 0 K (iS .i64 r) R:=fun r R h=>.sel [] (by simp) (by simp) rfl (.done (by simpa [go_sem] using hK r h))
  clear hK
  have hs1:=kT a.k b.k
  have hs3:=BZ (bl a.s) (bl b.s)
  have hs5:=kT (a.l.length:Int) (b.l.length:Int)
  have hla:=ha.ll
  have hlb:=hb.ll
  have hfa:=ha.lf
  have hfb:=hb.lf
  have hsa:(a.s.size<=9223372036854775807)=True:=eq_true ha.s
  have hsb:(b.s.size<=9223372036854775807)=True:=eq_true hb.s
  cases c1:a.k == b.k with
  | false=>
   have c1':(a.k != b.k)=true:=by rw [bne,c1]; rfl
   rw [c1] at hs1 hE
   simp (maxSteps:=1000000) -dsimp only [go_sem,aK a,aK b,H6,G4,c1']
   exact fin _ _ (by rw [hs1,hE]; rfl)
  | true=>
  have c1':(a.k != b.k)=false:=by rw [bne,c1]; rfl
  rw [c1,Bool.true_and] at hE
  simp (maxSteps:=1000000) -dsimp only [go_sem,aK a,aK b,H6,G4,c1']
  refine aA rfl (.done ?_)
  cases c2:decide (a.n < b.n) with
  | true=>
   have c2':=of_decide_eq_true c2
   rw [show (a.n == b.n)=false by simp; omega] at hE
   simp (maxSteps:=1000000) -dsimp only [go_sem,l5,c2]
   exact fin _ _ (by rw [hE]; rfl)
  | false=>
  cases c3:decide (b.n < a.n) with
  | true=>
   have c3':=of_decide_eq_true c3
   rw [show (a.n == b.n)=false by simp; omega] at hE
   simp (maxSteps:=1000000) -dsimp only [go_sem,l5,c2,c3]
   exact fin _ _ (by rw [hE]; rfl)
  | false=>
  have c2':=of_decide_eq_false c2
  have c3':=of_decide_eq_false c3
  rw [show (a.n == b.n)=true by simp; omega,Bool.true_and] at hE
  simp (maxSteps:=1000000) -dsimp only [go_sem,l5,c2,c3]
  refine aA rfl (.done ?_)
  cases c4:Lib.compareBytes (bl a.s) (bl b.s) == 0 with
  | false=>
   have c4':(Lib.compareBytes (bl a.s) (bl b.s) != 0)=true:=by rw [bne,c4]; rfl
   rw [c4] at hs3
   rw [<-hs3] at hE
   simp (maxSteps:=1000000) -dsimp only [go_sem,qS,hsa,hsb,c4']
   exact fin _ _ (by rw [hE,c4]; rfl)
  | true=>
  have c4':(Lib.compareBytes (bl a.s) (bl b.s) != 0)=false:=by rw [bne,c4]; rfl
  rw [c4] at hs3
  rw [<-hs3,Bool.true_and] at hE
  simp (maxSteps:=1000000) -dsimp only [go_sem,qS,hsa,hsb,c4']
  refine aA rfl (.done ?_)
  simp (maxSteps:=1000000) -dsimp only [go_sem,sP]
  refine aV (α:=Nat) (fun i=>[(2,.va (.c1 (.pt 0 0))),(3,.va (.c1 (.pt 1 0))),(6,iS .i64 i)]) (fun _=>[.cells (bE a) 29,.cells (bE b) 29])
   (fun i=>i<=a.l.length/\i<=b.l.length/\eL (a.l.drop i) (b.l.drop i)=eL a.l b.l) (fun i=>a.l.length - i) 0 2 ⟨Nat.zero_le _,Nat.zero_le _,rfl⟩ ?_ ?_ ?_
  · simp -dsimp only [go_sem]<;>simp
  · simp -dsimp only [go_sem,bE]<;>simp
  rintro i ⟨hi,hib,ho⟩
  have more:∀ (x y:Vl),a.l[i]? = some x->b.l[i]? = some y->eL (a.l.drop i) (b.l.drop i)=(cU x y && eL (a.l.drop (i + 1)) (b.l.drop (i + 1))):=fun x y hx hy=>by
   obtain ⟨h1,rfl⟩:=a8.1 hx
   obtain ⟨h2,rfl⟩:=a8.1 hy
   rw [List.drop_eq_getElem_cons h1,List.drop_eq_getElem_cons h2,DS]
  rcases bD i a.l.length with hlt | hge
  · rcases bD i b.l.length with hlt2 | hge2
    · have hg:decide ((i:Int) < (a.l.length:Int))=true:=by simp; omega
      have hg2:decide ((i:Int) < (b.l.length:Int))=true:=by simp; omega
      have hx:a.l[i]? = some a.l[i]:=aT hlt
      have hy:b.l[i]? = some b.l[i]:=aT hlt2
      have q1:=lP hx
      have q2:=lP hy
      have hxm:=List.getElem_mem hlt
      have hym:=List.getElem_mem hlt2
      rw [more _ _ hx hy] at ho
      have hxh:=Vl.h_l hxm
      have hxo:=ha.l _ hxm
      have hyo:=hb.l _ hym
      generalize a.l[i]=x at *
      generalize b.l[i]=y at *
      simp (maxSteps:=1000000) -dsimp only [go_sem,bE,hg,hg2,↓q1,↓q2]
      refine ⟨by omega,by omega,mD hxo hyo (by omega) fun r hr=>?_⟩
      rw [<-hr] at ho
      simp (maxSteps:=1000000) -dsimp only [go_sem]
      refine ⟨fun h1=>fin r _ ?_,fun h1=>?_⟩
      · have h2:(r == 0)=false:=by simpa using h1
        rw [h2,Bool.false_and] at ho
        rw [h2,hE,<-ho]; rfl
      · have h2:(r == 0)=true:=by simpa using h1
        rw [h2,Bool.true_and] at ho
        refine ⟨by omega,aF (i + 1) 2 ⟨by omega,by omega,ho⟩ (by omega) ?_ ?_⟩
        · simp -dsimp only [go_sem]<;>simp
        · simp -dsimp only [go_sem,bE]<;>simp [bE]
    · have hg:decide ((i:Int) < (a.l.length:Int))=true:=by simp; omega
      have hg2:decide ((i:Int) < (b.l.length:Int))=false:=by simp; omega
      have hne:((a.l.length:Int) != (b.l.length:Int))=true:=by simp; omega
      rw [List.drop_eq_nil_iff.2 hge2,List.drop_eq_getElem_cons hlt,eL] at ho
      simp (maxSteps:=1000000) -dsimp only [go_sem,bE,hg,hg2]
      refine aA rfl (.done ?_)
      simp (maxSteps:=1000000) -dsimp only [go_sem,kZ,hne]
      refine fin _ _ ?_
      rw [hs5,hE,<-ho]
      simp; omega
  · have hg:decide ((i:Int) < (a.l.length:Int))=false:=by simp; omega
    obtain rfl:i=a.l.length:=by omega
    rw [List.drop_length] at ho
    simp (maxSteps:=1000000) -dsimp only [go_sem,bE,hg]
    refine aA rfl (.done ?_)
    rcases bD a.l.length b.l.length with hlt2 | hge2
    · have hne:((a.l.length:Int) != (b.l.length:Int))=true:=by simp; omega
      rw [List.drop_eq_getElem_cons hlt2,eL] at ho
      simp (maxSteps:=1000000) -dsimp only [go_sem,kZ,hne]
      refine fin _ _ ?_
      rw [hs5,hE,<-ho]
      simp; omega
    · have hle:a.l.length=b.l.length:=by omega
      have hne:((a.l.length:Int) != (b.l.length:Int))=false:=by simp; omega
      rw [List.drop_eq_nil_iff.2 hge2,eL] at ho
      rw [<-ho,Bool.true_and] at hE
      simp (maxSteps:=1000000) -dsimp only [go_sem,kZ,hne]
      refine aA rfl (.done ?_)
      simp (maxSteps:=1000000) -dsimp only [go_sem,sH]
      clear ho more hi hib hge hg hs5 hne hle hge2
      have hs6:=kT (a.f.length:Int) (b.f.length:Int)
      refine aV (α:=Nat) (fun i=>[(2,.va (.c1 (.pt 0 0))),(3,.va (.c1 (.pt 1 0))),(8,iS .i64 i)]) (fun _=>[.cells (bE a) 29,.cells (bE b) 29])
       (fun i=>i<=a.f.length/\i<=b.f.length/\d7 (a.f.drop i) (b.f.drop i)=d7 a.f b.f) (fun i=>a.f.length - i) 0 2 ⟨Nat.zero_le _,Nat.zero_le _,rfl⟩ ?_ ?_ ?_
      · simp -dsimp only [go_sem]<;>simp
      · simp -dsimp only [go_sem,bE]<;>simp [bE]
      rintro i ⟨hi,hib,ho⟩
      rcases bD i a.f.length with hlt | hge
      · rcases bD i b.f.length with hlt2 | hge2
        · have hg:decide ((i:Int) < (a.f.length:Int))=true:=by simp; omega
          have hg2:decide ((i:Int) < (b.f.length:Int))=true:=by simp; omega
          have hx:a.f[i]? = some a.f[i]:=aT hlt
          have hy:b.f[i]? = some b.f[i]:=aT hlt2
          have q1:=g4 hx
          have q2:=g4 hy
          have hxm:=List.getElem_mem hlt
          have hym:=List.getElem_mem hlt2
          rw [List.drop_eq_getElem_cons hlt,List.drop_eq_getElem_cons hlt2,D4] at ho
          have hxh:=Vl.h_f hxm
          have hxo:=ha.f _ hxm
          have hyo:=hb.f _ hym
          generalize a.f[i]=x at *
          generalize b.f[i]=y at *
          have hs7:=kT x.1 y.1
          cases c7:x.1 == y.1 with
          | false=>
           have c7':(x.1 != y.1)=true:=by rw [bne,c7]; rfl
           rw [c7,Bool.false_and] at ho
           rw [c7] at hs7
           simp (maxSteps:=1000000) -dsimp only [go_sem,bE,hg,hg2,↓q1,↓q2,c7']
           refine ⟨by omega,by omega,by omega,by omega,fin _ _ (by rw [hs7,hE,<-ho])⟩
          | true=>
           have c7':(x.1 != y.1)=false:=by rw [bne,c7]; rfl
           rw [c7,Bool.true_and] at ho
           simp (maxSteps:=1000000) -dsimp only [go_sem,bE,hg,hg2,↓q1,↓q2,c7',List.take_succ_cons,List.take_zero,List.length_cons,List.length_nil]
           refine ⟨by omega,by omega,by omega,by omega,mD hxo hyo (by omega) fun r hr=>?_⟩
           rw [<-hr] at ho
           simp (maxSteps:=1000000) -dsimp only [go_sem]
           refine ⟨fun h1=>fin r _ ?_,fun h1=>?_⟩
           · have h2:(r == 0)=false:=by simpa using h1
             rw [h2,Bool.false_and] at ho
             rw [h2,hE,<-ho]
           · have h2:(r == 0)=true:=by simpa using h1
             rw [h2,Bool.true_and] at ho
             refine ⟨by omega,aF (i + 1) 2 ⟨by omega,by omega,ho⟩ (by omega) ?_ ?_⟩
             · simp -dsimp only [go_sem]<;>simp
             · simp -dsimp only [go_sem,bE]<;>simp [bE]
        · have hg:decide ((i:Int) < (a.f.length:Int))=true:=by simp; omega
          have hg2:decide ((i:Int) < (b.f.length:Int))=false:=by simp; omega
          have he:∀ x:Int × Vl,d7 (x :: a.f.drop (i + 1)) []=false:=fun x=>by obtain ⟨j,x⟩:=x; rw [d7]
          rw [List.drop_eq_nil_iff.2 hge2,List.drop_eq_getElem_cons hlt,he] at ho
          simp (maxSteps:=1000000) -dsimp only [go_sem,bE,hg,hg2]
          refine aA rfl (.done ?_)
          simp (maxSteps:=1000000) -dsimp only [go_sem,m3]
          refine fin _ _ ?_
          rw [hs6,hE,<-ho]
          simp; omega
      · have hg:decide ((i:Int) < (a.f.length:Int))=false:=by simp; omega
        obtain rfl:i=a.f.length:=by omega
        rw [List.drop_length] at ho
        simp (maxSteps:=1000000) -dsimp only [go_sem,bE,hg]
        refine aA rfl (.done ?_)
        simp (maxSteps:=1000000) -dsimp only [go_sem,m3]
        refine fin _ _ ?_
        rw [hs6,hE,<-ho]
        rcases bD a.f.length b.f.length with hlt2 | hge2
        · have he:∀ x:Int × Vl,d7 [] (x :: b.f.drop (a.f.length + 1))=false:=fun x=>by obtain ⟨j,x⟩:=x; rw [d7]
          rw [List.drop_eq_getElem_cons hlt2,he]
          simp; omega
        · rw [List.drop_eq_nil_iff.2 hge2,d7]
          simp; omega
theorem L4 (N:Nat):Meets Tryz.prog 14 (fun av H K=>∃ a b:Vl,av=[.va (.gs (aN a)),.va (.gs (aN b))]/\H=[]/\VlOk a/\VlOk b/\a.h<=N/\K (bS (cU a b)) []):=by
 refine aD Tryz.func14 aC3 2 (by rw [Tryz.ntmps14]; decide) (aC (zD N) (aB _)) (fun av H K h=>by obtain ⟨_,_,rfl,_⟩:=h; rfl) ?_
 rintro av H K ⟨a,b,rfl,rfl,ha,hb,hh,hK⟩
 simp (maxSteps:=1000000) -dsimp only [go_sem,aK a,aK b,SC,PM]
 refine mD ha hb hh fun r hr=>?_
 simp (maxSteps:=1000000) -dsimp only [go_sem]
 exact .sel [] (by simp) (by simp) rfl (.done (by rw [hr]; simpa [go_sem] using hK))
theorem F6:Meets Tryz.prog 14 eqFn2.sp:=dH (0:Nat) L4 fun av H K h=>by
 obtain ⟨⟨h,e⟩,hK⟩:=h
 obtain ⟨a,b,rfl,ha,hb⟩:=m6 h
 have hK:K (bS (cU (C.vv (aN a)) (C.vv (aN b)))) []:=hK
 rw [fK,fK] at hK
 exact ⟨a.h,a,b,rfl,e,ha,hb,Nat.le_refl _,hK⟩
end Go.Proofs.YthpbnmebjocbeaaGreat
